/- Contracts of Go functions of this seat, laid by a program of this session out of the translation. No condition. -/
import Derived.Test.YtmpbedjbimimoaaPPlanTellsx0
import Derived.Test.YtmpbedjbimimoaaPPlanTellsx1
namespace Go.Proofs.Ytmpbedjbimimoaa.PPlanTells
open Go.RowKit Go.Proofs.YtmpbedjbimimoaaW.PrintWords Go.Proofs.YtmpbedjbimimoaaW.PrintLast Go.Proofs.YtmpbedjbimimoaaW.PrintMore
attribute [local go_sem] max2_int min2_int max_two min_two max_three min_three max_four min_four   -- for this text's walks alone
set_option linter.unusedVariables false
set_option linter.unusedSimpArgs false
abbrev Y : Bool := true
abbrev Z : Bool := false
theorem sz_ {α : Type} (x : α) (xs : List α) (b : α) : (x :: xs).set 0 b = b :: xs := rfl
theorem ss_ {α : Type} (x : α) (xs : List α) (i : Nat) (b : α) : (x :: xs).set (i + 1) b = x :: xs.set i b := rfl
theorem sb_ {α : Type} (l : List α) (i : Nat) (a : α) : l.toArray.setIfInBounds i a = (l.set i a).toArray := List.setIfInBounds_toArray ..

/-! ### plan_May: function 20 -/
mutual
def plan_May.j0 : Nat → List (S41) → Bool → Int → Int → Int → Int → Int → Option (Bool)
 | 0, _, _, _, _, _, _, _ => none
 | k + 1, x1, x16, x110000, x110001, x110002, x110003, x110004 => if x16 = true then (some false) else (plan_May.l0 k x1 x1 (x1.length : Int) 0 x110000 x110001 x110002 x110003 x110004)
def plan_May.l0 : Nat → List (S41) → List (S41) → Int → Int → Int → Int → Int → Int → Int → Option (Bool)
 | 0, _, _, _, _, _, _, _, _, _ => none
 | k + 1, x1, x17, x18, x19, x110000, x110001, x110002, x110003, x110004 => if x19 < x18 then (if 0 ≤ x19 then (if x19 < (x17.length : Int) then (if x19 ≤ (x1.length : Int) then ((plan_find.f k (x1.take (x19 : Int).toNat) ((rd_T41 x17 x19).f0)).bind fun bt117 => (if bt117.2.2.2 = true then (some false) else (if ((rd_T41 x17 x19).f0) < 0 then (some false) else (if ((rd_T41 x17 x19).f0) ≥ x110000 then (some false) else (if ((rd_T41 x17 x19).f2) < 0 then (some false) else (if ((rd_T41 x17 x19).f2) > 1073741824 then (some false) else (if (rd_T41 x17 x19).f1 = true then (if ((rd_T41 x17 x19).f2) = 0 then (plan_May.l0 k x1 x17 x18 (wrap64 (x19 + 1)) x110000 x110001 x110002 x110003 x110004) else (some false)) else (plan_May.l0 k x1 x17 x18 (wrap64 (x19 + 1)) x110000 x110001 x110002 x110003 x110004)))))))) else (none)) else (none)) else (none)) else (some true)
end
def plan_May.f (k : Nat) (a0_0 : Int) (a0_1 : Int) (a0_2 : Int) (a0_3 : Int) (a0_4 : Int) (l1 : List (S41)) : Option (Bool) := (geom_May.f a0_0 a0_1 a0_2 a0_3 a0_4).bind fun t110 => (if t110 = true then (plan_May.j0 k l1 (decide ((l1.length : Int) > 8)) a0_0 a0_1 a0_2 a0_3 a0_4) else (plan_May.j0 k l1 true a0_0 a0_1 a0_2 a0_3 a0_4))
theorem plan_May.mono_l : ∀ k, (∀ y0 y1 y2 y3 y4 y5 y6, LeO (plan_May.j0 k y0 y1 y2 y3 y4 y5 y6) (plan_May.j0 (k + 1) y0 y1 y2 y3 y4 y5 y6)) ∧ (∀ y0 y1 y2 y3 y4 y5 y6 y7 y8, LeO (plan_May.l0 k y0 y1 y2 y3 y4 y5 y6 y7 y8) (plan_May.l0 (k + 1) y0 y1 y2 y3 y4 y5 y6 y7 y8))
 | 0 => ⟨fun _ _ _ _ _ _ _ r h => by simp [plan_May.j0] at h, fun _ _ _ _ _ _ _ _ _ r h => by simp [plan_May.l0] at h⟩
 | k + 1 => by
  obtain ⟨ih0, ih1⟩ := plan_May.mono_l k
  refine ⟨?_, ?_⟩
  · intro y0 y1 y2 y3 y4 y5 y6
    unfold plan_May.j0
    repeat' first
    | (with_reducible exact ih0 _ _ _ _ _ _ _)
    | (with_reducible exact ih1 _ _ _ _ _ _ _ _ _)
    | (with_reducible exact plan_find.mono _ _ _)
    | (with_reducible exact LeO.refl _)
    | (with_reducible exact LeO.none _)
    | (with_reducible refine LeO.ite ?_ ?_)
    | (with_reducible refine LeO.bind ?_ (fun _ => ?_))
    | exact ih0 _ _ _ _ _ _ _
    | exact ih1 _ _ _ _ _ _ _ _ _
    | exact plan_find.mono _ _ _
    | exact LeO.none _
    | refine LeO.ite ?_ ?_
    | refine LeO.bind ?_ (fun _ => ?_)
  · intro y0 y1 y2 y3 y4 y5 y6 y7 y8
    unfold plan_May.l0
    repeat' first
    | (with_reducible exact ih0 _ _ _ _ _ _ _)
    | (with_reducible exact ih1 _ _ _ _ _ _ _ _ _)
    | (with_reducible exact plan_find.mono _ _ _)
    | (with_reducible exact LeO.refl _)
    | (with_reducible exact LeO.none _)
    | (with_reducible refine LeO.ite ?_ ?_)
    | (with_reducible refine LeO.bind ?_ (fun _ => ?_))
    | exact ih0 _ _ _ _ _ _ _
    | exact ih1 _ _ _ _ _ _ _ _ _
    | exact plan_find.mono _ _ _
    | exact LeO.none _
    | refine LeO.ite ?_ ?_
    | refine LeO.bind ?_ (fun _ => ?_)
theorem plan_May.mono : ∀ a0 a1 a2 a3 a4 a5 k, LeO (plan_May.f k a0 a1 a2 a3 a4 a5) (plan_May.f (k + 1) a0 a1 a2 a3 a4 a5) := by
 intro a0 a1 a2 a3 a4 a5 k
 obtain ⟨ih0, ih1⟩ := plan_May.mono_l k
 unfold plan_May.f
 repeat' first
  | (with_reducible exact ih0 _ _ _ _ _ _ _)
  | (with_reducible exact ih1 _ _ _ _ _ _ _ _ _)
  | (with_reducible exact plan_find.mono _ _ _)
  | (with_reducible exact LeO.refl _)
  | (with_reducible exact LeO.none _)
  | (with_reducible refine LeO.ite ?_ ?_)
  | (with_reducible refine LeO.bind ?_ (fun _ => ?_))
  | exact ih0 _ _ _ _ _ _ _
  | exact ih1 _ _ _ _ _ _ _ _ _
  | exact plan_find.mono _ _ _
  | exact LeO.none _
  | refine LeO.ite ?_ ?_
  | refine LeO.bind ?_ (fun _ => ?_)
def plan_May.T6 : Bool × List (List Nat × List Nat) := (true, [([], []), ([], []), ([0, 1], [0, 1]), ([], []), ([3], [3]), ([2, 4], [2, 4]), ([5], [5]), ([6], [6]), ([6], [6]), ([], []), ([9, 7, 5, 0, 1, 2, 3, 4, 5, 6, 7, 9], [7, 9]), ([8, 10, 0, 1, 2, 3, 4, 5, 6, 7, 8, 9, 10], [8])])
def plan_May.B6 : List Nat := [0, 0, 3, 0, 8, 31, 63, 127, 127, 0, 767, 2047]
theorem plan_May.tab6 : rtab .any (opsOf Try.f20 6) = plan_May.T6 := by kernel_rfl
theorem plan_May.bits6 : waitsOk plan_May.T6.2 plan_May.B6 = true := by kernel_rfl
set_option maxHeartbeats 8000000 in
set_option maxRecDepth 100000 in
theorem plan_May.calls (k : Nat) (a0_0 : Int) (a0_1 : Int) (a0_2 : Int) (a0_3 : Int) (a0_4 : Int) (A1 : Option Addr) (c1 : Nat) (l1 : List (S41)) (r : Bool) (w : World) (hr1 : Kd.C k41 w A1 l1.length l1) (hc1 : l1.length ≤ c1) (h : plan_May.f k a0_0 a0_1 a0_2 a0_3 a0_4 l1 = some r) :
 Calls Try.prog 20 #[.agg #[.int .i64 a0_0, .int .i64 a0_1, .int .i64 a0_2, .int .i64 a0_3, .int .i64 a0_4], .slice A1 l1.length c1] w fun e w' => e = .returned (.bool r) ∧ Below w.heap.size w w' := by
 have hu23 := Try.underlying23
 have hu41 := Try.underlying41
 have HR1 := Aside0.mk hr1
 have HC1 := Aside0.mk hc1
 clear hr1 hc1
 have HB := Aside0.mk (Below.refl w.heap.size w)
 have H : ((geom_May.f a0_0 a0_1 a0_2 a0_3 a0_4).bind fun t110 => (if t110 = true then (plan_May.j0 k l1 (decide ((l1.length : Int) > 8)) a0_0 a0_1 a0_2 a0_3 a0_4) else (plan_May.j0 k l1 true a0_0 a0_1 a0_2 a0_3 a0_4))) = some r := h
 clear h
 have HC3 := Aside0.mk H
 clear H
 go_enter Try.func20, Try.ntmps20
 go_upto_region 1 with (first | ((with_reducible refine gate_dst (N := 2) rfl ?_); (try (refine gate_guard (by rfl) ?_; dsimp only)); refine box_event ?hg (N := 2) ?hd (cs := #[.int .i64 a0_0, .int .i64 a0_1, .int .i64 a0_2, .int .i64 a0_3, .int .i64 a0_4]) (t := 23) ?hr ?_; (case hd => rfl); (case hg => rfl); (case hr => first | (go_simp; done) | (go_simp; rfl)); intro gb109 hg w4 hbox hb; have n0_ := Aside0.mk (below_step (by repeat (first | (with_reducible first | exact HB.out | apply below_alloc | apply pw_below_drewN | apply below_drew1) | exact HB.out)) hb); have n1_ := Aside0.mk (hbox); have n2_ := Aside0.mk ((by rw [hg]; exact (below_size (by repeat (first | (with_reducible first | exact HB.out | apply below_alloc | apply pw_below_drewN | apply below_drew1) | exact HB.out))) : w.heap.size ≤ gb109)); have n3_ := Aside0.mk ((by rw [hg]; exact (below_size (by repeat (first | (with_reducible first | exact HB.out | apply below_alloc | apply pw_below_drewN | apply below_drew1) | exact HB.out))) : w.heap.size ≤ gb109)); clear HB; have HB := n0_; have BK109 := n1_; have GW109 := n2_; have GE109 := n3_; clear n0_ n1_ n2_ n3_; clear hb hbox hg))
 (try simp only [Act.put, sb_, sz_, ss_])
 go_cut [16] (fun v16 wc => ∃ (kq : Nat) (x16_2 : Bool), v16 = .bool x16_2 ∧ Aside0 (plan_May.j0 kq l1 x16_2 a0_0 a0_1 a0_2 a0_3 a0_4 = some r) ∧ Aside0 (kq ≤ k) ∧ Aside0 (wc.heap[gb109]? = some (.cells #[.int .i64 a0_0, .int .i64 a0_1, .int .i64 a0_2, .int .i64 a0_3, .int .i64 a0_4] 23 (0, 0))) ∧ Aside0 (Below w.heap.size w wc))
 case first =>
  have H := HC3.out
  clear HC3
  replace H := Option.bind_eq_some_iff.mp H
  obtain ⟨t110, A50, H⟩ := H
  replace H : (if t110 = true then (plan_May.j0 k l1 (decide ((l1.length : Int) > 8)) a0_0 a0_1 a0_2 a0_3 a0_4) else (plan_May.j0 k l1 true a0_0 a0_1 a0_2 a0_3 a0_4)) = some r := H
  have A5 := Aside0.mk A50
  clear A50
  by_cases c6 : t110 = true
  · subst c6
    have H1 : (plan_May.j0 k l1 (decide ((l1.length : Int) > 8)) a0_0 a0_1 a0_2 a0_3 a0_4) = some r := by rw [if_pos rfl] at H; exact H
    clear H; have H := H1; clear H1
    have H' := Aside0.mk H
    clear H
    have hcz7_0 : w4.cell? ⟨gb109, 0, none⟩ = some (.int .i64 a0_0) := (blk_cell BK109.out 0).trans rfl
    have hcz7_1 : w4.cell? ⟨gb109, 1, none⟩ = some (.int .i64 a0_1) := (blk_cell BK109.out 1).trans rfl
    have hcz7_2 : w4.cell? ⟨gb109, 2, none⟩ = some (.int .i64 a0_2) := (blk_cell BK109.out 2).trans rfl
    have hcz7_3 : w4.cell? ⟨gb109, 3, none⟩ = some (.int .i64 a0_3) := (blk_cell BK109.out 3).trans rfl
    have hcz7_4 : w4.cell? ⟨gb109, 4, none⟩ = some (.int .i64 a0_4) := (blk_cell BK109.out 4).trans rfl
    have hfz7_0 := blk_frozen BK109.out 0
    have hfz7_1 := blk_frozen BK109.out 1
    have hfz7_2 := blk_frozen BK109.out 2
    have hfz7_3 := blk_frozen BK109.out 3
    have hfz7_4 := blk_frozen BK109.out 4
    go_wp2_with (first | ((with_reducible refine gate_callee (f := 14) rfl ?_); refine goesL_ (some 10) rfl rfl Try.func14 (by kernel_rfl) rfl #[.agg #[.int .i64 a0_0, .int .i64 a0_1, .int .i64 a0_2, .int .i64 a0_3, .int .i64 a0_4]] rfl (by (try simp only [List.map_toArray, List.map_cons, List.map_nil]); first | done | rfl | (simp only [List.length_drop, List.length_take]; rfl)) ?_; (with_reducible refine (geom_May.calls a0_0 a0_1 a0_2 a0_3 a0_4 true _ A5.out).mono ?_); rintro e w8 ⟨rfl, hb⟩; refine ⟨_, rfl, ?_⟩; have n0_ := Aside0.mk (blk_below (g := gb109) (o := .cells #[.int .i64 a0_0, .int .i64 a0_1, .int .i64 a0_2, .int .i64 a0_3, .int .i64 a0_4] 23 (0, 0)) (by (with_reducible repeat (first | refine blk_drewN ?_ _ | refine blk_drew ?_ | refine blk_alloc ?_ _)); exact BK109.out) hb); have n1_ := Aside0.mk (below_step (by repeat (first | (with_reducible first | exact HB.out | apply below_alloc | apply pw_below_drewN | apply below_drew1 | refine below_set ?_ GE109.out) | exact HB.out)) hb); clear BK109; clear HB; have BK109 := n0_; have HB := n1_; clear n0_ n1_; (try clear hb); (try clear hb2); (try clear hk); (try clear hi)))
    go_meet
    case rel => exact ⟨_, (decide ((l1.length : Int) > 8)), (by first | rfl | (simp; done) | (simp [*]; done)), H', ⟨by first | omega | exact Nat.le_refl _⟩, ⟨by (with_reducible repeat (first | refine blk_drewN ?_ _ | refine blk_drew ?_ | refine blk_alloc ?_ _)); exact BK109.out⟩, ⟨by repeat (first | (with_reducible first | exact HB.out | apply below_alloc | apply pw_below_drewN | apply below_drew1 | refine below_set ?_ GE109.out) | exact HB.out)⟩⟩
  replace c6 := Bool.eq_false_iff.mpr c6
  subst c6
  have H1 : (plan_May.j0 k l1 true a0_0 a0_1 a0_2 a0_3 a0_4) = some r := by rw [if_neg (show ¬ (false = true) by decide)] at H; exact H
  clear H; have H := H1; clear H1
  have H' := Aside0.mk H
  clear H
  have hcz9_0 : w4.cell? ⟨gb109, 0, none⟩ = some (.int .i64 a0_0) := (blk_cell BK109.out 0).trans rfl
  have hcz9_1 : w4.cell? ⟨gb109, 1, none⟩ = some (.int .i64 a0_1) := (blk_cell BK109.out 1).trans rfl
  have hcz9_2 : w4.cell? ⟨gb109, 2, none⟩ = some (.int .i64 a0_2) := (blk_cell BK109.out 2).trans rfl
  have hcz9_3 : w4.cell? ⟨gb109, 3, none⟩ = some (.int .i64 a0_3) := (blk_cell BK109.out 3).trans rfl
  have hcz9_4 : w4.cell? ⟨gb109, 4, none⟩ = some (.int .i64 a0_4) := (blk_cell BK109.out 4).trans rfl
  have hfz9_0 := blk_frozen BK109.out 0
  have hfz9_1 := blk_frozen BK109.out 1
  have hfz9_2 := blk_frozen BK109.out 2
  have hfz9_3 := blk_frozen BK109.out 3
  have hfz9_4 := blk_frozen BK109.out 4
  go_wp2_with (first | ((with_reducible refine gate_callee (f := 14) rfl ?_); refine goesL_ (some 10) rfl rfl Try.func14 (by kernel_rfl) rfl #[.agg #[.int .i64 a0_0, .int .i64 a0_1, .int .i64 a0_2, .int .i64 a0_3, .int .i64 a0_4]] rfl (by (try simp only [List.map_toArray, List.map_cons, List.map_nil]); first | done | rfl | (simp only [List.length_drop, List.length_take]; rfl)) ?_; (with_reducible refine (geom_May.calls a0_0 a0_1 a0_2 a0_3 a0_4 false _ A5.out).mono ?_); rintro e w10 ⟨rfl, hb⟩; refine ⟨_, rfl, ?_⟩; have n0_ := Aside0.mk (blk_below (g := gb109) (o := .cells #[.int .i64 a0_0, .int .i64 a0_1, .int .i64 a0_2, .int .i64 a0_3, .int .i64 a0_4] 23 (0, 0)) (by (with_reducible repeat (first | refine blk_drewN ?_ _ | refine blk_drew ?_ | refine blk_alloc ?_ _)); exact BK109.out) hb); have n1_ := Aside0.mk (below_step (by repeat (first | (with_reducible first | exact HB.out | apply below_alloc | apply pw_below_drewN | apply below_drew1 | refine below_set ?_ GE109.out) | exact HB.out)) hb); clear BK109; clear HB; have BK109 := n0_; have HB := n1_; clear n0_ n1_; (try clear hb); (try clear hb2); (try clear hk); (try clear hi)))
  go_meet
  case rel => exact ⟨_, (true), (by first | rfl | (simp; done) | (simp [*]; done)), H', ⟨by first | omega | exact Nat.le_refl _⟩, ⟨by (with_reducible repeat (first | refine blk_drewN ?_ _ | refine blk_drew ?_ | refine blk_alloc ?_ _)); exact BK109.out⟩, ⟨by repeat (first | (with_reducible first | exact HB.out | apply below_alloc | apply pw_below_drewN | apply below_drew1 | refine below_set ?_ GE109.out) | exact HB.out)⟩⟩
 case rest =>
  clear HC3
  try clear c1
  try clear c2
  try clear p2
  try clear c6
  try clear hcz7_0
  try clear hcz7_1
  try clear hcz7_2
  try clear hcz7_3
  try clear hcz7_4
  try clear hcz9_0
  try clear hcz9_1
  try clear hcz9_2
  try clear hcz9_3
  try clear hcz9_4
  try clear hfz7_0
  try clear hfz7_1
  try clear hfz7_2
  try clear hfz7_3
  try clear hfz7_4
  try clear hfz9_0
  try clear hfz9_1
  try clear hfz9_2
  try clear hfz9_3
  try clear hfz9_4
  obtain ⟨kq, x16_2, rfl, HA, HJ2, BK109, HB⟩ := hcut
  cases kq with
  | zero => exact absurd HA.out (by simp [plan_May.j0])
  | succ kj2 =>
   have H := HA.out
   clear HA
   simp only [plan_May.j0] at H
   by_cases c11 : x16_2 = true
   · subst c11
     have H1 : (some false) = some r := by rw [if_pos rfl] at H; exact H
     clear H; have H := H1; clear H1
     obtain rfl := Option.some.inj H
     go_wp2
     go_ret
     exact ⟨by first | rfl | (simp [errW_none, errW_some] <;> rfl) | (simp [*, errW_none, errW_some] <;> rfl), by repeat (first | (with_reducible first | exact HB.out | apply below_alloc | apply pw_below_drewN | apply below_drew1 | refine below_set ?_ GE109.out) | exact HB.out)⟩
   replace c11 := Bool.eq_false_iff.mpr c11
   subst c11
   have H1 : (plan_May.l0 kj2 l1 l1 (l1.length : Int) 0 a0_0 a0_1 a0_2 a0_3 a0_4) = some r := by rw [if_neg (show ¬ (false = true) by decide)] at H; exact H
   clear H; have H := H1; clear H1
   have H' := Aside0.mk H
   clear H
   go_wp2
   go_loopg [19] kj2 (fun kq v19 w' => ∃ (x19_2 : Int), v19 = .int .i64 x19_2 ∧ Aside0 (plan_May.l0 kq l1 l1 (l1.length : Int) x19_2 a0_0 a0_1 a0_2 a0_3 a0_4 = some r) ∧ Aside0 (kq ≤ kj2) ∧ Aside0 (w'.heap[gb109]? = some (.cells #[.int .i64 a0_0, .int .i64 a0_1, .int .i64 a0_2, .int .i64 a0_3, .int .i64 a0_4] 23 (0, 0))) ∧ Aside0 (Below w.heap.size w w'))
   case atStart => exact ⟨(0), (by first | rfl | (simp; done) | (simp [*]; done)), H', ⟨Nat.le_refl _⟩, ⟨by (with_reducible repeat (first | refine blk_drewN ?_ _ | refine blk_drew ?_ | refine blk_alloc ?_ _)); exact BK109.out⟩, ⟨by repeat (first | (with_reducible first | exact HB.out | apply below_alloc | apply pw_below_drewN | apply below_drew1 | refine below_set ?_ GE109.out) | exact HB.out)⟩⟩
   case round =>
    clear H'
    try clear c1
    try clear c2
    try clear p2
    try clear c6
    try clear c11
    try clear hcz7_0
    try clear hcz7_1
    try clear hcz7_2
    try clear hcz7_3
    try clear hcz7_4
    try clear hcz9_0
    try clear hcz9_1
    try clear hcz9_2
    try clear hcz9_3
    try clear hcz9_4
    try clear hfz7_0
    try clear hfz7_1
    try clear hfz7_2
    try clear hfz7_3
    try clear hfz7_4
    try clear hfz9_0
    try clear hfz9_1
    try clear hfz9_2
    try clear hfz9_3
    try clear hfz9_4
    try clear p2
    obtain ⟨x19_2, rfl, HA, HK2, BK109, HB⟩ := hrel
    cases gk with
    | zero => exact absurd HA.out (by simp [plan_May.l0])
    | succ k2 =>
     have H := HA.out
     clear HA
     simp only [plan_May.l0] at H
     by_cases c12 : x19_2 < (l1.length : Int)
     rotate_left
     · rw [if_neg c12] at H
       have c12b0 : decide (x19_2 < (l1.length : Int)) = false := decide_eq_false c12
       clear c12
       obtain rfl := Option.some.inj H
       go_wp2
       go_ret
       exact ⟨by first | rfl | (simp [errW_none, errW_some] <;> rfl) | (simp [*, errW_none, errW_some] <;> rfl), by repeat (first | (with_reducible first | exact HB.out | apply below_alloc | apply pw_below_drewN | apply below_drew1 | refine below_set ?_ GE109.out) | exact HB.out)⟩
     rw [if_pos c12] at H
     have c12b0 : decide (x19_2 < (l1.length : Int)) = true := decide_eq_true c12
     clear c12
     by_cases c13 : 0 ≤ x19_2
     rotate_left
     · rw [if_neg c13] at H
       exact absurd H (by simp)
     rw [if_pos c13] at H
     have c13b0 : decide (0 ≤ x19_2) = true := decide_eq_true c13
     clear c13
     by_cases c14 : x19_2 < (l1.length : Int)
     rotate_left
     · rw [if_neg c14] at H
       exact absurd H (by simp)
     rw [if_pos c14] at H
     have c14b0 : decide (x19_2 < (l1.length : Int)) = true := decide_eq_true c14
     clear c14
     have c15b0 := eq_true (of_decide_eq_true (by first | (with_reducible assumption) | assumption) : 0 ≤ x19_2)
     by_cases c16 : x19_2 ≤ (l1.length : Int)
     rotate_left
     · rw [if_neg c16] at H
       exact absurd H (by simp)
     rw [if_pos c16] at H
     have c16b0 := eq_true c16
     have c16b1 : decide (x19_2 ≤ (l1.length : Int)) = true := decide_eq_true c16
     clear c16
     obtain ⟨y113, hy113⟩ : ∃ y_ : List (S41), y_ = (l1.take (x19_2 : Int).toNat) := ⟨_, rfl⟩
     replace H : ((plan_find.f k2 y113 ((rd_T41 l1 x19_2).f0)).bind fun bt117 => (if bt117.2.2.2 = true then (some false) else (if ((rd_T41 l1 x19_2).f0) < 0 then (some false) else (if ((rd_T41 l1 x19_2).f0) ≥ a0_0 then (some false) else (if ((rd_T41 l1 x19_2).f2) < 0 then (some false) else (if ((rd_T41 l1 x19_2).f2) > 1073741824 then (some false) else (if (rd_T41 l1 x19_2).f1 = true then (if ((rd_T41 l1 x19_2).f2) = 0 then (plan_May.l0 k2 l1 l1 (l1.length : Int) (wrap64 (x19_2 + 1)) a0_0 a0_1 a0_2 a0_3 a0_4) else (some false)) else (plan_May.l0 k2 l1 l1 (l1.length : Int) (wrap64 (x19_2 + 1)) a0_0 a0_1 a0_2 a0_3 a0_4)))))))) = some r := by first | (rw [hy113]; with_reducible exact H) | (have H2_ := (Option.bind_some _ _).symm.trans H; rw [hy113]; with_reducible exact H2_) | (have H2_ := (Option.bind_some _ _).symm.trans H; with_reducible exact H2_) | with_reducible exact H | (rw [hy113]; exact H) | exact H
     have Ny113 := Aside0.mk hy113
     clear hy113
     replace H := Option.bind_eq_some_iff.mp H
     obtain ⟨⟨t117, t118, t119, t120⟩, A170, H⟩ := H
     replace H : (if t120 = true then (some false) else (if ((rd_T41 l1 x19_2).f0) < 0 then (some false) else (if ((rd_T41 l1 x19_2).f0) ≥ a0_0 then (some false) else (if ((rd_T41 l1 x19_2).f2) < 0 then (some false) else (if ((rd_T41 l1 x19_2).f2) > 1073741824 then (some false) else (if (rd_T41 l1 x19_2).f1 = true then (if ((rd_T41 l1 x19_2).f2) = 0 then (plan_May.l0 k2 l1 l1 (l1.length : Int) (wrap64 (x19_2 + 1)) a0_0 a0_1 a0_2 a0_3 a0_4) else (some false)) else (plan_May.l0 k2 l1 l1 (l1.length : Int) (wrap64 (x19_2 + 1)) a0_0 a0_1 a0_2 a0_3 a0_4))))))) = some r := H
     have A17 := Aside0.mk A170
     clear A170
     by_cases c18 : t120 = true
     · subst c18
       have H1 : (some false) = some r := by rw [if_pos rfl] at H; exact H
       clear H; have H := H1; clear H1
       obtain rfl := Option.some.inj H
       have p111 : 0 ≤ (x19_2 : Int) := of_decide_eq_true (by first | (with_reducible assumption) | assumption)
       have q111 : x19_2 < (l1.length : Int) := of_decide_eq_true (by first | (with_reducible assumption) | assumption)
       obtain ⟨ad111, e111, hx111_0, hx111_1, hx111_2⟩ := at_T41 HR1.out x19_2 p111 q111
       cases e111
       replace hx111_0 := (HB.out.cell (World.block_lt_of_cell? w _ hx111_0)).trans hx111_0
       replace hx111_1 := (HB.out.cell (World.block_lt_of_cell? w _ hx111_1)).trans hx111_1
       replace hx111_2 := (HB.out.cell (World.block_lt_of_cell? w _ hx111_2)).trans hx111_2
       replace p111 := eq_true p111
       replace q111 := eq_true q111
       try go_wp2_with (first | ((with_reducible refine gate_dst (N := 6) rfl ?_); (try (refine gate_guard (by rfl) ?_; dsimp only)); refine box_event ?hg (N := 6) ?hd (cs := #[.int .i64 0, .bool false, .int .i64 0]) (t := 41) ?hr ?_; (case hd => rfl); (case hg => rfl); (case hr => first | (go_simp; done) | (go_simp; rfl)); intro gb112 hg w19 hbox hb; have n0_ := Aside0.mk (blk_below (g := gb109) (o := .cells #[.int .i64 a0_0, .int .i64 a0_1, .int .i64 a0_2, .int .i64 a0_3, .int .i64 a0_4] 23 (0, 0)) (by (with_reducible repeat (first | refine blk_drewN ?_ _ | refine blk_drew ?_ | refine blk_alloc ?_ _)); exact BK109.out) hb); have n1_ := Aside0.mk (below_step (by repeat (first | (with_reducible first | exact HB.out | apply below_alloc | apply pw_below_drewN | apply below_drew1 | refine below_set ?_ GE109.out) | exact HB.out)) hb); have n2_ := Aside0.mk (hbox); have n3_ := Aside0.mk ((by rw [hg]; exact (below_size (by repeat (first | (with_reducible first | exact HB.out | apply below_alloc | apply pw_below_drewN | apply below_drew1 | refine below_set ?_ GE109.out) | exact HB.out))) : w.heap.size ≤ gb112)); have n4_ := Aside0.mk ((by rw [hg]; exact (below_size (by repeat (first | (with_reducible first | exact HB.out | apply below_alloc | apply pw_below_drewN | apply below_drew1 | refine below_set ?_ GE109.out) | exact HB.out))) : w.heap.size ≤ gb112)); have n5_ := Aside0.mk ((by rw [hg]; exact Nat.ne_of_lt (blk_lt (g := gb109) (o := .cells #[.int .i64 a0_0, .int .i64 a0_1, .int .i64 a0_2, .int .i64 a0_3, .int .i64 a0_4] 23 (0, 0)) (by (with_reducible repeat (first | refine blk_drewN ?_ _ | refine blk_drew ?_ | refine blk_alloc ?_ _)); exact BK109.out)) : gb109 ≠ gb112)); have n6_ := Aside0.mk ((by rw [hg]; exact Nat.ne_of_gt (blk_lt (g := gb109) (o := .cells #[.int .i64 a0_0, .int .i64 a0_1, .int .i64 a0_2, .int .i64 a0_3, .int .i64 a0_4] 23 (0, 0)) (by (with_reducible repeat (first | refine blk_drewN ?_ _ | refine blk_drew ?_ | refine blk_alloc ?_ _)); exact BK109.out)) : gb112 ≠ gb109)); clear BK109; clear HB; have BK109 := n0_; have HB := n1_; have BK112 := n2_; have GW112 := n3_; have GE112 := n4_; have NB109_112 := n5_; have NB112_109 := n6_; clear n0_ n1_ n2_ n3_ n4_ n5_ n6_; clear hb hbox hg; have hnb20 := NB112_109.out; have hnc20 := NB109_112.out; have hcz21_0 : w19.cell? ⟨gb112, 0, none⟩ = some (.int .i64 0) := (blk_cell BK112.out 0).trans rfl; have hcz21_1 : w19.cell? ⟨gb112, 1, none⟩ = some (.bool false) := (blk_cell BK112.out 1).trans rfl; have hcz21_2 : w19.cell? ⟨gb112, 2, none⟩ = some (.int .i64 0) := (blk_cell BK112.out 2).trans rfl; have hfz21_0 := blk_frozen BK112.out 0; have hfz21_1 := blk_frozen BK112.out 1; have hfz21_2 := blk_frozen BK112.out 2))
       have n0_ : Aside0 ((((w19.setCell ⟨gb112, 0, none⟩ (.int .i64 ((rd_T41 l1 x19_2).f0))).setCell ⟨gb112, 1, none⟩ (.bool ((rd_T41 l1 x19_2).f1))).setCell ⟨gb112, 2, none⟩ (.int .i64 ((rd_T41 l1 x19_2).f2))).heap[gb109]? = some (.cells #[.int .i64 a0_0, .int .i64 a0_1, .int .i64 a0_2, .int .i64 a0_3, .int .i64 a0_4] 23 (0, 0))) := ⟨by (with_reducible repeat (first | refine blk_drewN ?_ _ | refine blk_drew ?_ | refine blk_alloc ?_ _)); refine blk_far ?_ NB109_112.out _; (with_reducible repeat (first | refine blk_drewN ?_ _ | refine blk_drew ?_ | refine blk_alloc ?_ _)); refine blk_far ?_ NB109_112.out _; (with_reducible repeat (first | refine blk_drewN ?_ _ | refine blk_drew ?_ | refine blk_alloc ?_ _)); refine blk_far ?_ NB109_112.out _; (with_reducible repeat (first | refine blk_drewN ?_ _ | refine blk_drew ?_ | refine blk_alloc ?_ _)); exact BK109.out⟩
       have n1_ : Aside0 ((((w19.setCell ⟨gb112, 0, none⟩ (.int .i64 ((rd_T41 l1 x19_2).f0))).setCell ⟨gb112, 1, none⟩ (.bool ((rd_T41 l1 x19_2).f1))).setCell ⟨gb112, 2, none⟩ (.int .i64 ((rd_T41 l1 x19_2).f2))).heap[gb112]? = some (.cells #[.int .i64 ((rd_T41 l1 x19_2).f0), .bool ((rd_T41 l1 x19_2).f1), .int .i64 ((rd_T41 l1 x19_2).f2)] 41 (0, 0))) := ⟨by (with_reducible repeat (first | refine blk_drewN ?_ _ | refine blk_drew ?_ | refine blk_alloc ?_ _)); refine blk_put (cs := #[.int .i64 ((rd_T41 l1 x19_2).f0), .bool ((rd_T41 l1 x19_2).f1), .int .i64 0]) ?_ 2 _ rfl; (with_reducible repeat (first | refine blk_drewN ?_ _ | refine blk_drew ?_ | refine blk_alloc ?_ _)); refine blk_put (cs := #[.int .i64 ((rd_T41 l1 x19_2).f0), .bool false, .int .i64 0]) ?_ 1 _ rfl; (with_reducible repeat (first | refine blk_drewN ?_ _ | refine blk_drew ?_ | refine blk_alloc ?_ _)); refine blk_put (cs := #[.int .i64 0, .bool false, .int .i64 0]) ?_ 0 _ rfl; (with_reducible repeat (first | refine blk_drewN ?_ _ | refine blk_drew ?_ | refine blk_alloc ?_ _)); exact BK112.out⟩
       have n2_ : Aside0 (Below w.heap.size w (((w19.setCell ⟨gb112, 0, none⟩ (.int .i64 ((rd_T41 l1 x19_2).f0))).setCell ⟨gb112, 1, none⟩ (.bool ((rd_T41 l1 x19_2).f1))).setCell ⟨gb112, 2, none⟩ (.int .i64 ((rd_T41 l1 x19_2).f2)))) := ⟨by repeat (first | (with_reducible first | exact HB.out | apply below_alloc | apply pw_below_drewN | apply below_drew1 | refine below_set ?_ GE109.out | refine below_set ?_ GE112.out) | exact HB.out)⟩
       (try clear BK109)
       (try clear BK112)
       (try clear HB)
       generalize (((w19.setCell ⟨gb112, 0, none⟩ (.int .i64 ((rd_T41 l1 x19_2).f0))).setCell ⟨gb112, 1, none⟩ (.bool ((rd_T41 l1 x19_2).f1))).setCell ⟨gb112, 2, none⟩ (.int .i64 ((rd_T41 l1 x19_2).f2))) = w22 at n0_ n1_ n2_ ⊢
       have BK109 := n0_
       have BK112 := n1_
       have HB := n2_
       clear n0_ n1_ n2_
       have n0_ := Aside0.mk (blk_drew BK109.out)
       have n1_ := Aside0.mk (blk_drew BK112.out)
       have n2_ := Aside0.mk (below_drew1 HB.out)
       clear BK109
       clear BK112
       clear HB
       have BK109 := n0_
       have BK112 := n1_
       have HB := n2_
       clear n0_ n1_ n2_
       have q24 : (x19_2 : Int) ≤ ((l1.length : Int) : Int) := of_decide_eq_true (by first | (with_reducible assumption) | assumption)
       obtain ⟨i024, hi024, _, hsz24, _⟩ := info_parts info41
       have hroom24 : l1.length ≤ c1 := HC1.out
       have hC24 : Kd.C k41 _ (some ad111) l1.length l1 := HR1.out
       have hcut24 := cut_to (P := Try.prog) 33 41 .i64 Try.underlying33 hi024 (some ad111) l1.length c1 x19_2 (of_decide_eq_true (by first | (with_reducible assumption) | assumption)) q24 hroom24
       have hr24 := Kd.C_take (m := (x19_2 : Int).toNat) hC24 (by omega)
       have hy24 : y113.length = (x19_2 : Int).toNat := (by rw [Ny113.out, List.length_take]; omega)
       rw [← Ny113.out] at hr24
       rw [← hy24] at hcut24
       have HR116 := Aside0.mk hr24
       have HC116 := Aside0.mk (show y113.length ≤ c1 from by omega)
       clear hr24 hC24 hroom24 hi024 hsz24
       have KY24 := Aside0.mk hy24
       clear hy24
       replace q24 := eq_true q24
       refine start_ (n := 12) (S := fun w' => w'.cell? ⟨gb112, 0, none⟩ = some (.int .i64 ((rd_T41 l1 x19_2).f0)) ∧ w'.cell? ⟨gb112, 1, none⟩ = some (.bool ((rd_T41 l1 x19_2).f1)) ∧ w'.cell? ⟨gb112, 2, none⟩ = some (.int .i64 ((rd_T41 l1 x19_2).f2))) (ds := []) #[Z, Z, Z, Z, Z, Z, Z, Z, Z, Z, Z, Z] (by kernel_rfl) rfl rfl ⟨(blk_cell BK112.out 0).trans rfl, (blk_cell BK112.out 1).trans rfl, (blk_cell BK112.out 2).trans rfl⟩ (fun hHeld => ?_); refine with_tabW plan_May.tab6 plan_May.bits6 (fun HT_ HW_ => ?_)
       generalize w22.drew = w23 at BK109 BK112 HB HR116 hHeld ⊢
       refine pure_ (i := 0) (N := some 25) (v := ?_) (a' := ?_) #[Y, Z, Z, Z, Z, Z, Z, Z, Z, Z, Z, Z] rfl rfl (any_of HT_.out (by kernel_rfl)) (fun _ _ _ h => h) (Or.inl ⟨by rfl, ?_⟩) ?_ ?_
       rotate_left
       · intro w'
         go_simp
         with_reducible rfl
       rotate_left
       · simp only [Act.put, sb_, sz_, ss_, i64_w, i32_w]
         rfl
       refine pure_ (i := 1) (N := some 26) (v := ?_) (a' := ?_) #[Y, Y, Z, Z, Z, Z, Z, Z, Z, Z, Z, Z] rfl rfl (any_of HT_.out (by kernel_rfl)) (fun _ _ _ h => h) (Or.inl ⟨by rfl, ?_⟩) ?_ ?_
       rotate_left
       · intro w'
         go_simp
         with_reducible rfl
       rotate_left
       · simp only [Act.put, sb_, sz_, ss_, i64_w, i32_w]
         rfl
       refine pure_ (i := 2) (N := some 27) (v := ?_) (a' := ?_) #[Y, Y, Y, Z, Z, Z, Z, Z, Z, Z, Z, Z] rfl rfl (any_of HT_.out (by kernel_rfl)) (fun _ _ _ h => h) (Or.inl ⟨by rfl, ?_⟩) ?_ ?_
       rotate_left
       · intro w'
         go_simp
         with_reducible rfl
       rotate_left
       · simp only [Act.put, sb_, sz_, ss_, i64_w, i32_w]
         rfl
       refine pure_ (i := 3) (N := some 28) (v := ?_) (a' := ?_) #[Y, Y, Y, Y, Z, Z, Z, Z, Z, Z, Z, Z] rfl rfl (any_of HT_.out (by kernel_rfl)) (fun _ _ _ h => h) (Or.inl ⟨by rfl, ?_⟩) ?_ ?_
       rotate_left
       · intro w'
         go_simp
         with_reducible rfl
       rotate_left
       · simp only [Act.put, sb_, sz_, ss_, i64_w, i32_w]
         rfl
       refine take_ (i := 4) (N := some 29) (v := ?_) (a' := ?_) #[Y, Y, Y, Y, Y, Z, Z, Z, Z, Z, Z, Z] rfl rfl (take_ofW HT_.out HW_.out (by kernel_rfl)) (fun _ _ _ h => h) (Or.inl ⟨by rfl, ?_⟩) hHeld ?_ ?_
       rotate_left
       · rintro w' ⟨s0, s1, s2⟩
         go_simp
         with_reducible rfl
       rotate_left
       · simp only [Act.put, sb_, sz_, ss_, i64_w, i32_w]
         rfl
       refine join_ (σ := Nat) 2 #[Y, Y, Y, Y, Y, Y, Y, Y, Y, Y, Z, Z] (fun s_ => [(30, .tuple #[.agg #[.int .i64 t117, .bool t118, .int .i64 t119], .bool true]), (7, .pointer (some ⟨s_, 0, none⟩)), (24, .tuple #[.agg #[.int .i64 t117, .bool t118, .int .i64 t119], .bool true]), (31, .agg #[.int .i64 t117, .bool t118, .int .i64 t119]), (32, .bool true)]) (fun s_ w' => (w'.cell? ⟨gb112, 0, none⟩ = some (.int .i64 ((rd_T41 l1 x19_2).f0)) ∧ w'.cell? ⟨gb112, 1, none⟩ = some (.bool ((rd_T41 l1 x19_2).f1)) ∧ w'.cell? ⟨gb112, 2, none⟩ = some (.int .i64 ((rd_T41 l1 x19_2).f2))) ∧ (w'.heap[gb109]? = some (.cells #[.int .i64 a0_0, .int .i64 a0_1, .int .i64 a0_2, .int .i64 a0_3, .int .i64 a0_4] 23 (0, 0))) ∧ (w'.heap[gb112]? = some (.cells #[.int .i64 ((rd_T41 l1 x19_2).f0), .bool ((rd_T41 l1 x19_2).f1), .int .i64 ((rd_T41 l1 x19_2).f2)] 41 (0, 0))) ∧ (w'.heap[s_]? = some (.cells #[.int .i64 0, .bool false, .int .i64 0] 41 (0, 0))) ∧ (w.heap.size ≤ s_) ∧ (w.heap.size ≤ s_) ∧ (gb109 ≠ s_) ∧ (s_ ≠ gb109) ∧ (gb112 ≠ s_) ∧ (s_ ≠ gb112) ∧ (Below w.heap.size w w')) ?_ ?_
       rotate_left
       · intro hCont
         refine two_ (i := 5) (j := 9) (Ni := some 30) (Nj := some 7) #[Y, Y, Y, Y, Y, Y, Z, Z, Z, Z, Z, Z] #[Y, Y, Y, Y, Y, Z, Z, Z, Z, Y, Z, Z] rfl rfl rfl rfl (two_of HT_.out (by kernel_rfl)) (by decide) (by decide) (fun K hK => ?_) (fun K hK => ?_)
         · skip
           refine goes_ Try.func51 (by kernel_rfl) rfl #[.slice (some ad111) y113.length c1, .int .i64 ((rd_T41 l1 x19_2).f0)] (by rfl) rfl rfl (by (try simp only [List.map_toArray, List.map_cons, List.map_nil]); first | done | rfl | (simp only [List.length_drop, List.length_take]; rfl)) ?_
           with_reducible refine (plan_find.calls k2 _ _ y113 ((rd_T41 l1 x19_2).f0) t117 t118 t119 true _ ?side1 ?side2 A17.out).mono ?_
           (case side1 => repeat (first | exact (Kd.C_below HR116.out HB.out) | (with_reducible refine Kd.C_alloc ?_ _) | (with_reducible refine Kd.C_drewN ?_ _) | (with_reducible refine Kd.C_drew ?_)))
           (case side2 => exact HC116.out)
           rintro e w25 ⟨rfl, hb⟩
           refine ⟨_, rfl, ?_⟩
           have n0_ := Aside0.mk (blk_below (g := gb109) (o := .cells #[.int .i64 a0_0, .int .i64 a0_1, .int .i64 a0_2, .int .i64 a0_3, .int .i64 a0_4] 23 (0, 0)) (by (with_reducible repeat (first | refine blk_drewN ?_ _ | refine blk_drew ?_ | refine blk_alloc ?_ _)); exact BK109.out) hb)
           have n1_ := Aside0.mk (blk_below (g := gb112) (o := .cells #[.int .i64 ((rd_T41 l1 x19_2).f0), .bool ((rd_T41 l1 x19_2).f1), .int .i64 ((rd_T41 l1 x19_2).f2)] 41 (0, 0)) (by (with_reducible repeat (first | refine blk_drewN ?_ _ | refine blk_drew ?_ | refine blk_alloc ?_ _)); exact BK112.out) hb)
           have n2_ := Aside0.mk (below_step (by repeat (first | (with_reducible first | exact HB.out | apply below_alloc | apply pw_below_drewN | apply below_drew1 | refine below_set ?_ GE109.out | refine below_set ?_ GE112.out) | exact HB.out)) hb)
           clear BK109
           clear BK112
           clear HB
           have BK109 := n0_
           have BK112 := n1_
           have HB := n2_
           clear n0_ n1_ n2_
           (try clear hb)
           (try clear hb2)
           (try clear hk)
           (try clear hi)
           refine hK.out _ _ ⟨(blk_cell BK112.out 0).trans rfl, (blk_cell BK112.out 1).trans rfl, (blk_cell BK112.out 2).trans rfl⟩ (fun hHeld => ?_)
           clear hK K
           refine norm_ (a' := ?_) ?_ ?_
           rotate_left
           · show Act.put _ (some 30) _ = _
             simp only [Act.put, sb_, sz_, ss_, i64_w, i32_w]
             rfl
           refine pure_ (i := 6) (N := some 24) (v := ?_) (a' := ?_) #[Y, Y, Y, Y, Y, Y, Y, Z, Z, Z, Z, Z] rfl rfl (any_of HT_.out (by kernel_rfl)) (fun _ _ _ h => h) (Or.inl ⟨by rfl, ?_⟩) ?_ ?_
           rotate_left
           · intro w'
             go_simp
             with_reducible rfl
           rotate_left
           · simp only [Act.put, sb_, sz_, ss_, i64_w, i32_w]
             rfl
           refine pure_ (i := 7) (N := some 31) (v := ?_) (a' := ?_) #[Y, Y, Y, Y, Y, Y, Y, Y, Z, Z, Z, Z] rfl rfl (any_of HT_.out (by kernel_rfl)) (fun _ _ _ h => h) (Or.inl ⟨by rfl, ?_⟩) ?_ ?_
           rotate_left
           · intro w'
             go_simp
             with_reducible rfl
           rotate_left
           · simp only [Act.put, sb_, sz_, ss_, i64_w, i32_w]
             rfl
           refine pure_ (i := 8) (N := some 32) (v := ?_) (a' := ?_) #[Y, Y, Y, Y, Y, Y, Y, Y, Y, Z, Z, Z] rfl rfl (any_of HT_.out (by kernel_rfl)) (fun _ _ _ h => h) (Or.inl ⟨by rfl, ?_⟩) ?_ ?_
           rotate_left
           · intro w'
             go_simp
             with_reducible rfl
           rotate_left
           · simp only [Act.put, sb_, sz_, ss_, i64_w, i32_w]
             rfl
           refine one_ (i := 9) (N := some 7) #[Y, Y, Y, Y, Y, Y, Y, Y, Y, Y, Z, Z] rfl rfl (one_of HT_.out (by kernel_rfl)) (by decide) (fun K hK => ?_)
           refine box_step ?hg (N := 7) ?hd (cs := #[.int .i64 0, .bool false, .int .i64 0]) (t := 41) ?hr ?_; (case hd => rfl); (case hg => rfl); (case hr => first | (go_simp; done) | (go_simp; rfl))
           intro gb121 hg w26 hbox hb
           have n0_ := Aside0.mk (blk_below (g := gb109) (o := .cells #[.int .i64 a0_0, .int .i64 a0_1, .int .i64 a0_2, .int .i64 a0_3, .int .i64 a0_4] 23 (0, 0)) (by (with_reducible repeat (first | refine blk_drewN ?_ _ | refine blk_drew ?_ | refine blk_alloc ?_ _)); exact BK109.out) hb)
           have n1_ := Aside0.mk (blk_below (g := gb112) (o := .cells #[.int .i64 ((rd_T41 l1 x19_2).f0), .bool ((rd_T41 l1 x19_2).f1), .int .i64 ((rd_T41 l1 x19_2).f2)] 41 (0, 0)) (by (with_reducible repeat (first | refine blk_drewN ?_ _ | refine blk_drew ?_ | refine blk_alloc ?_ _)); exact BK112.out) hb)
           have n2_ := Aside0.mk (below_step (by repeat (first | (with_reducible first | exact HB.out | apply below_alloc | apply pw_below_drewN | apply below_drew1 | refine below_set ?_ GE109.out | refine below_set ?_ GE112.out) | exact HB.out)) hb)
           have n3_ := Aside0.mk (hbox)
           have n4_ := Aside0.mk ((by rw [hg]; exact (below_size (by repeat (first | (with_reducible first | exact HB.out | apply below_alloc | apply pw_below_drewN | apply below_drew1 | refine below_set ?_ GE109.out | refine below_set ?_ GE112.out) | exact HB.out))) : w.heap.size ≤ gb121))
           have n5_ := Aside0.mk ((by rw [hg]; exact (below_size (by repeat (first | (with_reducible first | exact HB.out | apply below_alloc | apply pw_below_drewN | apply below_drew1 | refine below_set ?_ GE109.out | refine below_set ?_ GE112.out) | exact HB.out))) : w.heap.size ≤ gb121))
           have n6_ := Aside0.mk ((by rw [hg]; exact Nat.ne_of_lt (blk_lt (g := gb109) (o := .cells #[.int .i64 a0_0, .int .i64 a0_1, .int .i64 a0_2, .int .i64 a0_3, .int .i64 a0_4] 23 (0, 0)) (by (with_reducible repeat (first | refine blk_drewN ?_ _ | refine blk_drew ?_ | refine blk_alloc ?_ _)); exact BK109.out)) : gb109 ≠ gb121))
           have n7_ := Aside0.mk ((by rw [hg]; exact Nat.ne_of_gt (blk_lt (g := gb109) (o := .cells #[.int .i64 a0_0, .int .i64 a0_1, .int .i64 a0_2, .int .i64 a0_3, .int .i64 a0_4] 23 (0, 0)) (by (with_reducible repeat (first | refine blk_drewN ?_ _ | refine blk_drew ?_ | refine blk_alloc ?_ _)); exact BK109.out)) : gb121 ≠ gb109))
           have n8_ := Aside0.mk ((by rw [hg]; exact Nat.ne_of_lt (blk_lt (g := gb112) (o := .cells #[.int .i64 ((rd_T41 l1 x19_2).f0), .bool ((rd_T41 l1 x19_2).f1), .int .i64 ((rd_T41 l1 x19_2).f2)] 41 (0, 0)) (by (with_reducible repeat (first | refine blk_drewN ?_ _ | refine blk_drew ?_ | refine blk_alloc ?_ _)); exact BK112.out)) : gb112 ≠ gb121))
           have n9_ := Aside0.mk ((by rw [hg]; exact Nat.ne_of_gt (blk_lt (g := gb112) (o := .cells #[.int .i64 ((rd_T41 l1 x19_2).f0), .bool ((rd_T41 l1 x19_2).f1), .int .i64 ((rd_T41 l1 x19_2).f2)] 41 (0, 0)) (by (with_reducible repeat (first | refine blk_drewN ?_ _ | refine blk_drew ?_ | refine blk_alloc ?_ _)); exact BK112.out)) : gb121 ≠ gb112))
           clear BK109
           clear BK112
           clear HB
           have BK109 := n0_
           have BK112 := n1_
           have HB := n2_
           have BK121 := n3_
           have GW121 := n4_
           have GE121 := n5_
           have NB109_121 := n6_
           have NB121_109 := n7_
           have NB112_121 := n8_
           have NB121_112 := n9_
           clear n0_ n1_ n2_ n3_ n4_ n5_ n6_ n7_ n8_ n9_
           clear hb hbox hg
           refine hK.out _ _ ⟨(blk_cell BK112.out 0).trans rfl, (blk_cell BK112.out 1).trans rfl, (blk_cell BK112.out 2).trans rfl⟩ (fun hHeld => ?_)
           clear hK K
           refine norm_ (a' := ?_) ?_ ?_
           rotate_left
           · show Act.put _ (some 7) _ = _
             simp only [Act.put, sb_, sz_, ss_, i64_w, i32_w]
             rfl
           exact norm_ (by simp only [putAll, Act.put, sb_, sz_, ss_]) (hCont (gb121) _ ⟨hHeld, (by (with_reducible repeat (first | refine blk_drewN ?_ _ | refine blk_drew ?_ | refine blk_alloc ?_ _)); exact BK109.out), (by (with_reducible repeat (first | refine blk_drewN ?_ _ | refine blk_drew ?_ | refine blk_alloc ?_ _)); exact BK112.out), (by (with_reducible repeat (first | refine blk_drewN ?_ _ | refine blk_drew ?_ | refine blk_alloc ?_ _)); exact BK121.out), GW121.out, GE121.out, NB109_121.out, NB121_109.out, NB112_121.out, NB121_112.out, (by repeat (first | (with_reducible first | exact HB.out | apply below_alloc | apply pw_below_drewN | apply below_drew1 | refine below_set ?_ GE109.out | refine below_set ?_ GE112.out | refine below_set ?_ GE121.out) | exact HB.out))⟩)
         · skip
           refine box_step ?hg (N := 7) ?hd (cs := #[.int .i64 0, .bool false, .int .i64 0]) (t := 41) ?hr ?_; (case hd => rfl); (case hg => rfl); (case hr => first | (go_simp; done) | (go_simp; rfl))
           intro gb121 hg w25 hbox hb
           have n0_ := Aside0.mk (blk_below (g := gb109) (o := .cells #[.int .i64 a0_0, .int .i64 a0_1, .int .i64 a0_2, .int .i64 a0_3, .int .i64 a0_4] 23 (0, 0)) (by (with_reducible repeat (first | refine blk_drewN ?_ _ | refine blk_drew ?_ | refine blk_alloc ?_ _)); exact BK109.out) hb)
           have n1_ := Aside0.mk (blk_below (g := gb112) (o := .cells #[.int .i64 ((rd_T41 l1 x19_2).f0), .bool ((rd_T41 l1 x19_2).f1), .int .i64 ((rd_T41 l1 x19_2).f2)] 41 (0, 0)) (by (with_reducible repeat (first | refine blk_drewN ?_ _ | refine blk_drew ?_ | refine blk_alloc ?_ _)); exact BK112.out) hb)
           have n2_ := Aside0.mk (below_step (by repeat (first | (with_reducible first | exact HB.out | apply below_alloc | apply pw_below_drewN | apply below_drew1 | refine below_set ?_ GE109.out | refine below_set ?_ GE112.out) | exact HB.out)) hb)
           have n3_ := Aside0.mk (hbox)
           have n4_ := Aside0.mk ((by rw [hg]; exact (below_size (by repeat (first | (with_reducible first | exact HB.out | apply below_alloc | apply pw_below_drewN | apply below_drew1 | refine below_set ?_ GE109.out | refine below_set ?_ GE112.out) | exact HB.out))) : w.heap.size ≤ gb121))
           have n5_ := Aside0.mk ((by rw [hg]; exact (below_size (by repeat (first | (with_reducible first | exact HB.out | apply below_alloc | apply pw_below_drewN | apply below_drew1 | refine below_set ?_ GE109.out | refine below_set ?_ GE112.out) | exact HB.out))) : w.heap.size ≤ gb121))
           have n6_ := Aside0.mk ((by rw [hg]; exact Nat.ne_of_lt (blk_lt (g := gb109) (o := .cells #[.int .i64 a0_0, .int .i64 a0_1, .int .i64 a0_2, .int .i64 a0_3, .int .i64 a0_4] 23 (0, 0)) (by (with_reducible repeat (first | refine blk_drewN ?_ _ | refine blk_drew ?_ | refine blk_alloc ?_ _)); exact BK109.out)) : gb109 ≠ gb121))
           have n7_ := Aside0.mk ((by rw [hg]; exact Nat.ne_of_gt (blk_lt (g := gb109) (o := .cells #[.int .i64 a0_0, .int .i64 a0_1, .int .i64 a0_2, .int .i64 a0_3, .int .i64 a0_4] 23 (0, 0)) (by (with_reducible repeat (first | refine blk_drewN ?_ _ | refine blk_drew ?_ | refine blk_alloc ?_ _)); exact BK109.out)) : gb121 ≠ gb109))
           have n8_ := Aside0.mk ((by rw [hg]; exact Nat.ne_of_lt (blk_lt (g := gb112) (o := .cells #[.int .i64 ((rd_T41 l1 x19_2).f0), .bool ((rd_T41 l1 x19_2).f1), .int .i64 ((rd_T41 l1 x19_2).f2)] 41 (0, 0)) (by (with_reducible repeat (first | refine blk_drewN ?_ _ | refine blk_drew ?_ | refine blk_alloc ?_ _)); exact BK112.out)) : gb112 ≠ gb121))
           have n9_ := Aside0.mk ((by rw [hg]; exact Nat.ne_of_gt (blk_lt (g := gb112) (o := .cells #[.int .i64 ((rd_T41 l1 x19_2).f0), .bool ((rd_T41 l1 x19_2).f1), .int .i64 ((rd_T41 l1 x19_2).f2)] 41 (0, 0)) (by (with_reducible repeat (first | refine blk_drewN ?_ _ | refine blk_drew ?_ | refine blk_alloc ?_ _)); exact BK112.out)) : gb121 ≠ gb112))
           clear BK109
           clear BK112
           clear HB
           have BK109 := n0_
           have BK112 := n1_
           have HB := n2_
           have BK121 := n3_
           have GW121 := n4_
           have GE121 := n5_
           have NB109_121 := n6_
           have NB121_109 := n7_
           have NB112_121 := n8_
           have NB121_112 := n9_
           clear n0_ n1_ n2_ n3_ n4_ n5_ n6_ n7_ n8_ n9_
           clear hb hbox hg
           refine hK.out _ _ ⟨(blk_cell BK112.out 0).trans rfl, (blk_cell BK112.out 1).trans rfl, (blk_cell BK112.out 2).trans rfl⟩ (fun hHeld => ?_)
           clear hK K
           refine norm_ (a' := ?_) ?_ ?_
           rotate_left
           · show Act.put _ (some 7) _ = _
             simp only [Act.put, sb_, sz_, ss_, i64_w, i32_w]
             rfl
           refine one_ (i := 5) (N := some 30) #[Y, Y, Y, Y, Y, Y, Z, Z, Z, Y, Z, Z] rfl rfl (one_of HT_.out (by kernel_rfl)) (by decide) (fun K hK => ?_)
           refine goes_ Try.func51 (by kernel_rfl) rfl #[.slice (some ad111) y113.length c1, .int .i64 ((rd_T41 l1 x19_2).f0)] (by rfl) rfl rfl (by (try simp only [List.map_toArray, List.map_cons, List.map_nil]); first | done | rfl | (simp only [List.length_drop, List.length_take]; rfl)) ?_
           with_reducible refine (plan_find.calls k2 _ _ y113 ((rd_T41 l1 x19_2).f0) t117 t118 t119 true _ ?side1 ?side2 A17.out).mono ?_
           (case side1 => repeat (first | exact (Kd.C_below HR116.out HB.out) | (with_reducible refine Kd.C_alloc ?_ _) | (with_reducible refine Kd.C_drewN ?_ _) | (with_reducible refine Kd.C_drew ?_)))
           (case side2 => exact HC116.out)
           rintro e w26 ⟨rfl, hb⟩
           refine ⟨_, rfl, ?_⟩
           have n0_ := Aside0.mk (blk_below (g := gb109) (o := .cells #[.int .i64 a0_0, .int .i64 a0_1, .int .i64 a0_2, .int .i64 a0_3, .int .i64 a0_4] 23 (0, 0)) (by (with_reducible repeat (first | refine blk_drewN ?_ _ | refine blk_drew ?_ | refine blk_alloc ?_ _)); exact BK109.out) hb)
           have n1_ := Aside0.mk (blk_below (g := gb112) (o := .cells #[.int .i64 ((rd_T41 l1 x19_2).f0), .bool ((rd_T41 l1 x19_2).f1), .int .i64 ((rd_T41 l1 x19_2).f2)] 41 (0, 0)) (by (with_reducible repeat (first | refine blk_drewN ?_ _ | refine blk_drew ?_ | refine blk_alloc ?_ _)); exact BK112.out) hb)
           have n2_ := Aside0.mk (blk_below (g := gb121) (o := .cells #[.int .i64 0, .bool false, .int .i64 0] 41 (0, 0)) (by (with_reducible repeat (first | refine blk_drewN ?_ _ | refine blk_drew ?_ | refine blk_alloc ?_ _)); exact BK121.out) hb)
           have n3_ := Aside0.mk (below_step (by repeat (first | (with_reducible first | exact HB.out | apply below_alloc | apply pw_below_drewN | apply below_drew1 | refine below_set ?_ GE109.out | refine below_set ?_ GE112.out | refine below_set ?_ GE121.out) | exact HB.out)) hb)
           clear BK109
           clear BK112
           clear BK121
           clear HB
           have BK109 := n0_
           have BK112 := n1_
           have BK121 := n2_
           have HB := n3_
           clear n0_ n1_ n2_ n3_
           (try clear hb)
           (try clear hb2)
           (try clear hk)
           (try clear hi)
           refine hK.out _ _ ⟨(blk_cell BK112.out 0).trans rfl, (blk_cell BK112.out 1).trans rfl, (blk_cell BK112.out 2).trans rfl⟩ (fun hHeld => ?_)
           clear hK K
           refine norm_ (a' := ?_) ?_ ?_
           rotate_left
           · show Act.put _ (some 30) _ = _
             simp only [Act.put, sb_, sz_, ss_, i64_w, i32_w]
             rfl
           refine pure_ (i := 6) (N := some 24) (v := ?_) (a' := ?_) #[Y, Y, Y, Y, Y, Y, Y, Z, Z, Y, Z, Z] rfl rfl (any_of HT_.out (by kernel_rfl)) (fun _ _ _ h => h) (Or.inl ⟨by rfl, ?_⟩) ?_ ?_
           rotate_left
           · intro w'
             go_simp
             with_reducible rfl
           rotate_left
           · simp only [Act.put, sb_, sz_, ss_, i64_w, i32_w]
             rfl
           refine pure_ (i := 7) (N := some 31) (v := ?_) (a' := ?_) #[Y, Y, Y, Y, Y, Y, Y, Y, Z, Y, Z, Z] rfl rfl (any_of HT_.out (by kernel_rfl)) (fun _ _ _ h => h) (Or.inl ⟨by rfl, ?_⟩) ?_ ?_
           rotate_left
           · intro w'
             go_simp
             with_reducible rfl
           rotate_left
           · simp only [Act.put, sb_, sz_, ss_, i64_w, i32_w]
             rfl
           refine pure_ (i := 8) (N := some 32) (v := ?_) (a' := ?_) #[Y, Y, Y, Y, Y, Y, Y, Y, Y, Y, Z, Z] rfl rfl (any_of HT_.out (by kernel_rfl)) (fun _ _ _ h => h) (Or.inl ⟨by rfl, ?_⟩) ?_ ?_
           rotate_left
           · intro w'
             go_simp
             with_reducible rfl
           rotate_left
           · simp only [Act.put, sb_, sz_, ss_, i64_w, i32_w]
             rfl
           exact norm_ (by simp only [putAll, Act.put, sb_, sz_, ss_]) (hCont (gb121) _ ⟨hHeld, (by (with_reducible repeat (first | refine blk_drewN ?_ _ | refine blk_drew ?_ | refine blk_alloc ?_ _)); exact BK109.out), (by (with_reducible repeat (first | refine blk_drewN ?_ _ | refine blk_drew ?_ | refine blk_alloc ?_ _)); exact BK112.out), (by (with_reducible repeat (first | refine blk_drewN ?_ _ | refine blk_drew ?_ | refine blk_alloc ?_ _)); exact BK121.out), GW121.out, GE121.out, NB109_121.out, NB121_109.out, NB112_121.out, NB121_112.out, (by repeat (first | (with_reducible first | exact HB.out | apply below_alloc | apply pw_below_drewN | apply below_drew1 | refine below_set ?_ GE109.out | refine below_set ?_ GE112.out | refine below_set ?_ GE121.out) | exact HB.out))⟩)
       rintro gb121 w27 ⟨hS_, h0_, h1_, h2_, h3_, h4_, h5_, h6_, h7_, h8_, h9_⟩
       have n0_ : Aside0 (w27.heap[gb109]? = some (.cells #[.int .i64 a0_0, .int .i64 a0_1, .int .i64 a0_2, .int .i64 a0_3, .int .i64 a0_4] 23 (0, 0))) := ⟨h0_⟩
       have n1_ : Aside0 (w27.heap[gb112]? = some (.cells #[.int .i64 ((rd_T41 l1 x19_2).f0), .bool ((rd_T41 l1 x19_2).f1), .int .i64 ((rd_T41 l1 x19_2).f2)] 41 (0, 0))) := ⟨h1_⟩
       have n2_ : Aside0 (w27.heap[gb121]? = some (.cells #[.int .i64 0, .bool false, .int .i64 0] 41 (0, 0))) := ⟨h2_⟩
       have n3_ : Aside0 (w.heap.size ≤ gb121) := ⟨h3_⟩
       have n4_ : Aside0 (w.heap.size ≤ gb121) := ⟨h4_⟩
       have n5_ : Aside0 (gb109 ≠ gb121) := ⟨h5_⟩
       have n6_ : Aside0 (gb121 ≠ gb109) := ⟨h6_⟩
       have n7_ : Aside0 (gb112 ≠ gb121) := ⟨h7_⟩
       have n8_ : Aside0 (gb121 ≠ gb112) := ⟨h8_⟩
       have n9_ : Aside0 (Below w.heap.size w w27) := ⟨h9_⟩
       clear BK109
       clear BK112
       clear HB
       clear h0_ h1_ h2_ h3_ h4_ h5_ h6_ h7_ h8_ h9_
       have BK109 := n0_
       have BK112 := n1_
       have BK121 := n2_
       have GW121 := n3_
       have GE121 := n4_
       have NB109_121 := n5_
       have NB121_109 := n6_
       have NB112_121 := n7_
       have NB121_112 := n8_
       have HB := n9_
       clear n0_ n1_ n2_ n3_ n4_ n5_ n6_ n7_ n8_ n9_
       have hHeld : w27.cell? ⟨gb112, 0, none⟩ = some (.int .i64 ((rd_T41 l1 x19_2).f0)) ∧ w27.cell? ⟨gb112, 1, none⟩ = some (.bool ((rd_T41 l1 x19_2).f1)) ∧ w27.cell? ⟨gb112, 2, none⟩ = some (.int .i64 ((rd_T41 l1 x19_2).f2)) := hS_
       refine norm_ (a' := ?_) ?_ ?_
       rotate_left
       · simp only [putAll, Act.put, sb_, sz_, ss_]
         rfl
       refine one_ (i := 10) (N := none) #[Y, Y, Y, Y, Y, Y, Y, Y, Y, Y, Y, Z] rfl rfl (one_of HT_.out (by kernel_rfl)) (by decide) (fun K hK => ?_)
       have hs28 : w27.cell? ⟨gb121, 0, none⟩ = some (.int .i64 0) := (blk_cell BK121.out 0).trans rfl
       have hfs28 := blk_frozen BK121.out 0
       have hns28_0 := NB109_121.out
       have hns28_1 := NB112_121.out
       have hms28_0 := NB121_109.out
       have hms28_1 := NB121_112.out
       have hs29 : w27.cell? ⟨gb121, 1, none⟩ = some (.bool false) := (blk_cell BK121.out 1).trans rfl
       have hfs29 := blk_frozen BK121.out 1
       have hns29_0 := NB109_121.out
       have hns29_1 := NB112_121.out
       have hms29_0 := NB121_109.out
       have hms29_1 := NB121_112.out
       have hs30 : w27.cell? ⟨gb121, 2, none⟩ = some (.int .i64 0) := (blk_cell BK121.out 2).trans rfl
       have hfs30 := blk_frozen BK121.out 2
       have hns30_0 := NB109_121.out
       have hns30_1 := NB112_121.out
       have hms30_0 := NB121_109.out
       have hms30_1 := NB121_112.out
       refine skip_ (w1 := ?_) (by rfl) rfl ?_ ?_
       rotate_left
       · go_simp
         rfl
       refine hK.out _ _ ⟨((cell_far (p := ⟨gb121, _, none⟩) NB112_121.out _).trans (((cell_far (p := ⟨gb121, _, none⟩) NB112_121.out _).trans (((cell_far (p := ⟨gb121, _, none⟩) NB112_121.out _).trans (hHeld.1)))))), ((cell_far (p := ⟨gb121, _, none⟩) NB112_121.out _).trans (((cell_far (p := ⟨gb121, _, none⟩) NB112_121.out _).trans (((cell_far (p := ⟨gb121, _, none⟩) NB112_121.out _).trans (hHeld.2.1)))))), ((cell_far (p := ⟨gb121, _, none⟩) NB112_121.out _).trans (((cell_far (p := ⟨gb121, _, none⟩) NB112_121.out _).trans (((cell_far (p := ⟨gb121, _, none⟩) NB112_121.out _).trans (hHeld.2.2))))))⟩ (fun hHeld => ?_)
       clear hK K
       refine pure_ (i := 11) (N := some 8) (v := ?_) (a' := ?_) #[Y, Y, Y, Y, Y, Y, Y, Y, Y, Y, Y, Y] rfl rfl (any_of HT_.out (by kernel_rfl)) (fun _ _ _ h => h) (Or.inl ⟨by rfl, ?_⟩) ?_ ?_
       rotate_left
       · intro w'
         go_simp
         with_reducible rfl
       rotate_left
       · simp only [Act.put, sb_, sz_, ss_, i64_w, i32_w]
         rfl
       refine done_ (done_of HT_.out (by kernel_rfl)) ?_
       try go_wp2
       go_ret
       exact ⟨by first | rfl | (simp [errW_none, errW_some] <;> rfl) | (simp [*, errW_none, errW_some] <;> rfl), by repeat (first | (with_reducible first | exact HB.out | apply below_alloc | apply pw_below_drewN | apply below_drew1 | refine below_set ?_ GE109.out | refine below_set ?_ GE112.out | refine below_set ?_ GE121.out) | exact HB.out)⟩
     replace c18 := Bool.eq_false_iff.mpr c18
     subst c18
     have H1 : (if ((rd_T41 l1 x19_2).f0) < 0 then (some false) else (if ((rd_T41 l1 x19_2).f0) ≥ a0_0 then (some false) else (if ((rd_T41 l1 x19_2).f2) < 0 then (some false) else (if ((rd_T41 l1 x19_2).f2) > 1073741824 then (some false) else (if (rd_T41 l1 x19_2).f1 = true then (if ((rd_T41 l1 x19_2).f2) = 0 then (plan_May.l0 k2 l1 l1 (l1.length : Int) (wrap64 (x19_2 + 1)) a0_0 a0_1 a0_2 a0_3 a0_4) else (some false)) else (plan_May.l0 k2 l1 l1 (l1.length : Int) (wrap64 (x19_2 + 1)) a0_0 a0_1 a0_2 a0_3 a0_4)))))) = some r := by rw [if_neg (show ¬ (false = true) by decide)] at H; exact H
     clear H; have H := H1; clear H1
     by_cases c31 : ((rd_T41 l1 x19_2).f0) < 0
     · rw [if_pos c31] at H
       have c31b0 : decide (((rd_T41 l1 x19_2).f0) < 0) = true := decide_eq_true c31
       clear c31
       obtain rfl := Option.some.inj H
       have p111 : 0 ≤ (x19_2 : Int) := of_decide_eq_true (by first | (with_reducible assumption) | assumption)
       have q111 : x19_2 < (l1.length : Int) := of_decide_eq_true (by first | (with_reducible assumption) | assumption)
       obtain ⟨ad111, e111, hx111_0, hx111_1, hx111_2⟩ := at_T41 HR1.out x19_2 p111 q111
       cases e111
       replace hx111_0 := (HB.out.cell (World.block_lt_of_cell? w _ hx111_0)).trans hx111_0
       replace hx111_1 := (HB.out.cell (World.block_lt_of_cell? w _ hx111_1)).trans hx111_1
       replace hx111_2 := (HB.out.cell (World.block_lt_of_cell? w _ hx111_2)).trans hx111_2
       replace p111 := eq_true p111
       replace q111 := eq_true q111
       try go_wp2_with (first | ((with_reducible refine gate_dst (N := 6) rfl ?_); (try (refine gate_guard (by rfl) ?_; dsimp only)); refine box_event ?hg (N := 6) ?hd (cs := #[.int .i64 0, .bool false, .int .i64 0]) (t := 41) ?hr ?_; (case hd => rfl); (case hg => rfl); (case hr => first | (go_simp; done) | (go_simp; rfl)); intro gb112 hg w32 hbox hb; have n0_ := Aside0.mk (blk_below (g := gb109) (o := .cells #[.int .i64 a0_0, .int .i64 a0_1, .int .i64 a0_2, .int .i64 a0_3, .int .i64 a0_4] 23 (0, 0)) (by (with_reducible repeat (first | refine blk_drewN ?_ _ | refine blk_drew ?_ | refine blk_alloc ?_ _)); exact BK109.out) hb); have n1_ := Aside0.mk (below_step (by repeat (first | (with_reducible first | exact HB.out | apply below_alloc | apply pw_below_drewN | apply below_drew1 | refine below_set ?_ GE109.out) | exact HB.out)) hb); have n2_ := Aside0.mk (hbox); have n3_ := Aside0.mk ((by rw [hg]; exact (below_size (by repeat (first | (with_reducible first | exact HB.out | apply below_alloc | apply pw_below_drewN | apply below_drew1 | refine below_set ?_ GE109.out) | exact HB.out))) : w.heap.size ≤ gb112)); have n4_ := Aside0.mk ((by rw [hg]; exact (below_size (by repeat (first | (with_reducible first | exact HB.out | apply below_alloc | apply pw_below_drewN | apply below_drew1 | refine below_set ?_ GE109.out) | exact HB.out))) : w.heap.size ≤ gb112)); have n5_ := Aside0.mk ((by rw [hg]; exact Nat.ne_of_lt (blk_lt (g := gb109) (o := .cells #[.int .i64 a0_0, .int .i64 a0_1, .int .i64 a0_2, .int .i64 a0_3, .int .i64 a0_4] 23 (0, 0)) (by (with_reducible repeat (first | refine blk_drewN ?_ _ | refine blk_drew ?_ | refine blk_alloc ?_ _)); exact BK109.out)) : gb109 ≠ gb112)); have n6_ := Aside0.mk ((by rw [hg]; exact Nat.ne_of_gt (blk_lt (g := gb109) (o := .cells #[.int .i64 a0_0, .int .i64 a0_1, .int .i64 a0_2, .int .i64 a0_3, .int .i64 a0_4] 23 (0, 0)) (by (with_reducible repeat (first | refine blk_drewN ?_ _ | refine blk_drew ?_ | refine blk_alloc ?_ _)); exact BK109.out)) : gb112 ≠ gb109)); clear BK109; clear HB; have BK109 := n0_; have HB := n1_; have BK112 := n2_; have GW112 := n3_; have GE112 := n4_; have NB109_112 := n5_; have NB112_109 := n6_; clear n0_ n1_ n2_ n3_ n4_ n5_ n6_; clear hb hbox hg; have hnb33 := NB112_109.out; have hnc33 := NB109_112.out; have hcz34_0 : w32.cell? ⟨gb112, 0, none⟩ = some (.int .i64 0) := (blk_cell BK112.out 0).trans rfl; have hcz34_1 : w32.cell? ⟨gb112, 1, none⟩ = some (.bool false) := (blk_cell BK112.out 1).trans rfl; have hcz34_2 : w32.cell? ⟨gb112, 2, none⟩ = some (.int .i64 0) := (blk_cell BK112.out 2).trans rfl; have hfz34_0 := blk_frozen BK112.out 0; have hfz34_1 := blk_frozen BK112.out 1; have hfz34_2 := blk_frozen BK112.out 2))
       have n0_ : Aside0 ((((w32.setCell ⟨gb112, 0, none⟩ (.int .i64 ((rd_T41 l1 x19_2).f0))).setCell ⟨gb112, 1, none⟩ (.bool ((rd_T41 l1 x19_2).f1))).setCell ⟨gb112, 2, none⟩ (.int .i64 ((rd_T41 l1 x19_2).f2))).heap[gb109]? = some (.cells #[.int .i64 a0_0, .int .i64 a0_1, .int .i64 a0_2, .int .i64 a0_3, .int .i64 a0_4] 23 (0, 0))) := ⟨by (with_reducible repeat (first | refine blk_drewN ?_ _ | refine blk_drew ?_ | refine blk_alloc ?_ _)); refine blk_far ?_ NB109_112.out _; (with_reducible repeat (first | refine blk_drewN ?_ _ | refine blk_drew ?_ | refine blk_alloc ?_ _)); refine blk_far ?_ NB109_112.out _; (with_reducible repeat (first | refine blk_drewN ?_ _ | refine blk_drew ?_ | refine blk_alloc ?_ _)); refine blk_far ?_ NB109_112.out _; (with_reducible repeat (first | refine blk_drewN ?_ _ | refine blk_drew ?_ | refine blk_alloc ?_ _)); exact BK109.out⟩
       have n1_ : Aside0 ((((w32.setCell ⟨gb112, 0, none⟩ (.int .i64 ((rd_T41 l1 x19_2).f0))).setCell ⟨gb112, 1, none⟩ (.bool ((rd_T41 l1 x19_2).f1))).setCell ⟨gb112, 2, none⟩ (.int .i64 ((rd_T41 l1 x19_2).f2))).heap[gb112]? = some (.cells #[.int .i64 ((rd_T41 l1 x19_2).f0), .bool ((rd_T41 l1 x19_2).f1), .int .i64 ((rd_T41 l1 x19_2).f2)] 41 (0, 0))) := ⟨by (with_reducible repeat (first | refine blk_drewN ?_ _ | refine blk_drew ?_ | refine blk_alloc ?_ _)); refine blk_put (cs := #[.int .i64 ((rd_T41 l1 x19_2).f0), .bool ((rd_T41 l1 x19_2).f1), .int .i64 0]) ?_ 2 _ rfl; (with_reducible repeat (first | refine blk_drewN ?_ _ | refine blk_drew ?_ | refine blk_alloc ?_ _)); refine blk_put (cs := #[.int .i64 ((rd_T41 l1 x19_2).f0), .bool false, .int .i64 0]) ?_ 1 _ rfl; (with_reducible repeat (first | refine blk_drewN ?_ _ | refine blk_drew ?_ | refine blk_alloc ?_ _)); refine blk_put (cs := #[.int .i64 0, .bool false, .int .i64 0]) ?_ 0 _ rfl; (with_reducible repeat (first | refine blk_drewN ?_ _ | refine blk_drew ?_ | refine blk_alloc ?_ _)); exact BK112.out⟩
       have n2_ : Aside0 (Below w.heap.size w (((w32.setCell ⟨gb112, 0, none⟩ (.int .i64 ((rd_T41 l1 x19_2).f0))).setCell ⟨gb112, 1, none⟩ (.bool ((rd_T41 l1 x19_2).f1))).setCell ⟨gb112, 2, none⟩ (.int .i64 ((rd_T41 l1 x19_2).f2)))) := ⟨by repeat (first | (with_reducible first | exact HB.out | apply below_alloc | apply pw_below_drewN | apply below_drew1 | refine below_set ?_ GE109.out | refine below_set ?_ GE112.out) | exact HB.out)⟩
       (try clear BK109)
       (try clear BK112)
       (try clear HB)
       generalize (((w32.setCell ⟨gb112, 0, none⟩ (.int .i64 ((rd_T41 l1 x19_2).f0))).setCell ⟨gb112, 1, none⟩ (.bool ((rd_T41 l1 x19_2).f1))).setCell ⟨gb112, 2, none⟩ (.int .i64 ((rd_T41 l1 x19_2).f2))) = w35 at n0_ n1_ n2_ ⊢
       have BK109 := n0_
       have BK112 := n1_
       have HB := n2_
       clear n0_ n1_ n2_
       have n0_ := Aside0.mk (blk_drew BK109.out)
       have n1_ := Aside0.mk (blk_drew BK112.out)
       have n2_ := Aside0.mk (below_drew1 HB.out)
       clear BK109
       clear BK112
       clear HB
       have BK109 := n0_
       have BK112 := n1_
       have HB := n2_
       clear n0_ n1_ n2_
       have q37 : (x19_2 : Int) ≤ ((l1.length : Int) : Int) := of_decide_eq_true (by first | (with_reducible assumption) | assumption)
       obtain ⟨i037, hi037, _, hsz37, _⟩ := info_parts info41
       have hroom37 : l1.length ≤ c1 := HC1.out
       have hC37 : Kd.C k41 _ (some ad111) l1.length l1 := HR1.out
       have hcut37 := cut_to (P := Try.prog) 33 41 .i64 Try.underlying33 hi037 (some ad111) l1.length c1 x19_2 (of_decide_eq_true (by first | (with_reducible assumption) | assumption)) q37 hroom37
       have hr37 := Kd.C_take (m := (x19_2 : Int).toNat) hC37 (by omega)
       have hy37 : y113.length = (x19_2 : Int).toNat := (by rw [Ny113.out, List.length_take]; omega)
       rw [← Ny113.out] at hr37
       rw [← hy37] at hcut37
       have HR116 := Aside0.mk hr37
       have HC116 := Aside0.mk (show y113.length ≤ c1 from by omega)
       clear hr37 hC37 hroom37 hi037 hsz37
       have KY37 := Aside0.mk hy37
       clear hy37
       replace q37 := eq_true q37
       refine start_ (n := 12) (S := fun w' => w'.cell? ⟨gb112, 0, none⟩ = some (.int .i64 ((rd_T41 l1 x19_2).f0)) ∧ w'.cell? ⟨gb112, 1, none⟩ = some (.bool ((rd_T41 l1 x19_2).f1)) ∧ w'.cell? ⟨gb112, 2, none⟩ = some (.int .i64 ((rd_T41 l1 x19_2).f2))) (ds := []) #[Z, Z, Z, Z, Z, Z, Z, Z, Z, Z, Z, Z] (by kernel_rfl) rfl rfl ⟨(blk_cell BK112.out 0).trans rfl, (blk_cell BK112.out 1).trans rfl, (blk_cell BK112.out 2).trans rfl⟩ (fun hHeld => ?_); refine with_tabW plan_May.tab6 plan_May.bits6 (fun HT_ HW_ => ?_)
       generalize w35.drew = w36 at BK109 BK112 HB HR116 hHeld ⊢
       refine pure_ (i := 0) (N := some 25) (v := ?_) (a' := ?_) #[Y, Z, Z, Z, Z, Z, Z, Z, Z, Z, Z, Z] rfl rfl (any_of HT_.out (by kernel_rfl)) (fun _ _ _ h => h) (Or.inl ⟨by rfl, ?_⟩) ?_ ?_
       rotate_left
       · intro w'
         go_simp
         with_reducible rfl
       rotate_left
       · simp only [Act.put, sb_, sz_, ss_, i64_w, i32_w]
         rfl
       refine pure_ (i := 1) (N := some 26) (v := ?_) (a' := ?_) #[Y, Y, Z, Z, Z, Z, Z, Z, Z, Z, Z, Z] rfl rfl (any_of HT_.out (by kernel_rfl)) (fun _ _ _ h => h) (Or.inl ⟨by rfl, ?_⟩) ?_ ?_
       rotate_left
       · intro w'
         go_simp
         with_reducible rfl
       rotate_left
       · simp only [Act.put, sb_, sz_, ss_, i64_w, i32_w]
         rfl
       refine pure_ (i := 2) (N := some 27) (v := ?_) (a' := ?_) #[Y, Y, Y, Z, Z, Z, Z, Z, Z, Z, Z, Z] rfl rfl (any_of HT_.out (by kernel_rfl)) (fun _ _ _ h => h) (Or.inl ⟨by rfl, ?_⟩) ?_ ?_
       rotate_left
       · intro w'
         go_simp
         with_reducible rfl
       rotate_left
       · simp only [Act.put, sb_, sz_, ss_, i64_w, i32_w]
         rfl
       refine pure_ (i := 3) (N := some 28) (v := ?_) (a' := ?_) #[Y, Y, Y, Y, Z, Z, Z, Z, Z, Z, Z, Z] rfl rfl (any_of HT_.out (by kernel_rfl)) (fun _ _ _ h => h) (Or.inl ⟨by rfl, ?_⟩) ?_ ?_
       rotate_left
       · intro w'
         go_simp
         with_reducible rfl
       rotate_left
       · simp only [Act.put, sb_, sz_, ss_, i64_w, i32_w]
         rfl
       refine take_ (i := 4) (N := some 29) (v := ?_) (a' := ?_) #[Y, Y, Y, Y, Y, Z, Z, Z, Z, Z, Z, Z] rfl rfl (take_ofW HT_.out HW_.out (by kernel_rfl)) (fun _ _ _ h => h) (Or.inl ⟨by rfl, ?_⟩) hHeld ?_ ?_
       rotate_left
       · rintro w' ⟨s0, s1, s2⟩
         go_simp
         with_reducible rfl
       rotate_left
       · simp only [Act.put, sb_, sz_, ss_, i64_w, i32_w]
         rfl
       refine join_ (σ := Nat) 2 #[Y, Y, Y, Y, Y, Y, Y, Y, Y, Y, Z, Z] (fun s_ => [(30, .tuple #[.agg #[.int .i64 t117, .bool t118, .int .i64 t119], .bool false]), (7, .pointer (some ⟨s_, 0, none⟩)), (24, .tuple #[.agg #[.int .i64 t117, .bool t118, .int .i64 t119], .bool false]), (31, .agg #[.int .i64 t117, .bool t118, .int .i64 t119]), (32, .bool false)]) (fun s_ w' => (w'.cell? ⟨gb112, 0, none⟩ = some (.int .i64 ((rd_T41 l1 x19_2).f0)) ∧ w'.cell? ⟨gb112, 1, none⟩ = some (.bool ((rd_T41 l1 x19_2).f1)) ∧ w'.cell? ⟨gb112, 2, none⟩ = some (.int .i64 ((rd_T41 l1 x19_2).f2))) ∧ (w'.heap[gb109]? = some (.cells #[.int .i64 a0_0, .int .i64 a0_1, .int .i64 a0_2, .int .i64 a0_3, .int .i64 a0_4] 23 (0, 0))) ∧ (w'.heap[gb112]? = some (.cells #[.int .i64 ((rd_T41 l1 x19_2).f0), .bool ((rd_T41 l1 x19_2).f1), .int .i64 ((rd_T41 l1 x19_2).f2)] 41 (0, 0))) ∧ (w'.heap[s_]? = some (.cells #[.int .i64 0, .bool false, .int .i64 0] 41 (0, 0))) ∧ (w.heap.size ≤ s_) ∧ (w.heap.size ≤ s_) ∧ (gb109 ≠ s_) ∧ (s_ ≠ gb109) ∧ (gb112 ≠ s_) ∧ (s_ ≠ gb112) ∧ (Below w.heap.size w w')) ?_ ?_
       rotate_left
       · intro hCont
         refine two_ (i := 5) (j := 9) (Ni := some 30) (Nj := some 7) #[Y, Y, Y, Y, Y, Y, Z, Z, Z, Z, Z, Z] #[Y, Y, Y, Y, Y, Z, Z, Z, Z, Y, Z, Z] rfl rfl rfl rfl (two_of HT_.out (by kernel_rfl)) (by decide) (by decide) (fun K hK => ?_) (fun K hK => ?_)
         · skip
           refine goes_ Try.func51 (by kernel_rfl) rfl #[.slice (some ad111) y113.length c1, .int .i64 ((rd_T41 l1 x19_2).f0)] (by rfl) rfl rfl (by (try simp only [List.map_toArray, List.map_cons, List.map_nil]); first | done | rfl | (simp only [List.length_drop, List.length_take]; rfl)) ?_
           with_reducible refine (plan_find.calls k2 _ _ y113 ((rd_T41 l1 x19_2).f0) t117 t118 t119 false _ ?side1 ?side2 A17.out).mono ?_
           (case side1 => repeat (first | exact (Kd.C_below HR116.out HB.out) | (with_reducible refine Kd.C_alloc ?_ _) | (with_reducible refine Kd.C_drewN ?_ _) | (with_reducible refine Kd.C_drew ?_)))
           (case side2 => exact HC116.out)
           rintro e w38 ⟨rfl, hb⟩
           refine ⟨_, rfl, ?_⟩
           have n0_ := Aside0.mk (blk_below (g := gb109) (o := .cells #[.int .i64 a0_0, .int .i64 a0_1, .int .i64 a0_2, .int .i64 a0_3, .int .i64 a0_4] 23 (0, 0)) (by (with_reducible repeat (first | refine blk_drewN ?_ _ | refine blk_drew ?_ | refine blk_alloc ?_ _)); exact BK109.out) hb)
           have n1_ := Aside0.mk (blk_below (g := gb112) (o := .cells #[.int .i64 ((rd_T41 l1 x19_2).f0), .bool ((rd_T41 l1 x19_2).f1), .int .i64 ((rd_T41 l1 x19_2).f2)] 41 (0, 0)) (by (with_reducible repeat (first | refine blk_drewN ?_ _ | refine blk_drew ?_ | refine blk_alloc ?_ _)); exact BK112.out) hb)
           have n2_ := Aside0.mk (below_step (by repeat (first | (with_reducible first | exact HB.out | apply below_alloc | apply pw_below_drewN | apply below_drew1 | refine below_set ?_ GE109.out | refine below_set ?_ GE112.out) | exact HB.out)) hb)
           clear BK109
           clear BK112
           clear HB
           have BK109 := n0_
           have BK112 := n1_
           have HB := n2_
           clear n0_ n1_ n2_
           (try clear hb)
           (try clear hb2)
           (try clear hk)
           (try clear hi)
           refine hK.out _ _ ⟨(blk_cell BK112.out 0).trans rfl, (blk_cell BK112.out 1).trans rfl, (blk_cell BK112.out 2).trans rfl⟩ (fun hHeld => ?_)
           clear hK K
           refine norm_ (a' := ?_) ?_ ?_
           rotate_left
           · show Act.put _ (some 30) _ = _
             simp only [Act.put, sb_, sz_, ss_, i64_w, i32_w]
             rfl
           refine pure_ (i := 6) (N := some 24) (v := ?_) (a' := ?_) #[Y, Y, Y, Y, Y, Y, Y, Z, Z, Z, Z, Z] rfl rfl (any_of HT_.out (by kernel_rfl)) (fun _ _ _ h => h) (Or.inl ⟨by rfl, ?_⟩) ?_ ?_
           rotate_left
           · intro w'
             go_simp
             with_reducible rfl
           rotate_left
           · simp only [Act.put, sb_, sz_, ss_, i64_w, i32_w]
             rfl
           refine pure_ (i := 7) (N := some 31) (v := ?_) (a' := ?_) #[Y, Y, Y, Y, Y, Y, Y, Y, Z, Z, Z, Z] rfl rfl (any_of HT_.out (by kernel_rfl)) (fun _ _ _ h => h) (Or.inl ⟨by rfl, ?_⟩) ?_ ?_
           rotate_left
           · intro w'
             go_simp
             with_reducible rfl
           rotate_left
           · simp only [Act.put, sb_, sz_, ss_, i64_w, i32_w]
             rfl
           refine pure_ (i := 8) (N := some 32) (v := ?_) (a' := ?_) #[Y, Y, Y, Y, Y, Y, Y, Y, Y, Z, Z, Z] rfl rfl (any_of HT_.out (by kernel_rfl)) (fun _ _ _ h => h) (Or.inl ⟨by rfl, ?_⟩) ?_ ?_
           rotate_left
           · intro w'
             go_simp
             with_reducible rfl
           rotate_left
           · simp only [Act.put, sb_, sz_, ss_, i64_w, i32_w]
             rfl
           refine one_ (i := 9) (N := some 7) #[Y, Y, Y, Y, Y, Y, Y, Y, Y, Y, Z, Z] rfl rfl (one_of HT_.out (by kernel_rfl)) (by decide) (fun K hK => ?_)
           refine box_step ?hg (N := 7) ?hd (cs := #[.int .i64 0, .bool false, .int .i64 0]) (t := 41) ?hr ?_; (case hd => rfl); (case hg => rfl); (case hr => first | (go_simp; done) | (go_simp; rfl))
           intro gb121 hg w39 hbox hb
           have n0_ := Aside0.mk (blk_below (g := gb109) (o := .cells #[.int .i64 a0_0, .int .i64 a0_1, .int .i64 a0_2, .int .i64 a0_3, .int .i64 a0_4] 23 (0, 0)) (by (with_reducible repeat (first | refine blk_drewN ?_ _ | refine blk_drew ?_ | refine blk_alloc ?_ _)); exact BK109.out) hb)
           have n1_ := Aside0.mk (blk_below (g := gb112) (o := .cells #[.int .i64 ((rd_T41 l1 x19_2).f0), .bool ((rd_T41 l1 x19_2).f1), .int .i64 ((rd_T41 l1 x19_2).f2)] 41 (0, 0)) (by (with_reducible repeat (first | refine blk_drewN ?_ _ | refine blk_drew ?_ | refine blk_alloc ?_ _)); exact BK112.out) hb)
           have n2_ := Aside0.mk (below_step (by repeat (first | (with_reducible first | exact HB.out | apply below_alloc | apply pw_below_drewN | apply below_drew1 | refine below_set ?_ GE109.out | refine below_set ?_ GE112.out) | exact HB.out)) hb)
           have n3_ := Aside0.mk (hbox)
           have n4_ := Aside0.mk ((by rw [hg]; exact (below_size (by repeat (first | (with_reducible first | exact HB.out | apply below_alloc | apply pw_below_drewN | apply below_drew1 | refine below_set ?_ GE109.out | refine below_set ?_ GE112.out) | exact HB.out))) : w.heap.size ≤ gb121))
           have n5_ := Aside0.mk ((by rw [hg]; exact (below_size (by repeat (first | (with_reducible first | exact HB.out | apply below_alloc | apply pw_below_drewN | apply below_drew1 | refine below_set ?_ GE109.out | refine below_set ?_ GE112.out) | exact HB.out))) : w.heap.size ≤ gb121))
           have n6_ := Aside0.mk ((by rw [hg]; exact Nat.ne_of_lt (blk_lt (g := gb109) (o := .cells #[.int .i64 a0_0, .int .i64 a0_1, .int .i64 a0_2, .int .i64 a0_3, .int .i64 a0_4] 23 (0, 0)) (by (with_reducible repeat (first | refine blk_drewN ?_ _ | refine blk_drew ?_ | refine blk_alloc ?_ _)); exact BK109.out)) : gb109 ≠ gb121))
           have n7_ := Aside0.mk ((by rw [hg]; exact Nat.ne_of_gt (blk_lt (g := gb109) (o := .cells #[.int .i64 a0_0, .int .i64 a0_1, .int .i64 a0_2, .int .i64 a0_3, .int .i64 a0_4] 23 (0, 0)) (by (with_reducible repeat (first | refine blk_drewN ?_ _ | refine blk_drew ?_ | refine blk_alloc ?_ _)); exact BK109.out)) : gb121 ≠ gb109))
           have n8_ := Aside0.mk ((by rw [hg]; exact Nat.ne_of_lt (blk_lt (g := gb112) (o := .cells #[.int .i64 ((rd_T41 l1 x19_2).f0), .bool ((rd_T41 l1 x19_2).f1), .int .i64 ((rd_T41 l1 x19_2).f2)] 41 (0, 0)) (by (with_reducible repeat (first | refine blk_drewN ?_ _ | refine blk_drew ?_ | refine blk_alloc ?_ _)); exact BK112.out)) : gb112 ≠ gb121))
           have n9_ := Aside0.mk ((by rw [hg]; exact Nat.ne_of_gt (blk_lt (g := gb112) (o := .cells #[.int .i64 ((rd_T41 l1 x19_2).f0), .bool ((rd_T41 l1 x19_2).f1), .int .i64 ((rd_T41 l1 x19_2).f2)] 41 (0, 0)) (by (with_reducible repeat (first | refine blk_drewN ?_ _ | refine blk_drew ?_ | refine blk_alloc ?_ _)); exact BK112.out)) : gb121 ≠ gb112))
           clear BK109
           clear BK112
           clear HB
           have BK109 := n0_
           have BK112 := n1_
           have HB := n2_
           have BK121 := n3_
           have GW121 := n4_
           have GE121 := n5_
           have NB109_121 := n6_
           have NB121_109 := n7_
           have NB112_121 := n8_
           have NB121_112 := n9_
           clear n0_ n1_ n2_ n3_ n4_ n5_ n6_ n7_ n8_ n9_
           clear hb hbox hg
           refine hK.out _ _ ⟨(blk_cell BK112.out 0).trans rfl, (blk_cell BK112.out 1).trans rfl, (blk_cell BK112.out 2).trans rfl⟩ (fun hHeld => ?_)
           clear hK K
           refine norm_ (a' := ?_) ?_ ?_
           rotate_left
           · show Act.put _ (some 7) _ = _
             simp only [Act.put, sb_, sz_, ss_, i64_w, i32_w]
             rfl
           exact norm_ (by simp only [putAll, Act.put, sb_, sz_, ss_]) (hCont (gb121) _ ⟨hHeld, (by (with_reducible repeat (first | refine blk_drewN ?_ _ | refine blk_drew ?_ | refine blk_alloc ?_ _)); exact BK109.out), (by (with_reducible repeat (first | refine blk_drewN ?_ _ | refine blk_drew ?_ | refine blk_alloc ?_ _)); exact BK112.out), (by (with_reducible repeat (first | refine blk_drewN ?_ _ | refine blk_drew ?_ | refine blk_alloc ?_ _)); exact BK121.out), GW121.out, GE121.out, NB109_121.out, NB121_109.out, NB112_121.out, NB121_112.out, (by repeat (first | (with_reducible first | exact HB.out | apply below_alloc | apply pw_below_drewN | apply below_drew1 | refine below_set ?_ GE109.out | refine below_set ?_ GE112.out | refine below_set ?_ GE121.out) | exact HB.out))⟩)
         · skip
           refine box_step ?hg (N := 7) ?hd (cs := #[.int .i64 0, .bool false, .int .i64 0]) (t := 41) ?hr ?_; (case hd => rfl); (case hg => rfl); (case hr => first | (go_simp; done) | (go_simp; rfl))
           intro gb121 hg w38 hbox hb
           have n0_ := Aside0.mk (blk_below (g := gb109) (o := .cells #[.int .i64 a0_0, .int .i64 a0_1, .int .i64 a0_2, .int .i64 a0_3, .int .i64 a0_4] 23 (0, 0)) (by (with_reducible repeat (first | refine blk_drewN ?_ _ | refine blk_drew ?_ | refine blk_alloc ?_ _)); exact BK109.out) hb)
           have n1_ := Aside0.mk (blk_below (g := gb112) (o := .cells #[.int .i64 ((rd_T41 l1 x19_2).f0), .bool ((rd_T41 l1 x19_2).f1), .int .i64 ((rd_T41 l1 x19_2).f2)] 41 (0, 0)) (by (with_reducible repeat (first | refine blk_drewN ?_ _ | refine blk_drew ?_ | refine blk_alloc ?_ _)); exact BK112.out) hb)
           have n2_ := Aside0.mk (below_step (by repeat (first | (with_reducible first | exact HB.out | apply below_alloc | apply pw_below_drewN | apply below_drew1 | refine below_set ?_ GE109.out | refine below_set ?_ GE112.out) | exact HB.out)) hb)
           have n3_ := Aside0.mk (hbox)
           have n4_ := Aside0.mk ((by rw [hg]; exact (below_size (by repeat (first | (with_reducible first | exact HB.out | apply below_alloc | apply pw_below_drewN | apply below_drew1 | refine below_set ?_ GE109.out | refine below_set ?_ GE112.out) | exact HB.out))) : w.heap.size ≤ gb121))
           have n5_ := Aside0.mk ((by rw [hg]; exact (below_size (by repeat (first | (with_reducible first | exact HB.out | apply below_alloc | apply pw_below_drewN | apply below_drew1 | refine below_set ?_ GE109.out | refine below_set ?_ GE112.out) | exact HB.out))) : w.heap.size ≤ gb121))
           have n6_ := Aside0.mk ((by rw [hg]; exact Nat.ne_of_lt (blk_lt (g := gb109) (o := .cells #[.int .i64 a0_0, .int .i64 a0_1, .int .i64 a0_2, .int .i64 a0_3, .int .i64 a0_4] 23 (0, 0)) (by (with_reducible repeat (first | refine blk_drewN ?_ _ | refine blk_drew ?_ | refine blk_alloc ?_ _)); exact BK109.out)) : gb109 ≠ gb121))
           have n7_ := Aside0.mk ((by rw [hg]; exact Nat.ne_of_gt (blk_lt (g := gb109) (o := .cells #[.int .i64 a0_0, .int .i64 a0_1, .int .i64 a0_2, .int .i64 a0_3, .int .i64 a0_4] 23 (0, 0)) (by (with_reducible repeat (first | refine blk_drewN ?_ _ | refine blk_drew ?_ | refine blk_alloc ?_ _)); exact BK109.out)) : gb121 ≠ gb109))
           have n8_ := Aside0.mk ((by rw [hg]; exact Nat.ne_of_lt (blk_lt (g := gb112) (o := .cells #[.int .i64 ((rd_T41 l1 x19_2).f0), .bool ((rd_T41 l1 x19_2).f1), .int .i64 ((rd_T41 l1 x19_2).f2)] 41 (0, 0)) (by (with_reducible repeat (first | refine blk_drewN ?_ _ | refine blk_drew ?_ | refine blk_alloc ?_ _)); exact BK112.out)) : gb112 ≠ gb121))
           have n9_ := Aside0.mk ((by rw [hg]; exact Nat.ne_of_gt (blk_lt (g := gb112) (o := .cells #[.int .i64 ((rd_T41 l1 x19_2).f0), .bool ((rd_T41 l1 x19_2).f1), .int .i64 ((rd_T41 l1 x19_2).f2)] 41 (0, 0)) (by (with_reducible repeat (first | refine blk_drewN ?_ _ | refine blk_drew ?_ | refine blk_alloc ?_ _)); exact BK112.out)) : gb121 ≠ gb112))
           clear BK109
           clear BK112
           clear HB
           have BK109 := n0_
           have BK112 := n1_
           have HB := n2_
           have BK121 := n3_
           have GW121 := n4_
           have GE121 := n5_
           have NB109_121 := n6_
           have NB121_109 := n7_
           have NB112_121 := n8_
           have NB121_112 := n9_
           clear n0_ n1_ n2_ n3_ n4_ n5_ n6_ n7_ n8_ n9_
           clear hb hbox hg
           refine hK.out _ _ ⟨(blk_cell BK112.out 0).trans rfl, (blk_cell BK112.out 1).trans rfl, (blk_cell BK112.out 2).trans rfl⟩ (fun hHeld => ?_)
           clear hK K
           refine norm_ (a' := ?_) ?_ ?_
           rotate_left
           · show Act.put _ (some 7) _ = _
             simp only [Act.put, sb_, sz_, ss_, i64_w, i32_w]
             rfl
           refine one_ (i := 5) (N := some 30) #[Y, Y, Y, Y, Y, Y, Z, Z, Z, Y, Z, Z] rfl rfl (one_of HT_.out (by kernel_rfl)) (by decide) (fun K hK => ?_)
           refine goes_ Try.func51 (by kernel_rfl) rfl #[.slice (some ad111) y113.length c1, .int .i64 ((rd_T41 l1 x19_2).f0)] (by rfl) rfl rfl (by (try simp only [List.map_toArray, List.map_cons, List.map_nil]); first | done | rfl | (simp only [List.length_drop, List.length_take]; rfl)) ?_
           with_reducible refine (plan_find.calls k2 _ _ y113 ((rd_T41 l1 x19_2).f0) t117 t118 t119 false _ ?side1 ?side2 A17.out).mono ?_
           (case side1 => repeat (first | exact (Kd.C_below HR116.out HB.out) | (with_reducible refine Kd.C_alloc ?_ _) | (with_reducible refine Kd.C_drewN ?_ _) | (with_reducible refine Kd.C_drew ?_)))
           (case side2 => exact HC116.out)
           rintro e w39 ⟨rfl, hb⟩
           refine ⟨_, rfl, ?_⟩
           have n0_ := Aside0.mk (blk_below (g := gb109) (o := .cells #[.int .i64 a0_0, .int .i64 a0_1, .int .i64 a0_2, .int .i64 a0_3, .int .i64 a0_4] 23 (0, 0)) (by (with_reducible repeat (first | refine blk_drewN ?_ _ | refine blk_drew ?_ | refine blk_alloc ?_ _)); exact BK109.out) hb)
           have n1_ := Aside0.mk (blk_below (g := gb112) (o := .cells #[.int .i64 ((rd_T41 l1 x19_2).f0), .bool ((rd_T41 l1 x19_2).f1), .int .i64 ((rd_T41 l1 x19_2).f2)] 41 (0, 0)) (by (with_reducible repeat (first | refine blk_drewN ?_ _ | refine blk_drew ?_ | refine blk_alloc ?_ _)); exact BK112.out) hb)
           have n2_ := Aside0.mk (blk_below (g := gb121) (o := .cells #[.int .i64 0, .bool false, .int .i64 0] 41 (0, 0)) (by (with_reducible repeat (first | refine blk_drewN ?_ _ | refine blk_drew ?_ | refine blk_alloc ?_ _)); exact BK121.out) hb)
           have n3_ := Aside0.mk (below_step (by repeat (first | (with_reducible first | exact HB.out | apply below_alloc | apply pw_below_drewN | apply below_drew1 | refine below_set ?_ GE109.out | refine below_set ?_ GE112.out | refine below_set ?_ GE121.out) | exact HB.out)) hb)
           clear BK109
           clear BK112
           clear BK121
           clear HB
           have BK109 := n0_
           have BK112 := n1_
           have BK121 := n2_
           have HB := n3_
           clear n0_ n1_ n2_ n3_
           (try clear hb)
           (try clear hb2)
           (try clear hk)
           (try clear hi)
           refine hK.out _ _ ⟨(blk_cell BK112.out 0).trans rfl, (blk_cell BK112.out 1).trans rfl, (blk_cell BK112.out 2).trans rfl⟩ (fun hHeld => ?_)
           clear hK K
           refine norm_ (a' := ?_) ?_ ?_
           rotate_left
           · show Act.put _ (some 30) _ = _
             simp only [Act.put, sb_, sz_, ss_, i64_w, i32_w]
             rfl
           refine pure_ (i := 6) (N := some 24) (v := ?_) (a' := ?_) #[Y, Y, Y, Y, Y, Y, Y, Z, Z, Y, Z, Z] rfl rfl (any_of HT_.out (by kernel_rfl)) (fun _ _ _ h => h) (Or.inl ⟨by rfl, ?_⟩) ?_ ?_
           rotate_left
           · intro w'
             go_simp
             with_reducible rfl
           rotate_left
           · simp only [Act.put, sb_, sz_, ss_, i64_w, i32_w]
             rfl
           refine pure_ (i := 7) (N := some 31) (v := ?_) (a' := ?_) #[Y, Y, Y, Y, Y, Y, Y, Y, Z, Y, Z, Z] rfl rfl (any_of HT_.out (by kernel_rfl)) (fun _ _ _ h => h) (Or.inl ⟨by rfl, ?_⟩) ?_ ?_
           rotate_left
           · intro w'
             go_simp
             with_reducible rfl
           rotate_left
           · simp only [Act.put, sb_, sz_, ss_, i64_w, i32_w]
             rfl
           refine pure_ (i := 8) (N := some 32) (v := ?_) (a' := ?_) #[Y, Y, Y, Y, Y, Y, Y, Y, Y, Y, Z, Z] rfl rfl (any_of HT_.out (by kernel_rfl)) (fun _ _ _ h => h) (Or.inl ⟨by rfl, ?_⟩) ?_ ?_
           rotate_left
           · intro w'
             go_simp
             with_reducible rfl
           rotate_left
           · simp only [Act.put, sb_, sz_, ss_, i64_w, i32_w]
             rfl
           exact norm_ (by simp only [putAll, Act.put, sb_, sz_, ss_]) (hCont (gb121) _ ⟨hHeld, (by (with_reducible repeat (first | refine blk_drewN ?_ _ | refine blk_drew ?_ | refine blk_alloc ?_ _)); exact BK109.out), (by (with_reducible repeat (first | refine blk_drewN ?_ _ | refine blk_drew ?_ | refine blk_alloc ?_ _)); exact BK112.out), (by (with_reducible repeat (first | refine blk_drewN ?_ _ | refine blk_drew ?_ | refine blk_alloc ?_ _)); exact BK121.out), GW121.out, GE121.out, NB109_121.out, NB121_109.out, NB112_121.out, NB121_112.out, (by repeat (first | (with_reducible first | exact HB.out | apply below_alloc | apply pw_below_drewN | apply below_drew1 | refine below_set ?_ GE109.out | refine below_set ?_ GE112.out | refine below_set ?_ GE121.out) | exact HB.out))⟩)
       rintro gb121 w40 ⟨hS_, h0_, h1_, h2_, h3_, h4_, h5_, h6_, h7_, h8_, h9_⟩
       have n0_ : Aside0 (w40.heap[gb109]? = some (.cells #[.int .i64 a0_0, .int .i64 a0_1, .int .i64 a0_2, .int .i64 a0_3, .int .i64 a0_4] 23 (0, 0))) := ⟨h0_⟩
       have n1_ : Aside0 (w40.heap[gb112]? = some (.cells #[.int .i64 ((rd_T41 l1 x19_2).f0), .bool ((rd_T41 l1 x19_2).f1), .int .i64 ((rd_T41 l1 x19_2).f2)] 41 (0, 0))) := ⟨h1_⟩
       have n2_ : Aside0 (w40.heap[gb121]? = some (.cells #[.int .i64 0, .bool false, .int .i64 0] 41 (0, 0))) := ⟨h2_⟩
       have n3_ : Aside0 (w.heap.size ≤ gb121) := ⟨h3_⟩
       have n4_ : Aside0 (w.heap.size ≤ gb121) := ⟨h4_⟩
       have n5_ : Aside0 (gb109 ≠ gb121) := ⟨h5_⟩
       have n6_ : Aside0 (gb121 ≠ gb109) := ⟨h6_⟩
       have n7_ : Aside0 (gb112 ≠ gb121) := ⟨h7_⟩
       have n8_ : Aside0 (gb121 ≠ gb112) := ⟨h8_⟩
       have n9_ : Aside0 (Below w.heap.size w w40) := ⟨h9_⟩
       clear BK109
       clear BK112
       clear HB
       clear h0_ h1_ h2_ h3_ h4_ h5_ h6_ h7_ h8_ h9_
       have BK109 := n0_
       have BK112 := n1_
       have BK121 := n2_
       have GW121 := n3_
       have GE121 := n4_
       have NB109_121 := n5_
       have NB121_109 := n6_
       have NB112_121 := n7_
       have NB121_112 := n8_
       have HB := n9_
       clear n0_ n1_ n2_ n3_ n4_ n5_ n6_ n7_ n8_ n9_
       have hHeld : w40.cell? ⟨gb112, 0, none⟩ = some (.int .i64 ((rd_T41 l1 x19_2).f0)) ∧ w40.cell? ⟨gb112, 1, none⟩ = some (.bool ((rd_T41 l1 x19_2).f1)) ∧ w40.cell? ⟨gb112, 2, none⟩ = some (.int .i64 ((rd_T41 l1 x19_2).f2)) := hS_
       refine norm_ (a' := ?_) ?_ ?_
       rotate_left
       · simp only [putAll, Act.put, sb_, sz_, ss_]
         rfl
       refine one_ (i := 10) (N := none) #[Y, Y, Y, Y, Y, Y, Y, Y, Y, Y, Y, Z] rfl rfl (one_of HT_.out (by kernel_rfl)) (by decide) (fun K hK => ?_)
       have hs41 : w40.cell? ⟨gb121, 0, none⟩ = some (.int .i64 0) := (blk_cell BK121.out 0).trans rfl
       have hfs41 := blk_frozen BK121.out 0
       have hns41_0 := NB109_121.out
       have hns41_1 := NB112_121.out
       have hms41_0 := NB121_109.out
       have hms41_1 := NB121_112.out
       have hs42 : w40.cell? ⟨gb121, 1, none⟩ = some (.bool false) := (blk_cell BK121.out 1).trans rfl
       have hfs42 := blk_frozen BK121.out 1
       have hns42_0 := NB109_121.out
       have hns42_1 := NB112_121.out
       have hms42_0 := NB121_109.out
       have hms42_1 := NB121_112.out
       have hs43 : w40.cell? ⟨gb121, 2, none⟩ = some (.int .i64 0) := (blk_cell BK121.out 2).trans rfl
       have hfs43 := blk_frozen BK121.out 2
       have hns43_0 := NB109_121.out
       have hns43_1 := NB112_121.out
       have hms43_0 := NB121_109.out
       have hms43_1 := NB121_112.out
       refine skip_ (w1 := ?_) (by rfl) rfl ?_ ?_
       rotate_left
       · go_simp
         rfl
       refine hK.out _ _ ⟨((cell_far (p := ⟨gb121, _, none⟩) NB112_121.out _).trans (((cell_far (p := ⟨gb121, _, none⟩) NB112_121.out _).trans (((cell_far (p := ⟨gb121, _, none⟩) NB112_121.out _).trans (hHeld.1)))))), ((cell_far (p := ⟨gb121, _, none⟩) NB112_121.out _).trans (((cell_far (p := ⟨gb121, _, none⟩) NB112_121.out _).trans (((cell_far (p := ⟨gb121, _, none⟩) NB112_121.out _).trans (hHeld.2.1)))))), ((cell_far (p := ⟨gb121, _, none⟩) NB112_121.out _).trans (((cell_far (p := ⟨gb121, _, none⟩) NB112_121.out _).trans (((cell_far (p := ⟨gb121, _, none⟩) NB112_121.out _).trans (hHeld.2.2))))))⟩ (fun hHeld => ?_)
       clear hK K
       refine pure_ (i := 11) (N := some 8) (v := ?_) (a' := ?_) #[Y, Y, Y, Y, Y, Y, Y, Y, Y, Y, Y, Y] rfl rfl (any_of HT_.out (by kernel_rfl)) (fun _ _ _ h => h) (Or.inl ⟨by rfl, ?_⟩) ?_ ?_
       rotate_left
       · intro w'
         go_simp
         with_reducible rfl
       rotate_left
       · simp only [Act.put, sb_, sz_, ss_, i64_w, i32_w]
         rfl
       refine done_ (done_of HT_.out (by kernel_rfl)) ?_
       have hnb44 := NB112_121.out
       have hnc44 := NB121_112.out
       have hcz45_0 : w40.cell? ⟨gb112, 0, none⟩ = some (.int .i64 ((rd_T41 l1 x19_2).f0)) := (blk_cell BK112.out 0).trans rfl
       have hcz45_1 : w40.cell? ⟨gb112, 1, none⟩ = some (.bool ((rd_T41 l1 x19_2).f1)) := (blk_cell BK112.out 1).trans rfl
       have hcz45_2 : w40.cell? ⟨gb112, 2, none⟩ = some (.int .i64 ((rd_T41 l1 x19_2).f2)) := (blk_cell BK112.out 2).trans rfl
       have hfz45_0 := blk_frozen BK112.out 0
       have hfz45_1 := blk_frozen BK112.out 1
       have hfz45_2 := blk_frozen BK112.out 2
       try go_wp2
       go_ret
       exact ⟨by first | rfl | (simp [errW_none, errW_some] <;> rfl) | (simp [*, errW_none, errW_some] <;> rfl), by repeat (first | (with_reducible first | exact HB.out | apply below_alloc | apply pw_below_drewN | apply below_drew1 | refine below_set ?_ GE109.out | refine below_set ?_ GE112.out | refine below_set ?_ GE121.out) | exact HB.out)⟩
     rw [if_neg c31] at H
     have c31b0 : decide (((rd_T41 l1 x19_2).f0) < 0) = false := decide_eq_false c31
     clear c31
     by_cases c46 : ((rd_T41 l1 x19_2).f0) ≥ a0_0
     · rw [if_pos c46] at H
       have c46b0 : decide (a0_0 ≤ ((rd_T41 l1 x19_2).f0)) = true := decide_eq_true c46
       clear c46
       obtain rfl := Option.some.inj H
       have p111 : 0 ≤ (x19_2 : Int) := of_decide_eq_true (by first | (with_reducible assumption) | assumption)
       have q111 : x19_2 < (l1.length : Int) := of_decide_eq_true (by first | (with_reducible assumption) | assumption)
       obtain ⟨ad111, e111, hx111_0, hx111_1, hx111_2⟩ := at_T41 HR1.out x19_2 p111 q111
       cases e111
       replace hx111_0 := (HB.out.cell (World.block_lt_of_cell? w _ hx111_0)).trans hx111_0
       replace hx111_1 := (HB.out.cell (World.block_lt_of_cell? w _ hx111_1)).trans hx111_1
       replace hx111_2 := (HB.out.cell (World.block_lt_of_cell? w _ hx111_2)).trans hx111_2
       replace p111 := eq_true p111
       replace q111 := eq_true q111
       try go_wp2_with (first | ((with_reducible refine gate_dst (N := 6) rfl ?_); (try (refine gate_guard (by rfl) ?_; dsimp only)); refine box_event ?hg (N := 6) ?hd (cs := #[.int .i64 0, .bool false, .int .i64 0]) (t := 41) ?hr ?_; (case hd => rfl); (case hg => rfl); (case hr => first | (go_simp; done) | (go_simp; rfl)); intro gb112 hg w47 hbox hb; have n0_ := Aside0.mk (blk_below (g := gb109) (o := .cells #[.int .i64 a0_0, .int .i64 a0_1, .int .i64 a0_2, .int .i64 a0_3, .int .i64 a0_4] 23 (0, 0)) (by (with_reducible repeat (first | refine blk_drewN ?_ _ | refine blk_drew ?_ | refine blk_alloc ?_ _)); exact BK109.out) hb); have n1_ := Aside0.mk (below_step (by repeat (first | (with_reducible first | exact HB.out | apply below_alloc | apply pw_below_drewN | apply below_drew1 | refine below_set ?_ GE109.out) | exact HB.out)) hb); have n2_ := Aside0.mk (hbox); have n3_ := Aside0.mk ((by rw [hg]; exact (below_size (by repeat (first | (with_reducible first | exact HB.out | apply below_alloc | apply pw_below_drewN | apply below_drew1 | refine below_set ?_ GE109.out) | exact HB.out))) : w.heap.size ≤ gb112)); have n4_ := Aside0.mk ((by rw [hg]; exact (below_size (by repeat (first | (with_reducible first | exact HB.out | apply below_alloc | apply pw_below_drewN | apply below_drew1 | refine below_set ?_ GE109.out) | exact HB.out))) : w.heap.size ≤ gb112)); have n5_ := Aside0.mk ((by rw [hg]; exact Nat.ne_of_lt (blk_lt (g := gb109) (o := .cells #[.int .i64 a0_0, .int .i64 a0_1, .int .i64 a0_2, .int .i64 a0_3, .int .i64 a0_4] 23 (0, 0)) (by (with_reducible repeat (first | refine blk_drewN ?_ _ | refine blk_drew ?_ | refine blk_alloc ?_ _)); exact BK109.out)) : gb109 ≠ gb112)); have n6_ := Aside0.mk ((by rw [hg]; exact Nat.ne_of_gt (blk_lt (g := gb109) (o := .cells #[.int .i64 a0_0, .int .i64 a0_1, .int .i64 a0_2, .int .i64 a0_3, .int .i64 a0_4] 23 (0, 0)) (by (with_reducible repeat (first | refine blk_drewN ?_ _ | refine blk_drew ?_ | refine blk_alloc ?_ _)); exact BK109.out)) : gb112 ≠ gb109)); clear BK109; clear HB; have BK109 := n0_; have HB := n1_; have BK112 := n2_; have GW112 := n3_; have GE112 := n4_; have NB109_112 := n5_; have NB112_109 := n6_; clear n0_ n1_ n2_ n3_ n4_ n5_ n6_; clear hb hbox hg; have hnb48 := NB112_109.out; have hnc48 := NB109_112.out; have hcz49_0 : w47.cell? ⟨gb112, 0, none⟩ = some (.int .i64 0) := (blk_cell BK112.out 0).trans rfl; have hcz49_1 : w47.cell? ⟨gb112, 1, none⟩ = some (.bool false) := (blk_cell BK112.out 1).trans rfl; have hcz49_2 : w47.cell? ⟨gb112, 2, none⟩ = some (.int .i64 0) := (blk_cell BK112.out 2).trans rfl; have hfz49_0 := blk_frozen BK112.out 0; have hfz49_1 := blk_frozen BK112.out 1; have hfz49_2 := blk_frozen BK112.out 2))
       have n0_ : Aside0 ((((w47.setCell ⟨gb112, 0, none⟩ (.int .i64 ((rd_T41 l1 x19_2).f0))).setCell ⟨gb112, 1, none⟩ (.bool ((rd_T41 l1 x19_2).f1))).setCell ⟨gb112, 2, none⟩ (.int .i64 ((rd_T41 l1 x19_2).f2))).heap[gb109]? = some (.cells #[.int .i64 a0_0, .int .i64 a0_1, .int .i64 a0_2, .int .i64 a0_3, .int .i64 a0_4] 23 (0, 0))) := ⟨by (with_reducible repeat (first | refine blk_drewN ?_ _ | refine blk_drew ?_ | refine blk_alloc ?_ _)); refine blk_far ?_ NB109_112.out _; (with_reducible repeat (first | refine blk_drewN ?_ _ | refine blk_drew ?_ | refine blk_alloc ?_ _)); refine blk_far ?_ NB109_112.out _; (with_reducible repeat (first | refine blk_drewN ?_ _ | refine blk_drew ?_ | refine blk_alloc ?_ _)); refine blk_far ?_ NB109_112.out _; (with_reducible repeat (first | refine blk_drewN ?_ _ | refine blk_drew ?_ | refine blk_alloc ?_ _)); exact BK109.out⟩
       have n1_ : Aside0 ((((w47.setCell ⟨gb112, 0, none⟩ (.int .i64 ((rd_T41 l1 x19_2).f0))).setCell ⟨gb112, 1, none⟩ (.bool ((rd_T41 l1 x19_2).f1))).setCell ⟨gb112, 2, none⟩ (.int .i64 ((rd_T41 l1 x19_2).f2))).heap[gb112]? = some (.cells #[.int .i64 ((rd_T41 l1 x19_2).f0), .bool ((rd_T41 l1 x19_2).f1), .int .i64 ((rd_T41 l1 x19_2).f2)] 41 (0, 0))) := ⟨by (with_reducible repeat (first | refine blk_drewN ?_ _ | refine blk_drew ?_ | refine blk_alloc ?_ _)); refine blk_put (cs := #[.int .i64 ((rd_T41 l1 x19_2).f0), .bool ((rd_T41 l1 x19_2).f1), .int .i64 0]) ?_ 2 _ rfl; (with_reducible repeat (first | refine blk_drewN ?_ _ | refine blk_drew ?_ | refine blk_alloc ?_ _)); refine blk_put (cs := #[.int .i64 ((rd_T41 l1 x19_2).f0), .bool false, .int .i64 0]) ?_ 1 _ rfl; (with_reducible repeat (first | refine blk_drewN ?_ _ | refine blk_drew ?_ | refine blk_alloc ?_ _)); refine blk_put (cs := #[.int .i64 0, .bool false, .int .i64 0]) ?_ 0 _ rfl; (with_reducible repeat (first | refine blk_drewN ?_ _ | refine blk_drew ?_ | refine blk_alloc ?_ _)); exact BK112.out⟩
       have n2_ : Aside0 (Below w.heap.size w (((w47.setCell ⟨gb112, 0, none⟩ (.int .i64 ((rd_T41 l1 x19_2).f0))).setCell ⟨gb112, 1, none⟩ (.bool ((rd_T41 l1 x19_2).f1))).setCell ⟨gb112, 2, none⟩ (.int .i64 ((rd_T41 l1 x19_2).f2)))) := ⟨by repeat (first | (with_reducible first | exact HB.out | apply below_alloc | apply pw_below_drewN | apply below_drew1 | refine below_set ?_ GE109.out | refine below_set ?_ GE112.out) | exact HB.out)⟩
       (try clear BK109)
       (try clear BK112)
       (try clear HB)
       generalize (((w47.setCell ⟨gb112, 0, none⟩ (.int .i64 ((rd_T41 l1 x19_2).f0))).setCell ⟨gb112, 1, none⟩ (.bool ((rd_T41 l1 x19_2).f1))).setCell ⟨gb112, 2, none⟩ (.int .i64 ((rd_T41 l1 x19_2).f2))) = w50 at n0_ n1_ n2_ ⊢
       have BK109 := n0_
       have BK112 := n1_
       have HB := n2_
       clear n0_ n1_ n2_
       have n0_ := Aside0.mk (blk_drew BK109.out)
       have n1_ := Aside0.mk (blk_drew BK112.out)
       have n2_ := Aside0.mk (below_drew1 HB.out)
       clear BK109
       clear BK112
       clear HB
       have BK109 := n0_
       have BK112 := n1_
       have HB := n2_
       clear n0_ n1_ n2_
       have q52 : (x19_2 : Int) ≤ ((l1.length : Int) : Int) := of_decide_eq_true (by first | (with_reducible assumption) | assumption)
       obtain ⟨i052, hi052, _, hsz52, _⟩ := info_parts info41
       have hroom52 : l1.length ≤ c1 := HC1.out
       have hC52 : Kd.C k41 _ (some ad111) l1.length l1 := HR1.out
       have hcut52 := cut_to (P := Try.prog) 33 41 .i64 Try.underlying33 hi052 (some ad111) l1.length c1 x19_2 (of_decide_eq_true (by first | (with_reducible assumption) | assumption)) q52 hroom52
       have hr52 := Kd.C_take (m := (x19_2 : Int).toNat) hC52 (by omega)
       have hy52 : y113.length = (x19_2 : Int).toNat := (by rw [Ny113.out, List.length_take]; omega)
       rw [← Ny113.out] at hr52
       rw [← hy52] at hcut52
       have HR116 := Aside0.mk hr52
       have HC116 := Aside0.mk (show y113.length ≤ c1 from by omega)
       clear hr52 hC52 hroom52 hi052 hsz52
       have KY52 := Aside0.mk hy52
       clear hy52
       replace q52 := eq_true q52
       refine start_ (n := 12) (S := fun w' => w'.cell? ⟨gb112, 0, none⟩ = some (.int .i64 ((rd_T41 l1 x19_2).f0)) ∧ w'.cell? ⟨gb112, 1, none⟩ = some (.bool ((rd_T41 l1 x19_2).f1)) ∧ w'.cell? ⟨gb112, 2, none⟩ = some (.int .i64 ((rd_T41 l1 x19_2).f2))) (ds := []) #[Z, Z, Z, Z, Z, Z, Z, Z, Z, Z, Z, Z] (by kernel_rfl) rfl rfl ⟨(blk_cell BK112.out 0).trans rfl, (blk_cell BK112.out 1).trans rfl, (blk_cell BK112.out 2).trans rfl⟩ (fun hHeld => ?_); refine with_tabW plan_May.tab6 plan_May.bits6 (fun HT_ HW_ => ?_)
       generalize w50.drew = w51 at BK109 BK112 HB HR116 hHeld ⊢
       refine pure_ (i := 0) (N := some 25) (v := ?_) (a' := ?_) #[Y, Z, Z, Z, Z, Z, Z, Z, Z, Z, Z, Z] rfl rfl (any_of HT_.out (by kernel_rfl)) (fun _ _ _ h => h) (Or.inl ⟨by rfl, ?_⟩) ?_ ?_
       rotate_left
       · intro w'
         go_simp
         with_reducible rfl
       rotate_left
       · simp only [Act.put, sb_, sz_, ss_, i64_w, i32_w]
         rfl
       refine pure_ (i := 1) (N := some 26) (v := ?_) (a' := ?_) #[Y, Y, Z, Z, Z, Z, Z, Z, Z, Z, Z, Z] rfl rfl (any_of HT_.out (by kernel_rfl)) (fun _ _ _ h => h) (Or.inl ⟨by rfl, ?_⟩) ?_ ?_
       rotate_left
       · intro w'
         go_simp
         with_reducible rfl
       rotate_left
       · simp only [Act.put, sb_, sz_, ss_, i64_w, i32_w]
         rfl
       refine pure_ (i := 2) (N := some 27) (v := ?_) (a' := ?_) #[Y, Y, Y, Z, Z, Z, Z, Z, Z, Z, Z, Z] rfl rfl (any_of HT_.out (by kernel_rfl)) (fun _ _ _ h => h) (Or.inl ⟨by rfl, ?_⟩) ?_ ?_
       rotate_left
       · intro w'
         go_simp
         with_reducible rfl
       rotate_left
       · simp only [Act.put, sb_, sz_, ss_, i64_w, i32_w]
         rfl
       refine pure_ (i := 3) (N := some 28) (v := ?_) (a' := ?_) #[Y, Y, Y, Y, Z, Z, Z, Z, Z, Z, Z, Z] rfl rfl (any_of HT_.out (by kernel_rfl)) (fun _ _ _ h => h) (Or.inl ⟨by rfl, ?_⟩) ?_ ?_
       rotate_left
       · intro w'
         go_simp
         with_reducible rfl
       rotate_left
       · simp only [Act.put, sb_, sz_, ss_, i64_w, i32_w]
         rfl
       refine take_ (i := 4) (N := some 29) (v := ?_) (a' := ?_) #[Y, Y, Y, Y, Y, Z, Z, Z, Z, Z, Z, Z] rfl rfl (take_ofW HT_.out HW_.out (by kernel_rfl)) (fun _ _ _ h => h) (Or.inl ⟨by rfl, ?_⟩) hHeld ?_ ?_
       rotate_left
       · rintro w' ⟨s0, s1, s2⟩
         go_simp
         with_reducible rfl
       rotate_left
       · simp only [Act.put, sb_, sz_, ss_, i64_w, i32_w]
         rfl
       refine join_ (σ := Nat) 2 #[Y, Y, Y, Y, Y, Y, Y, Y, Y, Y, Z, Z] (fun s_ => [(30, .tuple #[.agg #[.int .i64 t117, .bool t118, .int .i64 t119], .bool false]), (7, .pointer (some ⟨s_, 0, none⟩)), (24, .tuple #[.agg #[.int .i64 t117, .bool t118, .int .i64 t119], .bool false]), (31, .agg #[.int .i64 t117, .bool t118, .int .i64 t119]), (32, .bool false)]) (fun s_ w' => (w'.cell? ⟨gb112, 0, none⟩ = some (.int .i64 ((rd_T41 l1 x19_2).f0)) ∧ w'.cell? ⟨gb112, 1, none⟩ = some (.bool ((rd_T41 l1 x19_2).f1)) ∧ w'.cell? ⟨gb112, 2, none⟩ = some (.int .i64 ((rd_T41 l1 x19_2).f2))) ∧ (w'.heap[gb109]? = some (.cells #[.int .i64 a0_0, .int .i64 a0_1, .int .i64 a0_2, .int .i64 a0_3, .int .i64 a0_4] 23 (0, 0))) ∧ (w'.heap[gb112]? = some (.cells #[.int .i64 ((rd_T41 l1 x19_2).f0), .bool ((rd_T41 l1 x19_2).f1), .int .i64 ((rd_T41 l1 x19_2).f2)] 41 (0, 0))) ∧ (w'.heap[s_]? = some (.cells #[.int .i64 0, .bool false, .int .i64 0] 41 (0, 0))) ∧ (w.heap.size ≤ s_) ∧ (w.heap.size ≤ s_) ∧ (gb109 ≠ s_) ∧ (s_ ≠ gb109) ∧ (gb112 ≠ s_) ∧ (s_ ≠ gb112) ∧ (Below w.heap.size w w')) ?_ ?_
       rotate_left
       · intro hCont
         refine two_ (i := 5) (j := 9) (Ni := some 30) (Nj := some 7) #[Y, Y, Y, Y, Y, Y, Z, Z, Z, Z, Z, Z] #[Y, Y, Y, Y, Y, Z, Z, Z, Z, Y, Z, Z] rfl rfl rfl rfl (two_of HT_.out (by kernel_rfl)) (by decide) (by decide) (fun K hK => ?_) (fun K hK => ?_)
         · skip
           refine goes_ Try.func51 (by kernel_rfl) rfl #[.slice (some ad111) y113.length c1, .int .i64 ((rd_T41 l1 x19_2).f0)] (by rfl) rfl rfl (by (try simp only [List.map_toArray, List.map_cons, List.map_nil]); first | done | rfl | (simp only [List.length_drop, List.length_take]; rfl)) ?_
           with_reducible refine (plan_find.calls k2 _ _ y113 ((rd_T41 l1 x19_2).f0) t117 t118 t119 false _ ?side1 ?side2 A17.out).mono ?_
           (case side1 => repeat (first | exact (Kd.C_below HR116.out HB.out) | (with_reducible refine Kd.C_alloc ?_ _) | (with_reducible refine Kd.C_drewN ?_ _) | (with_reducible refine Kd.C_drew ?_)))
           (case side2 => exact HC116.out)
           rintro e w53 ⟨rfl, hb⟩
           refine ⟨_, rfl, ?_⟩
           have n0_ := Aside0.mk (blk_below (g := gb109) (o := .cells #[.int .i64 a0_0, .int .i64 a0_1, .int .i64 a0_2, .int .i64 a0_3, .int .i64 a0_4] 23 (0, 0)) (by (with_reducible repeat (first | refine blk_drewN ?_ _ | refine blk_drew ?_ | refine blk_alloc ?_ _)); exact BK109.out) hb)
           have n1_ := Aside0.mk (blk_below (g := gb112) (o := .cells #[.int .i64 ((rd_T41 l1 x19_2).f0), .bool ((rd_T41 l1 x19_2).f1), .int .i64 ((rd_T41 l1 x19_2).f2)] 41 (0, 0)) (by (with_reducible repeat (first | refine blk_drewN ?_ _ | refine blk_drew ?_ | refine blk_alloc ?_ _)); exact BK112.out) hb)
           have n2_ := Aside0.mk (below_step (by repeat (first | (with_reducible first | exact HB.out | apply below_alloc | apply pw_below_drewN | apply below_drew1 | refine below_set ?_ GE109.out | refine below_set ?_ GE112.out) | exact HB.out)) hb)
           clear BK109
           clear BK112
           clear HB
           have BK109 := n0_
           have BK112 := n1_
           have HB := n2_
           clear n0_ n1_ n2_
           (try clear hb)
           (try clear hb2)
           (try clear hk)
           (try clear hi)
           refine hK.out _ _ ⟨(blk_cell BK112.out 0).trans rfl, (blk_cell BK112.out 1).trans rfl, (blk_cell BK112.out 2).trans rfl⟩ (fun hHeld => ?_)
           clear hK K
           refine norm_ (a' := ?_) ?_ ?_
           rotate_left
           · show Act.put _ (some 30) _ = _
             simp only [Act.put, sb_, sz_, ss_, i64_w, i32_w]
             rfl
           refine pure_ (i := 6) (N := some 24) (v := ?_) (a' := ?_) #[Y, Y, Y, Y, Y, Y, Y, Z, Z, Z, Z, Z] rfl rfl (any_of HT_.out (by kernel_rfl)) (fun _ _ _ h => h) (Or.inl ⟨by rfl, ?_⟩) ?_ ?_
           rotate_left
           · intro w'
             go_simp
             with_reducible rfl
           rotate_left
           · simp only [Act.put, sb_, sz_, ss_, i64_w, i32_w]
             rfl
           refine pure_ (i := 7) (N := some 31) (v := ?_) (a' := ?_) #[Y, Y, Y, Y, Y, Y, Y, Y, Z, Z, Z, Z] rfl rfl (any_of HT_.out (by kernel_rfl)) (fun _ _ _ h => h) (Or.inl ⟨by rfl, ?_⟩) ?_ ?_
           rotate_left
           · intro w'
             go_simp
             with_reducible rfl
           rotate_left
           · simp only [Act.put, sb_, sz_, ss_, i64_w, i32_w]
             rfl
           refine pure_ (i := 8) (N := some 32) (v := ?_) (a' := ?_) #[Y, Y, Y, Y, Y, Y, Y, Y, Y, Z, Z, Z] rfl rfl (any_of HT_.out (by kernel_rfl)) (fun _ _ _ h => h) (Or.inl ⟨by rfl, ?_⟩) ?_ ?_
           rotate_left
           · intro w'
             go_simp
             with_reducible rfl
           rotate_left
           · simp only [Act.put, sb_, sz_, ss_, i64_w, i32_w]
             rfl
           refine one_ (i := 9) (N := some 7) #[Y, Y, Y, Y, Y, Y, Y, Y, Y, Y, Z, Z] rfl rfl (one_of HT_.out (by kernel_rfl)) (by decide) (fun K hK => ?_)
           refine box_step ?hg (N := 7) ?hd (cs := #[.int .i64 0, .bool false, .int .i64 0]) (t := 41) ?hr ?_; (case hd => rfl); (case hg => rfl); (case hr => first | (go_simp; done) | (go_simp; rfl))
           intro gb121 hg w54 hbox hb
           have n0_ := Aside0.mk (blk_below (g := gb109) (o := .cells #[.int .i64 a0_0, .int .i64 a0_1, .int .i64 a0_2, .int .i64 a0_3, .int .i64 a0_4] 23 (0, 0)) (by (with_reducible repeat (first | refine blk_drewN ?_ _ | refine blk_drew ?_ | refine blk_alloc ?_ _)); exact BK109.out) hb)
           have n1_ := Aside0.mk (blk_below (g := gb112) (o := .cells #[.int .i64 ((rd_T41 l1 x19_2).f0), .bool ((rd_T41 l1 x19_2).f1), .int .i64 ((rd_T41 l1 x19_2).f2)] 41 (0, 0)) (by (with_reducible repeat (first | refine blk_drewN ?_ _ | refine blk_drew ?_ | refine blk_alloc ?_ _)); exact BK112.out) hb)
           have n2_ := Aside0.mk (below_step (by repeat (first | (with_reducible first | exact HB.out | apply below_alloc | apply pw_below_drewN | apply below_drew1 | refine below_set ?_ GE109.out | refine below_set ?_ GE112.out) | exact HB.out)) hb)
           have n3_ := Aside0.mk (hbox)
           have n4_ := Aside0.mk ((by rw [hg]; exact (below_size (by repeat (first | (with_reducible first | exact HB.out | apply below_alloc | apply pw_below_drewN | apply below_drew1 | refine below_set ?_ GE109.out | refine below_set ?_ GE112.out) | exact HB.out))) : w.heap.size ≤ gb121))
           have n5_ := Aside0.mk ((by rw [hg]; exact (below_size (by repeat (first | (with_reducible first | exact HB.out | apply below_alloc | apply pw_below_drewN | apply below_drew1 | refine below_set ?_ GE109.out | refine below_set ?_ GE112.out) | exact HB.out))) : w.heap.size ≤ gb121))
           have n6_ := Aside0.mk ((by rw [hg]; exact Nat.ne_of_lt (blk_lt (g := gb109) (o := .cells #[.int .i64 a0_0, .int .i64 a0_1, .int .i64 a0_2, .int .i64 a0_3, .int .i64 a0_4] 23 (0, 0)) (by (with_reducible repeat (first | refine blk_drewN ?_ _ | refine blk_drew ?_ | refine blk_alloc ?_ _)); exact BK109.out)) : gb109 ≠ gb121))
           have n7_ := Aside0.mk ((by rw [hg]; exact Nat.ne_of_gt (blk_lt (g := gb109) (o := .cells #[.int .i64 a0_0, .int .i64 a0_1, .int .i64 a0_2, .int .i64 a0_3, .int .i64 a0_4] 23 (0, 0)) (by (with_reducible repeat (first | refine blk_drewN ?_ _ | refine blk_drew ?_ | refine blk_alloc ?_ _)); exact BK109.out)) : gb121 ≠ gb109))
           have n8_ := Aside0.mk ((by rw [hg]; exact Nat.ne_of_lt (blk_lt (g := gb112) (o := .cells #[.int .i64 ((rd_T41 l1 x19_2).f0), .bool ((rd_T41 l1 x19_2).f1), .int .i64 ((rd_T41 l1 x19_2).f2)] 41 (0, 0)) (by (with_reducible repeat (first | refine blk_drewN ?_ _ | refine blk_drew ?_ | refine blk_alloc ?_ _)); exact BK112.out)) : gb112 ≠ gb121))
           have n9_ := Aside0.mk ((by rw [hg]; exact Nat.ne_of_gt (blk_lt (g := gb112) (o := .cells #[.int .i64 ((rd_T41 l1 x19_2).f0), .bool ((rd_T41 l1 x19_2).f1), .int .i64 ((rd_T41 l1 x19_2).f2)] 41 (0, 0)) (by (with_reducible repeat (first | refine blk_drewN ?_ _ | refine blk_drew ?_ | refine blk_alloc ?_ _)); exact BK112.out)) : gb121 ≠ gb112))
           clear BK109
           clear BK112
           clear HB
           have BK109 := n0_
           have BK112 := n1_
           have HB := n2_
           have BK121 := n3_
           have GW121 := n4_
           have GE121 := n5_
           have NB109_121 := n6_
           have NB121_109 := n7_
           have NB112_121 := n8_
           have NB121_112 := n9_
           clear n0_ n1_ n2_ n3_ n4_ n5_ n6_ n7_ n8_ n9_
           clear hb hbox hg
           refine hK.out _ _ ⟨(blk_cell BK112.out 0).trans rfl, (blk_cell BK112.out 1).trans rfl, (blk_cell BK112.out 2).trans rfl⟩ (fun hHeld => ?_)
           clear hK K
           refine norm_ (a' := ?_) ?_ ?_
           rotate_left
           · show Act.put _ (some 7) _ = _
             simp only [Act.put, sb_, sz_, ss_, i64_w, i32_w]
             rfl
           exact norm_ (by simp only [putAll, Act.put, sb_, sz_, ss_]) (hCont (gb121) _ ⟨hHeld, (by (with_reducible repeat (first | refine blk_drewN ?_ _ | refine blk_drew ?_ | refine blk_alloc ?_ _)); exact BK109.out), (by (with_reducible repeat (first | refine blk_drewN ?_ _ | refine blk_drew ?_ | refine blk_alloc ?_ _)); exact BK112.out), (by (with_reducible repeat (first | refine blk_drewN ?_ _ | refine blk_drew ?_ | refine blk_alloc ?_ _)); exact BK121.out), GW121.out, GE121.out, NB109_121.out, NB121_109.out, NB112_121.out, NB121_112.out, (by repeat (first | (with_reducible first | exact HB.out | apply below_alloc | apply pw_below_drewN | apply below_drew1 | refine below_set ?_ GE109.out | refine below_set ?_ GE112.out | refine below_set ?_ GE121.out) | exact HB.out))⟩)
         · skip
           refine box_step ?hg (N := 7) ?hd (cs := #[.int .i64 0, .bool false, .int .i64 0]) (t := 41) ?hr ?_; (case hd => rfl); (case hg => rfl); (case hr => first | (go_simp; done) | (go_simp; rfl))
           intro gb121 hg w53 hbox hb
           have n0_ := Aside0.mk (blk_below (g := gb109) (o := .cells #[.int .i64 a0_0, .int .i64 a0_1, .int .i64 a0_2, .int .i64 a0_3, .int .i64 a0_4] 23 (0, 0)) (by (with_reducible repeat (first | refine blk_drewN ?_ _ | refine blk_drew ?_ | refine blk_alloc ?_ _)); exact BK109.out) hb)
           have n1_ := Aside0.mk (blk_below (g := gb112) (o := .cells #[.int .i64 ((rd_T41 l1 x19_2).f0), .bool ((rd_T41 l1 x19_2).f1), .int .i64 ((rd_T41 l1 x19_2).f2)] 41 (0, 0)) (by (with_reducible repeat (first | refine blk_drewN ?_ _ | refine blk_drew ?_ | refine blk_alloc ?_ _)); exact BK112.out) hb)
           have n2_ := Aside0.mk (below_step (by repeat (first | (with_reducible first | exact HB.out | apply below_alloc | apply pw_below_drewN | apply below_drew1 | refine below_set ?_ GE109.out | refine below_set ?_ GE112.out) | exact HB.out)) hb)
           have n3_ := Aside0.mk (hbox)
           have n4_ := Aside0.mk ((by rw [hg]; exact (below_size (by repeat (first | (with_reducible first | exact HB.out | apply below_alloc | apply pw_below_drewN | apply below_drew1 | refine below_set ?_ GE109.out | refine below_set ?_ GE112.out) | exact HB.out))) : w.heap.size ≤ gb121))
           have n5_ := Aside0.mk ((by rw [hg]; exact (below_size (by repeat (first | (with_reducible first | exact HB.out | apply below_alloc | apply pw_below_drewN | apply below_drew1 | refine below_set ?_ GE109.out | refine below_set ?_ GE112.out) | exact HB.out))) : w.heap.size ≤ gb121))
           have n6_ := Aside0.mk ((by rw [hg]; exact Nat.ne_of_lt (blk_lt (g := gb109) (o := .cells #[.int .i64 a0_0, .int .i64 a0_1, .int .i64 a0_2, .int .i64 a0_3, .int .i64 a0_4] 23 (0, 0)) (by (with_reducible repeat (first | refine blk_drewN ?_ _ | refine blk_drew ?_ | refine blk_alloc ?_ _)); exact BK109.out)) : gb109 ≠ gb121))
           have n7_ := Aside0.mk ((by rw [hg]; exact Nat.ne_of_gt (blk_lt (g := gb109) (o := .cells #[.int .i64 a0_0, .int .i64 a0_1, .int .i64 a0_2, .int .i64 a0_3, .int .i64 a0_4] 23 (0, 0)) (by (with_reducible repeat (first | refine blk_drewN ?_ _ | refine blk_drew ?_ | refine blk_alloc ?_ _)); exact BK109.out)) : gb121 ≠ gb109))
           have n8_ := Aside0.mk ((by rw [hg]; exact Nat.ne_of_lt (blk_lt (g := gb112) (o := .cells #[.int .i64 ((rd_T41 l1 x19_2).f0), .bool ((rd_T41 l1 x19_2).f1), .int .i64 ((rd_T41 l1 x19_2).f2)] 41 (0, 0)) (by (with_reducible repeat (first | refine blk_drewN ?_ _ | refine blk_drew ?_ | refine blk_alloc ?_ _)); exact BK112.out)) : gb112 ≠ gb121))
           have n9_ := Aside0.mk ((by rw [hg]; exact Nat.ne_of_gt (blk_lt (g := gb112) (o := .cells #[.int .i64 ((rd_T41 l1 x19_2).f0), .bool ((rd_T41 l1 x19_2).f1), .int .i64 ((rd_T41 l1 x19_2).f2)] 41 (0, 0)) (by (with_reducible repeat (first | refine blk_drewN ?_ _ | refine blk_drew ?_ | refine blk_alloc ?_ _)); exact BK112.out)) : gb121 ≠ gb112))
           clear BK109
           clear BK112
           clear HB
           have BK109 := n0_
           have BK112 := n1_
           have HB := n2_
           have BK121 := n3_
           have GW121 := n4_
           have GE121 := n5_
           have NB109_121 := n6_
           have NB121_109 := n7_
           have NB112_121 := n8_
           have NB121_112 := n9_
           clear n0_ n1_ n2_ n3_ n4_ n5_ n6_ n7_ n8_ n9_
           clear hb hbox hg
           refine hK.out _ _ ⟨(blk_cell BK112.out 0).trans rfl, (blk_cell BK112.out 1).trans rfl, (blk_cell BK112.out 2).trans rfl⟩ (fun hHeld => ?_)
           clear hK K
           refine norm_ (a' := ?_) ?_ ?_
           rotate_left
           · show Act.put _ (some 7) _ = _
             simp only [Act.put, sb_, sz_, ss_, i64_w, i32_w]
             rfl
           refine one_ (i := 5) (N := some 30) #[Y, Y, Y, Y, Y, Y, Z, Z, Z, Y, Z, Z] rfl rfl (one_of HT_.out (by kernel_rfl)) (by decide) (fun K hK => ?_)
           refine goes_ Try.func51 (by kernel_rfl) rfl #[.slice (some ad111) y113.length c1, .int .i64 ((rd_T41 l1 x19_2).f0)] (by rfl) rfl rfl (by (try simp only [List.map_toArray, List.map_cons, List.map_nil]); first | done | rfl | (simp only [List.length_drop, List.length_take]; rfl)) ?_
           with_reducible refine (plan_find.calls k2 _ _ y113 ((rd_T41 l1 x19_2).f0) t117 t118 t119 false _ ?side1 ?side2 A17.out).mono ?_
           (case side1 => repeat (first | exact (Kd.C_below HR116.out HB.out) | (with_reducible refine Kd.C_alloc ?_ _) | (with_reducible refine Kd.C_drewN ?_ _) | (with_reducible refine Kd.C_drew ?_)))
           (case side2 => exact HC116.out)
           rintro e w54 ⟨rfl, hb⟩
           refine ⟨_, rfl, ?_⟩
           have n0_ := Aside0.mk (blk_below (g := gb109) (o := .cells #[.int .i64 a0_0, .int .i64 a0_1, .int .i64 a0_2, .int .i64 a0_3, .int .i64 a0_4] 23 (0, 0)) (by (with_reducible repeat (first | refine blk_drewN ?_ _ | refine blk_drew ?_ | refine blk_alloc ?_ _)); exact BK109.out) hb)
           have n1_ := Aside0.mk (blk_below (g := gb112) (o := .cells #[.int .i64 ((rd_T41 l1 x19_2).f0), .bool ((rd_T41 l1 x19_2).f1), .int .i64 ((rd_T41 l1 x19_2).f2)] 41 (0, 0)) (by (with_reducible repeat (first | refine blk_drewN ?_ _ | refine blk_drew ?_ | refine blk_alloc ?_ _)); exact BK112.out) hb)
           have n2_ := Aside0.mk (blk_below (g := gb121) (o := .cells #[.int .i64 0, .bool false, .int .i64 0] 41 (0, 0)) (by (with_reducible repeat (first | refine blk_drewN ?_ _ | refine blk_drew ?_ | refine blk_alloc ?_ _)); exact BK121.out) hb)
           have n3_ := Aside0.mk (below_step (by repeat (first | (with_reducible first | exact HB.out | apply below_alloc | apply pw_below_drewN | apply below_drew1 | refine below_set ?_ GE109.out | refine below_set ?_ GE112.out | refine below_set ?_ GE121.out) | exact HB.out)) hb)
           clear BK109
           clear BK112
           clear BK121
           clear HB
           have BK109 := n0_
           have BK112 := n1_
           have BK121 := n2_
           have HB := n3_
           clear n0_ n1_ n2_ n3_
           (try clear hb)
           (try clear hb2)
           (try clear hk)
           (try clear hi)
           refine hK.out _ _ ⟨(blk_cell BK112.out 0).trans rfl, (blk_cell BK112.out 1).trans rfl, (blk_cell BK112.out 2).trans rfl⟩ (fun hHeld => ?_)
           clear hK K
           refine norm_ (a' := ?_) ?_ ?_
           rotate_left
           · show Act.put _ (some 30) _ = _
             simp only [Act.put, sb_, sz_, ss_, i64_w, i32_w]
             rfl
           refine pure_ (i := 6) (N := some 24) (v := ?_) (a' := ?_) #[Y, Y, Y, Y, Y, Y, Y, Z, Z, Y, Z, Z] rfl rfl (any_of HT_.out (by kernel_rfl)) (fun _ _ _ h => h) (Or.inl ⟨by rfl, ?_⟩) ?_ ?_
           rotate_left
           · intro w'
             go_simp
             with_reducible rfl
           rotate_left
           · simp only [Act.put, sb_, sz_, ss_, i64_w, i32_w]
             rfl
           refine pure_ (i := 7) (N := some 31) (v := ?_) (a' := ?_) #[Y, Y, Y, Y, Y, Y, Y, Y, Z, Y, Z, Z] rfl rfl (any_of HT_.out (by kernel_rfl)) (fun _ _ _ h => h) (Or.inl ⟨by rfl, ?_⟩) ?_ ?_
           rotate_left
           · intro w'
             go_simp
             with_reducible rfl
           rotate_left
           · simp only [Act.put, sb_, sz_, ss_, i64_w, i32_w]
             rfl
           refine pure_ (i := 8) (N := some 32) (v := ?_) (a' := ?_) #[Y, Y, Y, Y, Y, Y, Y, Y, Y, Y, Z, Z] rfl rfl (any_of HT_.out (by kernel_rfl)) (fun _ _ _ h => h) (Or.inl ⟨by rfl, ?_⟩) ?_ ?_
           rotate_left
           · intro w'
             go_simp
             with_reducible rfl
           rotate_left
           · simp only [Act.put, sb_, sz_, ss_, i64_w, i32_w]
             rfl
           exact norm_ (by simp only [putAll, Act.put, sb_, sz_, ss_]) (hCont (gb121) _ ⟨hHeld, (by (with_reducible repeat (first | refine blk_drewN ?_ _ | refine blk_drew ?_ | refine blk_alloc ?_ _)); exact BK109.out), (by (with_reducible repeat (first | refine blk_drewN ?_ _ | refine blk_drew ?_ | refine blk_alloc ?_ _)); exact BK112.out), (by (with_reducible repeat (first | refine blk_drewN ?_ _ | refine blk_drew ?_ | refine blk_alloc ?_ _)); exact BK121.out), GW121.out, GE121.out, NB109_121.out, NB121_109.out, NB112_121.out, NB121_112.out, (by repeat (first | (with_reducible first | exact HB.out | apply below_alloc | apply pw_below_drewN | apply below_drew1 | refine below_set ?_ GE109.out | refine below_set ?_ GE112.out | refine below_set ?_ GE121.out) | exact HB.out))⟩)
       rintro gb121 w55 ⟨hS_, h0_, h1_, h2_, h3_, h4_, h5_, h6_, h7_, h8_, h9_⟩
       have n0_ : Aside0 (w55.heap[gb109]? = some (.cells #[.int .i64 a0_0, .int .i64 a0_1, .int .i64 a0_2, .int .i64 a0_3, .int .i64 a0_4] 23 (0, 0))) := ⟨h0_⟩
       have n1_ : Aside0 (w55.heap[gb112]? = some (.cells #[.int .i64 ((rd_T41 l1 x19_2).f0), .bool ((rd_T41 l1 x19_2).f1), .int .i64 ((rd_T41 l1 x19_2).f2)] 41 (0, 0))) := ⟨h1_⟩
       have n2_ : Aside0 (w55.heap[gb121]? = some (.cells #[.int .i64 0, .bool false, .int .i64 0] 41 (0, 0))) := ⟨h2_⟩
       have n3_ : Aside0 (w.heap.size ≤ gb121) := ⟨h3_⟩
       have n4_ : Aside0 (w.heap.size ≤ gb121) := ⟨h4_⟩
       have n5_ : Aside0 (gb109 ≠ gb121) := ⟨h5_⟩
       have n6_ : Aside0 (gb121 ≠ gb109) := ⟨h6_⟩
       have n7_ : Aside0 (gb112 ≠ gb121) := ⟨h7_⟩
       have n8_ : Aside0 (gb121 ≠ gb112) := ⟨h8_⟩
       have n9_ : Aside0 (Below w.heap.size w w55) := ⟨h9_⟩
       clear BK109
       clear BK112
       clear HB
       clear h0_ h1_ h2_ h3_ h4_ h5_ h6_ h7_ h8_ h9_
       have BK109 := n0_
       have BK112 := n1_
       have BK121 := n2_
       have GW121 := n3_
       have GE121 := n4_
       have NB109_121 := n5_
       have NB121_109 := n6_
       have NB112_121 := n7_
       have NB121_112 := n8_
       have HB := n9_
       clear n0_ n1_ n2_ n3_ n4_ n5_ n6_ n7_ n8_ n9_
       have hHeld : w55.cell? ⟨gb112, 0, none⟩ = some (.int .i64 ((rd_T41 l1 x19_2).f0)) ∧ w55.cell? ⟨gb112, 1, none⟩ = some (.bool ((rd_T41 l1 x19_2).f1)) ∧ w55.cell? ⟨gb112, 2, none⟩ = some (.int .i64 ((rd_T41 l1 x19_2).f2)) := hS_
       refine norm_ (a' := ?_) ?_ ?_
       rotate_left
       · simp only [putAll, Act.put, sb_, sz_, ss_]
         rfl
       refine one_ (i := 10) (N := none) #[Y, Y, Y, Y, Y, Y, Y, Y, Y, Y, Y, Z] rfl rfl (one_of HT_.out (by kernel_rfl)) (by decide) (fun K hK => ?_)
       have hs56 : w55.cell? ⟨gb121, 0, none⟩ = some (.int .i64 0) := (blk_cell BK121.out 0).trans rfl
       have hfs56 := blk_frozen BK121.out 0
       have hns56_0 := NB109_121.out
       have hns56_1 := NB112_121.out
       have hms56_0 := NB121_109.out
       have hms56_1 := NB121_112.out
       have hs57 : w55.cell? ⟨gb121, 1, none⟩ = some (.bool false) := (blk_cell BK121.out 1).trans rfl
       have hfs57 := blk_frozen BK121.out 1
       have hns57_0 := NB109_121.out
       have hns57_1 := NB112_121.out
       have hms57_0 := NB121_109.out
       have hms57_1 := NB121_112.out
       have hs58 : w55.cell? ⟨gb121, 2, none⟩ = some (.int .i64 0) := (blk_cell BK121.out 2).trans rfl
       have hfs58 := blk_frozen BK121.out 2
       have hns58_0 := NB109_121.out
       have hns58_1 := NB112_121.out
       have hms58_0 := NB121_109.out
       have hms58_1 := NB121_112.out
       refine skip_ (w1 := ?_) (by rfl) rfl ?_ ?_
       rotate_left
       · go_simp
         rfl
       refine hK.out _ _ ⟨((cell_far (p := ⟨gb121, _, none⟩) NB112_121.out _).trans (((cell_far (p := ⟨gb121, _, none⟩) NB112_121.out _).trans (((cell_far (p := ⟨gb121, _, none⟩) NB112_121.out _).trans (hHeld.1)))))), ((cell_far (p := ⟨gb121, _, none⟩) NB112_121.out _).trans (((cell_far (p := ⟨gb121, _, none⟩) NB112_121.out _).trans (((cell_far (p := ⟨gb121, _, none⟩) NB112_121.out _).trans (hHeld.2.1)))))), ((cell_far (p := ⟨gb121, _, none⟩) NB112_121.out _).trans (((cell_far (p := ⟨gb121, _, none⟩) NB112_121.out _).trans (((cell_far (p := ⟨gb121, _, none⟩) NB112_121.out _).trans (hHeld.2.2))))))⟩ (fun hHeld => ?_)
       clear hK K
       refine pure_ (i := 11) (N := some 8) (v := ?_) (a' := ?_) #[Y, Y, Y, Y, Y, Y, Y, Y, Y, Y, Y, Y] rfl rfl (any_of HT_.out (by kernel_rfl)) (fun _ _ _ h => h) (Or.inl ⟨by rfl, ?_⟩) ?_ ?_
       rotate_left
       · intro w'
         go_simp
         with_reducible rfl
       rotate_left
       · simp only [Act.put, sb_, sz_, ss_, i64_w, i32_w]
         rfl
       refine done_ (done_of HT_.out (by kernel_rfl)) ?_
       have hnb59 := NB112_121.out
       have hnc59 := NB121_112.out
       have hcz60_0 : w55.cell? ⟨gb112, 0, none⟩ = some (.int .i64 ((rd_T41 l1 x19_2).f0)) := (blk_cell BK112.out 0).trans rfl
       have hcz60_1 : w55.cell? ⟨gb112, 1, none⟩ = some (.bool ((rd_T41 l1 x19_2).f1)) := (blk_cell BK112.out 1).trans rfl
       have hcz60_2 : w55.cell? ⟨gb112, 2, none⟩ = some (.int .i64 ((rd_T41 l1 x19_2).f2)) := (blk_cell BK112.out 2).trans rfl
       have hfz60_0 := blk_frozen BK112.out 0
       have hfz60_1 := blk_frozen BK112.out 1
       have hfz60_2 := blk_frozen BK112.out 2
       have hnb61 := NB109_121.out
       have hnc61 := NB121_109.out
       have hcz62_0 : w55.cell? ⟨gb109, 0, none⟩ = some (.int .i64 a0_0) := (blk_cell BK109.out 0).trans rfl
       have hcz62_1 : w55.cell? ⟨gb109, 1, none⟩ = some (.int .i64 a0_1) := (blk_cell BK109.out 1).trans rfl
       have hcz62_2 : w55.cell? ⟨gb109, 2, none⟩ = some (.int .i64 a0_2) := (blk_cell BK109.out 2).trans rfl
       have hcz62_3 : w55.cell? ⟨gb109, 3, none⟩ = some (.int .i64 a0_3) := (blk_cell BK109.out 3).trans rfl
       have hcz62_4 : w55.cell? ⟨gb109, 4, none⟩ = some (.int .i64 a0_4) := (blk_cell BK109.out 4).trans rfl
       have hfz62_0 := blk_frozen BK109.out 0
       have hfz62_1 := blk_frozen BK109.out 1
       have hfz62_2 := blk_frozen BK109.out 2
       have hfz62_3 := blk_frozen BK109.out 3
       have hfz62_4 := blk_frozen BK109.out 4
       try go_wp2
       go_ret
       exact ⟨by first | rfl | (simp [errW_none, errW_some] <;> rfl) | (simp [*, errW_none, errW_some] <;> rfl), by repeat (first | (with_reducible first | exact HB.out | apply below_alloc | apply pw_below_drewN | apply below_drew1 | refine below_set ?_ GE109.out | refine below_set ?_ GE112.out | refine below_set ?_ GE121.out) | exact HB.out)⟩
     rw [if_neg c46] at H
     have c46b0 : decide (a0_0 ≤ ((rd_T41 l1 x19_2).f0)) = false := decide_eq_false c46
     clear c46
     by_cases c63 : ((rd_T41 l1 x19_2).f2) < 0
     · rw [if_pos c63] at H
       have c63b0 : decide (((rd_T41 l1 x19_2).f2) < 0) = true := decide_eq_true c63
       clear c63
       obtain rfl := Option.some.inj H
       have p111 : 0 ≤ (x19_2 : Int) := of_decide_eq_true (by first | (with_reducible assumption) | assumption)
       have q111 : x19_2 < (l1.length : Int) := of_decide_eq_true (by first | (with_reducible assumption) | assumption)
       obtain ⟨ad111, e111, hx111_0, hx111_1, hx111_2⟩ := at_T41 HR1.out x19_2 p111 q111
       cases e111
       replace hx111_0 := (HB.out.cell (World.block_lt_of_cell? w _ hx111_0)).trans hx111_0
       replace hx111_1 := (HB.out.cell (World.block_lt_of_cell? w _ hx111_1)).trans hx111_1
       replace hx111_2 := (HB.out.cell (World.block_lt_of_cell? w _ hx111_2)).trans hx111_2
       replace p111 := eq_true p111
       replace q111 := eq_true q111
       try go_wp2_with (first | ((with_reducible refine gate_dst (N := 6) rfl ?_); (try (refine gate_guard (by rfl) ?_; dsimp only)); refine box_event ?hg (N := 6) ?hd (cs := #[.int .i64 0, .bool false, .int .i64 0]) (t := 41) ?hr ?_; (case hd => rfl); (case hg => rfl); (case hr => first | (go_simp; done) | (go_simp; rfl)); intro gb112 hg w64 hbox hb; have n0_ := Aside0.mk (blk_below (g := gb109) (o := .cells #[.int .i64 a0_0, .int .i64 a0_1, .int .i64 a0_2, .int .i64 a0_3, .int .i64 a0_4] 23 (0, 0)) (by (with_reducible repeat (first | refine blk_drewN ?_ _ | refine blk_drew ?_ | refine blk_alloc ?_ _)); exact BK109.out) hb); have n1_ := Aside0.mk (below_step (by repeat (first | (with_reducible first | exact HB.out | apply below_alloc | apply pw_below_drewN | apply below_drew1 | refine below_set ?_ GE109.out) | exact HB.out)) hb); have n2_ := Aside0.mk (hbox); have n3_ := Aside0.mk ((by rw [hg]; exact (below_size (by repeat (first | (with_reducible first | exact HB.out | apply below_alloc | apply pw_below_drewN | apply below_drew1 | refine below_set ?_ GE109.out) | exact HB.out))) : w.heap.size ≤ gb112)); have n4_ := Aside0.mk ((by rw [hg]; exact (below_size (by repeat (first | (with_reducible first | exact HB.out | apply below_alloc | apply pw_below_drewN | apply below_drew1 | refine below_set ?_ GE109.out) | exact HB.out))) : w.heap.size ≤ gb112)); have n5_ := Aside0.mk ((by rw [hg]; exact Nat.ne_of_lt (blk_lt (g := gb109) (o := .cells #[.int .i64 a0_0, .int .i64 a0_1, .int .i64 a0_2, .int .i64 a0_3, .int .i64 a0_4] 23 (0, 0)) (by (with_reducible repeat (first | refine blk_drewN ?_ _ | refine blk_drew ?_ | refine blk_alloc ?_ _)); exact BK109.out)) : gb109 ≠ gb112)); have n6_ := Aside0.mk ((by rw [hg]; exact Nat.ne_of_gt (blk_lt (g := gb109) (o := .cells #[.int .i64 a0_0, .int .i64 a0_1, .int .i64 a0_2, .int .i64 a0_3, .int .i64 a0_4] 23 (0, 0)) (by (with_reducible repeat (first | refine blk_drewN ?_ _ | refine blk_drew ?_ | refine blk_alloc ?_ _)); exact BK109.out)) : gb112 ≠ gb109)); clear BK109; clear HB; have BK109 := n0_; have HB := n1_; have BK112 := n2_; have GW112 := n3_; have GE112 := n4_; have NB109_112 := n5_; have NB112_109 := n6_; clear n0_ n1_ n2_ n3_ n4_ n5_ n6_; clear hb hbox hg; have hnb65 := NB112_109.out; have hnc65 := NB109_112.out; have hcz66_0 : w64.cell? ⟨gb112, 0, none⟩ = some (.int .i64 0) := (blk_cell BK112.out 0).trans rfl; have hcz66_1 : w64.cell? ⟨gb112, 1, none⟩ = some (.bool false) := (blk_cell BK112.out 1).trans rfl; have hcz66_2 : w64.cell? ⟨gb112, 2, none⟩ = some (.int .i64 0) := (blk_cell BK112.out 2).trans rfl; have hfz66_0 := blk_frozen BK112.out 0; have hfz66_1 := blk_frozen BK112.out 1; have hfz66_2 := blk_frozen BK112.out 2))
       have n0_ : Aside0 ((((w64.setCell ⟨gb112, 0, none⟩ (.int .i64 ((rd_T41 l1 x19_2).f0))).setCell ⟨gb112, 1, none⟩ (.bool ((rd_T41 l1 x19_2).f1))).setCell ⟨gb112, 2, none⟩ (.int .i64 ((rd_T41 l1 x19_2).f2))).heap[gb109]? = some (.cells #[.int .i64 a0_0, .int .i64 a0_1, .int .i64 a0_2, .int .i64 a0_3, .int .i64 a0_4] 23 (0, 0))) := ⟨by (with_reducible repeat (first | refine blk_drewN ?_ _ | refine blk_drew ?_ | refine blk_alloc ?_ _)); refine blk_far ?_ NB109_112.out _; (with_reducible repeat (first | refine blk_drewN ?_ _ | refine blk_drew ?_ | refine blk_alloc ?_ _)); refine blk_far ?_ NB109_112.out _; (with_reducible repeat (first | refine blk_drewN ?_ _ | refine blk_drew ?_ | refine blk_alloc ?_ _)); refine blk_far ?_ NB109_112.out _; (with_reducible repeat (first | refine blk_drewN ?_ _ | refine blk_drew ?_ | refine blk_alloc ?_ _)); exact BK109.out⟩
       have n1_ : Aside0 ((((w64.setCell ⟨gb112, 0, none⟩ (.int .i64 ((rd_T41 l1 x19_2).f0))).setCell ⟨gb112, 1, none⟩ (.bool ((rd_T41 l1 x19_2).f1))).setCell ⟨gb112, 2, none⟩ (.int .i64 ((rd_T41 l1 x19_2).f2))).heap[gb112]? = some (.cells #[.int .i64 ((rd_T41 l1 x19_2).f0), .bool ((rd_T41 l1 x19_2).f1), .int .i64 ((rd_T41 l1 x19_2).f2)] 41 (0, 0))) := ⟨by (with_reducible repeat (first | refine blk_drewN ?_ _ | refine blk_drew ?_ | refine blk_alloc ?_ _)); refine blk_put (cs := #[.int .i64 ((rd_T41 l1 x19_2).f0), .bool ((rd_T41 l1 x19_2).f1), .int .i64 0]) ?_ 2 _ rfl; (with_reducible repeat (first | refine blk_drewN ?_ _ | refine blk_drew ?_ | refine blk_alloc ?_ _)); refine blk_put (cs := #[.int .i64 ((rd_T41 l1 x19_2).f0), .bool false, .int .i64 0]) ?_ 1 _ rfl; (with_reducible repeat (first | refine blk_drewN ?_ _ | refine blk_drew ?_ | refine blk_alloc ?_ _)); refine blk_put (cs := #[.int .i64 0, .bool false, .int .i64 0]) ?_ 0 _ rfl; (with_reducible repeat (first | refine blk_drewN ?_ _ | refine blk_drew ?_ | refine blk_alloc ?_ _)); exact BK112.out⟩
       have n2_ : Aside0 (Below w.heap.size w (((w64.setCell ⟨gb112, 0, none⟩ (.int .i64 ((rd_T41 l1 x19_2).f0))).setCell ⟨gb112, 1, none⟩ (.bool ((rd_T41 l1 x19_2).f1))).setCell ⟨gb112, 2, none⟩ (.int .i64 ((rd_T41 l1 x19_2).f2)))) := ⟨by repeat (first | (with_reducible first | exact HB.out | apply below_alloc | apply pw_below_drewN | apply below_drew1 | refine below_set ?_ GE109.out | refine below_set ?_ GE112.out) | exact HB.out)⟩
       (try clear BK109)
       (try clear BK112)
       (try clear HB)
       generalize (((w64.setCell ⟨gb112, 0, none⟩ (.int .i64 ((rd_T41 l1 x19_2).f0))).setCell ⟨gb112, 1, none⟩ (.bool ((rd_T41 l1 x19_2).f1))).setCell ⟨gb112, 2, none⟩ (.int .i64 ((rd_T41 l1 x19_2).f2))) = w67 at n0_ n1_ n2_ ⊢
       have BK109 := n0_
       have BK112 := n1_
       have HB := n2_
       clear n0_ n1_ n2_
       have n0_ := Aside0.mk (blk_drew BK109.out)
       have n1_ := Aside0.mk (blk_drew BK112.out)
       have n2_ := Aside0.mk (below_drew1 HB.out)
       clear BK109
       clear BK112
       clear HB
       have BK109 := n0_
       have BK112 := n1_
       have HB := n2_
       clear n0_ n1_ n2_
       have q69 : (x19_2 : Int) ≤ ((l1.length : Int) : Int) := of_decide_eq_true (by first | (with_reducible assumption) | assumption)
       obtain ⟨i069, hi069, _, hsz69, _⟩ := info_parts info41
       have hroom69 : l1.length ≤ c1 := HC1.out
       have hC69 : Kd.C k41 _ (some ad111) l1.length l1 := HR1.out
       have hcut69 := cut_to (P := Try.prog) 33 41 .i64 Try.underlying33 hi069 (some ad111) l1.length c1 x19_2 (of_decide_eq_true (by first | (with_reducible assumption) | assumption)) q69 hroom69
       have hr69 := Kd.C_take (m := (x19_2 : Int).toNat) hC69 (by omega)
       have hy69 : y113.length = (x19_2 : Int).toNat := (by rw [Ny113.out, List.length_take]; omega)
       rw [← Ny113.out] at hr69
       rw [← hy69] at hcut69
       have HR116 := Aside0.mk hr69
       have HC116 := Aside0.mk (show y113.length ≤ c1 from by omega)
       clear hr69 hC69 hroom69 hi069 hsz69
       have KY69 := Aside0.mk hy69
       clear hy69
       replace q69 := eq_true q69
       refine start_ (n := 12) (S := fun w' => w'.cell? ⟨gb112, 0, none⟩ = some (.int .i64 ((rd_T41 l1 x19_2).f0)) ∧ w'.cell? ⟨gb112, 1, none⟩ = some (.bool ((rd_T41 l1 x19_2).f1)) ∧ w'.cell? ⟨gb112, 2, none⟩ = some (.int .i64 ((rd_T41 l1 x19_2).f2))) (ds := []) #[Z, Z, Z, Z, Z, Z, Z, Z, Z, Z, Z, Z] (by kernel_rfl) rfl rfl ⟨(blk_cell BK112.out 0).trans rfl, (blk_cell BK112.out 1).trans rfl, (blk_cell BK112.out 2).trans rfl⟩ (fun hHeld => ?_); refine with_tabW plan_May.tab6 plan_May.bits6 (fun HT_ HW_ => ?_)
       generalize w67.drew = w68 at BK109 BK112 HB HR116 hHeld ⊢
       refine pure_ (i := 0) (N := some 25) (v := ?_) (a' := ?_) #[Y, Z, Z, Z, Z, Z, Z, Z, Z, Z, Z, Z] rfl rfl (any_of HT_.out (by kernel_rfl)) (fun _ _ _ h => h) (Or.inl ⟨by rfl, ?_⟩) ?_ ?_
       rotate_left
       · intro w'
         go_simp
         with_reducible rfl
       rotate_left
       · simp only [Act.put, sb_, sz_, ss_, i64_w, i32_w]
         rfl
       refine pure_ (i := 1) (N := some 26) (v := ?_) (a' := ?_) #[Y, Y, Z, Z, Z, Z, Z, Z, Z, Z, Z, Z] rfl rfl (any_of HT_.out (by kernel_rfl)) (fun _ _ _ h => h) (Or.inl ⟨by rfl, ?_⟩) ?_ ?_
       rotate_left
       · intro w'
         go_simp
         with_reducible rfl
       rotate_left
       · simp only [Act.put, sb_, sz_, ss_, i64_w, i32_w]
         rfl
       refine pure_ (i := 2) (N := some 27) (v := ?_) (a' := ?_) #[Y, Y, Y, Z, Z, Z, Z, Z, Z, Z, Z, Z] rfl rfl (any_of HT_.out (by kernel_rfl)) (fun _ _ _ h => h) (Or.inl ⟨by rfl, ?_⟩) ?_ ?_
       rotate_left
       · intro w'
         go_simp
         with_reducible rfl
       rotate_left
       · simp only [Act.put, sb_, sz_, ss_, i64_w, i32_w]
         rfl
       refine pure_ (i := 3) (N := some 28) (v := ?_) (a' := ?_) #[Y, Y, Y, Y, Z, Z, Z, Z, Z, Z, Z, Z] rfl rfl (any_of HT_.out (by kernel_rfl)) (fun _ _ _ h => h) (Or.inl ⟨by rfl, ?_⟩) ?_ ?_
       rotate_left
       · intro w'
         go_simp
         with_reducible rfl
       rotate_left
       · simp only [Act.put, sb_, sz_, ss_, i64_w, i32_w]
         rfl
       refine take_ (i := 4) (N := some 29) (v := ?_) (a' := ?_) #[Y, Y, Y, Y, Y, Z, Z, Z, Z, Z, Z, Z] rfl rfl (take_ofW HT_.out HW_.out (by kernel_rfl)) (fun _ _ _ h => h) (Or.inl ⟨by rfl, ?_⟩) hHeld ?_ ?_
       rotate_left
       · rintro w' ⟨s0, s1, s2⟩
         go_simp
         with_reducible rfl
       rotate_left
       · simp only [Act.put, sb_, sz_, ss_, i64_w, i32_w]
         rfl
       refine join_ (σ := Nat) 2 #[Y, Y, Y, Y, Y, Y, Y, Y, Y, Y, Z, Z] (fun s_ => [(30, .tuple #[.agg #[.int .i64 t117, .bool t118, .int .i64 t119], .bool false]), (7, .pointer (some ⟨s_, 0, none⟩)), (24, .tuple #[.agg #[.int .i64 t117, .bool t118, .int .i64 t119], .bool false]), (31, .agg #[.int .i64 t117, .bool t118, .int .i64 t119]), (32, .bool false)]) (fun s_ w' => (w'.cell? ⟨gb112, 0, none⟩ = some (.int .i64 ((rd_T41 l1 x19_2).f0)) ∧ w'.cell? ⟨gb112, 1, none⟩ = some (.bool ((rd_T41 l1 x19_2).f1)) ∧ w'.cell? ⟨gb112, 2, none⟩ = some (.int .i64 ((rd_T41 l1 x19_2).f2))) ∧ (w'.heap[gb109]? = some (.cells #[.int .i64 a0_0, .int .i64 a0_1, .int .i64 a0_2, .int .i64 a0_3, .int .i64 a0_4] 23 (0, 0))) ∧ (w'.heap[gb112]? = some (.cells #[.int .i64 ((rd_T41 l1 x19_2).f0), .bool ((rd_T41 l1 x19_2).f1), .int .i64 ((rd_T41 l1 x19_2).f2)] 41 (0, 0))) ∧ (w'.heap[s_]? = some (.cells #[.int .i64 0, .bool false, .int .i64 0] 41 (0, 0))) ∧ (w.heap.size ≤ s_) ∧ (w.heap.size ≤ s_) ∧ (gb109 ≠ s_) ∧ (s_ ≠ gb109) ∧ (gb112 ≠ s_) ∧ (s_ ≠ gb112) ∧ (Below w.heap.size w w')) ?_ ?_
       rotate_left
       · intro hCont
         refine two_ (i := 5) (j := 9) (Ni := some 30) (Nj := some 7) #[Y, Y, Y, Y, Y, Y, Z, Z, Z, Z, Z, Z] #[Y, Y, Y, Y, Y, Z, Z, Z, Z, Y, Z, Z] rfl rfl rfl rfl (two_of HT_.out (by kernel_rfl)) (by decide) (by decide) (fun K hK => ?_) (fun K hK => ?_)
         · skip
           refine goes_ Try.func51 (by kernel_rfl) rfl #[.slice (some ad111) y113.length c1, .int .i64 ((rd_T41 l1 x19_2).f0)] (by rfl) rfl rfl (by (try simp only [List.map_toArray, List.map_cons, List.map_nil]); first | done | rfl | (simp only [List.length_drop, List.length_take]; rfl)) ?_
           with_reducible refine (plan_find.calls k2 _ _ y113 ((rd_T41 l1 x19_2).f0) t117 t118 t119 false _ ?side1 ?side2 A17.out).mono ?_
           (case side1 => repeat (first | exact (Kd.C_below HR116.out HB.out) | (with_reducible refine Kd.C_alloc ?_ _) | (with_reducible refine Kd.C_drewN ?_ _) | (with_reducible refine Kd.C_drew ?_)))
           (case side2 => exact HC116.out)
           rintro e w70 ⟨rfl, hb⟩
           refine ⟨_, rfl, ?_⟩
           have n0_ := Aside0.mk (blk_below (g := gb109) (o := .cells #[.int .i64 a0_0, .int .i64 a0_1, .int .i64 a0_2, .int .i64 a0_3, .int .i64 a0_4] 23 (0, 0)) (by (with_reducible repeat (first | refine blk_drewN ?_ _ | refine blk_drew ?_ | refine blk_alloc ?_ _)); exact BK109.out) hb)
           have n1_ := Aside0.mk (blk_below (g := gb112) (o := .cells #[.int .i64 ((rd_T41 l1 x19_2).f0), .bool ((rd_T41 l1 x19_2).f1), .int .i64 ((rd_T41 l1 x19_2).f2)] 41 (0, 0)) (by (with_reducible repeat (first | refine blk_drewN ?_ _ | refine blk_drew ?_ | refine blk_alloc ?_ _)); exact BK112.out) hb)
           have n2_ := Aside0.mk (below_step (by repeat (first | (with_reducible first | exact HB.out | apply below_alloc | apply pw_below_drewN | apply below_drew1 | refine below_set ?_ GE109.out | refine below_set ?_ GE112.out) | exact HB.out)) hb)
           clear BK109
           clear BK112
           clear HB
           have BK109 := n0_
           have BK112 := n1_
           have HB := n2_
           clear n0_ n1_ n2_
           (try clear hb)
           (try clear hb2)
           (try clear hk)
           (try clear hi)
           refine hK.out _ _ ⟨(blk_cell BK112.out 0).trans rfl, (blk_cell BK112.out 1).trans rfl, (blk_cell BK112.out 2).trans rfl⟩ (fun hHeld => ?_)
           clear hK K
           refine norm_ (a' := ?_) ?_ ?_
           rotate_left
           · show Act.put _ (some 30) _ = _
             simp only [Act.put, sb_, sz_, ss_, i64_w, i32_w]
             rfl
           refine pure_ (i := 6) (N := some 24) (v := ?_) (a' := ?_) #[Y, Y, Y, Y, Y, Y, Y, Z, Z, Z, Z, Z] rfl rfl (any_of HT_.out (by kernel_rfl)) (fun _ _ _ h => h) (Or.inl ⟨by rfl, ?_⟩) ?_ ?_
           rotate_left
           · intro w'
             go_simp
             with_reducible rfl
           rotate_left
           · simp only [Act.put, sb_, sz_, ss_, i64_w, i32_w]
             rfl
           refine pure_ (i := 7) (N := some 31) (v := ?_) (a' := ?_) #[Y, Y, Y, Y, Y, Y, Y, Y, Z, Z, Z, Z] rfl rfl (any_of HT_.out (by kernel_rfl)) (fun _ _ _ h => h) (Or.inl ⟨by rfl, ?_⟩) ?_ ?_
           rotate_left
           · intro w'
             go_simp
             with_reducible rfl
           rotate_left
           · simp only [Act.put, sb_, sz_, ss_, i64_w, i32_w]
             rfl
           refine pure_ (i := 8) (N := some 32) (v := ?_) (a' := ?_) #[Y, Y, Y, Y, Y, Y, Y, Y, Y, Z, Z, Z] rfl rfl (any_of HT_.out (by kernel_rfl)) (fun _ _ _ h => h) (Or.inl ⟨by rfl, ?_⟩) ?_ ?_
           rotate_left
           · intro w'
             go_simp
             with_reducible rfl
           rotate_left
           · simp only [Act.put, sb_, sz_, ss_, i64_w, i32_w]
             rfl
           refine one_ (i := 9) (N := some 7) #[Y, Y, Y, Y, Y, Y, Y, Y, Y, Y, Z, Z] rfl rfl (one_of HT_.out (by kernel_rfl)) (by decide) (fun K hK => ?_)
           refine box_step ?hg (N := 7) ?hd (cs := #[.int .i64 0, .bool false, .int .i64 0]) (t := 41) ?hr ?_; (case hd => rfl); (case hg => rfl); (case hr => first | (go_simp; done) | (go_simp; rfl))
           intro gb121 hg w71 hbox hb
           have n0_ := Aside0.mk (blk_below (g := gb109) (o := .cells #[.int .i64 a0_0, .int .i64 a0_1, .int .i64 a0_2, .int .i64 a0_3, .int .i64 a0_4] 23 (0, 0)) (by (with_reducible repeat (first | refine blk_drewN ?_ _ | refine blk_drew ?_ | refine blk_alloc ?_ _)); exact BK109.out) hb)
           have n1_ := Aside0.mk (blk_below (g := gb112) (o := .cells #[.int .i64 ((rd_T41 l1 x19_2).f0), .bool ((rd_T41 l1 x19_2).f1), .int .i64 ((rd_T41 l1 x19_2).f2)] 41 (0, 0)) (by (with_reducible repeat (first | refine blk_drewN ?_ _ | refine blk_drew ?_ | refine blk_alloc ?_ _)); exact BK112.out) hb)
           have n2_ := Aside0.mk (below_step (by repeat (first | (with_reducible first | exact HB.out | apply below_alloc | apply pw_below_drewN | apply below_drew1 | refine below_set ?_ GE109.out | refine below_set ?_ GE112.out) | exact HB.out)) hb)
           have n3_ := Aside0.mk (hbox)
           have n4_ := Aside0.mk ((by rw [hg]; exact (below_size (by repeat (first | (with_reducible first | exact HB.out | apply below_alloc | apply pw_below_drewN | apply below_drew1 | refine below_set ?_ GE109.out | refine below_set ?_ GE112.out) | exact HB.out))) : w.heap.size ≤ gb121))
           have n5_ := Aside0.mk ((by rw [hg]; exact (below_size (by repeat (first | (with_reducible first | exact HB.out | apply below_alloc | apply pw_below_drewN | apply below_drew1 | refine below_set ?_ GE109.out | refine below_set ?_ GE112.out) | exact HB.out))) : w.heap.size ≤ gb121))
           have n6_ := Aside0.mk ((by rw [hg]; exact Nat.ne_of_lt (blk_lt (g := gb109) (o := .cells #[.int .i64 a0_0, .int .i64 a0_1, .int .i64 a0_2, .int .i64 a0_3, .int .i64 a0_4] 23 (0, 0)) (by (with_reducible repeat (first | refine blk_drewN ?_ _ | refine blk_drew ?_ | refine blk_alloc ?_ _)); exact BK109.out)) : gb109 ≠ gb121))
           have n7_ := Aside0.mk ((by rw [hg]; exact Nat.ne_of_gt (blk_lt (g := gb109) (o := .cells #[.int .i64 a0_0, .int .i64 a0_1, .int .i64 a0_2, .int .i64 a0_3, .int .i64 a0_4] 23 (0, 0)) (by (with_reducible repeat (first | refine blk_drewN ?_ _ | refine blk_drew ?_ | refine blk_alloc ?_ _)); exact BK109.out)) : gb121 ≠ gb109))
           have n8_ := Aside0.mk ((by rw [hg]; exact Nat.ne_of_lt (blk_lt (g := gb112) (o := .cells #[.int .i64 ((rd_T41 l1 x19_2).f0), .bool ((rd_T41 l1 x19_2).f1), .int .i64 ((rd_T41 l1 x19_2).f2)] 41 (0, 0)) (by (with_reducible repeat (first | refine blk_drewN ?_ _ | refine blk_drew ?_ | refine blk_alloc ?_ _)); exact BK112.out)) : gb112 ≠ gb121))
           have n9_ := Aside0.mk ((by rw [hg]; exact Nat.ne_of_gt (blk_lt (g := gb112) (o := .cells #[.int .i64 ((rd_T41 l1 x19_2).f0), .bool ((rd_T41 l1 x19_2).f1), .int .i64 ((rd_T41 l1 x19_2).f2)] 41 (0, 0)) (by (with_reducible repeat (first | refine blk_drewN ?_ _ | refine blk_drew ?_ | refine blk_alloc ?_ _)); exact BK112.out)) : gb121 ≠ gb112))
           clear BK109
           clear BK112
           clear HB
           have BK109 := n0_
           have BK112 := n1_
           have HB := n2_
           have BK121 := n3_
           have GW121 := n4_
           have GE121 := n5_
           have NB109_121 := n6_
           have NB121_109 := n7_
           have NB112_121 := n8_
           have NB121_112 := n9_
           clear n0_ n1_ n2_ n3_ n4_ n5_ n6_ n7_ n8_ n9_
           clear hb hbox hg
           refine hK.out _ _ ⟨(blk_cell BK112.out 0).trans rfl, (blk_cell BK112.out 1).trans rfl, (blk_cell BK112.out 2).trans rfl⟩ (fun hHeld => ?_)
           clear hK K
           refine norm_ (a' := ?_) ?_ ?_
           rotate_left
           · show Act.put _ (some 7) _ = _
             simp only [Act.put, sb_, sz_, ss_, i64_w, i32_w]
             rfl
           exact norm_ (by simp only [putAll, Act.put, sb_, sz_, ss_]) (hCont (gb121) _ ⟨hHeld, (by (with_reducible repeat (first | refine blk_drewN ?_ _ | refine blk_drew ?_ | refine blk_alloc ?_ _)); exact BK109.out), (by (with_reducible repeat (first | refine blk_drewN ?_ _ | refine blk_drew ?_ | refine blk_alloc ?_ _)); exact BK112.out), (by (with_reducible repeat (first | refine blk_drewN ?_ _ | refine blk_drew ?_ | refine blk_alloc ?_ _)); exact BK121.out), GW121.out, GE121.out, NB109_121.out, NB121_109.out, NB112_121.out, NB121_112.out, (by repeat (first | (with_reducible first | exact HB.out | apply below_alloc | apply pw_below_drewN | apply below_drew1 | refine below_set ?_ GE109.out | refine below_set ?_ GE112.out | refine below_set ?_ GE121.out) | exact HB.out))⟩)
         · skip
           refine box_step ?hg (N := 7) ?hd (cs := #[.int .i64 0, .bool false, .int .i64 0]) (t := 41) ?hr ?_; (case hd => rfl); (case hg => rfl); (case hr => first | (go_simp; done) | (go_simp; rfl))
           intro gb121 hg w70 hbox hb
           have n0_ := Aside0.mk (blk_below (g := gb109) (o := .cells #[.int .i64 a0_0, .int .i64 a0_1, .int .i64 a0_2, .int .i64 a0_3, .int .i64 a0_4] 23 (0, 0)) (by (with_reducible repeat (first | refine blk_drewN ?_ _ | refine blk_drew ?_ | refine blk_alloc ?_ _)); exact BK109.out) hb)
           have n1_ := Aside0.mk (blk_below (g := gb112) (o := .cells #[.int .i64 ((rd_T41 l1 x19_2).f0), .bool ((rd_T41 l1 x19_2).f1), .int .i64 ((rd_T41 l1 x19_2).f2)] 41 (0, 0)) (by (with_reducible repeat (first | refine blk_drewN ?_ _ | refine blk_drew ?_ | refine blk_alloc ?_ _)); exact BK112.out) hb)
           have n2_ := Aside0.mk (below_step (by repeat (first | (with_reducible first | exact HB.out | apply below_alloc | apply pw_below_drewN | apply below_drew1 | refine below_set ?_ GE109.out | refine below_set ?_ GE112.out) | exact HB.out)) hb)
           have n3_ := Aside0.mk (hbox)
           have n4_ := Aside0.mk ((by rw [hg]; exact (below_size (by repeat (first | (with_reducible first | exact HB.out | apply below_alloc | apply pw_below_drewN | apply below_drew1 | refine below_set ?_ GE109.out | refine below_set ?_ GE112.out) | exact HB.out))) : w.heap.size ≤ gb121))
           have n5_ := Aside0.mk ((by rw [hg]; exact (below_size (by repeat (first | (with_reducible first | exact HB.out | apply below_alloc | apply pw_below_drewN | apply below_drew1 | refine below_set ?_ GE109.out | refine below_set ?_ GE112.out) | exact HB.out))) : w.heap.size ≤ gb121))
           have n6_ := Aside0.mk ((by rw [hg]; exact Nat.ne_of_lt (blk_lt (g := gb109) (o := .cells #[.int .i64 a0_0, .int .i64 a0_1, .int .i64 a0_2, .int .i64 a0_3, .int .i64 a0_4] 23 (0, 0)) (by (with_reducible repeat (first | refine blk_drewN ?_ _ | refine blk_drew ?_ | refine blk_alloc ?_ _)); exact BK109.out)) : gb109 ≠ gb121))
           have n7_ := Aside0.mk ((by rw [hg]; exact Nat.ne_of_gt (blk_lt (g := gb109) (o := .cells #[.int .i64 a0_0, .int .i64 a0_1, .int .i64 a0_2, .int .i64 a0_3, .int .i64 a0_4] 23 (0, 0)) (by (with_reducible repeat (first | refine blk_drewN ?_ _ | refine blk_drew ?_ | refine blk_alloc ?_ _)); exact BK109.out)) : gb121 ≠ gb109))
           have n8_ := Aside0.mk ((by rw [hg]; exact Nat.ne_of_lt (blk_lt (g := gb112) (o := .cells #[.int .i64 ((rd_T41 l1 x19_2).f0), .bool ((rd_T41 l1 x19_2).f1), .int .i64 ((rd_T41 l1 x19_2).f2)] 41 (0, 0)) (by (with_reducible repeat (first | refine blk_drewN ?_ _ | refine blk_drew ?_ | refine blk_alloc ?_ _)); exact BK112.out)) : gb112 ≠ gb121))
           have n9_ := Aside0.mk ((by rw [hg]; exact Nat.ne_of_gt (blk_lt (g := gb112) (o := .cells #[.int .i64 ((rd_T41 l1 x19_2).f0), .bool ((rd_T41 l1 x19_2).f1), .int .i64 ((rd_T41 l1 x19_2).f2)] 41 (0, 0)) (by (with_reducible repeat (first | refine blk_drewN ?_ _ | refine blk_drew ?_ | refine blk_alloc ?_ _)); exact BK112.out)) : gb121 ≠ gb112))
           clear BK109
           clear BK112
           clear HB
           have BK109 := n0_
           have BK112 := n1_
           have HB := n2_
           have BK121 := n3_
           have GW121 := n4_
           have GE121 := n5_
           have NB109_121 := n6_
           have NB121_109 := n7_
           have NB112_121 := n8_
           have NB121_112 := n9_
           clear n0_ n1_ n2_ n3_ n4_ n5_ n6_ n7_ n8_ n9_
           clear hb hbox hg
           refine hK.out _ _ ⟨(blk_cell BK112.out 0).trans rfl, (blk_cell BK112.out 1).trans rfl, (blk_cell BK112.out 2).trans rfl⟩ (fun hHeld => ?_)
           clear hK K
           refine norm_ (a' := ?_) ?_ ?_
           rotate_left
           · show Act.put _ (some 7) _ = _
             simp only [Act.put, sb_, sz_, ss_, i64_w, i32_w]
             rfl
           refine one_ (i := 5) (N := some 30) #[Y, Y, Y, Y, Y, Y, Z, Z, Z, Y, Z, Z] rfl rfl (one_of HT_.out (by kernel_rfl)) (by decide) (fun K hK => ?_)
           refine goes_ Try.func51 (by kernel_rfl) rfl #[.slice (some ad111) y113.length c1, .int .i64 ((rd_T41 l1 x19_2).f0)] (by rfl) rfl rfl (by (try simp only [List.map_toArray, List.map_cons, List.map_nil]); first | done | rfl | (simp only [List.length_drop, List.length_take]; rfl)) ?_
           with_reducible refine (plan_find.calls k2 _ _ y113 ((rd_T41 l1 x19_2).f0) t117 t118 t119 false _ ?side1 ?side2 A17.out).mono ?_
           (case side1 => repeat (first | exact (Kd.C_below HR116.out HB.out) | (with_reducible refine Kd.C_alloc ?_ _) | (with_reducible refine Kd.C_drewN ?_ _) | (with_reducible refine Kd.C_drew ?_)))
           (case side2 => exact HC116.out)
           rintro e w71 ⟨rfl, hb⟩
           refine ⟨_, rfl, ?_⟩
           have n0_ := Aside0.mk (blk_below (g := gb109) (o := .cells #[.int .i64 a0_0, .int .i64 a0_1, .int .i64 a0_2, .int .i64 a0_3, .int .i64 a0_4] 23 (0, 0)) (by (with_reducible repeat (first | refine blk_drewN ?_ _ | refine blk_drew ?_ | refine blk_alloc ?_ _)); exact BK109.out) hb)
           have n1_ := Aside0.mk (blk_below (g := gb112) (o := .cells #[.int .i64 ((rd_T41 l1 x19_2).f0), .bool ((rd_T41 l1 x19_2).f1), .int .i64 ((rd_T41 l1 x19_2).f2)] 41 (0, 0)) (by (with_reducible repeat (first | refine blk_drewN ?_ _ | refine blk_drew ?_ | refine blk_alloc ?_ _)); exact BK112.out) hb)
           have n2_ := Aside0.mk (blk_below (g := gb121) (o := .cells #[.int .i64 0, .bool false, .int .i64 0] 41 (0, 0)) (by (with_reducible repeat (first | refine blk_drewN ?_ _ | refine blk_drew ?_ | refine blk_alloc ?_ _)); exact BK121.out) hb)
           have n3_ := Aside0.mk (below_step (by repeat (first | (with_reducible first | exact HB.out | apply below_alloc | apply pw_below_drewN | apply below_drew1 | refine below_set ?_ GE109.out | refine below_set ?_ GE112.out | refine below_set ?_ GE121.out) | exact HB.out)) hb)
           clear BK109
           clear BK112
           clear BK121
           clear HB
           have BK109 := n0_
           have BK112 := n1_
           have BK121 := n2_
           have HB := n3_
           clear n0_ n1_ n2_ n3_
           (try clear hb)
           (try clear hb2)
           (try clear hk)
           (try clear hi)
           refine hK.out _ _ ⟨(blk_cell BK112.out 0).trans rfl, (blk_cell BK112.out 1).trans rfl, (blk_cell BK112.out 2).trans rfl⟩ (fun hHeld => ?_)
           clear hK K
           refine norm_ (a' := ?_) ?_ ?_
           rotate_left
           · show Act.put _ (some 30) _ = _
             simp only [Act.put, sb_, sz_, ss_, i64_w, i32_w]
             rfl
           refine pure_ (i := 6) (N := some 24) (v := ?_) (a' := ?_) #[Y, Y, Y, Y, Y, Y, Y, Z, Z, Y, Z, Z] rfl rfl (any_of HT_.out (by kernel_rfl)) (fun _ _ _ h => h) (Or.inl ⟨by rfl, ?_⟩) ?_ ?_
           rotate_left
           · intro w'
             go_simp
             with_reducible rfl
           rotate_left
           · simp only [Act.put, sb_, sz_, ss_, i64_w, i32_w]
             rfl
           refine pure_ (i := 7) (N := some 31) (v := ?_) (a' := ?_) #[Y, Y, Y, Y, Y, Y, Y, Y, Z, Y, Z, Z] rfl rfl (any_of HT_.out (by kernel_rfl)) (fun _ _ _ h => h) (Or.inl ⟨by rfl, ?_⟩) ?_ ?_
           rotate_left
           · intro w'
             go_simp
             with_reducible rfl
           rotate_left
           · simp only [Act.put, sb_, sz_, ss_, i64_w, i32_w]
             rfl
           refine pure_ (i := 8) (N := some 32) (v := ?_) (a' := ?_) #[Y, Y, Y, Y, Y, Y, Y, Y, Y, Y, Z, Z] rfl rfl (any_of HT_.out (by kernel_rfl)) (fun _ _ _ h => h) (Or.inl ⟨by rfl, ?_⟩) ?_ ?_
           rotate_left
           · intro w'
             go_simp
             with_reducible rfl
           rotate_left
           · simp only [Act.put, sb_, sz_, ss_, i64_w, i32_w]
             rfl
           exact norm_ (by simp only [putAll, Act.put, sb_, sz_, ss_]) (hCont (gb121) _ ⟨hHeld, (by (with_reducible repeat (first | refine blk_drewN ?_ _ | refine blk_drew ?_ | refine blk_alloc ?_ _)); exact BK109.out), (by (with_reducible repeat (first | refine blk_drewN ?_ _ | refine blk_drew ?_ | refine blk_alloc ?_ _)); exact BK112.out), (by (with_reducible repeat (first | refine blk_drewN ?_ _ | refine blk_drew ?_ | refine blk_alloc ?_ _)); exact BK121.out), GW121.out, GE121.out, NB109_121.out, NB121_109.out, NB112_121.out, NB121_112.out, (by repeat (first | (with_reducible first | exact HB.out | apply below_alloc | apply pw_below_drewN | apply below_drew1 | refine below_set ?_ GE109.out | refine below_set ?_ GE112.out | refine below_set ?_ GE121.out) | exact HB.out))⟩)
       rintro gb121 w72 ⟨hS_, h0_, h1_, h2_, h3_, h4_, h5_, h6_, h7_, h8_, h9_⟩
       have n0_ : Aside0 (w72.heap[gb109]? = some (.cells #[.int .i64 a0_0, .int .i64 a0_1, .int .i64 a0_2, .int .i64 a0_3, .int .i64 a0_4] 23 (0, 0))) := ⟨h0_⟩
       have n1_ : Aside0 (w72.heap[gb112]? = some (.cells #[.int .i64 ((rd_T41 l1 x19_2).f0), .bool ((rd_T41 l1 x19_2).f1), .int .i64 ((rd_T41 l1 x19_2).f2)] 41 (0, 0))) := ⟨h1_⟩
       have n2_ : Aside0 (w72.heap[gb121]? = some (.cells #[.int .i64 0, .bool false, .int .i64 0] 41 (0, 0))) := ⟨h2_⟩
       have n3_ : Aside0 (w.heap.size ≤ gb121) := ⟨h3_⟩
       have n4_ : Aside0 (w.heap.size ≤ gb121) := ⟨h4_⟩
       have n5_ : Aside0 (gb109 ≠ gb121) := ⟨h5_⟩
       have n6_ : Aside0 (gb121 ≠ gb109) := ⟨h6_⟩
       have n7_ : Aside0 (gb112 ≠ gb121) := ⟨h7_⟩
       have n8_ : Aside0 (gb121 ≠ gb112) := ⟨h8_⟩
       have n9_ : Aside0 (Below w.heap.size w w72) := ⟨h9_⟩
       clear BK109
       clear BK112
       clear HB
       clear h0_ h1_ h2_ h3_ h4_ h5_ h6_ h7_ h8_ h9_
       have BK109 := n0_
       have BK112 := n1_
       have BK121 := n2_
       have GW121 := n3_
       have GE121 := n4_
       have NB109_121 := n5_
       have NB121_109 := n6_
       have NB112_121 := n7_
       have NB121_112 := n8_
       have HB := n9_
       clear n0_ n1_ n2_ n3_ n4_ n5_ n6_ n7_ n8_ n9_
       have hHeld : w72.cell? ⟨gb112, 0, none⟩ = some (.int .i64 ((rd_T41 l1 x19_2).f0)) ∧ w72.cell? ⟨gb112, 1, none⟩ = some (.bool ((rd_T41 l1 x19_2).f1)) ∧ w72.cell? ⟨gb112, 2, none⟩ = some (.int .i64 ((rd_T41 l1 x19_2).f2)) := hS_
       refine norm_ (a' := ?_) ?_ ?_
       rotate_left
       · simp only [putAll, Act.put, sb_, sz_, ss_]
         rfl
       refine one_ (i := 10) (N := none) #[Y, Y, Y, Y, Y, Y, Y, Y, Y, Y, Y, Z] rfl rfl (one_of HT_.out (by kernel_rfl)) (by decide) (fun K hK => ?_)
       have hs73 : w72.cell? ⟨gb121, 0, none⟩ = some (.int .i64 0) := (blk_cell BK121.out 0).trans rfl
       have hfs73 := blk_frozen BK121.out 0
       have hns73_0 := NB109_121.out
       have hns73_1 := NB112_121.out
       have hms73_0 := NB121_109.out
       have hms73_1 := NB121_112.out
       have hs74 : w72.cell? ⟨gb121, 1, none⟩ = some (.bool false) := (blk_cell BK121.out 1).trans rfl
       have hfs74 := blk_frozen BK121.out 1
       have hns74_0 := NB109_121.out
       have hns74_1 := NB112_121.out
       have hms74_0 := NB121_109.out
       have hms74_1 := NB121_112.out
       have hs75 : w72.cell? ⟨gb121, 2, none⟩ = some (.int .i64 0) := (blk_cell BK121.out 2).trans rfl
       have hfs75 := blk_frozen BK121.out 2
       have hns75_0 := NB109_121.out
       have hns75_1 := NB112_121.out
       have hms75_0 := NB121_109.out
       have hms75_1 := NB121_112.out
       refine skip_ (w1 := ?_) (by rfl) rfl ?_ ?_
       rotate_left
       · go_simp
         rfl
       refine hK.out _ _ ⟨((cell_far (p := ⟨gb121, _, none⟩) NB112_121.out _).trans (((cell_far (p := ⟨gb121, _, none⟩) NB112_121.out _).trans (((cell_far (p := ⟨gb121, _, none⟩) NB112_121.out _).trans (hHeld.1)))))), ((cell_far (p := ⟨gb121, _, none⟩) NB112_121.out _).trans (((cell_far (p := ⟨gb121, _, none⟩) NB112_121.out _).trans (((cell_far (p := ⟨gb121, _, none⟩) NB112_121.out _).trans (hHeld.2.1)))))), ((cell_far (p := ⟨gb121, _, none⟩) NB112_121.out _).trans (((cell_far (p := ⟨gb121, _, none⟩) NB112_121.out _).trans (((cell_far (p := ⟨gb121, _, none⟩) NB112_121.out _).trans (hHeld.2.2))))))⟩ (fun hHeld => ?_)
       clear hK K
       refine pure_ (i := 11) (N := some 8) (v := ?_) (a' := ?_) #[Y, Y, Y, Y, Y, Y, Y, Y, Y, Y, Y, Y] rfl rfl (any_of HT_.out (by kernel_rfl)) (fun _ _ _ h => h) (Or.inl ⟨by rfl, ?_⟩) ?_ ?_
       rotate_left
       · intro w'
         go_simp
         with_reducible rfl
       rotate_left
       · simp only [Act.put, sb_, sz_, ss_, i64_w, i32_w]
         rfl
       refine done_ (done_of HT_.out (by kernel_rfl)) ?_
       have hnb76 := NB112_121.out
       have hnc76 := NB121_112.out
       have hcz77_0 : w72.cell? ⟨gb112, 0, none⟩ = some (.int .i64 ((rd_T41 l1 x19_2).f0)) := (blk_cell BK112.out 0).trans rfl
       have hcz77_1 : w72.cell? ⟨gb112, 1, none⟩ = some (.bool ((rd_T41 l1 x19_2).f1)) := (blk_cell BK112.out 1).trans rfl
       have hcz77_2 : w72.cell? ⟨gb112, 2, none⟩ = some (.int .i64 ((rd_T41 l1 x19_2).f2)) := (blk_cell BK112.out 2).trans rfl
       have hfz77_0 := blk_frozen BK112.out 0
       have hfz77_1 := blk_frozen BK112.out 1
       have hfz77_2 := blk_frozen BK112.out 2
       have hnb78 := NB109_121.out
       have hnc78 := NB121_109.out
       have hcz79_0 : w72.cell? ⟨gb109, 0, none⟩ = some (.int .i64 a0_0) := (blk_cell BK109.out 0).trans rfl
       have hcz79_1 : w72.cell? ⟨gb109, 1, none⟩ = some (.int .i64 a0_1) := (blk_cell BK109.out 1).trans rfl
       have hcz79_2 : w72.cell? ⟨gb109, 2, none⟩ = some (.int .i64 a0_2) := (blk_cell BK109.out 2).trans rfl
       have hcz79_3 : w72.cell? ⟨gb109, 3, none⟩ = some (.int .i64 a0_3) := (blk_cell BK109.out 3).trans rfl
       have hcz79_4 : w72.cell? ⟨gb109, 4, none⟩ = some (.int .i64 a0_4) := (blk_cell BK109.out 4).trans rfl
       have hfz79_0 := blk_frozen BK109.out 0
       have hfz79_1 := blk_frozen BK109.out 1
       have hfz79_2 := blk_frozen BK109.out 2
       have hfz79_3 := blk_frozen BK109.out 3
       have hfz79_4 := blk_frozen BK109.out 4
       try go_wp2
       go_ret
       exact ⟨by first | rfl | (simp [errW_none, errW_some] <;> rfl) | (simp [*, errW_none, errW_some] <;> rfl), by repeat (first | (with_reducible first | exact HB.out | apply below_alloc | apply pw_below_drewN | apply below_drew1 | refine below_set ?_ GE109.out | refine below_set ?_ GE112.out | refine below_set ?_ GE121.out) | exact HB.out)⟩
     rw [if_neg c63] at H
     have c63b0 : decide (((rd_T41 l1 x19_2).f2) < 0) = false := decide_eq_false c63
     clear c63
     by_cases c80 : ((rd_T41 l1 x19_2).f2) > 1073741824
     · rw [if_pos c80] at H
       have c80b0 : decide (1073741824 < ((rd_T41 l1 x19_2).f2)) = true := decide_eq_true c80
       clear c80
       obtain rfl := Option.some.inj H
       have p111 : 0 ≤ (x19_2 : Int) := of_decide_eq_true (by first | (with_reducible assumption) | assumption)
       have q111 : x19_2 < (l1.length : Int) := of_decide_eq_true (by first | (with_reducible assumption) | assumption)
       obtain ⟨ad111, e111, hx111_0, hx111_1, hx111_2⟩ := at_T41 HR1.out x19_2 p111 q111
       cases e111
       replace hx111_0 := (HB.out.cell (World.block_lt_of_cell? w _ hx111_0)).trans hx111_0
       replace hx111_1 := (HB.out.cell (World.block_lt_of_cell? w _ hx111_1)).trans hx111_1
       replace hx111_2 := (HB.out.cell (World.block_lt_of_cell? w _ hx111_2)).trans hx111_2
       replace p111 := eq_true p111
       replace q111 := eq_true q111
       try go_wp2_with (first | ((with_reducible refine gate_dst (N := 6) rfl ?_); (try (refine gate_guard (by rfl) ?_; dsimp only)); refine box_event ?hg (N := 6) ?hd (cs := #[.int .i64 0, .bool false, .int .i64 0]) (t := 41) ?hr ?_; (case hd => rfl); (case hg => rfl); (case hr => first | (go_simp; done) | (go_simp; rfl)); intro gb112 hg w81 hbox hb; have n0_ := Aside0.mk (blk_below (g := gb109) (o := .cells #[.int .i64 a0_0, .int .i64 a0_1, .int .i64 a0_2, .int .i64 a0_3, .int .i64 a0_4] 23 (0, 0)) (by (with_reducible repeat (first | refine blk_drewN ?_ _ | refine blk_drew ?_ | refine blk_alloc ?_ _)); exact BK109.out) hb); have n1_ := Aside0.mk (below_step (by repeat (first | (with_reducible first | exact HB.out | apply below_alloc | apply pw_below_drewN | apply below_drew1 | refine below_set ?_ GE109.out) | exact HB.out)) hb); have n2_ := Aside0.mk (hbox); have n3_ := Aside0.mk ((by rw [hg]; exact (below_size (by repeat (first | (with_reducible first | exact HB.out | apply below_alloc | apply pw_below_drewN | apply below_drew1 | refine below_set ?_ GE109.out) | exact HB.out))) : w.heap.size ≤ gb112)); have n4_ := Aside0.mk ((by rw [hg]; exact (below_size (by repeat (first | (with_reducible first | exact HB.out | apply below_alloc | apply pw_below_drewN | apply below_drew1 | refine below_set ?_ GE109.out) | exact HB.out))) : w.heap.size ≤ gb112)); have n5_ := Aside0.mk ((by rw [hg]; exact Nat.ne_of_lt (blk_lt (g := gb109) (o := .cells #[.int .i64 a0_0, .int .i64 a0_1, .int .i64 a0_2, .int .i64 a0_3, .int .i64 a0_4] 23 (0, 0)) (by (with_reducible repeat (first | refine blk_drewN ?_ _ | refine blk_drew ?_ | refine blk_alloc ?_ _)); exact BK109.out)) : gb109 ≠ gb112)); have n6_ := Aside0.mk ((by rw [hg]; exact Nat.ne_of_gt (blk_lt (g := gb109) (o := .cells #[.int .i64 a0_0, .int .i64 a0_1, .int .i64 a0_2, .int .i64 a0_3, .int .i64 a0_4] 23 (0, 0)) (by (with_reducible repeat (first | refine blk_drewN ?_ _ | refine blk_drew ?_ | refine blk_alloc ?_ _)); exact BK109.out)) : gb112 ≠ gb109)); clear BK109; clear HB; have BK109 := n0_; have HB := n1_; have BK112 := n2_; have GW112 := n3_; have GE112 := n4_; have NB109_112 := n5_; have NB112_109 := n6_; clear n0_ n1_ n2_ n3_ n4_ n5_ n6_; clear hb hbox hg; have hnb82 := NB112_109.out; have hnc82 := NB109_112.out; have hcz83_0 : w81.cell? ⟨gb112, 0, none⟩ = some (.int .i64 0) := (blk_cell BK112.out 0).trans rfl; have hcz83_1 : w81.cell? ⟨gb112, 1, none⟩ = some (.bool false) := (blk_cell BK112.out 1).trans rfl; have hcz83_2 : w81.cell? ⟨gb112, 2, none⟩ = some (.int .i64 0) := (blk_cell BK112.out 2).trans rfl; have hfz83_0 := blk_frozen BK112.out 0; have hfz83_1 := blk_frozen BK112.out 1; have hfz83_2 := blk_frozen BK112.out 2))
       have n0_ : Aside0 ((((w81.setCell ⟨gb112, 0, none⟩ (.int .i64 ((rd_T41 l1 x19_2).f0))).setCell ⟨gb112, 1, none⟩ (.bool ((rd_T41 l1 x19_2).f1))).setCell ⟨gb112, 2, none⟩ (.int .i64 ((rd_T41 l1 x19_2).f2))).heap[gb109]? = some (.cells #[.int .i64 a0_0, .int .i64 a0_1, .int .i64 a0_2, .int .i64 a0_3, .int .i64 a0_4] 23 (0, 0))) := ⟨by (with_reducible repeat (first | refine blk_drewN ?_ _ | refine blk_drew ?_ | refine blk_alloc ?_ _)); refine blk_far ?_ NB109_112.out _; (with_reducible repeat (first | refine blk_drewN ?_ _ | refine blk_drew ?_ | refine blk_alloc ?_ _)); refine blk_far ?_ NB109_112.out _; (with_reducible repeat (first | refine blk_drewN ?_ _ | refine blk_drew ?_ | refine blk_alloc ?_ _)); refine blk_far ?_ NB109_112.out _; (with_reducible repeat (first | refine blk_drewN ?_ _ | refine blk_drew ?_ | refine blk_alloc ?_ _)); exact BK109.out⟩
       have n1_ : Aside0 ((((w81.setCell ⟨gb112, 0, none⟩ (.int .i64 ((rd_T41 l1 x19_2).f0))).setCell ⟨gb112, 1, none⟩ (.bool ((rd_T41 l1 x19_2).f1))).setCell ⟨gb112, 2, none⟩ (.int .i64 ((rd_T41 l1 x19_2).f2))).heap[gb112]? = some (.cells #[.int .i64 ((rd_T41 l1 x19_2).f0), .bool ((rd_T41 l1 x19_2).f1), .int .i64 ((rd_T41 l1 x19_2).f2)] 41 (0, 0))) := ⟨by (with_reducible repeat (first | refine blk_drewN ?_ _ | refine blk_drew ?_ | refine blk_alloc ?_ _)); refine blk_put (cs := #[.int .i64 ((rd_T41 l1 x19_2).f0), .bool ((rd_T41 l1 x19_2).f1), .int .i64 0]) ?_ 2 _ rfl; (with_reducible repeat (first | refine blk_drewN ?_ _ | refine blk_drew ?_ | refine blk_alloc ?_ _)); refine blk_put (cs := #[.int .i64 ((rd_T41 l1 x19_2).f0), .bool false, .int .i64 0]) ?_ 1 _ rfl; (with_reducible repeat (first | refine blk_drewN ?_ _ | refine blk_drew ?_ | refine blk_alloc ?_ _)); refine blk_put (cs := #[.int .i64 0, .bool false, .int .i64 0]) ?_ 0 _ rfl; (with_reducible repeat (first | refine blk_drewN ?_ _ | refine blk_drew ?_ | refine blk_alloc ?_ _)); exact BK112.out⟩
       have n2_ : Aside0 (Below w.heap.size w (((w81.setCell ⟨gb112, 0, none⟩ (.int .i64 ((rd_T41 l1 x19_2).f0))).setCell ⟨gb112, 1, none⟩ (.bool ((rd_T41 l1 x19_2).f1))).setCell ⟨gb112, 2, none⟩ (.int .i64 ((rd_T41 l1 x19_2).f2)))) := ⟨by repeat (first | (with_reducible first | exact HB.out | apply below_alloc | apply pw_below_drewN | apply below_drew1 | refine below_set ?_ GE109.out | refine below_set ?_ GE112.out) | exact HB.out)⟩
       (try clear BK109)
       (try clear BK112)
       (try clear HB)
       generalize (((w81.setCell ⟨gb112, 0, none⟩ (.int .i64 ((rd_T41 l1 x19_2).f0))).setCell ⟨gb112, 1, none⟩ (.bool ((rd_T41 l1 x19_2).f1))).setCell ⟨gb112, 2, none⟩ (.int .i64 ((rd_T41 l1 x19_2).f2))) = w84 at n0_ n1_ n2_ ⊢
       have BK109 := n0_
       have BK112 := n1_
       have HB := n2_
       clear n0_ n1_ n2_
       have n0_ := Aside0.mk (blk_drew BK109.out)
       have n1_ := Aside0.mk (blk_drew BK112.out)
       have n2_ := Aside0.mk (below_drew1 HB.out)
       clear BK109
       clear BK112
       clear HB
       have BK109 := n0_
       have BK112 := n1_
       have HB := n2_
       clear n0_ n1_ n2_
       have q86 : (x19_2 : Int) ≤ ((l1.length : Int) : Int) := of_decide_eq_true (by first | (with_reducible assumption) | assumption)
       obtain ⟨i086, hi086, _, hsz86, _⟩ := info_parts info41
       have hroom86 : l1.length ≤ c1 := HC1.out
       have hC86 : Kd.C k41 _ (some ad111) l1.length l1 := HR1.out
       have hcut86 := cut_to (P := Try.prog) 33 41 .i64 Try.underlying33 hi086 (some ad111) l1.length c1 x19_2 (of_decide_eq_true (by first | (with_reducible assumption) | assumption)) q86 hroom86
       have hr86 := Kd.C_take (m := (x19_2 : Int).toNat) hC86 (by omega)
       have hy86 : y113.length = (x19_2 : Int).toNat := (by rw [Ny113.out, List.length_take]; omega)
       rw [← Ny113.out] at hr86
       rw [← hy86] at hcut86
       have HR116 := Aside0.mk hr86
       have HC116 := Aside0.mk (show y113.length ≤ c1 from by omega)
       clear hr86 hC86 hroom86 hi086 hsz86
       have KY86 := Aside0.mk hy86
       clear hy86
       replace q86 := eq_true q86
       refine start_ (n := 12) (S := fun w' => w'.cell? ⟨gb112, 0, none⟩ = some (.int .i64 ((rd_T41 l1 x19_2).f0)) ∧ w'.cell? ⟨gb112, 1, none⟩ = some (.bool ((rd_T41 l1 x19_2).f1)) ∧ w'.cell? ⟨gb112, 2, none⟩ = some (.int .i64 ((rd_T41 l1 x19_2).f2))) (ds := []) #[Z, Z, Z, Z, Z, Z, Z, Z, Z, Z, Z, Z] (by kernel_rfl) rfl rfl ⟨(blk_cell BK112.out 0).trans rfl, (blk_cell BK112.out 1).trans rfl, (blk_cell BK112.out 2).trans rfl⟩ (fun hHeld => ?_); refine with_tabW plan_May.tab6 plan_May.bits6 (fun HT_ HW_ => ?_)
       generalize w84.drew = w85 at BK109 BK112 HB HR116 hHeld ⊢
       refine pure_ (i := 0) (N := some 25) (v := ?_) (a' := ?_) #[Y, Z, Z, Z, Z, Z, Z, Z, Z, Z, Z, Z] rfl rfl (any_of HT_.out (by kernel_rfl)) (fun _ _ _ h => h) (Or.inl ⟨by rfl, ?_⟩) ?_ ?_
       rotate_left
       · intro w'
         go_simp
         with_reducible rfl
       rotate_left
       · simp only [Act.put, sb_, sz_, ss_, i64_w, i32_w]
         rfl
       refine pure_ (i := 1) (N := some 26) (v := ?_) (a' := ?_) #[Y, Y, Z, Z, Z, Z, Z, Z, Z, Z, Z, Z] rfl rfl (any_of HT_.out (by kernel_rfl)) (fun _ _ _ h => h) (Or.inl ⟨by rfl, ?_⟩) ?_ ?_
       rotate_left
       · intro w'
         go_simp
         with_reducible rfl
       rotate_left
       · simp only [Act.put, sb_, sz_, ss_, i64_w, i32_w]
         rfl
       refine pure_ (i := 2) (N := some 27) (v := ?_) (a' := ?_) #[Y, Y, Y, Z, Z, Z, Z, Z, Z, Z, Z, Z] rfl rfl (any_of HT_.out (by kernel_rfl)) (fun _ _ _ h => h) (Or.inl ⟨by rfl, ?_⟩) ?_ ?_
       rotate_left
       · intro w'
         go_simp
         with_reducible rfl
       rotate_left
       · simp only [Act.put, sb_, sz_, ss_, i64_w, i32_w]
         rfl
       refine pure_ (i := 3) (N := some 28) (v := ?_) (a' := ?_) #[Y, Y, Y, Y, Z, Z, Z, Z, Z, Z, Z, Z] rfl rfl (any_of HT_.out (by kernel_rfl)) (fun _ _ _ h => h) (Or.inl ⟨by rfl, ?_⟩) ?_ ?_
       rotate_left
       · intro w'
         go_simp
         with_reducible rfl
       rotate_left
       · simp only [Act.put, sb_, sz_, ss_, i64_w, i32_w]
         rfl
       refine take_ (i := 4) (N := some 29) (v := ?_) (a' := ?_) #[Y, Y, Y, Y, Y, Z, Z, Z, Z, Z, Z, Z] rfl rfl (take_ofW HT_.out HW_.out (by kernel_rfl)) (fun _ _ _ h => h) (Or.inl ⟨by rfl, ?_⟩) hHeld ?_ ?_
       rotate_left
       · rintro w' ⟨s0, s1, s2⟩
         go_simp
         with_reducible rfl
       rotate_left
       · simp only [Act.put, sb_, sz_, ss_, i64_w, i32_w]
         rfl
       refine join_ (σ := Nat) 2 #[Y, Y, Y, Y, Y, Y, Y, Y, Y, Y, Z, Z] (fun s_ => [(30, .tuple #[.agg #[.int .i64 t117, .bool t118, .int .i64 t119], .bool false]), (7, .pointer (some ⟨s_, 0, none⟩)), (24, .tuple #[.agg #[.int .i64 t117, .bool t118, .int .i64 t119], .bool false]), (31, .agg #[.int .i64 t117, .bool t118, .int .i64 t119]), (32, .bool false)]) (fun s_ w' => (w'.cell? ⟨gb112, 0, none⟩ = some (.int .i64 ((rd_T41 l1 x19_2).f0)) ∧ w'.cell? ⟨gb112, 1, none⟩ = some (.bool ((rd_T41 l1 x19_2).f1)) ∧ w'.cell? ⟨gb112, 2, none⟩ = some (.int .i64 ((rd_T41 l1 x19_2).f2))) ∧ (w'.heap[gb109]? = some (.cells #[.int .i64 a0_0, .int .i64 a0_1, .int .i64 a0_2, .int .i64 a0_3, .int .i64 a0_4] 23 (0, 0))) ∧ (w'.heap[gb112]? = some (.cells #[.int .i64 ((rd_T41 l1 x19_2).f0), .bool ((rd_T41 l1 x19_2).f1), .int .i64 ((rd_T41 l1 x19_2).f2)] 41 (0, 0))) ∧ (w'.heap[s_]? = some (.cells #[.int .i64 0, .bool false, .int .i64 0] 41 (0, 0))) ∧ (w.heap.size ≤ s_) ∧ (w.heap.size ≤ s_) ∧ (gb109 ≠ s_) ∧ (s_ ≠ gb109) ∧ (gb112 ≠ s_) ∧ (s_ ≠ gb112) ∧ (Below w.heap.size w w')) ?_ ?_
       rotate_left
       · intro hCont
         refine two_ (i := 5) (j := 9) (Ni := some 30) (Nj := some 7) #[Y, Y, Y, Y, Y, Y, Z, Z, Z, Z, Z, Z] #[Y, Y, Y, Y, Y, Z, Z, Z, Z, Y, Z, Z] rfl rfl rfl rfl (two_of HT_.out (by kernel_rfl)) (by decide) (by decide) (fun K hK => ?_) (fun K hK => ?_)
         · skip
           refine goes_ Try.func51 (by kernel_rfl) rfl #[.slice (some ad111) y113.length c1, .int .i64 ((rd_T41 l1 x19_2).f0)] (by rfl) rfl rfl (by (try simp only [List.map_toArray, List.map_cons, List.map_nil]); first | done | rfl | (simp only [List.length_drop, List.length_take]; rfl)) ?_
           with_reducible refine (plan_find.calls k2 _ _ y113 ((rd_T41 l1 x19_2).f0) t117 t118 t119 false _ ?side1 ?side2 A17.out).mono ?_
           (case side1 => repeat (first | exact (Kd.C_below HR116.out HB.out) | (with_reducible refine Kd.C_alloc ?_ _) | (with_reducible refine Kd.C_drewN ?_ _) | (with_reducible refine Kd.C_drew ?_)))
           (case side2 => exact HC116.out)
           rintro e w87 ⟨rfl, hb⟩
           refine ⟨_, rfl, ?_⟩
           have n0_ := Aside0.mk (blk_below (g := gb109) (o := .cells #[.int .i64 a0_0, .int .i64 a0_1, .int .i64 a0_2, .int .i64 a0_3, .int .i64 a0_4] 23 (0, 0)) (by (with_reducible repeat (first | refine blk_drewN ?_ _ | refine blk_drew ?_ | refine blk_alloc ?_ _)); exact BK109.out) hb)
           have n1_ := Aside0.mk (blk_below (g := gb112) (o := .cells #[.int .i64 ((rd_T41 l1 x19_2).f0), .bool ((rd_T41 l1 x19_2).f1), .int .i64 ((rd_T41 l1 x19_2).f2)] 41 (0, 0)) (by (with_reducible repeat (first | refine blk_drewN ?_ _ | refine blk_drew ?_ | refine blk_alloc ?_ _)); exact BK112.out) hb)
           have n2_ := Aside0.mk (below_step (by repeat (first | (with_reducible first | exact HB.out | apply below_alloc | apply pw_below_drewN | apply below_drew1 | refine below_set ?_ GE109.out | refine below_set ?_ GE112.out) | exact HB.out)) hb)
           clear BK109
           clear BK112
           clear HB
           have BK109 := n0_
           have BK112 := n1_
           have HB := n2_
           clear n0_ n1_ n2_
           (try clear hb)
           (try clear hb2)
           (try clear hk)
           (try clear hi)
           refine hK.out _ _ ⟨(blk_cell BK112.out 0).trans rfl, (blk_cell BK112.out 1).trans rfl, (blk_cell BK112.out 2).trans rfl⟩ (fun hHeld => ?_)
           clear hK K
           refine norm_ (a' := ?_) ?_ ?_
           rotate_left
           · show Act.put _ (some 30) _ = _
             simp only [Act.put, sb_, sz_, ss_, i64_w, i32_w]
             rfl
           refine pure_ (i := 6) (N := some 24) (v := ?_) (a' := ?_) #[Y, Y, Y, Y, Y, Y, Y, Z, Z, Z, Z, Z] rfl rfl (any_of HT_.out (by kernel_rfl)) (fun _ _ _ h => h) (Or.inl ⟨by rfl, ?_⟩) ?_ ?_
           rotate_left
           · intro w'
             go_simp
             with_reducible rfl
           rotate_left
           · simp only [Act.put, sb_, sz_, ss_, i64_w, i32_w]
             rfl
           refine pure_ (i := 7) (N := some 31) (v := ?_) (a' := ?_) #[Y, Y, Y, Y, Y, Y, Y, Y, Z, Z, Z, Z] rfl rfl (any_of HT_.out (by kernel_rfl)) (fun _ _ _ h => h) (Or.inl ⟨by rfl, ?_⟩) ?_ ?_
           rotate_left
           · intro w'
             go_simp
             with_reducible rfl
           rotate_left
           · simp only [Act.put, sb_, sz_, ss_, i64_w, i32_w]
             rfl
           refine pure_ (i := 8) (N := some 32) (v := ?_) (a' := ?_) #[Y, Y, Y, Y, Y, Y, Y, Y, Y, Z, Z, Z] rfl rfl (any_of HT_.out (by kernel_rfl)) (fun _ _ _ h => h) (Or.inl ⟨by rfl, ?_⟩) ?_ ?_
           rotate_left
           · intro w'
             go_simp
             with_reducible rfl
           rotate_left
           · simp only [Act.put, sb_, sz_, ss_, i64_w, i32_w]
             rfl
           refine one_ (i := 9) (N := some 7) #[Y, Y, Y, Y, Y, Y, Y, Y, Y, Y, Z, Z] rfl rfl (one_of HT_.out (by kernel_rfl)) (by decide) (fun K hK => ?_)
           refine box_step ?hg (N := 7) ?hd (cs := #[.int .i64 0, .bool false, .int .i64 0]) (t := 41) ?hr ?_; (case hd => rfl); (case hg => rfl); (case hr => first | (go_simp; done) | (go_simp; rfl))
           intro gb121 hg w88 hbox hb
           have n0_ := Aside0.mk (blk_below (g := gb109) (o := .cells #[.int .i64 a0_0, .int .i64 a0_1, .int .i64 a0_2, .int .i64 a0_3, .int .i64 a0_4] 23 (0, 0)) (by (with_reducible repeat (first | refine blk_drewN ?_ _ | refine blk_drew ?_ | refine blk_alloc ?_ _)); exact BK109.out) hb)
           have n1_ := Aside0.mk (blk_below (g := gb112) (o := .cells #[.int .i64 ((rd_T41 l1 x19_2).f0), .bool ((rd_T41 l1 x19_2).f1), .int .i64 ((rd_T41 l1 x19_2).f2)] 41 (0, 0)) (by (with_reducible repeat (first | refine blk_drewN ?_ _ | refine blk_drew ?_ | refine blk_alloc ?_ _)); exact BK112.out) hb)
           have n2_ := Aside0.mk (below_step (by repeat (first | (with_reducible first | exact HB.out | apply below_alloc | apply pw_below_drewN | apply below_drew1 | refine below_set ?_ GE109.out | refine below_set ?_ GE112.out) | exact HB.out)) hb)
           have n3_ := Aside0.mk (hbox)
           have n4_ := Aside0.mk ((by rw [hg]; exact (below_size (by repeat (first | (with_reducible first | exact HB.out | apply below_alloc | apply pw_below_drewN | apply below_drew1 | refine below_set ?_ GE109.out | refine below_set ?_ GE112.out) | exact HB.out))) : w.heap.size ≤ gb121))
           have n5_ := Aside0.mk ((by rw [hg]; exact (below_size (by repeat (first | (with_reducible first | exact HB.out | apply below_alloc | apply pw_below_drewN | apply below_drew1 | refine below_set ?_ GE109.out | refine below_set ?_ GE112.out) | exact HB.out))) : w.heap.size ≤ gb121))
           have n6_ := Aside0.mk ((by rw [hg]; exact Nat.ne_of_lt (blk_lt (g := gb109) (o := .cells #[.int .i64 a0_0, .int .i64 a0_1, .int .i64 a0_2, .int .i64 a0_3, .int .i64 a0_4] 23 (0, 0)) (by (with_reducible repeat (first | refine blk_drewN ?_ _ | refine blk_drew ?_ | refine blk_alloc ?_ _)); exact BK109.out)) : gb109 ≠ gb121))
           have n7_ := Aside0.mk ((by rw [hg]; exact Nat.ne_of_gt (blk_lt (g := gb109) (o := .cells #[.int .i64 a0_0, .int .i64 a0_1, .int .i64 a0_2, .int .i64 a0_3, .int .i64 a0_4] 23 (0, 0)) (by (with_reducible repeat (first | refine blk_drewN ?_ _ | refine blk_drew ?_ | refine blk_alloc ?_ _)); exact BK109.out)) : gb121 ≠ gb109))
           have n8_ := Aside0.mk ((by rw [hg]; exact Nat.ne_of_lt (blk_lt (g := gb112) (o := .cells #[.int .i64 ((rd_T41 l1 x19_2).f0), .bool ((rd_T41 l1 x19_2).f1), .int .i64 ((rd_T41 l1 x19_2).f2)] 41 (0, 0)) (by (with_reducible repeat (first | refine blk_drewN ?_ _ | refine blk_drew ?_ | refine blk_alloc ?_ _)); exact BK112.out)) : gb112 ≠ gb121))
           have n9_ := Aside0.mk ((by rw [hg]; exact Nat.ne_of_gt (blk_lt (g := gb112) (o := .cells #[.int .i64 ((rd_T41 l1 x19_2).f0), .bool ((rd_T41 l1 x19_2).f1), .int .i64 ((rd_T41 l1 x19_2).f2)] 41 (0, 0)) (by (with_reducible repeat (first | refine blk_drewN ?_ _ | refine blk_drew ?_ | refine blk_alloc ?_ _)); exact BK112.out)) : gb121 ≠ gb112))
           clear BK109
           clear BK112
           clear HB
           have BK109 := n0_
           have BK112 := n1_
           have HB := n2_
           have BK121 := n3_
           have GW121 := n4_
           have GE121 := n5_
           have NB109_121 := n6_
           have NB121_109 := n7_
           have NB112_121 := n8_
           have NB121_112 := n9_
           clear n0_ n1_ n2_ n3_ n4_ n5_ n6_ n7_ n8_ n9_
           clear hb hbox hg
           refine hK.out _ _ ⟨(blk_cell BK112.out 0).trans rfl, (blk_cell BK112.out 1).trans rfl, (blk_cell BK112.out 2).trans rfl⟩ (fun hHeld => ?_)
           clear hK K
           refine norm_ (a' := ?_) ?_ ?_
           rotate_left
           · show Act.put _ (some 7) _ = _
             simp only [Act.put, sb_, sz_, ss_, i64_w, i32_w]
             rfl
           exact norm_ (by simp only [putAll, Act.put, sb_, sz_, ss_]) (hCont (gb121) _ ⟨hHeld, (by (with_reducible repeat (first | refine blk_drewN ?_ _ | refine blk_drew ?_ | refine blk_alloc ?_ _)); exact BK109.out), (by (with_reducible repeat (first | refine blk_drewN ?_ _ | refine blk_drew ?_ | refine blk_alloc ?_ _)); exact BK112.out), (by (with_reducible repeat (first | refine blk_drewN ?_ _ | refine blk_drew ?_ | refine blk_alloc ?_ _)); exact BK121.out), GW121.out, GE121.out, NB109_121.out, NB121_109.out, NB112_121.out, NB121_112.out, (by repeat (first | (with_reducible first | exact HB.out | apply below_alloc | apply pw_below_drewN | apply below_drew1 | refine below_set ?_ GE109.out | refine below_set ?_ GE112.out | refine below_set ?_ GE121.out) | exact HB.out))⟩)
         · skip
           refine box_step ?hg (N := 7) ?hd (cs := #[.int .i64 0, .bool false, .int .i64 0]) (t := 41) ?hr ?_; (case hd => rfl); (case hg => rfl); (case hr => first | (go_simp; done) | (go_simp; rfl))
           intro gb121 hg w87 hbox hb
           have n0_ := Aside0.mk (blk_below (g := gb109) (o := .cells #[.int .i64 a0_0, .int .i64 a0_1, .int .i64 a0_2, .int .i64 a0_3, .int .i64 a0_4] 23 (0, 0)) (by (with_reducible repeat (first | refine blk_drewN ?_ _ | refine blk_drew ?_ | refine blk_alloc ?_ _)); exact BK109.out) hb)
           have n1_ := Aside0.mk (blk_below (g := gb112) (o := .cells #[.int .i64 ((rd_T41 l1 x19_2).f0), .bool ((rd_T41 l1 x19_2).f1), .int .i64 ((rd_T41 l1 x19_2).f2)] 41 (0, 0)) (by (with_reducible repeat (first | refine blk_drewN ?_ _ | refine blk_drew ?_ | refine blk_alloc ?_ _)); exact BK112.out) hb)
           have n2_ := Aside0.mk (below_step (by repeat (first | (with_reducible first | exact HB.out | apply below_alloc | apply pw_below_drewN | apply below_drew1 | refine below_set ?_ GE109.out | refine below_set ?_ GE112.out) | exact HB.out)) hb)
           have n3_ := Aside0.mk (hbox)
           have n4_ := Aside0.mk ((by rw [hg]; exact (below_size (by repeat (first | (with_reducible first | exact HB.out | apply below_alloc | apply pw_below_drewN | apply below_drew1 | refine below_set ?_ GE109.out | refine below_set ?_ GE112.out) | exact HB.out))) : w.heap.size ≤ gb121))
           have n5_ := Aside0.mk ((by rw [hg]; exact (below_size (by repeat (first | (with_reducible first | exact HB.out | apply below_alloc | apply pw_below_drewN | apply below_drew1 | refine below_set ?_ GE109.out | refine below_set ?_ GE112.out) | exact HB.out))) : w.heap.size ≤ gb121))
           have n6_ := Aside0.mk ((by rw [hg]; exact Nat.ne_of_lt (blk_lt (g := gb109) (o := .cells #[.int .i64 a0_0, .int .i64 a0_1, .int .i64 a0_2, .int .i64 a0_3, .int .i64 a0_4] 23 (0, 0)) (by (with_reducible repeat (first | refine blk_drewN ?_ _ | refine blk_drew ?_ | refine blk_alloc ?_ _)); exact BK109.out)) : gb109 ≠ gb121))
           have n7_ := Aside0.mk ((by rw [hg]; exact Nat.ne_of_gt (blk_lt (g := gb109) (o := .cells #[.int .i64 a0_0, .int .i64 a0_1, .int .i64 a0_2, .int .i64 a0_3, .int .i64 a0_4] 23 (0, 0)) (by (with_reducible repeat (first | refine blk_drewN ?_ _ | refine blk_drew ?_ | refine blk_alloc ?_ _)); exact BK109.out)) : gb121 ≠ gb109))
           have n8_ := Aside0.mk ((by rw [hg]; exact Nat.ne_of_lt (blk_lt (g := gb112) (o := .cells #[.int .i64 ((rd_T41 l1 x19_2).f0), .bool ((rd_T41 l1 x19_2).f1), .int .i64 ((rd_T41 l1 x19_2).f2)] 41 (0, 0)) (by (with_reducible repeat (first | refine blk_drewN ?_ _ | refine blk_drew ?_ | refine blk_alloc ?_ _)); exact BK112.out)) : gb112 ≠ gb121))
           have n9_ := Aside0.mk ((by rw [hg]; exact Nat.ne_of_gt (blk_lt (g := gb112) (o := .cells #[.int .i64 ((rd_T41 l1 x19_2).f0), .bool ((rd_T41 l1 x19_2).f1), .int .i64 ((rd_T41 l1 x19_2).f2)] 41 (0, 0)) (by (with_reducible repeat (first | refine blk_drewN ?_ _ | refine blk_drew ?_ | refine blk_alloc ?_ _)); exact BK112.out)) : gb121 ≠ gb112))
           clear BK109
           clear BK112
           clear HB
           have BK109 := n0_
           have BK112 := n1_
           have HB := n2_
           have BK121 := n3_
           have GW121 := n4_
           have GE121 := n5_
           have NB109_121 := n6_
           have NB121_109 := n7_
           have NB112_121 := n8_
           have NB121_112 := n9_
           clear n0_ n1_ n2_ n3_ n4_ n5_ n6_ n7_ n8_ n9_
           clear hb hbox hg
           refine hK.out _ _ ⟨(blk_cell BK112.out 0).trans rfl, (blk_cell BK112.out 1).trans rfl, (blk_cell BK112.out 2).trans rfl⟩ (fun hHeld => ?_)
           clear hK K
           refine norm_ (a' := ?_) ?_ ?_
           rotate_left
           · show Act.put _ (some 7) _ = _
             simp only [Act.put, sb_, sz_, ss_, i64_w, i32_w]
             rfl
           refine one_ (i := 5) (N := some 30) #[Y, Y, Y, Y, Y, Y, Z, Z, Z, Y, Z, Z] rfl rfl (one_of HT_.out (by kernel_rfl)) (by decide) (fun K hK => ?_)
           refine goes_ Try.func51 (by kernel_rfl) rfl #[.slice (some ad111) y113.length c1, .int .i64 ((rd_T41 l1 x19_2).f0)] (by rfl) rfl rfl (by (try simp only [List.map_toArray, List.map_cons, List.map_nil]); first | done | rfl | (simp only [List.length_drop, List.length_take]; rfl)) ?_
           with_reducible refine (plan_find.calls k2 _ _ y113 ((rd_T41 l1 x19_2).f0) t117 t118 t119 false _ ?side1 ?side2 A17.out).mono ?_
           (case side1 => repeat (first | exact (Kd.C_below HR116.out HB.out) | (with_reducible refine Kd.C_alloc ?_ _) | (with_reducible refine Kd.C_drewN ?_ _) | (with_reducible refine Kd.C_drew ?_)))
           (case side2 => exact HC116.out)
           rintro e w88 ⟨rfl, hb⟩
           refine ⟨_, rfl, ?_⟩
           have n0_ := Aside0.mk (blk_below (g := gb109) (o := .cells #[.int .i64 a0_0, .int .i64 a0_1, .int .i64 a0_2, .int .i64 a0_3, .int .i64 a0_4] 23 (0, 0)) (by (with_reducible repeat (first | refine blk_drewN ?_ _ | refine blk_drew ?_ | refine blk_alloc ?_ _)); exact BK109.out) hb)
           have n1_ := Aside0.mk (blk_below (g := gb112) (o := .cells #[.int .i64 ((rd_T41 l1 x19_2).f0), .bool ((rd_T41 l1 x19_2).f1), .int .i64 ((rd_T41 l1 x19_2).f2)] 41 (0, 0)) (by (with_reducible repeat (first | refine blk_drewN ?_ _ | refine blk_drew ?_ | refine blk_alloc ?_ _)); exact BK112.out) hb)
           have n2_ := Aside0.mk (blk_below (g := gb121) (o := .cells #[.int .i64 0, .bool false, .int .i64 0] 41 (0, 0)) (by (with_reducible repeat (first | refine blk_drewN ?_ _ | refine blk_drew ?_ | refine blk_alloc ?_ _)); exact BK121.out) hb)
           have n3_ := Aside0.mk (below_step (by repeat (first | (with_reducible first | exact HB.out | apply below_alloc | apply pw_below_drewN | apply below_drew1 | refine below_set ?_ GE109.out | refine below_set ?_ GE112.out | refine below_set ?_ GE121.out) | exact HB.out)) hb)
           clear BK109
           clear BK112
           clear BK121
           clear HB
           have BK109 := n0_
           have BK112 := n1_
           have BK121 := n2_
           have HB := n3_
           clear n0_ n1_ n2_ n3_
           (try clear hb)
           (try clear hb2)
           (try clear hk)
           (try clear hi)
           refine hK.out _ _ ⟨(blk_cell BK112.out 0).trans rfl, (blk_cell BK112.out 1).trans rfl, (blk_cell BK112.out 2).trans rfl⟩ (fun hHeld => ?_)
           clear hK K
           refine norm_ (a' := ?_) ?_ ?_
           rotate_left
           · show Act.put _ (some 30) _ = _
             simp only [Act.put, sb_, sz_, ss_, i64_w, i32_w]
             rfl
           refine pure_ (i := 6) (N := some 24) (v := ?_) (a' := ?_) #[Y, Y, Y, Y, Y, Y, Y, Z, Z, Y, Z, Z] rfl rfl (any_of HT_.out (by kernel_rfl)) (fun _ _ _ h => h) (Or.inl ⟨by rfl, ?_⟩) ?_ ?_
           rotate_left
           · intro w'
             go_simp
             with_reducible rfl
           rotate_left
           · simp only [Act.put, sb_, sz_, ss_, i64_w, i32_w]
             rfl
           refine pure_ (i := 7) (N := some 31) (v := ?_) (a' := ?_) #[Y, Y, Y, Y, Y, Y, Y, Y, Z, Y, Z, Z] rfl rfl (any_of HT_.out (by kernel_rfl)) (fun _ _ _ h => h) (Or.inl ⟨by rfl, ?_⟩) ?_ ?_
           rotate_left
           · intro w'
             go_simp
             with_reducible rfl
           rotate_left
           · simp only [Act.put, sb_, sz_, ss_, i64_w, i32_w]
             rfl
           refine pure_ (i := 8) (N := some 32) (v := ?_) (a' := ?_) #[Y, Y, Y, Y, Y, Y, Y, Y, Y, Y, Z, Z] rfl rfl (any_of HT_.out (by kernel_rfl)) (fun _ _ _ h => h) (Or.inl ⟨by rfl, ?_⟩) ?_ ?_
           rotate_left
           · intro w'
             go_simp
             with_reducible rfl
           rotate_left
           · simp only [Act.put, sb_, sz_, ss_, i64_w, i32_w]
             rfl
           exact norm_ (by simp only [putAll, Act.put, sb_, sz_, ss_]) (hCont (gb121) _ ⟨hHeld, (by (with_reducible repeat (first | refine blk_drewN ?_ _ | refine blk_drew ?_ | refine blk_alloc ?_ _)); exact BK109.out), (by (with_reducible repeat (first | refine blk_drewN ?_ _ | refine blk_drew ?_ | refine blk_alloc ?_ _)); exact BK112.out), (by (with_reducible repeat (first | refine blk_drewN ?_ _ | refine blk_drew ?_ | refine blk_alloc ?_ _)); exact BK121.out), GW121.out, GE121.out, NB109_121.out, NB121_109.out, NB112_121.out, NB121_112.out, (by repeat (first | (with_reducible first | exact HB.out | apply below_alloc | apply pw_below_drewN | apply below_drew1 | refine below_set ?_ GE109.out | refine below_set ?_ GE112.out | refine below_set ?_ GE121.out) | exact HB.out))⟩)
       rintro gb121 w89 ⟨hS_, h0_, h1_, h2_, h3_, h4_, h5_, h6_, h7_, h8_, h9_⟩
       have n0_ : Aside0 (w89.heap[gb109]? = some (.cells #[.int .i64 a0_0, .int .i64 a0_1, .int .i64 a0_2, .int .i64 a0_3, .int .i64 a0_4] 23 (0, 0))) := ⟨h0_⟩
       have n1_ : Aside0 (w89.heap[gb112]? = some (.cells #[.int .i64 ((rd_T41 l1 x19_2).f0), .bool ((rd_T41 l1 x19_2).f1), .int .i64 ((rd_T41 l1 x19_2).f2)] 41 (0, 0))) := ⟨h1_⟩
       have n2_ : Aside0 (w89.heap[gb121]? = some (.cells #[.int .i64 0, .bool false, .int .i64 0] 41 (0, 0))) := ⟨h2_⟩
       have n3_ : Aside0 (w.heap.size ≤ gb121) := ⟨h3_⟩
       have n4_ : Aside0 (w.heap.size ≤ gb121) := ⟨h4_⟩
       have n5_ : Aside0 (gb109 ≠ gb121) := ⟨h5_⟩
       have n6_ : Aside0 (gb121 ≠ gb109) := ⟨h6_⟩
       have n7_ : Aside0 (gb112 ≠ gb121) := ⟨h7_⟩
       have n8_ : Aside0 (gb121 ≠ gb112) := ⟨h8_⟩
       have n9_ : Aside0 (Below w.heap.size w w89) := ⟨h9_⟩
       clear BK109
       clear BK112
       clear HB
       clear h0_ h1_ h2_ h3_ h4_ h5_ h6_ h7_ h8_ h9_
       have BK109 := n0_
       have BK112 := n1_
       have BK121 := n2_
       have GW121 := n3_
       have GE121 := n4_
       have NB109_121 := n5_
       have NB121_109 := n6_
       have NB112_121 := n7_
       have NB121_112 := n8_
       have HB := n9_
       clear n0_ n1_ n2_ n3_ n4_ n5_ n6_ n7_ n8_ n9_
       have hHeld : w89.cell? ⟨gb112, 0, none⟩ = some (.int .i64 ((rd_T41 l1 x19_2).f0)) ∧ w89.cell? ⟨gb112, 1, none⟩ = some (.bool ((rd_T41 l1 x19_2).f1)) ∧ w89.cell? ⟨gb112, 2, none⟩ = some (.int .i64 ((rd_T41 l1 x19_2).f2)) := hS_
       refine norm_ (a' := ?_) ?_ ?_
       rotate_left
       · simp only [putAll, Act.put, sb_, sz_, ss_]
         rfl
       refine one_ (i := 10) (N := none) #[Y, Y, Y, Y, Y, Y, Y, Y, Y, Y, Y, Z] rfl rfl (one_of HT_.out (by kernel_rfl)) (by decide) (fun K hK => ?_)
       have hs90 : w89.cell? ⟨gb121, 0, none⟩ = some (.int .i64 0) := (blk_cell BK121.out 0).trans rfl
       have hfs90 := blk_frozen BK121.out 0
       have hns90_0 := NB109_121.out
       have hns90_1 := NB112_121.out
       have hms90_0 := NB121_109.out
       have hms90_1 := NB121_112.out
       have hs91 : w89.cell? ⟨gb121, 1, none⟩ = some (.bool false) := (blk_cell BK121.out 1).trans rfl
       have hfs91 := blk_frozen BK121.out 1
       have hns91_0 := NB109_121.out
       have hns91_1 := NB112_121.out
       have hms91_0 := NB121_109.out
       have hms91_1 := NB121_112.out
       have hs92 : w89.cell? ⟨gb121, 2, none⟩ = some (.int .i64 0) := (blk_cell BK121.out 2).trans rfl
       have hfs92 := blk_frozen BK121.out 2
       have hns92_0 := NB109_121.out
       have hns92_1 := NB112_121.out
       have hms92_0 := NB121_109.out
       have hms92_1 := NB121_112.out
       refine skip_ (w1 := ?_) (by rfl) rfl ?_ ?_
       rotate_left
       · go_simp
         rfl
       refine hK.out _ _ ⟨((cell_far (p := ⟨gb121, _, none⟩) NB112_121.out _).trans (((cell_far (p := ⟨gb121, _, none⟩) NB112_121.out _).trans (((cell_far (p := ⟨gb121, _, none⟩) NB112_121.out _).trans (hHeld.1)))))), ((cell_far (p := ⟨gb121, _, none⟩) NB112_121.out _).trans (((cell_far (p := ⟨gb121, _, none⟩) NB112_121.out _).trans (((cell_far (p := ⟨gb121, _, none⟩) NB112_121.out _).trans (hHeld.2.1)))))), ((cell_far (p := ⟨gb121, _, none⟩) NB112_121.out _).trans (((cell_far (p := ⟨gb121, _, none⟩) NB112_121.out _).trans (((cell_far (p := ⟨gb121, _, none⟩) NB112_121.out _).trans (hHeld.2.2))))))⟩ (fun hHeld => ?_)
       clear hK K
       refine pure_ (i := 11) (N := some 8) (v := ?_) (a' := ?_) #[Y, Y, Y, Y, Y, Y, Y, Y, Y, Y, Y, Y] rfl rfl (any_of HT_.out (by kernel_rfl)) (fun _ _ _ h => h) (Or.inl ⟨by rfl, ?_⟩) ?_ ?_
       rotate_left
       · intro w'
         go_simp
         with_reducible rfl
       rotate_left
       · simp only [Act.put, sb_, sz_, ss_, i64_w, i32_w]
         rfl
       refine done_ (done_of HT_.out (by kernel_rfl)) ?_
       have hnb93 := NB112_121.out
       have hnc93 := NB121_112.out
       have hcz94_0 : w89.cell? ⟨gb112, 0, none⟩ = some (.int .i64 ((rd_T41 l1 x19_2).f0)) := (blk_cell BK112.out 0).trans rfl
       have hcz94_1 : w89.cell? ⟨gb112, 1, none⟩ = some (.bool ((rd_T41 l1 x19_2).f1)) := (blk_cell BK112.out 1).trans rfl
       have hcz94_2 : w89.cell? ⟨gb112, 2, none⟩ = some (.int .i64 ((rd_T41 l1 x19_2).f2)) := (blk_cell BK112.out 2).trans rfl
       have hfz94_0 := blk_frozen BK112.out 0
       have hfz94_1 := blk_frozen BK112.out 1
       have hfz94_2 := blk_frozen BK112.out 2
       have hnb95 := NB109_121.out
       have hnc95 := NB121_109.out
       have hcz96_0 : w89.cell? ⟨gb109, 0, none⟩ = some (.int .i64 a0_0) := (blk_cell BK109.out 0).trans rfl
       have hcz96_1 : w89.cell? ⟨gb109, 1, none⟩ = some (.int .i64 a0_1) := (blk_cell BK109.out 1).trans rfl
       have hcz96_2 : w89.cell? ⟨gb109, 2, none⟩ = some (.int .i64 a0_2) := (blk_cell BK109.out 2).trans rfl
       have hcz96_3 : w89.cell? ⟨gb109, 3, none⟩ = some (.int .i64 a0_3) := (blk_cell BK109.out 3).trans rfl
       have hcz96_4 : w89.cell? ⟨gb109, 4, none⟩ = some (.int .i64 a0_4) := (blk_cell BK109.out 4).trans rfl
       have hfz96_0 := blk_frozen BK109.out 0
       have hfz96_1 := blk_frozen BK109.out 1
       have hfz96_2 := blk_frozen BK109.out 2
       have hfz96_3 := blk_frozen BK109.out 3
       have hfz96_4 := blk_frozen BK109.out 4
       try go_wp2
       go_ret
       exact ⟨by first | rfl | (simp [errW_none, errW_some] <;> rfl) | (simp [*, errW_none, errW_some] <;> rfl), by repeat (first | (with_reducible first | exact HB.out | apply below_alloc | apply pw_below_drewN | apply below_drew1 | refine below_set ?_ GE109.out | refine below_set ?_ GE112.out | refine below_set ?_ GE121.out) | exact HB.out)⟩
     rw [if_neg c80] at H
     have c80b0 : decide (1073741824 < ((rd_T41 l1 x19_2).f2)) = false := decide_eq_false c80
     clear c80
     obtain ⟨bq97, hbq97⟩ : ∃ b_ : Bool, b_ = ((rd_T41 l1 x19_2).f1) := ⟨_, rfl⟩
     replace H : (if bq97 = true then (if ((rd_T41 l1 x19_2).f2) = 0 then (plan_May.l0 k2 l1 l1 (l1.length : Int) (wrap64 (x19_2 + 1)) a0_0 a0_1 a0_2 a0_3 a0_4) else (some false)) else (plan_May.l0 k2 l1 l1 (l1.length : Int) (wrap64 (x19_2 + 1)) a0_0 a0_1 a0_2 a0_3 a0_4)) = some r := by rw [← hbq97] at H; exact H
     have Nbq97 := Aside0.mk hbq97
     clear hbq97
     by_cases c98 : bq97 = true
     rotate_left
     · replace c98 := Bool.eq_false_iff.mpr c98
       subst c98
       have H1 : (plan_May.l0 k2 l1 l1 (l1.length : Int) (wrap64 (x19_2 + 1)) a0_0 a0_1 a0_2 a0_3 a0_4) = some r := by rw [if_neg (show ¬ (false = true) by decide)] at H; exact H
       clear H; have H := H1; clear H1
       have H' := Aside0.mk H
       clear H
       have p111 : 0 ≤ (x19_2 : Int) := of_decide_eq_true (by first | (with_reducible assumption) | assumption)
       have q111 : x19_2 < (l1.length : Int) := of_decide_eq_true (by first | (with_reducible assumption) | assumption)
       obtain ⟨ad111, e111, hx111_0, hx111_1, hx111_2⟩ := at_T41 HR1.out x19_2 p111 q111
       (try rw [← Nbq97.out] at hx111_1)
       cases e111
       replace hx111_0 := (HB.out.cell (World.block_lt_of_cell? w _ hx111_0)).trans hx111_0
       replace hx111_1 := (HB.out.cell (World.block_lt_of_cell? w _ hx111_1)).trans hx111_1
       replace hx111_2 := (HB.out.cell (World.block_lt_of_cell? w _ hx111_2)).trans hx111_2
       replace p111 := eq_true p111
       replace q111 := eq_true q111
       try go_wp2_with (first | ((with_reducible refine gate_dst (N := 6) rfl ?_); (try (refine gate_guard (by rfl) ?_; dsimp only)); refine box_event ?hg (N := 6) ?hd (cs := #[.int .i64 0, .bool false, .int .i64 0]) (t := 41) ?hr ?_; (case hd => rfl); (case hg => rfl); (case hr => first | (go_simp; done) | (go_simp; rfl)); intro gb112 hg w132 hbox hb; have n0_ := Aside0.mk (blk_below (g := gb109) (o := .cells #[.int .i64 a0_0, .int .i64 a0_1, .int .i64 a0_2, .int .i64 a0_3, .int .i64 a0_4] 23 (0, 0)) (by (with_reducible repeat (first | refine blk_drewN ?_ _ | refine blk_drew ?_ | refine blk_alloc ?_ _)); exact BK109.out) hb); have n1_ := Aside0.mk (below_step (by repeat (first | (with_reducible first | exact HB.out | apply below_alloc | apply pw_below_drewN | apply below_drew1 | refine below_set ?_ GE109.out) | exact HB.out)) hb); have n2_ := Aside0.mk (hbox); have n3_ := Aside0.mk ((by rw [hg]; exact (below_size (by repeat (first | (with_reducible first | exact HB.out | apply below_alloc | apply pw_below_drewN | apply below_drew1 | refine below_set ?_ GE109.out) | exact HB.out))) : w.heap.size ≤ gb112)); have n4_ := Aside0.mk ((by rw [hg]; exact (below_size (by repeat (first | (with_reducible first | exact HB.out | apply below_alloc | apply pw_below_drewN | apply below_drew1 | refine below_set ?_ GE109.out) | exact HB.out))) : w.heap.size ≤ gb112)); have n5_ := Aside0.mk ((by rw [hg]; exact Nat.ne_of_lt (blk_lt (g := gb109) (o := .cells #[.int .i64 a0_0, .int .i64 a0_1, .int .i64 a0_2, .int .i64 a0_3, .int .i64 a0_4] 23 (0, 0)) (by (with_reducible repeat (first | refine blk_drewN ?_ _ | refine blk_drew ?_ | refine blk_alloc ?_ _)); exact BK109.out)) : gb109 ≠ gb112)); have n6_ := Aside0.mk ((by rw [hg]; exact Nat.ne_of_gt (blk_lt (g := gb109) (o := .cells #[.int .i64 a0_0, .int .i64 a0_1, .int .i64 a0_2, .int .i64 a0_3, .int .i64 a0_4] 23 (0, 0)) (by (with_reducible repeat (first | refine blk_drewN ?_ _ | refine blk_drew ?_ | refine blk_alloc ?_ _)); exact BK109.out)) : gb112 ≠ gb109)); clear BK109; clear HB; have BK109 := n0_; have HB := n1_; have BK112 := n2_; have GW112 := n3_; have GE112 := n4_; have NB109_112 := n5_; have NB112_109 := n6_; clear n0_ n1_ n2_ n3_ n4_ n5_ n6_; clear hb hbox hg; have hnb133 := NB112_109.out; have hnc133 := NB109_112.out; have hcz134_0 : w132.cell? ⟨gb112, 0, none⟩ = some (.int .i64 0) := (blk_cell BK112.out 0).trans rfl; have hcz134_1 : w132.cell? ⟨gb112, 1, none⟩ = some (.bool false) := (blk_cell BK112.out 1).trans rfl; have hcz134_2 : w132.cell? ⟨gb112, 2, none⟩ = some (.int .i64 0) := (blk_cell BK112.out 2).trans rfl; have hfz134_0 := blk_frozen BK112.out 0; have hfz134_1 := blk_frozen BK112.out 1; have hfz134_2 := blk_frozen BK112.out 2))
       have n0_ : Aside0 ((((w132.setCell ⟨gb112, 0, none⟩ (.int .i64 ((rd_T41 l1 x19_2).f0))).setCell ⟨gb112, 1, none⟩ (.bool false)).setCell ⟨gb112, 2, none⟩ (.int .i64 ((rd_T41 l1 x19_2).f2))).heap[gb109]? = some (.cells #[.int .i64 a0_0, .int .i64 a0_1, .int .i64 a0_2, .int .i64 a0_3, .int .i64 a0_4] 23 (0, 0))) := ⟨by (with_reducible repeat (first | refine blk_drewN ?_ _ | refine blk_drew ?_ | refine blk_alloc ?_ _)); refine blk_far ?_ NB109_112.out _; (with_reducible repeat (first | refine blk_drewN ?_ _ | refine blk_drew ?_ | refine blk_alloc ?_ _)); refine blk_far ?_ NB109_112.out _; (with_reducible repeat (first | refine blk_drewN ?_ _ | refine blk_drew ?_ | refine blk_alloc ?_ _)); refine blk_far ?_ NB109_112.out _; (with_reducible repeat (first | refine blk_drewN ?_ _ | refine blk_drew ?_ | refine blk_alloc ?_ _)); exact BK109.out⟩
       have n1_ : Aside0 ((((w132.setCell ⟨gb112, 0, none⟩ (.int .i64 ((rd_T41 l1 x19_2).f0))).setCell ⟨gb112, 1, none⟩ (.bool false)).setCell ⟨gb112, 2, none⟩ (.int .i64 ((rd_T41 l1 x19_2).f2))).heap[gb112]? = some (.cells #[.int .i64 ((rd_T41 l1 x19_2).f0), .bool false, .int .i64 ((rd_T41 l1 x19_2).f2)] 41 (0, 0))) := ⟨by (with_reducible repeat (first | refine blk_drewN ?_ _ | refine blk_drew ?_ | refine blk_alloc ?_ _)); refine blk_put (cs := #[.int .i64 ((rd_T41 l1 x19_2).f0), .bool false, .int .i64 0]) ?_ 2 _ rfl; (with_reducible repeat (first | refine blk_drewN ?_ _ | refine blk_drew ?_ | refine blk_alloc ?_ _)); refine blk_put (cs := #[.int .i64 ((rd_T41 l1 x19_2).f0), .bool false, .int .i64 0]) ?_ 1 _ rfl; (with_reducible repeat (first | refine blk_drewN ?_ _ | refine blk_drew ?_ | refine blk_alloc ?_ _)); refine blk_put (cs := #[.int .i64 0, .bool false, .int .i64 0]) ?_ 0 _ rfl; (with_reducible repeat (first | refine blk_drewN ?_ _ | refine blk_drew ?_ | refine blk_alloc ?_ _)); exact BK112.out⟩
       have n2_ : Aside0 (Below w.heap.size w (((w132.setCell ⟨gb112, 0, none⟩ (.int .i64 ((rd_T41 l1 x19_2).f0))).setCell ⟨gb112, 1, none⟩ (.bool false)).setCell ⟨gb112, 2, none⟩ (.int .i64 ((rd_T41 l1 x19_2).f2)))) := ⟨by repeat (first | (with_reducible first | exact HB.out | apply below_alloc | apply pw_below_drewN | apply below_drew1 | refine below_set ?_ GE109.out | refine below_set ?_ GE112.out) | exact HB.out)⟩
       (try clear BK109)
       (try clear BK112)
       (try clear HB)
       generalize (((w132.setCell ⟨gb112, 0, none⟩ (.int .i64 ((rd_T41 l1 x19_2).f0))).setCell ⟨gb112, 1, none⟩ (.bool false)).setCell ⟨gb112, 2, none⟩ (.int .i64 ((rd_T41 l1 x19_2).f2))) = w135 at n0_ n1_ n2_ ⊢
       have BK109 := n0_
       have BK112 := n1_
       have HB := n2_
       clear n0_ n1_ n2_
       have n0_ := Aside0.mk (blk_drew BK109.out)
       have n1_ := Aside0.mk (blk_drew BK112.out)
       have n2_ := Aside0.mk (below_drew1 HB.out)
       clear BK109
       clear BK112
       clear HB
       have BK109 := n0_
       have BK112 := n1_
       have HB := n2_
       clear n0_ n1_ n2_
       have q137 : (x19_2 : Int) ≤ ((l1.length : Int) : Int) := of_decide_eq_true (by first | (with_reducible assumption) | assumption)
       obtain ⟨i0137, hi0137, _, hsz137, _⟩ := info_parts info41
       have hroom137 : l1.length ≤ c1 := HC1.out
       have hC137 : Kd.C k41 _ (some ad111) l1.length l1 := HR1.out
       have hcut137 := cut_to (P := Try.prog) 33 41 .i64 Try.underlying33 hi0137 (some ad111) l1.length c1 x19_2 (of_decide_eq_true (by first | (with_reducible assumption) | assumption)) q137 hroom137
       have hr137 := Kd.C_take (m := (x19_2 : Int).toNat) hC137 (by omega)
       have hy137 : y113.length = (x19_2 : Int).toNat := (by rw [Ny113.out, List.length_take]; omega)
       rw [← Ny113.out] at hr137
       rw [← hy137] at hcut137
       have HR116 := Aside0.mk hr137
       have HC116 := Aside0.mk (show y113.length ≤ c1 from by omega)
       clear hr137 hC137 hroom137 hi0137 hsz137
       have KY137 := Aside0.mk hy137
       clear hy137
       replace q137 := eq_true q137
       refine start_ (n := 12) (S := fun w' => w'.cell? ⟨gb112, 0, none⟩ = some (.int .i64 ((rd_T41 l1 x19_2).f0)) ∧ w'.cell? ⟨gb112, 1, none⟩ = some (.bool false) ∧ w'.cell? ⟨gb112, 2, none⟩ = some (.int .i64 ((rd_T41 l1 x19_2).f2))) (ds := []) #[Z, Z, Z, Z, Z, Z, Z, Z, Z, Z, Z, Z] (by kernel_rfl) rfl rfl ⟨(blk_cell BK112.out 0).trans rfl, (blk_cell BK112.out 1).trans rfl, (blk_cell BK112.out 2).trans rfl⟩ (fun hHeld => ?_); refine with_tabW plan_May.tab6 plan_May.bits6 (fun HT_ HW_ => ?_)
       generalize w135.drew = w136 at BK109 BK112 HB HR116 hHeld ⊢
       refine pure_ (i := 0) (N := some 25) (v := ?_) (a' := ?_) #[Y, Z, Z, Z, Z, Z, Z, Z, Z, Z, Z, Z] rfl rfl (any_of HT_.out (by kernel_rfl)) (fun _ _ _ h => h) (Or.inl ⟨by rfl, ?_⟩) ?_ ?_
       rotate_left
       · intro w'
         go_simp
         with_reducible rfl
       rotate_left
       · simp only [Act.put, sb_, sz_, ss_, i64_w, i32_w]
         rfl
       refine pure_ (i := 1) (N := some 26) (v := ?_) (a' := ?_) #[Y, Y, Z, Z, Z, Z, Z, Z, Z, Z, Z, Z] rfl rfl (any_of HT_.out (by kernel_rfl)) (fun _ _ _ h => h) (Or.inl ⟨by rfl, ?_⟩) ?_ ?_
       rotate_left
       · intro w'
         go_simp
         with_reducible rfl
       rotate_left
       · simp only [Act.put, sb_, sz_, ss_, i64_w, i32_w]
         rfl
       refine pure_ (i := 2) (N := some 27) (v := ?_) (a' := ?_) #[Y, Y, Y, Z, Z, Z, Z, Z, Z, Z, Z, Z] rfl rfl (any_of HT_.out (by kernel_rfl)) (fun _ _ _ h => h) (Or.inl ⟨by rfl, ?_⟩) ?_ ?_
       rotate_left
       · intro w'
         go_simp
         with_reducible rfl
       rotate_left
       · simp only [Act.put, sb_, sz_, ss_, i64_w, i32_w]
         rfl
       refine pure_ (i := 3) (N := some 28) (v := ?_) (a' := ?_) #[Y, Y, Y, Y, Z, Z, Z, Z, Z, Z, Z, Z] rfl rfl (any_of HT_.out (by kernel_rfl)) (fun _ _ _ h => h) (Or.inl ⟨by rfl, ?_⟩) ?_ ?_
       rotate_left
       · intro w'
         go_simp
         with_reducible rfl
       rotate_left
       · simp only [Act.put, sb_, sz_, ss_, i64_w, i32_w]
         rfl
       refine take_ (i := 4) (N := some 29) (v := ?_) (a' := ?_) #[Y, Y, Y, Y, Y, Z, Z, Z, Z, Z, Z, Z] rfl rfl (take_ofW HT_.out HW_.out (by kernel_rfl)) (fun _ _ _ h => h) (Or.inl ⟨by rfl, ?_⟩) hHeld ?_ ?_
       rotate_left
       · rintro w' ⟨s0, s1, s2⟩
         go_simp
         with_reducible rfl
       rotate_left
       · simp only [Act.put, sb_, sz_, ss_, i64_w, i32_w]
         rfl
       refine join_ (σ := Nat) 2 #[Y, Y, Y, Y, Y, Y, Y, Y, Y, Y, Z, Z] (fun s_ => [(30, .tuple #[.agg #[.int .i64 t117, .bool t118, .int .i64 t119], .bool false]), (7, .pointer (some ⟨s_, 0, none⟩)), (24, .tuple #[.agg #[.int .i64 t117, .bool t118, .int .i64 t119], .bool false]), (31, .agg #[.int .i64 t117, .bool t118, .int .i64 t119]), (32, .bool false)]) (fun s_ w' => (w'.cell? ⟨gb112, 0, none⟩ = some (.int .i64 ((rd_T41 l1 x19_2).f0)) ∧ w'.cell? ⟨gb112, 1, none⟩ = some (.bool false) ∧ w'.cell? ⟨gb112, 2, none⟩ = some (.int .i64 ((rd_T41 l1 x19_2).f2))) ∧ (w'.heap[gb109]? = some (.cells #[.int .i64 a0_0, .int .i64 a0_1, .int .i64 a0_2, .int .i64 a0_3, .int .i64 a0_4] 23 (0, 0))) ∧ (w'.heap[gb112]? = some (.cells #[.int .i64 ((rd_T41 l1 x19_2).f0), .bool false, .int .i64 ((rd_T41 l1 x19_2).f2)] 41 (0, 0))) ∧ (w'.heap[s_]? = some (.cells #[.int .i64 0, .bool false, .int .i64 0] 41 (0, 0))) ∧ (w.heap.size ≤ s_) ∧ (w.heap.size ≤ s_) ∧ (gb109 ≠ s_) ∧ (s_ ≠ gb109) ∧ (gb112 ≠ s_) ∧ (s_ ≠ gb112) ∧ (Below w.heap.size w w')) ?_ ?_
       rotate_left
       · intro hCont
         refine two_ (i := 5) (j := 9) (Ni := some 30) (Nj := some 7) #[Y, Y, Y, Y, Y, Y, Z, Z, Z, Z, Z, Z] #[Y, Y, Y, Y, Y, Z, Z, Z, Z, Y, Z, Z] rfl rfl rfl rfl (two_of HT_.out (by kernel_rfl)) (by decide) (by decide) (fun K hK => ?_) (fun K hK => ?_)
         · skip
           refine goes_ Try.func51 (by kernel_rfl) rfl #[.slice (some ad111) y113.length c1, .int .i64 ((rd_T41 l1 x19_2).f0)] (by rfl) rfl rfl (by (try simp only [List.map_toArray, List.map_cons, List.map_nil]); first | done | rfl | (simp only [List.length_drop, List.length_take]; rfl)) ?_
           with_reducible refine (plan_find.calls k2 _ _ y113 ((rd_T41 l1 x19_2).f0) t117 t118 t119 false _ ?side1 ?side2 A17.out).mono ?_
           (case side1 => repeat (first | exact (Kd.C_below HR116.out HB.out) | (with_reducible refine Kd.C_alloc ?_ _) | (with_reducible refine Kd.C_drewN ?_ _) | (with_reducible refine Kd.C_drew ?_)))
           (case side2 => exact HC116.out)
           rintro e w138 ⟨rfl, hb⟩
           refine ⟨_, rfl, ?_⟩
           have n0_ := Aside0.mk (blk_below (g := gb109) (o := .cells #[.int .i64 a0_0, .int .i64 a0_1, .int .i64 a0_2, .int .i64 a0_3, .int .i64 a0_4] 23 (0, 0)) (by (with_reducible repeat (first | refine blk_drewN ?_ _ | refine blk_drew ?_ | refine blk_alloc ?_ _)); exact BK109.out) hb)
           have n1_ := Aside0.mk (blk_below (g := gb112) (o := .cells #[.int .i64 ((rd_T41 l1 x19_2).f0), .bool false, .int .i64 ((rd_T41 l1 x19_2).f2)] 41 (0, 0)) (by (with_reducible repeat (first | refine blk_drewN ?_ _ | refine blk_drew ?_ | refine blk_alloc ?_ _)); exact BK112.out) hb)
           have n2_ := Aside0.mk (below_step (by repeat (first | (with_reducible first | exact HB.out | apply below_alloc | apply pw_below_drewN | apply below_drew1 | refine below_set ?_ GE109.out | refine below_set ?_ GE112.out) | exact HB.out)) hb)
           clear BK109
           clear BK112
           clear HB
           have BK109 := n0_
           have BK112 := n1_
           have HB := n2_
           clear n0_ n1_ n2_
           (try clear hb)
           (try clear hb2)
           (try clear hk)
           (try clear hi)
           refine hK.out _ _ ⟨(blk_cell BK112.out 0).trans rfl, (blk_cell BK112.out 1).trans rfl, (blk_cell BK112.out 2).trans rfl⟩ (fun hHeld => ?_)
           clear hK K
           refine norm_ (a' := ?_) ?_ ?_
           rotate_left
           · show Act.put _ (some 30) _ = _
             simp only [Act.put, sb_, sz_, ss_, i64_w, i32_w]
             rfl
           refine pure_ (i := 6) (N := some 24) (v := ?_) (a' := ?_) #[Y, Y, Y, Y, Y, Y, Y, Z, Z, Z, Z, Z] rfl rfl (any_of HT_.out (by kernel_rfl)) (fun _ _ _ h => h) (Or.inl ⟨by rfl, ?_⟩) ?_ ?_
           rotate_left
           · intro w'
             go_simp
             with_reducible rfl
           rotate_left
           · simp only [Act.put, sb_, sz_, ss_, i64_w, i32_w]
             rfl
           refine pure_ (i := 7) (N := some 31) (v := ?_) (a' := ?_) #[Y, Y, Y, Y, Y, Y, Y, Y, Z, Z, Z, Z] rfl rfl (any_of HT_.out (by kernel_rfl)) (fun _ _ _ h => h) (Or.inl ⟨by rfl, ?_⟩) ?_ ?_
           rotate_left
           · intro w'
             go_simp
             with_reducible rfl
           rotate_left
           · simp only [Act.put, sb_, sz_, ss_, i64_w, i32_w]
             rfl
           refine pure_ (i := 8) (N := some 32) (v := ?_) (a' := ?_) #[Y, Y, Y, Y, Y, Y, Y, Y, Y, Z, Z, Z] rfl rfl (any_of HT_.out (by kernel_rfl)) (fun _ _ _ h => h) (Or.inl ⟨by rfl, ?_⟩) ?_ ?_
           rotate_left
           · intro w'
             go_simp
             with_reducible rfl
           rotate_left
           · simp only [Act.put, sb_, sz_, ss_, i64_w, i32_w]
             rfl
           refine one_ (i := 9) (N := some 7) #[Y, Y, Y, Y, Y, Y, Y, Y, Y, Y, Z, Z] rfl rfl (one_of HT_.out (by kernel_rfl)) (by decide) (fun K hK => ?_)
           refine box_step ?hg (N := 7) ?hd (cs := #[.int .i64 0, .bool false, .int .i64 0]) (t := 41) ?hr ?_; (case hd => rfl); (case hg => rfl); (case hr => first | (go_simp; done) | (go_simp; rfl))
           intro gb121 hg w139 hbox hb
           have n0_ := Aside0.mk (blk_below (g := gb109) (o := .cells #[.int .i64 a0_0, .int .i64 a0_1, .int .i64 a0_2, .int .i64 a0_3, .int .i64 a0_4] 23 (0, 0)) (by (with_reducible repeat (first | refine blk_drewN ?_ _ | refine blk_drew ?_ | refine blk_alloc ?_ _)); exact BK109.out) hb)
           have n1_ := Aside0.mk (blk_below (g := gb112) (o := .cells #[.int .i64 ((rd_T41 l1 x19_2).f0), .bool false, .int .i64 ((rd_T41 l1 x19_2).f2)] 41 (0, 0)) (by (with_reducible repeat (first | refine blk_drewN ?_ _ | refine blk_drew ?_ | refine blk_alloc ?_ _)); exact BK112.out) hb)
           have n2_ := Aside0.mk (below_step (by repeat (first | (with_reducible first | exact HB.out | apply below_alloc | apply pw_below_drewN | apply below_drew1 | refine below_set ?_ GE109.out | refine below_set ?_ GE112.out) | exact HB.out)) hb)
           have n3_ := Aside0.mk (hbox)
           have n4_ := Aside0.mk ((by rw [hg]; exact (below_size (by repeat (first | (with_reducible first | exact HB.out | apply below_alloc | apply pw_below_drewN | apply below_drew1 | refine below_set ?_ GE109.out | refine below_set ?_ GE112.out) | exact HB.out))) : w.heap.size ≤ gb121))
           have n5_ := Aside0.mk ((by rw [hg]; exact (below_size (by repeat (first | (with_reducible first | exact HB.out | apply below_alloc | apply pw_below_drewN | apply below_drew1 | refine below_set ?_ GE109.out | refine below_set ?_ GE112.out) | exact HB.out))) : w.heap.size ≤ gb121))
           have n6_ := Aside0.mk ((by rw [hg]; exact Nat.ne_of_lt (blk_lt (g := gb109) (o := .cells #[.int .i64 a0_0, .int .i64 a0_1, .int .i64 a0_2, .int .i64 a0_3, .int .i64 a0_4] 23 (0, 0)) (by (with_reducible repeat (first | refine blk_drewN ?_ _ | refine blk_drew ?_ | refine blk_alloc ?_ _)); exact BK109.out)) : gb109 ≠ gb121))
           have n7_ := Aside0.mk ((by rw [hg]; exact Nat.ne_of_gt (blk_lt (g := gb109) (o := .cells #[.int .i64 a0_0, .int .i64 a0_1, .int .i64 a0_2, .int .i64 a0_3, .int .i64 a0_4] 23 (0, 0)) (by (with_reducible repeat (first | refine blk_drewN ?_ _ | refine blk_drew ?_ | refine blk_alloc ?_ _)); exact BK109.out)) : gb121 ≠ gb109))
           have n8_ := Aside0.mk ((by rw [hg]; exact Nat.ne_of_lt (blk_lt (g := gb112) (o := .cells #[.int .i64 ((rd_T41 l1 x19_2).f0), .bool false, .int .i64 ((rd_T41 l1 x19_2).f2)] 41 (0, 0)) (by (with_reducible repeat (first | refine blk_drewN ?_ _ | refine blk_drew ?_ | refine blk_alloc ?_ _)); exact BK112.out)) : gb112 ≠ gb121))
           have n9_ := Aside0.mk ((by rw [hg]; exact Nat.ne_of_gt (blk_lt (g := gb112) (o := .cells #[.int .i64 ((rd_T41 l1 x19_2).f0), .bool false, .int .i64 ((rd_T41 l1 x19_2).f2)] 41 (0, 0)) (by (with_reducible repeat (first | refine blk_drewN ?_ _ | refine blk_drew ?_ | refine blk_alloc ?_ _)); exact BK112.out)) : gb121 ≠ gb112))
           clear BK109
           clear BK112
           clear HB
           have BK109 := n0_
           have BK112 := n1_
           have HB := n2_
           have BK121 := n3_
           have GW121 := n4_
           have GE121 := n5_
           have NB109_121 := n6_
           have NB121_109 := n7_
           have NB112_121 := n8_
           have NB121_112 := n9_
           clear n0_ n1_ n2_ n3_ n4_ n5_ n6_ n7_ n8_ n9_
           clear hb hbox hg
           refine hK.out _ _ ⟨(blk_cell BK112.out 0).trans rfl, (blk_cell BK112.out 1).trans rfl, (blk_cell BK112.out 2).trans rfl⟩ (fun hHeld => ?_)
           clear hK K
           refine norm_ (a' := ?_) ?_ ?_
           rotate_left
           · show Act.put _ (some 7) _ = _
             simp only [Act.put, sb_, sz_, ss_, i64_w, i32_w]
             rfl
           exact norm_ (by simp only [putAll, Act.put, sb_, sz_, ss_]) (hCont (gb121) _ ⟨hHeld, (by (with_reducible repeat (first | refine blk_drewN ?_ _ | refine blk_drew ?_ | refine blk_alloc ?_ _)); exact BK109.out), (by (with_reducible repeat (first | refine blk_drewN ?_ _ | refine blk_drew ?_ | refine blk_alloc ?_ _)); exact BK112.out), (by (with_reducible repeat (first | refine blk_drewN ?_ _ | refine blk_drew ?_ | refine blk_alloc ?_ _)); exact BK121.out), GW121.out, GE121.out, NB109_121.out, NB121_109.out, NB112_121.out, NB121_112.out, (by repeat (first | (with_reducible first | exact HB.out | apply below_alloc | apply pw_below_drewN | apply below_drew1 | refine below_set ?_ GE109.out | refine below_set ?_ GE112.out | refine below_set ?_ GE121.out) | exact HB.out))⟩)
         · skip
           refine box_step ?hg (N := 7) ?hd (cs := #[.int .i64 0, .bool false, .int .i64 0]) (t := 41) ?hr ?_; (case hd => rfl); (case hg => rfl); (case hr => first | (go_simp; done) | (go_simp; rfl))
           intro gb121 hg w138 hbox hb
           have n0_ := Aside0.mk (blk_below (g := gb109) (o := .cells #[.int .i64 a0_0, .int .i64 a0_1, .int .i64 a0_2, .int .i64 a0_3, .int .i64 a0_4] 23 (0, 0)) (by (with_reducible repeat (first | refine blk_drewN ?_ _ | refine blk_drew ?_ | refine blk_alloc ?_ _)); exact BK109.out) hb)
           have n1_ := Aside0.mk (blk_below (g := gb112) (o := .cells #[.int .i64 ((rd_T41 l1 x19_2).f0), .bool false, .int .i64 ((rd_T41 l1 x19_2).f2)] 41 (0, 0)) (by (with_reducible repeat (first | refine blk_drewN ?_ _ | refine blk_drew ?_ | refine blk_alloc ?_ _)); exact BK112.out) hb)
           have n2_ := Aside0.mk (below_step (by repeat (first | (with_reducible first | exact HB.out | apply below_alloc | apply pw_below_drewN | apply below_drew1 | refine below_set ?_ GE109.out | refine below_set ?_ GE112.out) | exact HB.out)) hb)
           have n3_ := Aside0.mk (hbox)
           have n4_ := Aside0.mk ((by rw [hg]; exact (below_size (by repeat (first | (with_reducible first | exact HB.out | apply below_alloc | apply pw_below_drewN | apply below_drew1 | refine below_set ?_ GE109.out | refine below_set ?_ GE112.out) | exact HB.out))) : w.heap.size ≤ gb121))
           have n5_ := Aside0.mk ((by rw [hg]; exact (below_size (by repeat (first | (with_reducible first | exact HB.out | apply below_alloc | apply pw_below_drewN | apply below_drew1 | refine below_set ?_ GE109.out | refine below_set ?_ GE112.out) | exact HB.out))) : w.heap.size ≤ gb121))
           have n6_ := Aside0.mk ((by rw [hg]; exact Nat.ne_of_lt (blk_lt (g := gb109) (o := .cells #[.int .i64 a0_0, .int .i64 a0_1, .int .i64 a0_2, .int .i64 a0_3, .int .i64 a0_4] 23 (0, 0)) (by (with_reducible repeat (first | refine blk_drewN ?_ _ | refine blk_drew ?_ | refine blk_alloc ?_ _)); exact BK109.out)) : gb109 ≠ gb121))
           have n7_ := Aside0.mk ((by rw [hg]; exact Nat.ne_of_gt (blk_lt (g := gb109) (o := .cells #[.int .i64 a0_0, .int .i64 a0_1, .int .i64 a0_2, .int .i64 a0_3, .int .i64 a0_4] 23 (0, 0)) (by (with_reducible repeat (first | refine blk_drewN ?_ _ | refine blk_drew ?_ | refine blk_alloc ?_ _)); exact BK109.out)) : gb121 ≠ gb109))
           have n8_ := Aside0.mk ((by rw [hg]; exact Nat.ne_of_lt (blk_lt (g := gb112) (o := .cells #[.int .i64 ((rd_T41 l1 x19_2).f0), .bool false, .int .i64 ((rd_T41 l1 x19_2).f2)] 41 (0, 0)) (by (with_reducible repeat (first | refine blk_drewN ?_ _ | refine blk_drew ?_ | refine blk_alloc ?_ _)); exact BK112.out)) : gb112 ≠ gb121))
           have n9_ := Aside0.mk ((by rw [hg]; exact Nat.ne_of_gt (blk_lt (g := gb112) (o := .cells #[.int .i64 ((rd_T41 l1 x19_2).f0), .bool false, .int .i64 ((rd_T41 l1 x19_2).f2)] 41 (0, 0)) (by (with_reducible repeat (first | refine blk_drewN ?_ _ | refine blk_drew ?_ | refine blk_alloc ?_ _)); exact BK112.out)) : gb121 ≠ gb112))
           clear BK109
           clear BK112
           clear HB
           have BK109 := n0_
           have BK112 := n1_
           have HB := n2_
           have BK121 := n3_
           have GW121 := n4_
           have GE121 := n5_
           have NB109_121 := n6_
           have NB121_109 := n7_
           have NB112_121 := n8_
           have NB121_112 := n9_
           clear n0_ n1_ n2_ n3_ n4_ n5_ n6_ n7_ n8_ n9_
           clear hb hbox hg
           refine hK.out _ _ ⟨(blk_cell BK112.out 0).trans rfl, (blk_cell BK112.out 1).trans rfl, (blk_cell BK112.out 2).trans rfl⟩ (fun hHeld => ?_)
           clear hK K
           refine norm_ (a' := ?_) ?_ ?_
           rotate_left
           · show Act.put _ (some 7) _ = _
             simp only [Act.put, sb_, sz_, ss_, i64_w, i32_w]
             rfl
           refine one_ (i := 5) (N := some 30) #[Y, Y, Y, Y, Y, Y, Z, Z, Z, Y, Z, Z] rfl rfl (one_of HT_.out (by kernel_rfl)) (by decide) (fun K hK => ?_)
           refine goes_ Try.func51 (by kernel_rfl) rfl #[.slice (some ad111) y113.length c1, .int .i64 ((rd_T41 l1 x19_2).f0)] (by rfl) rfl rfl (by (try simp only [List.map_toArray, List.map_cons, List.map_nil]); first | done | rfl | (simp only [List.length_drop, List.length_take]; rfl)) ?_
           with_reducible refine (plan_find.calls k2 _ _ y113 ((rd_T41 l1 x19_2).f0) t117 t118 t119 false _ ?side1 ?side2 A17.out).mono ?_
           (case side1 => repeat (first | exact (Kd.C_below HR116.out HB.out) | (with_reducible refine Kd.C_alloc ?_ _) | (with_reducible refine Kd.C_drewN ?_ _) | (with_reducible refine Kd.C_drew ?_)))
           (case side2 => exact HC116.out)
           rintro e w139 ⟨rfl, hb⟩
           refine ⟨_, rfl, ?_⟩
           have n0_ := Aside0.mk (blk_below (g := gb109) (o := .cells #[.int .i64 a0_0, .int .i64 a0_1, .int .i64 a0_2, .int .i64 a0_3, .int .i64 a0_4] 23 (0, 0)) (by (with_reducible repeat (first | refine blk_drewN ?_ _ | refine blk_drew ?_ | refine blk_alloc ?_ _)); exact BK109.out) hb)
           have n1_ := Aside0.mk (blk_below (g := gb112) (o := .cells #[.int .i64 ((rd_T41 l1 x19_2).f0), .bool false, .int .i64 ((rd_T41 l1 x19_2).f2)] 41 (0, 0)) (by (with_reducible repeat (first | refine blk_drewN ?_ _ | refine blk_drew ?_ | refine blk_alloc ?_ _)); exact BK112.out) hb)
           have n2_ := Aside0.mk (blk_below (g := gb121) (o := .cells #[.int .i64 0, .bool false, .int .i64 0] 41 (0, 0)) (by (with_reducible repeat (first | refine blk_drewN ?_ _ | refine blk_drew ?_ | refine blk_alloc ?_ _)); exact BK121.out) hb)
           have n3_ := Aside0.mk (below_step (by repeat (first | (with_reducible first | exact HB.out | apply below_alloc | apply pw_below_drewN | apply below_drew1 | refine below_set ?_ GE109.out | refine below_set ?_ GE112.out | refine below_set ?_ GE121.out) | exact HB.out)) hb)
           clear BK109
           clear BK112
           clear BK121
           clear HB
           have BK109 := n0_
           have BK112 := n1_
           have BK121 := n2_
           have HB := n3_
           clear n0_ n1_ n2_ n3_
           (try clear hb)
           (try clear hb2)
           (try clear hk)
           (try clear hi)
           refine hK.out _ _ ⟨(blk_cell BK112.out 0).trans rfl, (blk_cell BK112.out 1).trans rfl, (blk_cell BK112.out 2).trans rfl⟩ (fun hHeld => ?_)
           clear hK K
           refine norm_ (a' := ?_) ?_ ?_
           rotate_left
           · show Act.put _ (some 30) _ = _
             simp only [Act.put, sb_, sz_, ss_, i64_w, i32_w]
             rfl
           refine pure_ (i := 6) (N := some 24) (v := ?_) (a' := ?_) #[Y, Y, Y, Y, Y, Y, Y, Z, Z, Y, Z, Z] rfl rfl (any_of HT_.out (by kernel_rfl)) (fun _ _ _ h => h) (Or.inl ⟨by rfl, ?_⟩) ?_ ?_
           rotate_left
           · intro w'
             go_simp
             with_reducible rfl
           rotate_left
           · simp only [Act.put, sb_, sz_, ss_, i64_w, i32_w]
             rfl
           refine pure_ (i := 7) (N := some 31) (v := ?_) (a' := ?_) #[Y, Y, Y, Y, Y, Y, Y, Y, Z, Y, Z, Z] rfl rfl (any_of HT_.out (by kernel_rfl)) (fun _ _ _ h => h) (Or.inl ⟨by rfl, ?_⟩) ?_ ?_
           rotate_left
           · intro w'
             go_simp
             with_reducible rfl
           rotate_left
           · simp only [Act.put, sb_, sz_, ss_, i64_w, i32_w]
             rfl
           refine pure_ (i := 8) (N := some 32) (v := ?_) (a' := ?_) #[Y, Y, Y, Y, Y, Y, Y, Y, Y, Y, Z, Z] rfl rfl (any_of HT_.out (by kernel_rfl)) (fun _ _ _ h => h) (Or.inl ⟨by rfl, ?_⟩) ?_ ?_
           rotate_left
           · intro w'
             go_simp
             with_reducible rfl
           rotate_left
           · simp only [Act.put, sb_, sz_, ss_, i64_w, i32_w]
             rfl
           exact norm_ (by simp only [putAll, Act.put, sb_, sz_, ss_]) (hCont (gb121) _ ⟨hHeld, (by (with_reducible repeat (first | refine blk_drewN ?_ _ | refine blk_drew ?_ | refine blk_alloc ?_ _)); exact BK109.out), (by (with_reducible repeat (first | refine blk_drewN ?_ _ | refine blk_drew ?_ | refine blk_alloc ?_ _)); exact BK112.out), (by (with_reducible repeat (first | refine blk_drewN ?_ _ | refine blk_drew ?_ | refine blk_alloc ?_ _)); exact BK121.out), GW121.out, GE121.out, NB109_121.out, NB121_109.out, NB112_121.out, NB121_112.out, (by repeat (first | (with_reducible first | exact HB.out | apply below_alloc | apply pw_below_drewN | apply below_drew1 | refine below_set ?_ GE109.out | refine below_set ?_ GE112.out | refine below_set ?_ GE121.out) | exact HB.out))⟩)
       rintro gb121 w140 ⟨hS_, h0_, h1_, h2_, h3_, h4_, h5_, h6_, h7_, h8_, h9_⟩
       have n0_ : Aside0 (w140.heap[gb109]? = some (.cells #[.int .i64 a0_0, .int .i64 a0_1, .int .i64 a0_2, .int .i64 a0_3, .int .i64 a0_4] 23 (0, 0))) := ⟨h0_⟩
       have n1_ : Aside0 (w140.heap[gb112]? = some (.cells #[.int .i64 ((rd_T41 l1 x19_2).f0), .bool false, .int .i64 ((rd_T41 l1 x19_2).f2)] 41 (0, 0))) := ⟨h1_⟩
       have n2_ : Aside0 (w140.heap[gb121]? = some (.cells #[.int .i64 0, .bool false, .int .i64 0] 41 (0, 0))) := ⟨h2_⟩
       have n3_ : Aside0 (w.heap.size ≤ gb121) := ⟨h3_⟩
       have n4_ : Aside0 (w.heap.size ≤ gb121) := ⟨h4_⟩
       have n5_ : Aside0 (gb109 ≠ gb121) := ⟨h5_⟩
       have n6_ : Aside0 (gb121 ≠ gb109) := ⟨h6_⟩
       have n7_ : Aside0 (gb112 ≠ gb121) := ⟨h7_⟩
       have n8_ : Aside0 (gb121 ≠ gb112) := ⟨h8_⟩
       have n9_ : Aside0 (Below w.heap.size w w140) := ⟨h9_⟩
       clear BK109
       clear BK112
       clear HB
       clear h0_ h1_ h2_ h3_ h4_ h5_ h6_ h7_ h8_ h9_
       have BK109 := n0_
       have BK112 := n1_
       have BK121 := n2_
       have GW121 := n3_
       have GE121 := n4_
       have NB109_121 := n5_
       have NB121_109 := n6_
       have NB112_121 := n7_
       have NB121_112 := n8_
       have HB := n9_
       clear n0_ n1_ n2_ n3_ n4_ n5_ n6_ n7_ n8_ n9_
       have hHeld : w140.cell? ⟨gb112, 0, none⟩ = some (.int .i64 ((rd_T41 l1 x19_2).f0)) ∧ w140.cell? ⟨gb112, 1, none⟩ = some (.bool false) ∧ w140.cell? ⟨gb112, 2, none⟩ = some (.int .i64 ((rd_T41 l1 x19_2).f2)) := hS_
       refine norm_ (a' := ?_) ?_ ?_
       rotate_left
       · simp only [putAll, Act.put, sb_, sz_, ss_]
         rfl
       refine one_ (i := 10) (N := none) #[Y, Y, Y, Y, Y, Y, Y, Y, Y, Y, Y, Z] rfl rfl (one_of HT_.out (by kernel_rfl)) (by decide) (fun K hK => ?_)
       have hs141 : w140.cell? ⟨gb121, 0, none⟩ = some (.int .i64 0) := (blk_cell BK121.out 0).trans rfl
       have hfs141 := blk_frozen BK121.out 0
       have hns141_0 := NB109_121.out
       have hns141_1 := NB112_121.out
       have hms141_0 := NB121_109.out
       have hms141_1 := NB121_112.out
       have hs142 : w140.cell? ⟨gb121, 1, none⟩ = some (.bool false) := (blk_cell BK121.out 1).trans rfl
       have hfs142 := blk_frozen BK121.out 1
       have hns142_0 := NB109_121.out
       have hns142_1 := NB112_121.out
       have hms142_0 := NB121_109.out
       have hms142_1 := NB121_112.out
       have hs143 : w140.cell? ⟨gb121, 2, none⟩ = some (.int .i64 0) := (blk_cell BK121.out 2).trans rfl
       have hfs143 := blk_frozen BK121.out 2
       have hns143_0 := NB109_121.out
       have hns143_1 := NB112_121.out
       have hms143_0 := NB121_109.out
       have hms143_1 := NB121_112.out
       refine skip_ (w1 := ?_) (by rfl) rfl ?_ ?_
       rotate_left
       · go_simp
         rfl
       refine hK.out _ _ ⟨((cell_far (p := ⟨gb121, _, none⟩) NB112_121.out _).trans (((cell_far (p := ⟨gb121, _, none⟩) NB112_121.out _).trans (((cell_far (p := ⟨gb121, _, none⟩) NB112_121.out _).trans (hHeld.1)))))), ((cell_far (p := ⟨gb121, _, none⟩) NB112_121.out _).trans (((cell_far (p := ⟨gb121, _, none⟩) NB112_121.out _).trans (((cell_far (p := ⟨gb121, _, none⟩) NB112_121.out _).trans (hHeld.2.1)))))), ((cell_far (p := ⟨gb121, _, none⟩) NB112_121.out _).trans (((cell_far (p := ⟨gb121, _, none⟩) NB112_121.out _).trans (((cell_far (p := ⟨gb121, _, none⟩) NB112_121.out _).trans (hHeld.2.2))))))⟩ (fun hHeld => ?_)
       clear hK K
       refine pure_ (i := 11) (N := some 8) (v := ?_) (a' := ?_) #[Y, Y, Y, Y, Y, Y, Y, Y, Y, Y, Y, Y] rfl rfl (any_of HT_.out (by kernel_rfl)) (fun _ _ _ h => h) (Or.inl ⟨by rfl, ?_⟩) ?_ ?_
       rotate_left
       · intro w'
         go_simp
         with_reducible rfl
       rotate_left
       · simp only [Act.put, sb_, sz_, ss_, i64_w, i32_w]
         rfl
       refine done_ (done_of HT_.out (by kernel_rfl)) ?_
       have hnb144 := NB112_121.out
       have hnc144 := NB121_112.out
       have hcz145_0 : w140.cell? ⟨gb112, 0, none⟩ = some (.int .i64 ((rd_T41 l1 x19_2).f0)) := (blk_cell BK112.out 0).trans rfl
       have hcz145_1 : w140.cell? ⟨gb112, 1, none⟩ = some (.bool false) := (blk_cell BK112.out 1).trans rfl
       have hcz145_2 : w140.cell? ⟨gb112, 2, none⟩ = some (.int .i64 ((rd_T41 l1 x19_2).f2)) := (blk_cell BK112.out 2).trans rfl
       have hfz145_0 := blk_frozen BK112.out 0
       have hfz145_1 := blk_frozen BK112.out 1
       have hfz145_2 := blk_frozen BK112.out 2
       have hnb146 := NB109_121.out
       have hnc146 := NB121_109.out
       have hcz147_0 : w140.cell? ⟨gb109, 0, none⟩ = some (.int .i64 a0_0) := (blk_cell BK109.out 0).trans rfl
       have hcz147_1 : w140.cell? ⟨gb109, 1, none⟩ = some (.int .i64 a0_1) := (blk_cell BK109.out 1).trans rfl
       have hcz147_2 : w140.cell? ⟨gb109, 2, none⟩ = some (.int .i64 a0_2) := (blk_cell BK109.out 2).trans rfl
       have hcz147_3 : w140.cell? ⟨gb109, 3, none⟩ = some (.int .i64 a0_3) := (blk_cell BK109.out 3).trans rfl
       have hcz147_4 : w140.cell? ⟨gb109, 4, none⟩ = some (.int .i64 a0_4) := (blk_cell BK109.out 4).trans rfl
       have hfz147_0 := blk_frozen BK109.out 0
       have hfz147_1 := blk_frozen BK109.out 1
       have hfz147_2 := blk_frozen BK109.out 2
       have hfz147_3 := blk_frozen BK109.out 3
       have hfz147_4 := blk_frozen BK109.out 4
       try go_wp2
       go_roundg k2
       case measure => have := HJ2.out; have := HK2.out; omega
       case rel => exact ⟨(wrap64 (x19_2 + 1)), (by first | rfl | (simp; done) | (simp [*]; done)), H', ⟨by have := HJ2.out; have := HK2.out; omega⟩, ⟨by (with_reducible repeat (first | refine blk_drewN ?_ _ | refine blk_drew ?_ | refine blk_alloc ?_ _)); refine blk_far ?_ NB109_121.out _; (with_reducible repeat (first | refine blk_drewN ?_ _ | refine blk_drew ?_ | refine blk_alloc ?_ _)); refine blk_far ?_ NB109_121.out _; (with_reducible repeat (first | refine blk_drewN ?_ _ | refine blk_drew ?_ | refine blk_alloc ?_ _)); refine blk_far ?_ NB109_121.out _; (with_reducible repeat (first | refine blk_drewN ?_ _ | refine blk_drew ?_ | refine blk_alloc ?_ _)); exact BK109.out⟩, ⟨by repeat (first | (with_reducible first | exact HB.out | apply below_alloc | apply pw_below_drewN | apply below_drew1 | refine below_set ?_ GE109.out | refine below_set ?_ GE112.out | refine below_set ?_ GE121.out) | exact HB.out)⟩⟩
     subst c98
     have H1 : (if ((rd_T41 l1 x19_2).f2) = 0 then (plan_May.l0 k2 l1 l1 (l1.length : Int) (wrap64 (x19_2 + 1)) a0_0 a0_1 a0_2 a0_3 a0_4) else (some false)) = some r := by rw [if_pos rfl] at H; exact H
     clear H; have H := H1; clear H1
     by_cases c99 : ((rd_T41 l1 x19_2).f2) = 0
     rotate_left
     · rw [if_neg c99] at H
       have c99b0 : (((rd_T41 l1 x19_2).f2) == 0) = false := beq_eq_false_iff_ne.mpr c99
       have c99b1 : (((rd_T41 l1 x19_2).f2) != 0) = true := bne_iff_ne.mpr c99
       obtain rfl := Option.some.inj H
       have p111 : 0 ≤ (x19_2 : Int) := of_decide_eq_true (by first | (with_reducible assumption) | assumption)
       have q111 : x19_2 < (l1.length : Int) := of_decide_eq_true (by first | (with_reducible assumption) | assumption)
       obtain ⟨ad111, e111, hx111_0, hx111_1, hx111_2⟩ := at_T41 HR1.out x19_2 p111 q111
       (try rw [← Nbq97.out] at hx111_1)
       cases e111
       replace hx111_0 := (HB.out.cell (World.block_lt_of_cell? w _ hx111_0)).trans hx111_0
       replace hx111_1 := (HB.out.cell (World.block_lt_of_cell? w _ hx111_1)).trans hx111_1
       replace hx111_2 := (HB.out.cell (World.block_lt_of_cell? w _ hx111_2)).trans hx111_2
       replace p111 := eq_true p111
       replace q111 := eq_true q111
       try go_wp2_with (first | ((with_reducible refine gate_dst (N := 6) rfl ?_); (try (refine gate_guard (by rfl) ?_; dsimp only)); refine box_event ?hg (N := 6) ?hd (cs := #[.int .i64 0, .bool false, .int .i64 0]) (t := 41) ?hr ?_; (case hd => rfl); (case hg => rfl); (case hr => first | (go_simp; done) | (go_simp; rfl)); intro gb112 hg w116 hbox hb; have n0_ := Aside0.mk (blk_below (g := gb109) (o := .cells #[.int .i64 a0_0, .int .i64 a0_1, .int .i64 a0_2, .int .i64 a0_3, .int .i64 a0_4] 23 (0, 0)) (by (with_reducible repeat (first | refine blk_drewN ?_ _ | refine blk_drew ?_ | refine blk_alloc ?_ _)); exact BK109.out) hb); have n1_ := Aside0.mk (below_step (by repeat (first | (with_reducible first | exact HB.out | apply below_alloc | apply pw_below_drewN | apply below_drew1 | refine below_set ?_ GE109.out) | exact HB.out)) hb); have n2_ := Aside0.mk (hbox); have n3_ := Aside0.mk ((by rw [hg]; exact (below_size (by repeat (first | (with_reducible first | exact HB.out | apply below_alloc | apply pw_below_drewN | apply below_drew1 | refine below_set ?_ GE109.out) | exact HB.out))) : w.heap.size ≤ gb112)); have n4_ := Aside0.mk ((by rw [hg]; exact (below_size (by repeat (first | (with_reducible first | exact HB.out | apply below_alloc | apply pw_below_drewN | apply below_drew1 | refine below_set ?_ GE109.out) | exact HB.out))) : w.heap.size ≤ gb112)); have n5_ := Aside0.mk ((by rw [hg]; exact Nat.ne_of_lt (blk_lt (g := gb109) (o := .cells #[.int .i64 a0_0, .int .i64 a0_1, .int .i64 a0_2, .int .i64 a0_3, .int .i64 a0_4] 23 (0, 0)) (by (with_reducible repeat (first | refine blk_drewN ?_ _ | refine blk_drew ?_ | refine blk_alloc ?_ _)); exact BK109.out)) : gb109 ≠ gb112)); have n6_ := Aside0.mk ((by rw [hg]; exact Nat.ne_of_gt (blk_lt (g := gb109) (o := .cells #[.int .i64 a0_0, .int .i64 a0_1, .int .i64 a0_2, .int .i64 a0_3, .int .i64 a0_4] 23 (0, 0)) (by (with_reducible repeat (first | refine blk_drewN ?_ _ | refine blk_drew ?_ | refine blk_alloc ?_ _)); exact BK109.out)) : gb112 ≠ gb109)); clear BK109; clear HB; have BK109 := n0_; have HB := n1_; have BK112 := n2_; have GW112 := n3_; have GE112 := n4_; have NB109_112 := n5_; have NB112_109 := n6_; clear n0_ n1_ n2_ n3_ n4_ n5_ n6_; clear hb hbox hg; have hnb117 := NB112_109.out; have hnc117 := NB109_112.out; have hcz118_0 : w116.cell? ⟨gb112, 0, none⟩ = some (.int .i64 0) := (blk_cell BK112.out 0).trans rfl; have hcz118_1 : w116.cell? ⟨gb112, 1, none⟩ = some (.bool false) := (blk_cell BK112.out 1).trans rfl; have hcz118_2 : w116.cell? ⟨gb112, 2, none⟩ = some (.int .i64 0) := (blk_cell BK112.out 2).trans rfl; have hfz118_0 := blk_frozen BK112.out 0; have hfz118_1 := blk_frozen BK112.out 1; have hfz118_2 := blk_frozen BK112.out 2))
       have n0_ : Aside0 ((((w116.setCell ⟨gb112, 0, none⟩ (.int .i64 ((rd_T41 l1 x19_2).f0))).setCell ⟨gb112, 1, none⟩ (.bool true)).setCell ⟨gb112, 2, none⟩ (.int .i64 ((rd_T41 l1 x19_2).f2))).heap[gb109]? = some (.cells #[.int .i64 a0_0, .int .i64 a0_1, .int .i64 a0_2, .int .i64 a0_3, .int .i64 a0_4] 23 (0, 0))) := ⟨by (with_reducible repeat (first | refine blk_drewN ?_ _ | refine blk_drew ?_ | refine blk_alloc ?_ _)); refine blk_far ?_ NB109_112.out _; (with_reducible repeat (first | refine blk_drewN ?_ _ | refine blk_drew ?_ | refine blk_alloc ?_ _)); refine blk_far ?_ NB109_112.out _; (with_reducible repeat (first | refine blk_drewN ?_ _ | refine blk_drew ?_ | refine blk_alloc ?_ _)); refine blk_far ?_ NB109_112.out _; (with_reducible repeat (first | refine blk_drewN ?_ _ | refine blk_drew ?_ | refine blk_alloc ?_ _)); exact BK109.out⟩
       have n1_ : Aside0 ((((w116.setCell ⟨gb112, 0, none⟩ (.int .i64 ((rd_T41 l1 x19_2).f0))).setCell ⟨gb112, 1, none⟩ (.bool true)).setCell ⟨gb112, 2, none⟩ (.int .i64 ((rd_T41 l1 x19_2).f2))).heap[gb112]? = some (.cells #[.int .i64 ((rd_T41 l1 x19_2).f0), .bool true, .int .i64 ((rd_T41 l1 x19_2).f2)] 41 (0, 0))) := ⟨by (with_reducible repeat (first | refine blk_drewN ?_ _ | refine blk_drew ?_ | refine blk_alloc ?_ _)); refine blk_put (cs := #[.int .i64 ((rd_T41 l1 x19_2).f0), .bool true, .int .i64 0]) ?_ 2 _ rfl; (with_reducible repeat (first | refine blk_drewN ?_ _ | refine blk_drew ?_ | refine blk_alloc ?_ _)); refine blk_put (cs := #[.int .i64 ((rd_T41 l1 x19_2).f0), .bool false, .int .i64 0]) ?_ 1 _ rfl; (with_reducible repeat (first | refine blk_drewN ?_ _ | refine blk_drew ?_ | refine blk_alloc ?_ _)); refine blk_put (cs := #[.int .i64 0, .bool false, .int .i64 0]) ?_ 0 _ rfl; (with_reducible repeat (first | refine blk_drewN ?_ _ | refine blk_drew ?_ | refine blk_alloc ?_ _)); exact BK112.out⟩
       have n2_ : Aside0 (Below w.heap.size w (((w116.setCell ⟨gb112, 0, none⟩ (.int .i64 ((rd_T41 l1 x19_2).f0))).setCell ⟨gb112, 1, none⟩ (.bool true)).setCell ⟨gb112, 2, none⟩ (.int .i64 ((rd_T41 l1 x19_2).f2)))) := ⟨by repeat (first | (with_reducible first | exact HB.out | apply below_alloc | apply pw_below_drewN | apply below_drew1 | refine below_set ?_ GE109.out | refine below_set ?_ GE112.out) | exact HB.out)⟩
       (try clear BK109)
       (try clear BK112)
       (try clear HB)
       generalize (((w116.setCell ⟨gb112, 0, none⟩ (.int .i64 ((rd_T41 l1 x19_2).f0))).setCell ⟨gb112, 1, none⟩ (.bool true)).setCell ⟨gb112, 2, none⟩ (.int .i64 ((rd_T41 l1 x19_2).f2))) = w119 at n0_ n1_ n2_ ⊢
       have BK109 := n0_
       have BK112 := n1_
       have HB := n2_
       clear n0_ n1_ n2_
       have n0_ := Aside0.mk (blk_drew BK109.out)
       have n1_ := Aside0.mk (blk_drew BK112.out)
       have n2_ := Aside0.mk (below_drew1 HB.out)
       clear BK109
       clear BK112
       clear HB
       have BK109 := n0_
       have BK112 := n1_
       have HB := n2_
       clear n0_ n1_ n2_
       have q121 : (x19_2 : Int) ≤ ((l1.length : Int) : Int) := of_decide_eq_true (by first | (with_reducible assumption) | assumption)
       obtain ⟨i0121, hi0121, _, hsz121, _⟩ := info_parts info41
       have hroom121 : l1.length ≤ c1 := HC1.out
       have hC121 : Kd.C k41 _ (some ad111) l1.length l1 := HR1.out
       have hcut121 := cut_to (P := Try.prog) 33 41 .i64 Try.underlying33 hi0121 (some ad111) l1.length c1 x19_2 (of_decide_eq_true (by first | (with_reducible assumption) | assumption)) q121 hroom121
       have hr121 := Kd.C_take (m := (x19_2 : Int).toNat) hC121 (by omega)
       have hy121 : y113.length = (x19_2 : Int).toNat := (by rw [Ny113.out, List.length_take]; omega)
       rw [← Ny113.out] at hr121
       rw [← hy121] at hcut121
       have HR116 := Aside0.mk hr121
       have HC116 := Aside0.mk (show y113.length ≤ c1 from by omega)
       clear hr121 hC121 hroom121 hi0121 hsz121
       have KY121 := Aside0.mk hy121
       clear hy121
       replace q121 := eq_true q121
       refine start_ (n := 12) (S := fun w' => w'.cell? ⟨gb112, 0, none⟩ = some (.int .i64 ((rd_T41 l1 x19_2).f0)) ∧ w'.cell? ⟨gb112, 1, none⟩ = some (.bool true) ∧ w'.cell? ⟨gb112, 2, none⟩ = some (.int .i64 ((rd_T41 l1 x19_2).f2))) (ds := []) #[Z, Z, Z, Z, Z, Z, Z, Z, Z, Z, Z, Z] (by kernel_rfl) rfl rfl ⟨(blk_cell BK112.out 0).trans rfl, (blk_cell BK112.out 1).trans rfl, (blk_cell BK112.out 2).trans rfl⟩ (fun hHeld => ?_); refine with_tabW plan_May.tab6 plan_May.bits6 (fun HT_ HW_ => ?_)
       generalize w119.drew = w120 at BK109 BK112 HB HR116 hHeld ⊢
       refine pure_ (i := 0) (N := some 25) (v := ?_) (a' := ?_) #[Y, Z, Z, Z, Z, Z, Z, Z, Z, Z, Z, Z] rfl rfl (any_of HT_.out (by kernel_rfl)) (fun _ _ _ h => h) (Or.inl ⟨by rfl, ?_⟩) ?_ ?_
       rotate_left
       · intro w'
         go_simp
         with_reducible rfl
       rotate_left
       · simp only [Act.put, sb_, sz_, ss_, i64_w, i32_w]
         rfl
       refine pure_ (i := 1) (N := some 26) (v := ?_) (a' := ?_) #[Y, Y, Z, Z, Z, Z, Z, Z, Z, Z, Z, Z] rfl rfl (any_of HT_.out (by kernel_rfl)) (fun _ _ _ h => h) (Or.inl ⟨by rfl, ?_⟩) ?_ ?_
       rotate_left
       · intro w'
         go_simp
         with_reducible rfl
       rotate_left
       · simp only [Act.put, sb_, sz_, ss_, i64_w, i32_w]
         rfl
       refine pure_ (i := 2) (N := some 27) (v := ?_) (a' := ?_) #[Y, Y, Y, Z, Z, Z, Z, Z, Z, Z, Z, Z] rfl rfl (any_of HT_.out (by kernel_rfl)) (fun _ _ _ h => h) (Or.inl ⟨by rfl, ?_⟩) ?_ ?_
       rotate_left
       · intro w'
         go_simp
         with_reducible rfl
       rotate_left
       · simp only [Act.put, sb_, sz_, ss_, i64_w, i32_w]
         rfl
       refine pure_ (i := 3) (N := some 28) (v := ?_) (a' := ?_) #[Y, Y, Y, Y, Z, Z, Z, Z, Z, Z, Z, Z] rfl rfl (any_of HT_.out (by kernel_rfl)) (fun _ _ _ h => h) (Or.inl ⟨by rfl, ?_⟩) ?_ ?_
       rotate_left
       · intro w'
         go_simp
         with_reducible rfl
       rotate_left
       · simp only [Act.put, sb_, sz_, ss_, i64_w, i32_w]
         rfl
       refine take_ (i := 4) (N := some 29) (v := ?_) (a' := ?_) #[Y, Y, Y, Y, Y, Z, Z, Z, Z, Z, Z, Z] rfl rfl (take_ofW HT_.out HW_.out (by kernel_rfl)) (fun _ _ _ h => h) (Or.inl ⟨by rfl, ?_⟩) hHeld ?_ ?_
       rotate_left
       · rintro w' ⟨s0, s1, s2⟩
         go_simp
         with_reducible rfl
       rotate_left
       · simp only [Act.put, sb_, sz_, ss_, i64_w, i32_w]
         rfl
       refine join_ (σ := Nat) 2 #[Y, Y, Y, Y, Y, Y, Y, Y, Y, Y, Z, Z] (fun s_ => [(30, .tuple #[.agg #[.int .i64 t117, .bool t118, .int .i64 t119], .bool false]), (7, .pointer (some ⟨s_, 0, none⟩)), (24, .tuple #[.agg #[.int .i64 t117, .bool t118, .int .i64 t119], .bool false]), (31, .agg #[.int .i64 t117, .bool t118, .int .i64 t119]), (32, .bool false)]) (fun s_ w' => (w'.cell? ⟨gb112, 0, none⟩ = some (.int .i64 ((rd_T41 l1 x19_2).f0)) ∧ w'.cell? ⟨gb112, 1, none⟩ = some (.bool true) ∧ w'.cell? ⟨gb112, 2, none⟩ = some (.int .i64 ((rd_T41 l1 x19_2).f2))) ∧ (w'.heap[gb109]? = some (.cells #[.int .i64 a0_0, .int .i64 a0_1, .int .i64 a0_2, .int .i64 a0_3, .int .i64 a0_4] 23 (0, 0))) ∧ (w'.heap[gb112]? = some (.cells #[.int .i64 ((rd_T41 l1 x19_2).f0), .bool true, .int .i64 ((rd_T41 l1 x19_2).f2)] 41 (0, 0))) ∧ (w'.heap[s_]? = some (.cells #[.int .i64 0, .bool false, .int .i64 0] 41 (0, 0))) ∧ (w.heap.size ≤ s_) ∧ (w.heap.size ≤ s_) ∧ (gb109 ≠ s_) ∧ (s_ ≠ gb109) ∧ (gb112 ≠ s_) ∧ (s_ ≠ gb112) ∧ (Below w.heap.size w w')) ?_ ?_
       rotate_left
       · intro hCont
         refine two_ (i := 5) (j := 9) (Ni := some 30) (Nj := some 7) #[Y, Y, Y, Y, Y, Y, Z, Z, Z, Z, Z, Z] #[Y, Y, Y, Y, Y, Z, Z, Z, Z, Y, Z, Z] rfl rfl rfl rfl (two_of HT_.out (by kernel_rfl)) (by decide) (by decide) (fun K hK => ?_) (fun K hK => ?_)
         · skip
           refine goes_ Try.func51 (by kernel_rfl) rfl #[.slice (some ad111) y113.length c1, .int .i64 ((rd_T41 l1 x19_2).f0)] (by rfl) rfl rfl (by (try simp only [List.map_toArray, List.map_cons, List.map_nil]); first | done | rfl | (simp only [List.length_drop, List.length_take]; rfl)) ?_
           with_reducible refine (plan_find.calls k2 _ _ y113 ((rd_T41 l1 x19_2).f0) t117 t118 t119 false _ ?side1 ?side2 A17.out).mono ?_
           (case side1 => repeat (first | exact (Kd.C_below HR116.out HB.out) | (with_reducible refine Kd.C_alloc ?_ _) | (with_reducible refine Kd.C_drewN ?_ _) | (with_reducible refine Kd.C_drew ?_)))
           (case side2 => exact HC116.out)
           rintro e w122 ⟨rfl, hb⟩
           refine ⟨_, rfl, ?_⟩
           have n0_ := Aside0.mk (blk_below (g := gb109) (o := .cells #[.int .i64 a0_0, .int .i64 a0_1, .int .i64 a0_2, .int .i64 a0_3, .int .i64 a0_4] 23 (0, 0)) (by (with_reducible repeat (first | refine blk_drewN ?_ _ | refine blk_drew ?_ | refine blk_alloc ?_ _)); exact BK109.out) hb)
           have n1_ := Aside0.mk (blk_below (g := gb112) (o := .cells #[.int .i64 ((rd_T41 l1 x19_2).f0), .bool true, .int .i64 ((rd_T41 l1 x19_2).f2)] 41 (0, 0)) (by (with_reducible repeat (first | refine blk_drewN ?_ _ | refine blk_drew ?_ | refine blk_alloc ?_ _)); exact BK112.out) hb)
           have n2_ := Aside0.mk (below_step (by repeat (first | (with_reducible first | exact HB.out | apply below_alloc | apply pw_below_drewN | apply below_drew1 | refine below_set ?_ GE109.out | refine below_set ?_ GE112.out) | exact HB.out)) hb)
           clear BK109
           clear BK112
           clear HB
           have BK109 := n0_
           have BK112 := n1_
           have HB := n2_
           clear n0_ n1_ n2_
           (try clear hb)
           (try clear hb2)
           (try clear hk)
           (try clear hi)
           refine hK.out _ _ ⟨(blk_cell BK112.out 0).trans rfl, (blk_cell BK112.out 1).trans rfl, (blk_cell BK112.out 2).trans rfl⟩ (fun hHeld => ?_)
           clear hK K
           refine norm_ (a' := ?_) ?_ ?_
           rotate_left
           · show Act.put _ (some 30) _ = _
             simp only [Act.put, sb_, sz_, ss_, i64_w, i32_w]
             rfl
           refine pure_ (i := 6) (N := some 24) (v := ?_) (a' := ?_) #[Y, Y, Y, Y, Y, Y, Y, Z, Z, Z, Z, Z] rfl rfl (any_of HT_.out (by kernel_rfl)) (fun _ _ _ h => h) (Or.inl ⟨by rfl, ?_⟩) ?_ ?_
           rotate_left
           · intro w'
             go_simp
             with_reducible rfl
           rotate_left
           · simp only [Act.put, sb_, sz_, ss_, i64_w, i32_w]
             rfl
           refine pure_ (i := 7) (N := some 31) (v := ?_) (a' := ?_) #[Y, Y, Y, Y, Y, Y, Y, Y, Z, Z, Z, Z] rfl rfl (any_of HT_.out (by kernel_rfl)) (fun _ _ _ h => h) (Or.inl ⟨by rfl, ?_⟩) ?_ ?_
           rotate_left
           · intro w'
             go_simp
             with_reducible rfl
           rotate_left
           · simp only [Act.put, sb_, sz_, ss_, i64_w, i32_w]
             rfl
           refine pure_ (i := 8) (N := some 32) (v := ?_) (a' := ?_) #[Y, Y, Y, Y, Y, Y, Y, Y, Y, Z, Z, Z] rfl rfl (any_of HT_.out (by kernel_rfl)) (fun _ _ _ h => h) (Or.inl ⟨by rfl, ?_⟩) ?_ ?_
           rotate_left
           · intro w'
             go_simp
             with_reducible rfl
           rotate_left
           · simp only [Act.put, sb_, sz_, ss_, i64_w, i32_w]
             rfl
           refine one_ (i := 9) (N := some 7) #[Y, Y, Y, Y, Y, Y, Y, Y, Y, Y, Z, Z] rfl rfl (one_of HT_.out (by kernel_rfl)) (by decide) (fun K hK => ?_)
           refine box_step ?hg (N := 7) ?hd (cs := #[.int .i64 0, .bool false, .int .i64 0]) (t := 41) ?hr ?_; (case hd => rfl); (case hg => rfl); (case hr => first | (go_simp; done) | (go_simp; rfl))
           intro gb121 hg w123 hbox hb
           have n0_ := Aside0.mk (blk_below (g := gb109) (o := .cells #[.int .i64 a0_0, .int .i64 a0_1, .int .i64 a0_2, .int .i64 a0_3, .int .i64 a0_4] 23 (0, 0)) (by (with_reducible repeat (first | refine blk_drewN ?_ _ | refine blk_drew ?_ | refine blk_alloc ?_ _)); exact BK109.out) hb)
           have n1_ := Aside0.mk (blk_below (g := gb112) (o := .cells #[.int .i64 ((rd_T41 l1 x19_2).f0), .bool true, .int .i64 ((rd_T41 l1 x19_2).f2)] 41 (0, 0)) (by (with_reducible repeat (first | refine blk_drewN ?_ _ | refine blk_drew ?_ | refine blk_alloc ?_ _)); exact BK112.out) hb)
           have n2_ := Aside0.mk (below_step (by repeat (first | (with_reducible first | exact HB.out | apply below_alloc | apply pw_below_drewN | apply below_drew1 | refine below_set ?_ GE109.out | refine below_set ?_ GE112.out) | exact HB.out)) hb)
           have n3_ := Aside0.mk (hbox)
           have n4_ := Aside0.mk ((by rw [hg]; exact (below_size (by repeat (first | (with_reducible first | exact HB.out | apply below_alloc | apply pw_below_drewN | apply below_drew1 | refine below_set ?_ GE109.out | refine below_set ?_ GE112.out) | exact HB.out))) : w.heap.size ≤ gb121))
           have n5_ := Aside0.mk ((by rw [hg]; exact (below_size (by repeat (first | (with_reducible first | exact HB.out | apply below_alloc | apply pw_below_drewN | apply below_drew1 | refine below_set ?_ GE109.out | refine below_set ?_ GE112.out) | exact HB.out))) : w.heap.size ≤ gb121))
           have n6_ := Aside0.mk ((by rw [hg]; exact Nat.ne_of_lt (blk_lt (g := gb109) (o := .cells #[.int .i64 a0_0, .int .i64 a0_1, .int .i64 a0_2, .int .i64 a0_3, .int .i64 a0_4] 23 (0, 0)) (by (with_reducible repeat (first | refine blk_drewN ?_ _ | refine blk_drew ?_ | refine blk_alloc ?_ _)); exact BK109.out)) : gb109 ≠ gb121))
           have n7_ := Aside0.mk ((by rw [hg]; exact Nat.ne_of_gt (blk_lt (g := gb109) (o := .cells #[.int .i64 a0_0, .int .i64 a0_1, .int .i64 a0_2, .int .i64 a0_3, .int .i64 a0_4] 23 (0, 0)) (by (with_reducible repeat (first | refine blk_drewN ?_ _ | refine blk_drew ?_ | refine blk_alloc ?_ _)); exact BK109.out)) : gb121 ≠ gb109))
           have n8_ := Aside0.mk ((by rw [hg]; exact Nat.ne_of_lt (blk_lt (g := gb112) (o := .cells #[.int .i64 ((rd_T41 l1 x19_2).f0), .bool true, .int .i64 ((rd_T41 l1 x19_2).f2)] 41 (0, 0)) (by (with_reducible repeat (first | refine blk_drewN ?_ _ | refine blk_drew ?_ | refine blk_alloc ?_ _)); exact BK112.out)) : gb112 ≠ gb121))
           have n9_ := Aside0.mk ((by rw [hg]; exact Nat.ne_of_gt (blk_lt (g := gb112) (o := .cells #[.int .i64 ((rd_T41 l1 x19_2).f0), .bool true, .int .i64 ((rd_T41 l1 x19_2).f2)] 41 (0, 0)) (by (with_reducible repeat (first | refine blk_drewN ?_ _ | refine blk_drew ?_ | refine blk_alloc ?_ _)); exact BK112.out)) : gb121 ≠ gb112))
           clear BK109
           clear BK112
           clear HB
           have BK109 := n0_
           have BK112 := n1_
           have HB := n2_
           have BK121 := n3_
           have GW121 := n4_
           have GE121 := n5_
           have NB109_121 := n6_
           have NB121_109 := n7_
           have NB112_121 := n8_
           have NB121_112 := n9_
           clear n0_ n1_ n2_ n3_ n4_ n5_ n6_ n7_ n8_ n9_
           clear hb hbox hg
           refine hK.out _ _ ⟨(blk_cell BK112.out 0).trans rfl, (blk_cell BK112.out 1).trans rfl, (blk_cell BK112.out 2).trans rfl⟩ (fun hHeld => ?_)
           clear hK K
           refine norm_ (a' := ?_) ?_ ?_
           rotate_left
           · show Act.put _ (some 7) _ = _
             simp only [Act.put, sb_, sz_, ss_, i64_w, i32_w]
             rfl
           exact norm_ (by simp only [putAll, Act.put, sb_, sz_, ss_]) (hCont (gb121) _ ⟨hHeld, (by (with_reducible repeat (first | refine blk_drewN ?_ _ | refine blk_drew ?_ | refine blk_alloc ?_ _)); exact BK109.out), (by (with_reducible repeat (first | refine blk_drewN ?_ _ | refine blk_drew ?_ | refine blk_alloc ?_ _)); exact BK112.out), (by (with_reducible repeat (first | refine blk_drewN ?_ _ | refine blk_drew ?_ | refine blk_alloc ?_ _)); exact BK121.out), GW121.out, GE121.out, NB109_121.out, NB121_109.out, NB112_121.out, NB121_112.out, (by repeat (first | (with_reducible first | exact HB.out | apply below_alloc | apply pw_below_drewN | apply below_drew1 | refine below_set ?_ GE109.out | refine below_set ?_ GE112.out | refine below_set ?_ GE121.out) | exact HB.out))⟩)
         · skip
           refine box_step ?hg (N := 7) ?hd (cs := #[.int .i64 0, .bool false, .int .i64 0]) (t := 41) ?hr ?_; (case hd => rfl); (case hg => rfl); (case hr => first | (go_simp; done) | (go_simp; rfl))
           intro gb121 hg w122 hbox hb
           have n0_ := Aside0.mk (blk_below (g := gb109) (o := .cells #[.int .i64 a0_0, .int .i64 a0_1, .int .i64 a0_2, .int .i64 a0_3, .int .i64 a0_4] 23 (0, 0)) (by (with_reducible repeat (first | refine blk_drewN ?_ _ | refine blk_drew ?_ | refine blk_alloc ?_ _)); exact BK109.out) hb)
           have n1_ := Aside0.mk (blk_below (g := gb112) (o := .cells #[.int .i64 ((rd_T41 l1 x19_2).f0), .bool true, .int .i64 ((rd_T41 l1 x19_2).f2)] 41 (0, 0)) (by (with_reducible repeat (first | refine blk_drewN ?_ _ | refine blk_drew ?_ | refine blk_alloc ?_ _)); exact BK112.out) hb)
           have n2_ := Aside0.mk (below_step (by repeat (first | (with_reducible first | exact HB.out | apply below_alloc | apply pw_below_drewN | apply below_drew1 | refine below_set ?_ GE109.out | refine below_set ?_ GE112.out) | exact HB.out)) hb)
           have n3_ := Aside0.mk (hbox)
           have n4_ := Aside0.mk ((by rw [hg]; exact (below_size (by repeat (first | (with_reducible first | exact HB.out | apply below_alloc | apply pw_below_drewN | apply below_drew1 | refine below_set ?_ GE109.out | refine below_set ?_ GE112.out) | exact HB.out))) : w.heap.size ≤ gb121))
           have n5_ := Aside0.mk ((by rw [hg]; exact (below_size (by repeat (first | (with_reducible first | exact HB.out | apply below_alloc | apply pw_below_drewN | apply below_drew1 | refine below_set ?_ GE109.out | refine below_set ?_ GE112.out) | exact HB.out))) : w.heap.size ≤ gb121))
           have n6_ := Aside0.mk ((by rw [hg]; exact Nat.ne_of_lt (blk_lt (g := gb109) (o := .cells #[.int .i64 a0_0, .int .i64 a0_1, .int .i64 a0_2, .int .i64 a0_3, .int .i64 a0_4] 23 (0, 0)) (by (with_reducible repeat (first | refine blk_drewN ?_ _ | refine blk_drew ?_ | refine blk_alloc ?_ _)); exact BK109.out)) : gb109 ≠ gb121))
           have n7_ := Aside0.mk ((by rw [hg]; exact Nat.ne_of_gt (blk_lt (g := gb109) (o := .cells #[.int .i64 a0_0, .int .i64 a0_1, .int .i64 a0_2, .int .i64 a0_3, .int .i64 a0_4] 23 (0, 0)) (by (with_reducible repeat (first | refine blk_drewN ?_ _ | refine blk_drew ?_ | refine blk_alloc ?_ _)); exact BK109.out)) : gb121 ≠ gb109))
           have n8_ := Aside0.mk ((by rw [hg]; exact Nat.ne_of_lt (blk_lt (g := gb112) (o := .cells #[.int .i64 ((rd_T41 l1 x19_2).f0), .bool true, .int .i64 ((rd_T41 l1 x19_2).f2)] 41 (0, 0)) (by (with_reducible repeat (first | refine blk_drewN ?_ _ | refine blk_drew ?_ | refine blk_alloc ?_ _)); exact BK112.out)) : gb112 ≠ gb121))
           have n9_ := Aside0.mk ((by rw [hg]; exact Nat.ne_of_gt (blk_lt (g := gb112) (o := .cells #[.int .i64 ((rd_T41 l1 x19_2).f0), .bool true, .int .i64 ((rd_T41 l1 x19_2).f2)] 41 (0, 0)) (by (with_reducible repeat (first | refine blk_drewN ?_ _ | refine blk_drew ?_ | refine blk_alloc ?_ _)); exact BK112.out)) : gb121 ≠ gb112))
           clear BK109
           clear BK112
           clear HB
           have BK109 := n0_
           have BK112 := n1_
           have HB := n2_
           have BK121 := n3_
           have GW121 := n4_
           have GE121 := n5_
           have NB109_121 := n6_
           have NB121_109 := n7_
           have NB112_121 := n8_
           have NB121_112 := n9_
           clear n0_ n1_ n2_ n3_ n4_ n5_ n6_ n7_ n8_ n9_
           clear hb hbox hg
           refine hK.out _ _ ⟨(blk_cell BK112.out 0).trans rfl, (blk_cell BK112.out 1).trans rfl, (blk_cell BK112.out 2).trans rfl⟩ (fun hHeld => ?_)
           clear hK K
           refine norm_ (a' := ?_) ?_ ?_
           rotate_left
           · show Act.put _ (some 7) _ = _
             simp only [Act.put, sb_, sz_, ss_, i64_w, i32_w]
             rfl
           refine one_ (i := 5) (N := some 30) #[Y, Y, Y, Y, Y, Y, Z, Z, Z, Y, Z, Z] rfl rfl (one_of HT_.out (by kernel_rfl)) (by decide) (fun K hK => ?_)
           refine goes_ Try.func51 (by kernel_rfl) rfl #[.slice (some ad111) y113.length c1, .int .i64 ((rd_T41 l1 x19_2).f0)] (by rfl) rfl rfl (by (try simp only [List.map_toArray, List.map_cons, List.map_nil]); first | done | rfl | (simp only [List.length_drop, List.length_take]; rfl)) ?_
           with_reducible refine (plan_find.calls k2 _ _ y113 ((rd_T41 l1 x19_2).f0) t117 t118 t119 false _ ?side1 ?side2 A17.out).mono ?_
           (case side1 => repeat (first | exact (Kd.C_below HR116.out HB.out) | (with_reducible refine Kd.C_alloc ?_ _) | (with_reducible refine Kd.C_drewN ?_ _) | (with_reducible refine Kd.C_drew ?_)))
           (case side2 => exact HC116.out)
           rintro e w123 ⟨rfl, hb⟩
           refine ⟨_, rfl, ?_⟩
           have n0_ := Aside0.mk (blk_below (g := gb109) (o := .cells #[.int .i64 a0_0, .int .i64 a0_1, .int .i64 a0_2, .int .i64 a0_3, .int .i64 a0_4] 23 (0, 0)) (by (with_reducible repeat (first | refine blk_drewN ?_ _ | refine blk_drew ?_ | refine blk_alloc ?_ _)); exact BK109.out) hb)
           have n1_ := Aside0.mk (blk_below (g := gb112) (o := .cells #[.int .i64 ((rd_T41 l1 x19_2).f0), .bool true, .int .i64 ((rd_T41 l1 x19_2).f2)] 41 (0, 0)) (by (with_reducible repeat (first | refine blk_drewN ?_ _ | refine blk_drew ?_ | refine blk_alloc ?_ _)); exact BK112.out) hb)
           have n2_ := Aside0.mk (blk_below (g := gb121) (o := .cells #[.int .i64 0, .bool false, .int .i64 0] 41 (0, 0)) (by (with_reducible repeat (first | refine blk_drewN ?_ _ | refine blk_drew ?_ | refine blk_alloc ?_ _)); exact BK121.out) hb)
           have n3_ := Aside0.mk (below_step (by repeat (first | (with_reducible first | exact HB.out | apply below_alloc | apply pw_below_drewN | apply below_drew1 | refine below_set ?_ GE109.out | refine below_set ?_ GE112.out | refine below_set ?_ GE121.out) | exact HB.out)) hb)
           clear BK109
           clear BK112
           clear BK121
           clear HB
           have BK109 := n0_
           have BK112 := n1_
           have BK121 := n2_
           have HB := n3_
           clear n0_ n1_ n2_ n3_
           (try clear hb)
           (try clear hb2)
           (try clear hk)
           (try clear hi)
           refine hK.out _ _ ⟨(blk_cell BK112.out 0).trans rfl, (blk_cell BK112.out 1).trans rfl, (blk_cell BK112.out 2).trans rfl⟩ (fun hHeld => ?_)
           clear hK K
           refine norm_ (a' := ?_) ?_ ?_
           rotate_left
           · show Act.put _ (some 30) _ = _
             simp only [Act.put, sb_, sz_, ss_, i64_w, i32_w]
             rfl
           refine pure_ (i := 6) (N := some 24) (v := ?_) (a' := ?_) #[Y, Y, Y, Y, Y, Y, Y, Z, Z, Y, Z, Z] rfl rfl (any_of HT_.out (by kernel_rfl)) (fun _ _ _ h => h) (Or.inl ⟨by rfl, ?_⟩) ?_ ?_
           rotate_left
           · intro w'
             go_simp
             with_reducible rfl
           rotate_left
           · simp only [Act.put, sb_, sz_, ss_, i64_w, i32_w]
             rfl
           refine pure_ (i := 7) (N := some 31) (v := ?_) (a' := ?_) #[Y, Y, Y, Y, Y, Y, Y, Y, Z, Y, Z, Z] rfl rfl (any_of HT_.out (by kernel_rfl)) (fun _ _ _ h => h) (Or.inl ⟨by rfl, ?_⟩) ?_ ?_
           rotate_left
           · intro w'
             go_simp
             with_reducible rfl
           rotate_left
           · simp only [Act.put, sb_, sz_, ss_, i64_w, i32_w]
             rfl
           refine pure_ (i := 8) (N := some 32) (v := ?_) (a' := ?_) #[Y, Y, Y, Y, Y, Y, Y, Y, Y, Y, Z, Z] rfl rfl (any_of HT_.out (by kernel_rfl)) (fun _ _ _ h => h) (Or.inl ⟨by rfl, ?_⟩) ?_ ?_
           rotate_left
           · intro w'
             go_simp
             with_reducible rfl
           rotate_left
           · simp only [Act.put, sb_, sz_, ss_, i64_w, i32_w]
             rfl
           exact norm_ (by simp only [putAll, Act.put, sb_, sz_, ss_]) (hCont (gb121) _ ⟨hHeld, (by (with_reducible repeat (first | refine blk_drewN ?_ _ | refine blk_drew ?_ | refine blk_alloc ?_ _)); exact BK109.out), (by (with_reducible repeat (first | refine blk_drewN ?_ _ | refine blk_drew ?_ | refine blk_alloc ?_ _)); exact BK112.out), (by (with_reducible repeat (first | refine blk_drewN ?_ _ | refine blk_drew ?_ | refine blk_alloc ?_ _)); exact BK121.out), GW121.out, GE121.out, NB109_121.out, NB121_109.out, NB112_121.out, NB121_112.out, (by repeat (first | (with_reducible first | exact HB.out | apply below_alloc | apply pw_below_drewN | apply below_drew1 | refine below_set ?_ GE109.out | refine below_set ?_ GE112.out | refine below_set ?_ GE121.out) | exact HB.out))⟩)
       rintro gb121 w124 ⟨hS_, h0_, h1_, h2_, h3_, h4_, h5_, h6_, h7_, h8_, h9_⟩
       have n0_ : Aside0 (w124.heap[gb109]? = some (.cells #[.int .i64 a0_0, .int .i64 a0_1, .int .i64 a0_2, .int .i64 a0_3, .int .i64 a0_4] 23 (0, 0))) := ⟨h0_⟩
       have n1_ : Aside0 (w124.heap[gb112]? = some (.cells #[.int .i64 ((rd_T41 l1 x19_2).f0), .bool true, .int .i64 ((rd_T41 l1 x19_2).f2)] 41 (0, 0))) := ⟨h1_⟩
       have n2_ : Aside0 (w124.heap[gb121]? = some (.cells #[.int .i64 0, .bool false, .int .i64 0] 41 (0, 0))) := ⟨h2_⟩
       have n3_ : Aside0 (w.heap.size ≤ gb121) := ⟨h3_⟩
       have n4_ : Aside0 (w.heap.size ≤ gb121) := ⟨h4_⟩
       have n5_ : Aside0 (gb109 ≠ gb121) := ⟨h5_⟩
       have n6_ : Aside0 (gb121 ≠ gb109) := ⟨h6_⟩
       have n7_ : Aside0 (gb112 ≠ gb121) := ⟨h7_⟩
       have n8_ : Aside0 (gb121 ≠ gb112) := ⟨h8_⟩
       have n9_ : Aside0 (Below w.heap.size w w124) := ⟨h9_⟩
       clear BK109
       clear BK112
       clear HB
       clear h0_ h1_ h2_ h3_ h4_ h5_ h6_ h7_ h8_ h9_
       have BK109 := n0_
       have BK112 := n1_
       have BK121 := n2_
       have GW121 := n3_
       have GE121 := n4_
       have NB109_121 := n5_
       have NB121_109 := n6_
       have NB112_121 := n7_
       have NB121_112 := n8_
       have HB := n9_
       clear n0_ n1_ n2_ n3_ n4_ n5_ n6_ n7_ n8_ n9_
       have hHeld : w124.cell? ⟨gb112, 0, none⟩ = some (.int .i64 ((rd_T41 l1 x19_2).f0)) ∧ w124.cell? ⟨gb112, 1, none⟩ = some (.bool true) ∧ w124.cell? ⟨gb112, 2, none⟩ = some (.int .i64 ((rd_T41 l1 x19_2).f2)) := hS_
       refine norm_ (a' := ?_) ?_ ?_
       rotate_left
       · simp only [putAll, Act.put, sb_, sz_, ss_]
         rfl
       refine one_ (i := 10) (N := none) #[Y, Y, Y, Y, Y, Y, Y, Y, Y, Y, Y, Z] rfl rfl (one_of HT_.out (by kernel_rfl)) (by decide) (fun K hK => ?_)
       have hs125 : w124.cell? ⟨gb121, 0, none⟩ = some (.int .i64 0) := (blk_cell BK121.out 0).trans rfl
       have hfs125 := blk_frozen BK121.out 0
       have hns125_0 := NB109_121.out
       have hns125_1 := NB112_121.out
       have hms125_0 := NB121_109.out
       have hms125_1 := NB121_112.out
       have hs126 : w124.cell? ⟨gb121, 1, none⟩ = some (.bool false) := (blk_cell BK121.out 1).trans rfl
       have hfs126 := blk_frozen BK121.out 1
       have hns126_0 := NB109_121.out
       have hns126_1 := NB112_121.out
       have hms126_0 := NB121_109.out
       have hms126_1 := NB121_112.out
       have hs127 : w124.cell? ⟨gb121, 2, none⟩ = some (.int .i64 0) := (blk_cell BK121.out 2).trans rfl
       have hfs127 := blk_frozen BK121.out 2
       have hns127_0 := NB109_121.out
       have hns127_1 := NB112_121.out
       have hms127_0 := NB121_109.out
       have hms127_1 := NB121_112.out
       refine skip_ (w1 := ?_) (by rfl) rfl ?_ ?_
       rotate_left
       · go_simp
         rfl
       refine hK.out _ _ ⟨((cell_far (p := ⟨gb121, _, none⟩) NB112_121.out _).trans (((cell_far (p := ⟨gb121, _, none⟩) NB112_121.out _).trans (((cell_far (p := ⟨gb121, _, none⟩) NB112_121.out _).trans (hHeld.1)))))), ((cell_far (p := ⟨gb121, _, none⟩) NB112_121.out _).trans (((cell_far (p := ⟨gb121, _, none⟩) NB112_121.out _).trans (((cell_far (p := ⟨gb121, _, none⟩) NB112_121.out _).trans (hHeld.2.1)))))), ((cell_far (p := ⟨gb121, _, none⟩) NB112_121.out _).trans (((cell_far (p := ⟨gb121, _, none⟩) NB112_121.out _).trans (((cell_far (p := ⟨gb121, _, none⟩) NB112_121.out _).trans (hHeld.2.2))))))⟩ (fun hHeld => ?_)
       clear hK K
       refine pure_ (i := 11) (N := some 8) (v := ?_) (a' := ?_) #[Y, Y, Y, Y, Y, Y, Y, Y, Y, Y, Y, Y] rfl rfl (any_of HT_.out (by kernel_rfl)) (fun _ _ _ h => h) (Or.inl ⟨by rfl, ?_⟩) ?_ ?_
       rotate_left
       · intro w'
         go_simp
         with_reducible rfl
       rotate_left
       · simp only [Act.put, sb_, sz_, ss_, i64_w, i32_w]
         rfl
       refine done_ (done_of HT_.out (by kernel_rfl)) ?_
       have hnb128 := NB112_121.out
       have hnc128 := NB121_112.out
       have hcz129_0 : w124.cell? ⟨gb112, 0, none⟩ = some (.int .i64 ((rd_T41 l1 x19_2).f0)) := (blk_cell BK112.out 0).trans rfl
       have hcz129_1 : w124.cell? ⟨gb112, 1, none⟩ = some (.bool true) := (blk_cell BK112.out 1).trans rfl
       have hcz129_2 : w124.cell? ⟨gb112, 2, none⟩ = some (.int .i64 ((rd_T41 l1 x19_2).f2)) := (blk_cell BK112.out 2).trans rfl
       have hfz129_0 := blk_frozen BK112.out 0
       have hfz129_1 := blk_frozen BK112.out 1
       have hfz129_2 := blk_frozen BK112.out 2
       have hnb130 := NB109_121.out
       have hnc130 := NB121_109.out
       have hcz131_0 : w124.cell? ⟨gb109, 0, none⟩ = some (.int .i64 a0_0) := (blk_cell BK109.out 0).trans rfl
       have hcz131_1 : w124.cell? ⟨gb109, 1, none⟩ = some (.int .i64 a0_1) := (blk_cell BK109.out 1).trans rfl
       have hcz131_2 : w124.cell? ⟨gb109, 2, none⟩ = some (.int .i64 a0_2) := (blk_cell BK109.out 2).trans rfl
       have hcz131_3 : w124.cell? ⟨gb109, 3, none⟩ = some (.int .i64 a0_3) := (blk_cell BK109.out 3).trans rfl
       have hcz131_4 : w124.cell? ⟨gb109, 4, none⟩ = some (.int .i64 a0_4) := (blk_cell BK109.out 4).trans rfl
       have hfz131_0 := blk_frozen BK109.out 0
       have hfz131_1 := blk_frozen BK109.out 1
       have hfz131_2 := blk_frozen BK109.out 2
       have hfz131_3 := blk_frozen BK109.out 3
       have hfz131_4 := blk_frozen BK109.out 4
       try go_wp2
       go_ret
       exact ⟨by first | rfl | (simp [errW_none, errW_some] <;> rfl) | (simp [*, errW_none, errW_some] <;> rfl), by repeat (first | (with_reducible first | exact HB.out | apply below_alloc | apply pw_below_drewN | apply below_drew1 | refine below_set ?_ GE109.out | refine below_set ?_ GE112.out | refine below_set ?_ GE121.out) | exact HB.out)⟩
     rw [if_pos c99] at H
     have c99b0 : (((rd_T41 l1 x19_2).f2) == 0) = true := beq_iff_eq.mpr c99
     have c99b1 : (((rd_T41 l1 x19_2).f2) != 0) = false := bne_eq_false_iff_eq.mpr c99
     clear c99
     have H' := Aside0.mk H
     clear H
     have p111 : 0 ≤ (x19_2 : Int) := of_decide_eq_true (by first | (with_reducible assumption) | assumption)
     have q111 : x19_2 < (l1.length : Int) := of_decide_eq_true (by first | (with_reducible assumption) | assumption)
     obtain ⟨ad111, e111, hx111_0, hx111_1, hx111_2⟩ := at_T41 HR1.out x19_2 p111 q111
     (try rw [← Nbq97.out] at hx111_1)
     cases e111
     replace hx111_0 := (HB.out.cell (World.block_lt_of_cell? w _ hx111_0)).trans hx111_0
     replace hx111_1 := (HB.out.cell (World.block_lt_of_cell? w _ hx111_1)).trans hx111_1
     replace hx111_2 := (HB.out.cell (World.block_lt_of_cell? w _ hx111_2)).trans hx111_2
     replace p111 := eq_true p111
     replace q111 := eq_true q111
     try go_wp2_with (first | ((with_reducible refine gate_dst (N := 6) rfl ?_); (try (refine gate_guard (by rfl) ?_; dsimp only)); refine box_event ?hg (N := 6) ?hd (cs := #[.int .i64 0, .bool false, .int .i64 0]) (t := 41) ?hr ?_; (case hd => rfl); (case hg => rfl); (case hr => first | (go_simp; done) | (go_simp; rfl)); intro gb112 hg w100 hbox hb; have n0_ := Aside0.mk (blk_below (g := gb109) (o := .cells #[.int .i64 a0_0, .int .i64 a0_1, .int .i64 a0_2, .int .i64 a0_3, .int .i64 a0_4] 23 (0, 0)) (by (with_reducible repeat (first | refine blk_drewN ?_ _ | refine blk_drew ?_ | refine blk_alloc ?_ _)); exact BK109.out) hb); have n1_ := Aside0.mk (below_step (by repeat (first | (with_reducible first | exact HB.out | apply below_alloc | apply pw_below_drewN | apply below_drew1 | refine below_set ?_ GE109.out) | exact HB.out)) hb); have n2_ := Aside0.mk (hbox); have n3_ := Aside0.mk ((by rw [hg]; exact (below_size (by repeat (first | (with_reducible first | exact HB.out | apply below_alloc | apply pw_below_drewN | apply below_drew1 | refine below_set ?_ GE109.out) | exact HB.out))) : w.heap.size ≤ gb112)); have n4_ := Aside0.mk ((by rw [hg]; exact (below_size (by repeat (first | (with_reducible first | exact HB.out | apply below_alloc | apply pw_below_drewN | apply below_drew1 | refine below_set ?_ GE109.out) | exact HB.out))) : w.heap.size ≤ gb112)); have n5_ := Aside0.mk ((by rw [hg]; exact Nat.ne_of_lt (blk_lt (g := gb109) (o := .cells #[.int .i64 a0_0, .int .i64 a0_1, .int .i64 a0_2, .int .i64 a0_3, .int .i64 a0_4] 23 (0, 0)) (by (with_reducible repeat (first | refine blk_drewN ?_ _ | refine blk_drew ?_ | refine blk_alloc ?_ _)); exact BK109.out)) : gb109 ≠ gb112)); have n6_ := Aside0.mk ((by rw [hg]; exact Nat.ne_of_gt (blk_lt (g := gb109) (o := .cells #[.int .i64 a0_0, .int .i64 a0_1, .int .i64 a0_2, .int .i64 a0_3, .int .i64 a0_4] 23 (0, 0)) (by (with_reducible repeat (first | refine blk_drewN ?_ _ | refine blk_drew ?_ | refine blk_alloc ?_ _)); exact BK109.out)) : gb112 ≠ gb109)); clear BK109; clear HB; have BK109 := n0_; have HB := n1_; have BK112 := n2_; have GW112 := n3_; have GE112 := n4_; have NB109_112 := n5_; have NB112_109 := n6_; clear n0_ n1_ n2_ n3_ n4_ n5_ n6_; clear hb hbox hg; have hnb101 := NB112_109.out; have hnc101 := NB109_112.out; have hcz102_0 : w100.cell? ⟨gb112, 0, none⟩ = some (.int .i64 0) := (blk_cell BK112.out 0).trans rfl; have hcz102_1 : w100.cell? ⟨gb112, 1, none⟩ = some (.bool false) := (blk_cell BK112.out 1).trans rfl; have hcz102_2 : w100.cell? ⟨gb112, 2, none⟩ = some (.int .i64 0) := (blk_cell BK112.out 2).trans rfl; have hfz102_0 := blk_frozen BK112.out 0; have hfz102_1 := blk_frozen BK112.out 1; have hfz102_2 := blk_frozen BK112.out 2))
     have n0_ : Aside0 ((((w100.setCell ⟨gb112, 0, none⟩ (.int .i64 ((rd_T41 l1 x19_2).f0))).setCell ⟨gb112, 1, none⟩ (.bool true)).setCell ⟨gb112, 2, none⟩ (.int .i64 ((rd_T41 l1 x19_2).f2))).heap[gb109]? = some (.cells #[.int .i64 a0_0, .int .i64 a0_1, .int .i64 a0_2, .int .i64 a0_3, .int .i64 a0_4] 23 (0, 0))) := ⟨by (with_reducible repeat (first | refine blk_drewN ?_ _ | refine blk_drew ?_ | refine blk_alloc ?_ _)); refine blk_far ?_ NB109_112.out _; (with_reducible repeat (first | refine blk_drewN ?_ _ | refine blk_drew ?_ | refine blk_alloc ?_ _)); refine blk_far ?_ NB109_112.out _; (with_reducible repeat (first | refine blk_drewN ?_ _ | refine blk_drew ?_ | refine blk_alloc ?_ _)); refine blk_far ?_ NB109_112.out _; (with_reducible repeat (first | refine blk_drewN ?_ _ | refine blk_drew ?_ | refine blk_alloc ?_ _)); exact BK109.out⟩
     have n1_ : Aside0 ((((w100.setCell ⟨gb112, 0, none⟩ (.int .i64 ((rd_T41 l1 x19_2).f0))).setCell ⟨gb112, 1, none⟩ (.bool true)).setCell ⟨gb112, 2, none⟩ (.int .i64 ((rd_T41 l1 x19_2).f2))).heap[gb112]? = some (.cells #[.int .i64 ((rd_T41 l1 x19_2).f0), .bool true, .int .i64 ((rd_T41 l1 x19_2).f2)] 41 (0, 0))) := ⟨by (with_reducible repeat (first | refine blk_drewN ?_ _ | refine blk_drew ?_ | refine blk_alloc ?_ _)); refine blk_put (cs := #[.int .i64 ((rd_T41 l1 x19_2).f0), .bool true, .int .i64 0]) ?_ 2 _ rfl; (with_reducible repeat (first | refine blk_drewN ?_ _ | refine blk_drew ?_ | refine blk_alloc ?_ _)); refine blk_put (cs := #[.int .i64 ((rd_T41 l1 x19_2).f0), .bool false, .int .i64 0]) ?_ 1 _ rfl; (with_reducible repeat (first | refine blk_drewN ?_ _ | refine blk_drew ?_ | refine blk_alloc ?_ _)); refine blk_put (cs := #[.int .i64 0, .bool false, .int .i64 0]) ?_ 0 _ rfl; (with_reducible repeat (first | refine blk_drewN ?_ _ | refine blk_drew ?_ | refine blk_alloc ?_ _)); exact BK112.out⟩
     have n2_ : Aside0 (Below w.heap.size w (((w100.setCell ⟨gb112, 0, none⟩ (.int .i64 ((rd_T41 l1 x19_2).f0))).setCell ⟨gb112, 1, none⟩ (.bool true)).setCell ⟨gb112, 2, none⟩ (.int .i64 ((rd_T41 l1 x19_2).f2)))) := ⟨by repeat (first | (with_reducible first | exact HB.out | apply below_alloc | apply pw_below_drewN | apply below_drew1 | refine below_set ?_ GE109.out | refine below_set ?_ GE112.out) | exact HB.out)⟩
     (try clear BK109)
     (try clear BK112)
     (try clear HB)
     generalize (((w100.setCell ⟨gb112, 0, none⟩ (.int .i64 ((rd_T41 l1 x19_2).f0))).setCell ⟨gb112, 1, none⟩ (.bool true)).setCell ⟨gb112, 2, none⟩ (.int .i64 ((rd_T41 l1 x19_2).f2))) = w103 at n0_ n1_ n2_ ⊢
     have BK109 := n0_
     have BK112 := n1_
     have HB := n2_
     clear n0_ n1_ n2_
     have n0_ := Aside0.mk (blk_drew BK109.out)
     have n1_ := Aside0.mk (blk_drew BK112.out)
     have n2_ := Aside0.mk (below_drew1 HB.out)
     clear BK109
     clear BK112
     clear HB
     have BK109 := n0_
     have BK112 := n1_
     have HB := n2_
     clear n0_ n1_ n2_
     have q105 : (x19_2 : Int) ≤ ((l1.length : Int) : Int) := of_decide_eq_true (by first | (with_reducible assumption) | assumption)
     obtain ⟨i0105, hi0105, _, hsz105, _⟩ := info_parts info41
     have hroom105 : l1.length ≤ c1 := HC1.out
     have hC105 : Kd.C k41 _ (some ad111) l1.length l1 := HR1.out
     have hcut105 := cut_to (P := Try.prog) 33 41 .i64 Try.underlying33 hi0105 (some ad111) l1.length c1 x19_2 (of_decide_eq_true (by first | (with_reducible assumption) | assumption)) q105 hroom105
     have hr105 := Kd.C_take (m := (x19_2 : Int).toNat) hC105 (by omega)
     have hy105 : y113.length = (x19_2 : Int).toNat := (by rw [Ny113.out, List.length_take]; omega)
     rw [← Ny113.out] at hr105
     rw [← hy105] at hcut105
     have HR116 := Aside0.mk hr105
     have HC116 := Aside0.mk (show y113.length ≤ c1 from by omega)
     clear hr105 hC105 hroom105 hi0105 hsz105
     have KY105 := Aside0.mk hy105
     clear hy105
     replace q105 := eq_true q105
     refine start_ (n := 12) (S := fun w' => w'.cell? ⟨gb112, 0, none⟩ = some (.int .i64 ((rd_T41 l1 x19_2).f0)) ∧ w'.cell? ⟨gb112, 1, none⟩ = some (.bool true) ∧ w'.cell? ⟨gb112, 2, none⟩ = some (.int .i64 ((rd_T41 l1 x19_2).f2))) (ds := []) #[Z, Z, Z, Z, Z, Z, Z, Z, Z, Z, Z, Z] (by kernel_rfl) rfl rfl ⟨(blk_cell BK112.out 0).trans rfl, (blk_cell BK112.out 1).trans rfl, (blk_cell BK112.out 2).trans rfl⟩ (fun hHeld => ?_); refine with_tabW plan_May.tab6 plan_May.bits6 (fun HT_ HW_ => ?_)
     generalize w103.drew = w104 at BK109 BK112 HB HR116 hHeld ⊢
     refine pure_ (i := 0) (N := some 25) (v := ?_) (a' := ?_) #[Y, Z, Z, Z, Z, Z, Z, Z, Z, Z, Z, Z] rfl rfl (any_of HT_.out (by kernel_rfl)) (fun _ _ _ h => h) (Or.inl ⟨by rfl, ?_⟩) ?_ ?_
     rotate_left
     · intro w'
       go_simp
       with_reducible rfl
     rotate_left
     · simp only [Act.put, sb_, sz_, ss_, i64_w, i32_w]
       rfl
     refine pure_ (i := 1) (N := some 26) (v := ?_) (a' := ?_) #[Y, Y, Z, Z, Z, Z, Z, Z, Z, Z, Z, Z] rfl rfl (any_of HT_.out (by kernel_rfl)) (fun _ _ _ h => h) (Or.inl ⟨by rfl, ?_⟩) ?_ ?_
     rotate_left
     · intro w'
       go_simp
       with_reducible rfl
     rotate_left
     · simp only [Act.put, sb_, sz_, ss_, i64_w, i32_w]
       rfl
     refine pure_ (i := 2) (N := some 27) (v := ?_) (a' := ?_) #[Y, Y, Y, Z, Z, Z, Z, Z, Z, Z, Z, Z] rfl rfl (any_of HT_.out (by kernel_rfl)) (fun _ _ _ h => h) (Or.inl ⟨by rfl, ?_⟩) ?_ ?_
     rotate_left
     · intro w'
       go_simp
       with_reducible rfl
     rotate_left
     · simp only [Act.put, sb_, sz_, ss_, i64_w, i32_w]
       rfl
     refine pure_ (i := 3) (N := some 28) (v := ?_) (a' := ?_) #[Y, Y, Y, Y, Z, Z, Z, Z, Z, Z, Z, Z] rfl rfl (any_of HT_.out (by kernel_rfl)) (fun _ _ _ h => h) (Or.inl ⟨by rfl, ?_⟩) ?_ ?_
     rotate_left
     · intro w'
       go_simp
       with_reducible rfl
     rotate_left
     · simp only [Act.put, sb_, sz_, ss_, i64_w, i32_w]
       rfl
     refine take_ (i := 4) (N := some 29) (v := ?_) (a' := ?_) #[Y, Y, Y, Y, Y, Z, Z, Z, Z, Z, Z, Z] rfl rfl (take_ofW HT_.out HW_.out (by kernel_rfl)) (fun _ _ _ h => h) (Or.inl ⟨by rfl, ?_⟩) hHeld ?_ ?_
     rotate_left
     · rintro w' ⟨s0, s1, s2⟩
       go_simp
       with_reducible rfl
     rotate_left
     · simp only [Act.put, sb_, sz_, ss_, i64_w, i32_w]
       rfl
     refine join_ (σ := Nat) 2 #[Y, Y, Y, Y, Y, Y, Y, Y, Y, Y, Z, Z] (fun s_ => [(30, .tuple #[.agg #[.int .i64 t117, .bool t118, .int .i64 t119], .bool false]), (7, .pointer (some ⟨s_, 0, none⟩)), (24, .tuple #[.agg #[.int .i64 t117, .bool t118, .int .i64 t119], .bool false]), (31, .agg #[.int .i64 t117, .bool t118, .int .i64 t119]), (32, .bool false)]) (fun s_ w' => (w'.cell? ⟨gb112, 0, none⟩ = some (.int .i64 ((rd_T41 l1 x19_2).f0)) ∧ w'.cell? ⟨gb112, 1, none⟩ = some (.bool true) ∧ w'.cell? ⟨gb112, 2, none⟩ = some (.int .i64 ((rd_T41 l1 x19_2).f2))) ∧ (w'.heap[gb109]? = some (.cells #[.int .i64 a0_0, .int .i64 a0_1, .int .i64 a0_2, .int .i64 a0_3, .int .i64 a0_4] 23 (0, 0))) ∧ (w'.heap[gb112]? = some (.cells #[.int .i64 ((rd_T41 l1 x19_2).f0), .bool true, .int .i64 ((rd_T41 l1 x19_2).f2)] 41 (0, 0))) ∧ (w'.heap[s_]? = some (.cells #[.int .i64 0, .bool false, .int .i64 0] 41 (0, 0))) ∧ (w.heap.size ≤ s_) ∧ (w.heap.size ≤ s_) ∧ (gb109 ≠ s_) ∧ (s_ ≠ gb109) ∧ (gb112 ≠ s_) ∧ (s_ ≠ gb112) ∧ (Below w.heap.size w w')) ?_ ?_
     rotate_left
     · intro hCont
       refine two_ (i := 5) (j := 9) (Ni := some 30) (Nj := some 7) #[Y, Y, Y, Y, Y, Y, Z, Z, Z, Z, Z, Z] #[Y, Y, Y, Y, Y, Z, Z, Z, Z, Y, Z, Z] rfl rfl rfl rfl (two_of HT_.out (by kernel_rfl)) (by decide) (by decide) (fun K hK => ?_) (fun K hK => ?_)
       · skip
         refine goes_ Try.func51 (by kernel_rfl) rfl #[.slice (some ad111) y113.length c1, .int .i64 ((rd_T41 l1 x19_2).f0)] (by rfl) rfl rfl (by (try simp only [List.map_toArray, List.map_cons, List.map_nil]); first | done | rfl | (simp only [List.length_drop, List.length_take]; rfl)) ?_
         with_reducible refine (plan_find.calls k2 _ _ y113 ((rd_T41 l1 x19_2).f0) t117 t118 t119 false _ ?side1 ?side2 A17.out).mono ?_
         (case side1 => repeat (first | exact (Kd.C_below HR116.out HB.out) | (with_reducible refine Kd.C_alloc ?_ _) | (with_reducible refine Kd.C_drewN ?_ _) | (with_reducible refine Kd.C_drew ?_)))
         (case side2 => exact HC116.out)
         rintro e w106 ⟨rfl, hb⟩
         refine ⟨_, rfl, ?_⟩
         have n0_ := Aside0.mk (blk_below (g := gb109) (o := .cells #[.int .i64 a0_0, .int .i64 a0_1, .int .i64 a0_2, .int .i64 a0_3, .int .i64 a0_4] 23 (0, 0)) (by (with_reducible repeat (first | refine blk_drewN ?_ _ | refine blk_drew ?_ | refine blk_alloc ?_ _)); exact BK109.out) hb)
         have n1_ := Aside0.mk (blk_below (g := gb112) (o := .cells #[.int .i64 ((rd_T41 l1 x19_2).f0), .bool true, .int .i64 ((rd_T41 l1 x19_2).f2)] 41 (0, 0)) (by (with_reducible repeat (first | refine blk_drewN ?_ _ | refine blk_drew ?_ | refine blk_alloc ?_ _)); exact BK112.out) hb)
         have n2_ := Aside0.mk (below_step (by repeat (first | (with_reducible first | exact HB.out | apply below_alloc | apply pw_below_drewN | apply below_drew1 | refine below_set ?_ GE109.out | refine below_set ?_ GE112.out) | exact HB.out)) hb)
         clear BK109
         clear BK112
         clear HB
         have BK109 := n0_
         have BK112 := n1_
         have HB := n2_
         clear n0_ n1_ n2_
         (try clear hb)
         (try clear hb2)
         (try clear hk)
         (try clear hi)
         refine hK.out _ _ ⟨(blk_cell BK112.out 0).trans rfl, (blk_cell BK112.out 1).trans rfl, (blk_cell BK112.out 2).trans rfl⟩ (fun hHeld => ?_)
         clear hK K
         refine norm_ (a' := ?_) ?_ ?_
         rotate_left
         · show Act.put _ (some 30) _ = _
           simp only [Act.put, sb_, sz_, ss_, i64_w, i32_w]
           rfl
         refine pure_ (i := 6) (N := some 24) (v := ?_) (a' := ?_) #[Y, Y, Y, Y, Y, Y, Y, Z, Z, Z, Z, Z] rfl rfl (any_of HT_.out (by kernel_rfl)) (fun _ _ _ h => h) (Or.inl ⟨by rfl, ?_⟩) ?_ ?_
         rotate_left
         · intro w'
           go_simp
           with_reducible rfl
         rotate_left
         · simp only [Act.put, sb_, sz_, ss_, i64_w, i32_w]
           rfl
         refine pure_ (i := 7) (N := some 31) (v := ?_) (a' := ?_) #[Y, Y, Y, Y, Y, Y, Y, Y, Z, Z, Z, Z] rfl rfl (any_of HT_.out (by kernel_rfl)) (fun _ _ _ h => h) (Or.inl ⟨by rfl, ?_⟩) ?_ ?_
         rotate_left
         · intro w'
           go_simp
           with_reducible rfl
         rotate_left
         · simp only [Act.put, sb_, sz_, ss_, i64_w, i32_w]
           rfl
         refine pure_ (i := 8) (N := some 32) (v := ?_) (a' := ?_) #[Y, Y, Y, Y, Y, Y, Y, Y, Y, Z, Z, Z] rfl rfl (any_of HT_.out (by kernel_rfl)) (fun _ _ _ h => h) (Or.inl ⟨by rfl, ?_⟩) ?_ ?_
         rotate_left
         · intro w'
           go_simp
           with_reducible rfl
         rotate_left
         · simp only [Act.put, sb_, sz_, ss_, i64_w, i32_w]
           rfl
         refine one_ (i := 9) (N := some 7) #[Y, Y, Y, Y, Y, Y, Y, Y, Y, Y, Z, Z] rfl rfl (one_of HT_.out (by kernel_rfl)) (by decide) (fun K hK => ?_)
         refine box_step ?hg (N := 7) ?hd (cs := #[.int .i64 0, .bool false, .int .i64 0]) (t := 41) ?hr ?_; (case hd => rfl); (case hg => rfl); (case hr => first | (go_simp; done) | (go_simp; rfl))
         intro gb121 hg w107 hbox hb
         have n0_ := Aside0.mk (blk_below (g := gb109) (o := .cells #[.int .i64 a0_0, .int .i64 a0_1, .int .i64 a0_2, .int .i64 a0_3, .int .i64 a0_4] 23 (0, 0)) (by (with_reducible repeat (first | refine blk_drewN ?_ _ | refine blk_drew ?_ | refine blk_alloc ?_ _)); exact BK109.out) hb)
         have n1_ := Aside0.mk (blk_below (g := gb112) (o := .cells #[.int .i64 ((rd_T41 l1 x19_2).f0), .bool true, .int .i64 ((rd_T41 l1 x19_2).f2)] 41 (0, 0)) (by (with_reducible repeat (first | refine blk_drewN ?_ _ | refine blk_drew ?_ | refine blk_alloc ?_ _)); exact BK112.out) hb)
         have n2_ := Aside0.mk (below_step (by repeat (first | (with_reducible first | exact HB.out | apply below_alloc | apply pw_below_drewN | apply below_drew1 | refine below_set ?_ GE109.out | refine below_set ?_ GE112.out) | exact HB.out)) hb)
         have n3_ := Aside0.mk (hbox)
         have n4_ := Aside0.mk ((by rw [hg]; exact (below_size (by repeat (first | (with_reducible first | exact HB.out | apply below_alloc | apply pw_below_drewN | apply below_drew1 | refine below_set ?_ GE109.out | refine below_set ?_ GE112.out) | exact HB.out))) : w.heap.size ≤ gb121))
         have n5_ := Aside0.mk ((by rw [hg]; exact (below_size (by repeat (first | (with_reducible first | exact HB.out | apply below_alloc | apply pw_below_drewN | apply below_drew1 | refine below_set ?_ GE109.out | refine below_set ?_ GE112.out) | exact HB.out))) : w.heap.size ≤ gb121))
         have n6_ := Aside0.mk ((by rw [hg]; exact Nat.ne_of_lt (blk_lt (g := gb109) (o := .cells #[.int .i64 a0_0, .int .i64 a0_1, .int .i64 a0_2, .int .i64 a0_3, .int .i64 a0_4] 23 (0, 0)) (by (with_reducible repeat (first | refine blk_drewN ?_ _ | refine blk_drew ?_ | refine blk_alloc ?_ _)); exact BK109.out)) : gb109 ≠ gb121))
         have n7_ := Aside0.mk ((by rw [hg]; exact Nat.ne_of_gt (blk_lt (g := gb109) (o := .cells #[.int .i64 a0_0, .int .i64 a0_1, .int .i64 a0_2, .int .i64 a0_3, .int .i64 a0_4] 23 (0, 0)) (by (with_reducible repeat (first | refine blk_drewN ?_ _ | refine blk_drew ?_ | refine blk_alloc ?_ _)); exact BK109.out)) : gb121 ≠ gb109))
         have n8_ := Aside0.mk ((by rw [hg]; exact Nat.ne_of_lt (blk_lt (g := gb112) (o := .cells #[.int .i64 ((rd_T41 l1 x19_2).f0), .bool true, .int .i64 ((rd_T41 l1 x19_2).f2)] 41 (0, 0)) (by (with_reducible repeat (first | refine blk_drewN ?_ _ | refine blk_drew ?_ | refine blk_alloc ?_ _)); exact BK112.out)) : gb112 ≠ gb121))
         have n9_ := Aside0.mk ((by rw [hg]; exact Nat.ne_of_gt (blk_lt (g := gb112) (o := .cells #[.int .i64 ((rd_T41 l1 x19_2).f0), .bool true, .int .i64 ((rd_T41 l1 x19_2).f2)] 41 (0, 0)) (by (with_reducible repeat (first | refine blk_drewN ?_ _ | refine blk_drew ?_ | refine blk_alloc ?_ _)); exact BK112.out)) : gb121 ≠ gb112))
         clear BK109
         clear BK112
         clear HB
         have BK109 := n0_
         have BK112 := n1_
         have HB := n2_
         have BK121 := n3_
         have GW121 := n4_
         have GE121 := n5_
         have NB109_121 := n6_
         have NB121_109 := n7_
         have NB112_121 := n8_
         have NB121_112 := n9_
         clear n0_ n1_ n2_ n3_ n4_ n5_ n6_ n7_ n8_ n9_
         clear hb hbox hg
         refine hK.out _ _ ⟨(blk_cell BK112.out 0).trans rfl, (blk_cell BK112.out 1).trans rfl, (blk_cell BK112.out 2).trans rfl⟩ (fun hHeld => ?_)
         clear hK K
         refine norm_ (a' := ?_) ?_ ?_
         rotate_left
         · show Act.put _ (some 7) _ = _
           simp only [Act.put, sb_, sz_, ss_, i64_w, i32_w]
           rfl
         exact norm_ (by simp only [putAll, Act.put, sb_, sz_, ss_]) (hCont (gb121) _ ⟨hHeld, (by (with_reducible repeat (first | refine blk_drewN ?_ _ | refine blk_drew ?_ | refine blk_alloc ?_ _)); exact BK109.out), (by (with_reducible repeat (first | refine blk_drewN ?_ _ | refine blk_drew ?_ | refine blk_alloc ?_ _)); exact BK112.out), (by (with_reducible repeat (first | refine blk_drewN ?_ _ | refine blk_drew ?_ | refine blk_alloc ?_ _)); exact BK121.out), GW121.out, GE121.out, NB109_121.out, NB121_109.out, NB112_121.out, NB121_112.out, (by repeat (first | (with_reducible first | exact HB.out | apply below_alloc | apply pw_below_drewN | apply below_drew1 | refine below_set ?_ GE109.out | refine below_set ?_ GE112.out | refine below_set ?_ GE121.out) | exact HB.out))⟩)
       · skip
         refine box_step ?hg (N := 7) ?hd (cs := #[.int .i64 0, .bool false, .int .i64 0]) (t := 41) ?hr ?_; (case hd => rfl); (case hg => rfl); (case hr => first | (go_simp; done) | (go_simp; rfl))
         intro gb121 hg w106 hbox hb
         have n0_ := Aside0.mk (blk_below (g := gb109) (o := .cells #[.int .i64 a0_0, .int .i64 a0_1, .int .i64 a0_2, .int .i64 a0_3, .int .i64 a0_4] 23 (0, 0)) (by (with_reducible repeat (first | refine blk_drewN ?_ _ | refine blk_drew ?_ | refine blk_alloc ?_ _)); exact BK109.out) hb)
         have n1_ := Aside0.mk (blk_below (g := gb112) (o := .cells #[.int .i64 ((rd_T41 l1 x19_2).f0), .bool true, .int .i64 ((rd_T41 l1 x19_2).f2)] 41 (0, 0)) (by (with_reducible repeat (first | refine blk_drewN ?_ _ | refine blk_drew ?_ | refine blk_alloc ?_ _)); exact BK112.out) hb)
         have n2_ := Aside0.mk (below_step (by repeat (first | (with_reducible first | exact HB.out | apply below_alloc | apply pw_below_drewN | apply below_drew1 | refine below_set ?_ GE109.out | refine below_set ?_ GE112.out) | exact HB.out)) hb)
         have n3_ := Aside0.mk (hbox)
         have n4_ := Aside0.mk ((by rw [hg]; exact (below_size (by repeat (first | (with_reducible first | exact HB.out | apply below_alloc | apply pw_below_drewN | apply below_drew1 | refine below_set ?_ GE109.out | refine below_set ?_ GE112.out) | exact HB.out))) : w.heap.size ≤ gb121))
         have n5_ := Aside0.mk ((by rw [hg]; exact (below_size (by repeat (first | (with_reducible first | exact HB.out | apply below_alloc | apply pw_below_drewN | apply below_drew1 | refine below_set ?_ GE109.out | refine below_set ?_ GE112.out) | exact HB.out))) : w.heap.size ≤ gb121))
         have n6_ := Aside0.mk ((by rw [hg]; exact Nat.ne_of_lt (blk_lt (g := gb109) (o := .cells #[.int .i64 a0_0, .int .i64 a0_1, .int .i64 a0_2, .int .i64 a0_3, .int .i64 a0_4] 23 (0, 0)) (by (with_reducible repeat (first | refine blk_drewN ?_ _ | refine blk_drew ?_ | refine blk_alloc ?_ _)); exact BK109.out)) : gb109 ≠ gb121))
         have n7_ := Aside0.mk ((by rw [hg]; exact Nat.ne_of_gt (blk_lt (g := gb109) (o := .cells #[.int .i64 a0_0, .int .i64 a0_1, .int .i64 a0_2, .int .i64 a0_3, .int .i64 a0_4] 23 (0, 0)) (by (with_reducible repeat (first | refine blk_drewN ?_ _ | refine blk_drew ?_ | refine blk_alloc ?_ _)); exact BK109.out)) : gb121 ≠ gb109))
         have n8_ := Aside0.mk ((by rw [hg]; exact Nat.ne_of_lt (blk_lt (g := gb112) (o := .cells #[.int .i64 ((rd_T41 l1 x19_2).f0), .bool true, .int .i64 ((rd_T41 l1 x19_2).f2)] 41 (0, 0)) (by (with_reducible repeat (first | refine blk_drewN ?_ _ | refine blk_drew ?_ | refine blk_alloc ?_ _)); exact BK112.out)) : gb112 ≠ gb121))
         have n9_ := Aside0.mk ((by rw [hg]; exact Nat.ne_of_gt (blk_lt (g := gb112) (o := .cells #[.int .i64 ((rd_T41 l1 x19_2).f0), .bool true, .int .i64 ((rd_T41 l1 x19_2).f2)] 41 (0, 0)) (by (with_reducible repeat (first | refine blk_drewN ?_ _ | refine blk_drew ?_ | refine blk_alloc ?_ _)); exact BK112.out)) : gb121 ≠ gb112))
         clear BK109
         clear BK112
         clear HB
         have BK109 := n0_
         have BK112 := n1_
         have HB := n2_
         have BK121 := n3_
         have GW121 := n4_
         have GE121 := n5_
         have NB109_121 := n6_
         have NB121_109 := n7_
         have NB112_121 := n8_
         have NB121_112 := n9_
         clear n0_ n1_ n2_ n3_ n4_ n5_ n6_ n7_ n8_ n9_
         clear hb hbox hg
         refine hK.out _ _ ⟨(blk_cell BK112.out 0).trans rfl, (blk_cell BK112.out 1).trans rfl, (blk_cell BK112.out 2).trans rfl⟩ (fun hHeld => ?_)
         clear hK K
         refine norm_ (a' := ?_) ?_ ?_
         rotate_left
         · show Act.put _ (some 7) _ = _
           simp only [Act.put, sb_, sz_, ss_, i64_w, i32_w]
           rfl
         refine one_ (i := 5) (N := some 30) #[Y, Y, Y, Y, Y, Y, Z, Z, Z, Y, Z, Z] rfl rfl (one_of HT_.out (by kernel_rfl)) (by decide) (fun K hK => ?_)
         refine goes_ Try.func51 (by kernel_rfl) rfl #[.slice (some ad111) y113.length c1, .int .i64 ((rd_T41 l1 x19_2).f0)] (by rfl) rfl rfl (by (try simp only [List.map_toArray, List.map_cons, List.map_nil]); first | done | rfl | (simp only [List.length_drop, List.length_take]; rfl)) ?_
         with_reducible refine (plan_find.calls k2 _ _ y113 ((rd_T41 l1 x19_2).f0) t117 t118 t119 false _ ?side1 ?side2 A17.out).mono ?_
         (case side1 => repeat (first | exact (Kd.C_below HR116.out HB.out) | (with_reducible refine Kd.C_alloc ?_ _) | (with_reducible refine Kd.C_drewN ?_ _) | (with_reducible refine Kd.C_drew ?_)))
         (case side2 => exact HC116.out)
         rintro e w107 ⟨rfl, hb⟩
         refine ⟨_, rfl, ?_⟩
         have n0_ := Aside0.mk (blk_below (g := gb109) (o := .cells #[.int .i64 a0_0, .int .i64 a0_1, .int .i64 a0_2, .int .i64 a0_3, .int .i64 a0_4] 23 (0, 0)) (by (with_reducible repeat (first | refine blk_drewN ?_ _ | refine blk_drew ?_ | refine blk_alloc ?_ _)); exact BK109.out) hb)
         have n1_ := Aside0.mk (blk_below (g := gb112) (o := .cells #[.int .i64 ((rd_T41 l1 x19_2).f0), .bool true, .int .i64 ((rd_T41 l1 x19_2).f2)] 41 (0, 0)) (by (with_reducible repeat (first | refine blk_drewN ?_ _ | refine blk_drew ?_ | refine blk_alloc ?_ _)); exact BK112.out) hb)
         have n2_ := Aside0.mk (blk_below (g := gb121) (o := .cells #[.int .i64 0, .bool false, .int .i64 0] 41 (0, 0)) (by (with_reducible repeat (first | refine blk_drewN ?_ _ | refine blk_drew ?_ | refine blk_alloc ?_ _)); exact BK121.out) hb)
         have n3_ := Aside0.mk (below_step (by repeat (first | (with_reducible first | exact HB.out | apply below_alloc | apply pw_below_drewN | apply below_drew1 | refine below_set ?_ GE109.out | refine below_set ?_ GE112.out | refine below_set ?_ GE121.out) | exact HB.out)) hb)
         clear BK109
         clear BK112
         clear BK121
         clear HB
         have BK109 := n0_
         have BK112 := n1_
         have BK121 := n2_
         have HB := n3_
         clear n0_ n1_ n2_ n3_
         (try clear hb)
         (try clear hb2)
         (try clear hk)
         (try clear hi)
         refine hK.out _ _ ⟨(blk_cell BK112.out 0).trans rfl, (blk_cell BK112.out 1).trans rfl, (blk_cell BK112.out 2).trans rfl⟩ (fun hHeld => ?_)
         clear hK K
         refine norm_ (a' := ?_) ?_ ?_
         rotate_left
         · show Act.put _ (some 30) _ = _
           simp only [Act.put, sb_, sz_, ss_, i64_w, i32_w]
           rfl
         refine pure_ (i := 6) (N := some 24) (v := ?_) (a' := ?_) #[Y, Y, Y, Y, Y, Y, Y, Z, Z, Y, Z, Z] rfl rfl (any_of HT_.out (by kernel_rfl)) (fun _ _ _ h => h) (Or.inl ⟨by rfl, ?_⟩) ?_ ?_
         rotate_left
         · intro w'
           go_simp
           with_reducible rfl
         rotate_left
         · simp only [Act.put, sb_, sz_, ss_, i64_w, i32_w]
           rfl
         refine pure_ (i := 7) (N := some 31) (v := ?_) (a' := ?_) #[Y, Y, Y, Y, Y, Y, Y, Y, Z, Y, Z, Z] rfl rfl (any_of HT_.out (by kernel_rfl)) (fun _ _ _ h => h) (Or.inl ⟨by rfl, ?_⟩) ?_ ?_
         rotate_left
         · intro w'
           go_simp
           with_reducible rfl
         rotate_left
         · simp only [Act.put, sb_, sz_, ss_, i64_w, i32_w]
           rfl
         refine pure_ (i := 8) (N := some 32) (v := ?_) (a' := ?_) #[Y, Y, Y, Y, Y, Y, Y, Y, Y, Y, Z, Z] rfl rfl (any_of HT_.out (by kernel_rfl)) (fun _ _ _ h => h) (Or.inl ⟨by rfl, ?_⟩) ?_ ?_
         rotate_left
         · intro w'
           go_simp
           with_reducible rfl
         rotate_left
         · simp only [Act.put, sb_, sz_, ss_, i64_w, i32_w]
           rfl
         exact norm_ (by simp only [putAll, Act.put, sb_, sz_, ss_]) (hCont (gb121) _ ⟨hHeld, (by (with_reducible repeat (first | refine blk_drewN ?_ _ | refine blk_drew ?_ | refine blk_alloc ?_ _)); exact BK109.out), (by (with_reducible repeat (first | refine blk_drewN ?_ _ | refine blk_drew ?_ | refine blk_alloc ?_ _)); exact BK112.out), (by (with_reducible repeat (first | refine blk_drewN ?_ _ | refine blk_drew ?_ | refine blk_alloc ?_ _)); exact BK121.out), GW121.out, GE121.out, NB109_121.out, NB121_109.out, NB112_121.out, NB121_112.out, (by repeat (first | (with_reducible first | exact HB.out | apply below_alloc | apply pw_below_drewN | apply below_drew1 | refine below_set ?_ GE109.out | refine below_set ?_ GE112.out | refine below_set ?_ GE121.out) | exact HB.out))⟩)
     rintro gb121 w108 ⟨hS_, h0_, h1_, h2_, h3_, h4_, h5_, h6_, h7_, h8_, h9_⟩
     have n0_ : Aside0 (w108.heap[gb109]? = some (.cells #[.int .i64 a0_0, .int .i64 a0_1, .int .i64 a0_2, .int .i64 a0_3, .int .i64 a0_4] 23 (0, 0))) := ⟨h0_⟩
     have n1_ : Aside0 (w108.heap[gb112]? = some (.cells #[.int .i64 ((rd_T41 l1 x19_2).f0), .bool true, .int .i64 ((rd_T41 l1 x19_2).f2)] 41 (0, 0))) := ⟨h1_⟩
     have n2_ : Aside0 (w108.heap[gb121]? = some (.cells #[.int .i64 0, .bool false, .int .i64 0] 41 (0, 0))) := ⟨h2_⟩
     have n3_ : Aside0 (w.heap.size ≤ gb121) := ⟨h3_⟩
     have n4_ : Aside0 (w.heap.size ≤ gb121) := ⟨h4_⟩
     have n5_ : Aside0 (gb109 ≠ gb121) := ⟨h5_⟩
     have n6_ : Aside0 (gb121 ≠ gb109) := ⟨h6_⟩
     have n7_ : Aside0 (gb112 ≠ gb121) := ⟨h7_⟩
     have n8_ : Aside0 (gb121 ≠ gb112) := ⟨h8_⟩
     have n9_ : Aside0 (Below w.heap.size w w108) := ⟨h9_⟩
     clear BK109
     clear BK112
     clear HB
     clear h0_ h1_ h2_ h3_ h4_ h5_ h6_ h7_ h8_ h9_
     have BK109 := n0_
     have BK112 := n1_
     have BK121 := n2_
     have GW121 := n3_
     have GE121 := n4_
     have NB109_121 := n5_
     have NB121_109 := n6_
     have NB112_121 := n7_
     have NB121_112 := n8_
     have HB := n9_
     clear n0_ n1_ n2_ n3_ n4_ n5_ n6_ n7_ n8_ n9_
     have hHeld : w108.cell? ⟨gb112, 0, none⟩ = some (.int .i64 ((rd_T41 l1 x19_2).f0)) ∧ w108.cell? ⟨gb112, 1, none⟩ = some (.bool true) ∧ w108.cell? ⟨gb112, 2, none⟩ = some (.int .i64 ((rd_T41 l1 x19_2).f2)) := hS_
     refine norm_ (a' := ?_) ?_ ?_
     rotate_left
     · simp only [putAll, Act.put, sb_, sz_, ss_]
       rfl
     refine one_ (i := 10) (N := none) #[Y, Y, Y, Y, Y, Y, Y, Y, Y, Y, Y, Z] rfl rfl (one_of HT_.out (by kernel_rfl)) (by decide) (fun K hK => ?_)
     have hs109 : w108.cell? ⟨gb121, 0, none⟩ = some (.int .i64 0) := (blk_cell BK121.out 0).trans rfl
     have hfs109 := blk_frozen BK121.out 0
     have hns109_0 := NB109_121.out
     have hns109_1 := NB112_121.out
     have hms109_0 := NB121_109.out
     have hms109_1 := NB121_112.out
     have hs110 : w108.cell? ⟨gb121, 1, none⟩ = some (.bool false) := (blk_cell BK121.out 1).trans rfl
     have hfs110 := blk_frozen BK121.out 1
     have hns110_0 := NB109_121.out
     have hns110_1 := NB112_121.out
     have hms110_0 := NB121_109.out
     have hms110_1 := NB121_112.out
     have hs111 : w108.cell? ⟨gb121, 2, none⟩ = some (.int .i64 0) := (blk_cell BK121.out 2).trans rfl
     have hfs111 := blk_frozen BK121.out 2
     have hns111_0 := NB109_121.out
     have hns111_1 := NB112_121.out
     have hms111_0 := NB121_109.out
     have hms111_1 := NB121_112.out
     refine skip_ (w1 := ?_) (by rfl) rfl ?_ ?_
     rotate_left
     · go_simp
       rfl
     refine hK.out _ _ ⟨((cell_far (p := ⟨gb121, _, none⟩) NB112_121.out _).trans (((cell_far (p := ⟨gb121, _, none⟩) NB112_121.out _).trans (((cell_far (p := ⟨gb121, _, none⟩) NB112_121.out _).trans (hHeld.1)))))), ((cell_far (p := ⟨gb121, _, none⟩) NB112_121.out _).trans (((cell_far (p := ⟨gb121, _, none⟩) NB112_121.out _).trans (((cell_far (p := ⟨gb121, _, none⟩) NB112_121.out _).trans (hHeld.2.1)))))), ((cell_far (p := ⟨gb121, _, none⟩) NB112_121.out _).trans (((cell_far (p := ⟨gb121, _, none⟩) NB112_121.out _).trans (((cell_far (p := ⟨gb121, _, none⟩) NB112_121.out _).trans (hHeld.2.2))))))⟩ (fun hHeld => ?_)
     clear hK K
     refine pure_ (i := 11) (N := some 8) (v := ?_) (a' := ?_) #[Y, Y, Y, Y, Y, Y, Y, Y, Y, Y, Y, Y] rfl rfl (any_of HT_.out (by kernel_rfl)) (fun _ _ _ h => h) (Or.inl ⟨by rfl, ?_⟩) ?_ ?_
     rotate_left
     · intro w'
       go_simp
       with_reducible rfl
     rotate_left
     · simp only [Act.put, sb_, sz_, ss_, i64_w, i32_w]
       rfl
     refine done_ (done_of HT_.out (by kernel_rfl)) ?_
     have hnb112 := NB112_121.out
     have hnc112 := NB121_112.out
     have hcz113_0 : w108.cell? ⟨gb112, 0, none⟩ = some (.int .i64 ((rd_T41 l1 x19_2).f0)) := (blk_cell BK112.out 0).trans rfl
     have hcz113_1 : w108.cell? ⟨gb112, 1, none⟩ = some (.bool true) := (blk_cell BK112.out 1).trans rfl
     have hcz113_2 : w108.cell? ⟨gb112, 2, none⟩ = some (.int .i64 ((rd_T41 l1 x19_2).f2)) := (blk_cell BK112.out 2).trans rfl
     have hfz113_0 := blk_frozen BK112.out 0
     have hfz113_1 := blk_frozen BK112.out 1
     have hfz113_2 := blk_frozen BK112.out 2
     have hnb114 := NB109_121.out
     have hnc114 := NB121_109.out
     have hcz115_0 : w108.cell? ⟨gb109, 0, none⟩ = some (.int .i64 a0_0) := (blk_cell BK109.out 0).trans rfl
     have hcz115_1 : w108.cell? ⟨gb109, 1, none⟩ = some (.int .i64 a0_1) := (blk_cell BK109.out 1).trans rfl
     have hcz115_2 : w108.cell? ⟨gb109, 2, none⟩ = some (.int .i64 a0_2) := (blk_cell BK109.out 2).trans rfl
     have hcz115_3 : w108.cell? ⟨gb109, 3, none⟩ = some (.int .i64 a0_3) := (blk_cell BK109.out 3).trans rfl
     have hcz115_4 : w108.cell? ⟨gb109, 4, none⟩ = some (.int .i64 a0_4) := (blk_cell BK109.out 4).trans rfl
     have hfz115_0 := blk_frozen BK109.out 0
     have hfz115_1 := blk_frozen BK109.out 1
     have hfz115_2 := blk_frozen BK109.out 2
     have hfz115_3 := blk_frozen BK109.out 3
     have hfz115_4 := blk_frozen BK109.out 4
     try go_wp2
     go_roundg k2
     case measure => have := HJ2.out; have := HK2.out; omega
     case rel => exact ⟨(wrap64 (x19_2 + 1)), (by first | rfl | (simp; done) | (simp [*]; done)), H', ⟨by have := HJ2.out; have := HK2.out; omega⟩, ⟨by (with_reducible repeat (first | refine blk_drewN ?_ _ | refine blk_drew ?_ | refine blk_alloc ?_ _)); refine blk_far ?_ NB109_121.out _; (with_reducible repeat (first | refine blk_drewN ?_ _ | refine blk_drew ?_ | refine blk_alloc ?_ _)); refine blk_far ?_ NB109_121.out _; (with_reducible repeat (first | refine blk_drewN ?_ _ | refine blk_drew ?_ | refine blk_alloc ?_ _)); refine blk_far ?_ NB109_121.out _; (with_reducible repeat (first | refine blk_drewN ?_ _ | refine blk_drew ?_ | refine blk_alloc ?_ _)); exact BK109.out⟩, ⟨by repeat (first | (with_reducible first | exact HB.out | apply below_alloc | apply pw_below_drewN | apply below_drew1 | refine below_set ?_ GE109.out | refine below_set ?_ GE112.out | refine below_set ?_ GE121.out) | exact HB.out)⟩⟩
end Go.Proofs.Ytmpbedjbimimoaa.PPlanTells
