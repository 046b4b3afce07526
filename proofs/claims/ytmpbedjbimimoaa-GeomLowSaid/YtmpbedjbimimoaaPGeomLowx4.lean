-- PRINTED BY print.sh 35421559b90ae4d0a3588c463048766b98c2df88dd9212a6774a882060cdf62d: not written by this session
import Derived.Test.YtmpbedjbimimoaaPGeomLowx0
import Derived.Test.YtmpbedjbimimoaaPGeomLowx2
import Derived.Test.YtmpbedjbimimoaaPGeomLowx3
namespace Go.Proofs.Ytmpbedjbimimoaa.PGeomLow
open Go.RowKit Go.Proofs.YtmpbedjbimimoaaW.PrintWords Go.Proofs.YtmpbedjbimimoaaW.PrintLast Go.Proofs.YtmpbedjbimimoaaW.PrintMore
attribute [local go_sem] max2_int min2_int max_two min_two max_three min_three max_four min_four   -- for this text's walks alone
set_option linter.unusedVariables false
set_option linter.unusedSimpArgs false

/-! ### jotterlaw0_Low: function 27 -/
def jotterlaw0_Low.f (a0 : Int) (a1 : Int) : Option (Int) := if (IntKind.u64.wrap (a1)) = 0 then (none) else (some (wrap64 (Int.tmod (IntKind.u64.wrap (a0)) (IntKind.u64.wrap (a1)))))
set_option maxHeartbeats 8000000 in
set_option maxRecDepth 100000 in
theorem jotterlaw0_Low.calls (a0 : Int) (a1 : Int) (r : Int) (w : World) (h : jotterlaw0_Low.f a0 a1 = some r) :
    Calls Try.prog 27 #[.int .i64 a0, .int .i64 a1] w fun e w' => e = .returned (.int .i64 r) ∧ Drawn0 w w' := by
  have H : (if (IntKind.u64.wrap (a1)) = 0 then (none) else (some (wrap64 (Int.tmod (IntKind.u64.wrap (a0)) (IntKind.u64.wrap (a1)))))) = some r := h
  clear h
  by_cases c3 : (IntKind.u64.wrap (a1)) = 0
  · rw [if_pos c3] at H
    exact absurd H (by simp)
  · rw [if_neg c3] at H
    have c3b0 : ((IntKind.u64.wrap (a1)) == 0) = false := beq_eq_false_iff_ne.mpr c3
    have c3b1 : ((IntKind.u64.wrap (a1)) != 0) = true := bne_iff_ne.mpr c3
    obtain rfl := Option.some.inj H
    go_enter Try.func27, Try.ntmps27
    go_wp2
    go_ret
    exact ⟨by first | rfl | (simp; done) | (simp [*]; done), by repeat (first | exact Drawn0.refl _ | apply Drawn0.step)⟩

/-! ### geom_Bound: function 28 -/
def geom_Bound.f (a0_0 : Int) (a0_1 : Int) (a0_2 : Int) (a0_3 : Int) (a0_4 : Int) : Option (Int) := (geom_May.f a0_0 a0_1 a0_2 a0_3 a0_4).bind fun t172 => (if t172 = true then (some (wrap64 ((wrap64 ((wrap64 (60 * a0_0)) * a0_0)) * a0_1))) else (some 0))
set_option maxHeartbeats 8000000 in
set_option maxRecDepth 100000 in
theorem geom_Bound.calls (a0_0 : Int) (a0_1 : Int) (a0_2 : Int) (a0_3 : Int) (a0_4 : Int) (r : Int) (w : World) (h : geom_Bound.f a0_0 a0_1 a0_2 a0_3 a0_4 = some r) :
    Calls Try.prog 28 #[.agg #[.int .i64 a0_0, .int .i64 a0_1, .int .i64 a0_2, .int .i64 a0_3, .int .i64 a0_4]] w fun e w' => e = .returned (.int .i64 r) ∧ Below w.heap.size w w' := by
  have hu23 := Try.underlying23
  have HB := Aside0.mk (Below.refl w.heap.size w)
  have H : ((geom_May.f a0_0 a0_1 a0_2 a0_3 a0_4).bind fun t172 => (if t172 = true then (some (wrap64 ((wrap64 ((wrap64 (60 * a0_0)) * a0_0)) * a0_1))) else (some 0))) = some r := h
  clear h
  replace H := Option.bind_eq_some_iff.mp H
  obtain ⟨t172, A20, H⟩ := H
  replace H : (if t172 = true then (some (wrap64 ((wrap64 ((wrap64 (60 * a0_0)) * a0_0)) * a0_1))) else (some 0)) = some r := H
  have A2 := Aside0.mk A20
  clear A20
  by_cases c3 : t172 = true
  · subst c3
    have H1 : (some (wrap64 ((wrap64 ((wrap64 (60 * a0_0)) * a0_0)) * a0_1))) = some r := by rw [if_pos rfl] at H; exact H
    clear H
    have H := H1
    clear H1
    obtain rfl := Option.some.inj H
    go_enter Try.func28, Try.ntmps28
    go_wp2_with (first | ((with_reducible refine gate_dst (N := 1) rfl ?_); refine box_event ?hg (N := 1) ?hd (cs := #[.int .i64 a0_0, .int .i64 a0_1, .int .i64 a0_2, .int .i64 a0_3, .int .i64 a0_4]) (t := 23) ?hr ?_; (case hd => rfl); (case hg => rfl); (case hr => first | (go_simp; done) | (go_simp; rfl)); intro gb171 hg w4 hbox hb; have n0_ := Aside0.mk (below_step (by repeat (first | (with_reducible first | exact HB.out | apply below_alloc | apply pw_below_drewN | apply below_drew1) | exact HB.out)) hb); have n1_ := Aside0.mk (hbox); have n2_ := Aside0.mk ((by rw [hg]; exact (below_size (by repeat (first | (with_reducible first | exact HB.out | apply below_alloc | apply pw_below_drewN | apply below_drew1) | exact HB.out))) : w.heap.size ≤ gb171)); have n3_ := Aside0.mk ((by rw [hg]; exact (below_size (by repeat (first | (with_reducible first | exact HB.out | apply below_alloc | apply pw_below_drewN | apply below_drew1) | exact HB.out))) : w.heap.size ≤ gb171)); clear HB; have HB := n0_; have BK171 := n1_; have GW171 := n2_; have GE171 := n3_; clear n0_ n1_ n2_ n3_; clear hb hbox hg; have hcz5_0 : w4.cell? ⟨gb171, 0, none⟩ = some (.int .i64 a0_0) := (blk_cell BK171.out 0).trans rfl; have hcz5_1 : w4.cell? ⟨gb171, 1, none⟩ = some (.int .i64 a0_1) := (blk_cell BK171.out 1).trans rfl; have hcz5_2 : w4.cell? ⟨gb171, 2, none⟩ = some (.int .i64 a0_2) := (blk_cell BK171.out 2).trans rfl; have hcz5_3 : w4.cell? ⟨gb171, 3, none⟩ = some (.int .i64 a0_3) := (blk_cell BK171.out 3).trans rfl; have hcz5_4 : w4.cell? ⟨gb171, 4, none⟩ = some (.int .i64 a0_4) := (blk_cell BK171.out 4).trans rfl; have hfz5_0 := blk_frozen BK171.out 0; have hfz5_1 := blk_frozen BK171.out 1; have hfz5_2 := blk_frozen BK171.out 2; have hfz5_3 := blk_frozen BK171.out 3; have hfz5_4 := blk_frozen BK171.out 4) | ((with_reducible refine gate_callee (f := 14) rfl ?_); refine goesL_ (some 4) rfl rfl Try.func14 (by kernel_rfl) rfl #[.agg #[.int .i64 a0_0, .int .i64 a0_1, .int .i64 a0_2, .int .i64 a0_3, .int .i64 a0_4]] rfl (by (try simp only [List.map_toArray, List.map_cons, List.map_nil]); first | done | rfl | (simp only [List.length_drop, List.length_take]; rfl)) ?_; (with_reducible refine (geom_May.calls a0_0 a0_1 a0_2 a0_3 a0_4 true _ A2.out).mono ?_); rintro e w6 ⟨rfl, hb⟩; refine ⟨_, rfl, ?_⟩; have n0_ := Aside0.mk (blk_below (g := gb171) (o := .cells #[.int .i64 a0_0, .int .i64 a0_1, .int .i64 a0_2, .int .i64 a0_3, .int .i64 a0_4] 23 (0, 0)) (by (with_reducible repeat (first | refine blk_drewN ?_ _ | refine blk_drew ?_ | refine blk_alloc ?_ _)); exact BK171.out) hb); have n1_ := Aside0.mk (below_step (by repeat (first | (with_reducible first | exact HB.out | apply below_alloc | apply pw_below_drewN | apply below_drew1 | refine below_set ?_ GE171.out) | exact HB.out)) hb); clear BK171; clear HB; have BK171 := n0_; have HB := n1_; clear n0_ n1_; (try clear hb); (try clear hb2); (try clear hk); (try clear hi); have hcz7_0 : w6.cell? ⟨gb171, 0, none⟩ = some (.int .i64 a0_0) := (blk_cell BK171.out 0).trans rfl; have hcz7_1 : w6.cell? ⟨gb171, 1, none⟩ = some (.int .i64 a0_1) := (blk_cell BK171.out 1).trans rfl; have hcz7_2 : w6.cell? ⟨gb171, 2, none⟩ = some (.int .i64 a0_2) := (blk_cell BK171.out 2).trans rfl; have hcz7_3 : w6.cell? ⟨gb171, 3, none⟩ = some (.int .i64 a0_3) := (blk_cell BK171.out 3).trans rfl; have hcz7_4 : w6.cell? ⟨gb171, 4, none⟩ = some (.int .i64 a0_4) := (blk_cell BK171.out 4).trans rfl; have hfz7_0 := blk_frozen BK171.out 0; have hfz7_1 := blk_frozen BK171.out 1; have hfz7_2 := blk_frozen BK171.out 2; have hfz7_3 := blk_frozen BK171.out 3; have hfz7_4 := blk_frozen BK171.out 4))
    go_ret
    exact ⟨by first | rfl | (simp [errW_none, errW_some] <;> rfl) | (simp [*, errW_none, errW_some] <;> rfl), by repeat (first | (with_reducible first | exact HB.out | apply below_alloc | apply pw_below_drewN | apply below_drew1 | refine below_set ?_ GE171.out) | exact HB.out)⟩
  · replace c3 := Bool.eq_false_iff.mpr c3
    subst c3
    have H1 : (some 0) = some r := by rw [if_neg (show ¬ (false = true) by decide)] at H; exact H
    clear H
    have H := H1
    clear H1
    obtain rfl := Option.some.inj H
    go_enter Try.func28, Try.ntmps28
    go_wp2_with (first | ((with_reducible refine gate_dst (N := 1) rfl ?_); refine box_event ?hg (N := 1) ?hd (cs := #[.int .i64 a0_0, .int .i64 a0_1, .int .i64 a0_2, .int .i64 a0_3, .int .i64 a0_4]) (t := 23) ?hr ?_; (case hd => rfl); (case hg => rfl); (case hr => first | (go_simp; done) | (go_simp; rfl)); intro gb171 hg w8 hbox hb; have n0_ := Aside0.mk (below_step (by repeat (first | (with_reducible first | exact HB.out | apply below_alloc | apply pw_below_drewN | apply below_drew1) | exact HB.out)) hb); have n1_ := Aside0.mk (hbox); have n2_ := Aside0.mk ((by rw [hg]; exact (below_size (by repeat (first | (with_reducible first | exact HB.out | apply below_alloc | apply pw_below_drewN | apply below_drew1) | exact HB.out))) : w.heap.size ≤ gb171)); have n3_ := Aside0.mk ((by rw [hg]; exact (below_size (by repeat (first | (with_reducible first | exact HB.out | apply below_alloc | apply pw_below_drewN | apply below_drew1) | exact HB.out))) : w.heap.size ≤ gb171)); clear HB; have HB := n0_; have BK171 := n1_; have GW171 := n2_; have GE171 := n3_; clear n0_ n1_ n2_ n3_; clear hb hbox hg; have hcz9_0 : w8.cell? ⟨gb171, 0, none⟩ = some (.int .i64 a0_0) := (blk_cell BK171.out 0).trans rfl; have hcz9_1 : w8.cell? ⟨gb171, 1, none⟩ = some (.int .i64 a0_1) := (blk_cell BK171.out 1).trans rfl; have hcz9_2 : w8.cell? ⟨gb171, 2, none⟩ = some (.int .i64 a0_2) := (blk_cell BK171.out 2).trans rfl; have hcz9_3 : w8.cell? ⟨gb171, 3, none⟩ = some (.int .i64 a0_3) := (blk_cell BK171.out 3).trans rfl; have hcz9_4 : w8.cell? ⟨gb171, 4, none⟩ = some (.int .i64 a0_4) := (blk_cell BK171.out 4).trans rfl; have hfz9_0 := blk_frozen BK171.out 0; have hfz9_1 := blk_frozen BK171.out 1; have hfz9_2 := blk_frozen BK171.out 2; have hfz9_3 := blk_frozen BK171.out 3; have hfz9_4 := blk_frozen BK171.out 4) | ((with_reducible refine gate_callee (f := 14) rfl ?_); refine goesL_ (some 4) rfl rfl Try.func14 (by kernel_rfl) rfl #[.agg #[.int .i64 a0_0, .int .i64 a0_1, .int .i64 a0_2, .int .i64 a0_3, .int .i64 a0_4]] rfl (by (try simp only [List.map_toArray, List.map_cons, List.map_nil]); first | done | rfl | (simp only [List.length_drop, List.length_take]; rfl)) ?_; (with_reducible refine (geom_May.calls a0_0 a0_1 a0_2 a0_3 a0_4 false _ A2.out).mono ?_); rintro e w10 ⟨rfl, hb⟩; refine ⟨_, rfl, ?_⟩; have n0_ := Aside0.mk (blk_below (g := gb171) (o := .cells #[.int .i64 a0_0, .int .i64 a0_1, .int .i64 a0_2, .int .i64 a0_3, .int .i64 a0_4] 23 (0, 0)) (by (with_reducible repeat (first | refine blk_drewN ?_ _ | refine blk_drew ?_ | refine blk_alloc ?_ _)); exact BK171.out) hb); have n1_ := Aside0.mk (below_step (by repeat (first | (with_reducible first | exact HB.out | apply below_alloc | apply pw_below_drewN | apply below_drew1 | refine below_set ?_ GE171.out) | exact HB.out)) hb); clear BK171; clear HB; have BK171 := n0_; have HB := n1_; clear n0_ n1_; (try clear hb); (try clear hb2); (try clear hk); (try clear hi)))
    go_ret
    exact ⟨by first | rfl | (simp [errW_none, errW_some] <;> rfl) | (simp [*, errW_none, errW_some] <;> rfl), by repeat (first | (with_reducible first | exact HB.out | apply below_alloc | apply pw_below_drewN | apply below_drew1 | refine below_set ?_ GE171.out) | exact HB.out)⟩

/-! ### geom_Slack: function 35 -/
def geom_Slack.f (a0_0 : Int) (a0_1 : Int) (a0_2 : Int) (a0_3 : Int) (a0_4 : Int) : Option (Int) := (geom_May.f a0_0 a0_1 a0_2 a0_3 a0_4).bind fun t174 => (if t174 = true then (some (wrap64 (2 * a0_0))) else (some 0))
set_option maxHeartbeats 8000000 in
set_option maxRecDepth 100000 in
theorem geom_Slack.calls (a0_0 : Int) (a0_1 : Int) (a0_2 : Int) (a0_3 : Int) (a0_4 : Int) (r : Int) (w : World) (h : geom_Slack.f a0_0 a0_1 a0_2 a0_3 a0_4 = some r) :
    Calls Try.prog 35 #[.agg #[.int .i64 a0_0, .int .i64 a0_1, .int .i64 a0_2, .int .i64 a0_3, .int .i64 a0_4]] w fun e w' => e = .returned (.int .i64 r) ∧ Below w.heap.size w w' := by
  have hu23 := Try.underlying23
  have HB := Aside0.mk (Below.refl w.heap.size w)
  have H : ((geom_May.f a0_0 a0_1 a0_2 a0_3 a0_4).bind fun t174 => (if t174 = true then (some (wrap64 (2 * a0_0))) else (some 0))) = some r := h
  clear h
  replace H := Option.bind_eq_some_iff.mp H
  obtain ⟨t174, A20, H⟩ := H
  replace H : (if t174 = true then (some (wrap64 (2 * a0_0))) else (some 0)) = some r := H
  have A2 := Aside0.mk A20
  clear A20
  by_cases c3 : t174 = true
  · subst c3
    have H1 : (some (wrap64 (2 * a0_0))) = some r := by rw [if_pos rfl] at H; exact H
    clear H
    have H := H1
    clear H1
    obtain rfl := Option.some.inj H
    go_enter Try.func35, Try.ntmps35
    go_wp2_with (first | ((with_reducible refine gate_dst (N := 1) rfl ?_); refine box_event ?hg (N := 1) ?hd (cs := #[.int .i64 a0_0, .int .i64 a0_1, .int .i64 a0_2, .int .i64 a0_3, .int .i64 a0_4]) (t := 23) ?hr ?_; (case hd => rfl); (case hg => rfl); (case hr => first | (go_simp; done) | (go_simp; rfl)); intro gb173 hg w4 hbox hb; have n0_ := Aside0.mk (below_step (by repeat (first | (with_reducible first | exact HB.out | apply below_alloc | apply pw_below_drewN | apply below_drew1) | exact HB.out)) hb); have n1_ := Aside0.mk (hbox); have n2_ := Aside0.mk ((by rw [hg]; exact (below_size (by repeat (first | (with_reducible first | exact HB.out | apply below_alloc | apply pw_below_drewN | apply below_drew1) | exact HB.out))) : w.heap.size ≤ gb173)); have n3_ := Aside0.mk ((by rw [hg]; exact (below_size (by repeat (first | (with_reducible first | exact HB.out | apply below_alloc | apply pw_below_drewN | apply below_drew1) | exact HB.out))) : w.heap.size ≤ gb173)); clear HB; have HB := n0_; have BK173 := n1_; have GW173 := n2_; have GE173 := n3_; clear n0_ n1_ n2_ n3_; clear hb hbox hg; have hcz5_0 : w4.cell? ⟨gb173, 0, none⟩ = some (.int .i64 a0_0) := (blk_cell BK173.out 0).trans rfl; have hcz5_1 : w4.cell? ⟨gb173, 1, none⟩ = some (.int .i64 a0_1) := (blk_cell BK173.out 1).trans rfl; have hcz5_2 : w4.cell? ⟨gb173, 2, none⟩ = some (.int .i64 a0_2) := (blk_cell BK173.out 2).trans rfl; have hcz5_3 : w4.cell? ⟨gb173, 3, none⟩ = some (.int .i64 a0_3) := (blk_cell BK173.out 3).trans rfl; have hcz5_4 : w4.cell? ⟨gb173, 4, none⟩ = some (.int .i64 a0_4) := (blk_cell BK173.out 4).trans rfl; have hfz5_0 := blk_frozen BK173.out 0; have hfz5_1 := blk_frozen BK173.out 1; have hfz5_2 := blk_frozen BK173.out 2; have hfz5_3 := blk_frozen BK173.out 3; have hfz5_4 := blk_frozen BK173.out 4) | ((with_reducible refine gate_callee (f := 14) rfl ?_); refine goesL_ (some 4) rfl rfl Try.func14 (by kernel_rfl) rfl #[.agg #[.int .i64 a0_0, .int .i64 a0_1, .int .i64 a0_2, .int .i64 a0_3, .int .i64 a0_4]] rfl (by (try simp only [List.map_toArray, List.map_cons, List.map_nil]); first | done | rfl | (simp only [List.length_drop, List.length_take]; rfl)) ?_; (with_reducible refine (geom_May.calls a0_0 a0_1 a0_2 a0_3 a0_4 true _ A2.out).mono ?_); rintro e w6 ⟨rfl, hb⟩; refine ⟨_, rfl, ?_⟩; have n0_ := Aside0.mk (blk_below (g := gb173) (o := .cells #[.int .i64 a0_0, .int .i64 a0_1, .int .i64 a0_2, .int .i64 a0_3, .int .i64 a0_4] 23 (0, 0)) (by (with_reducible repeat (first | refine blk_drewN ?_ _ | refine blk_drew ?_ | refine blk_alloc ?_ _)); exact BK173.out) hb); have n1_ := Aside0.mk (below_step (by repeat (first | (with_reducible first | exact HB.out | apply below_alloc | apply pw_below_drewN | apply below_drew1 | refine below_set ?_ GE173.out) | exact HB.out)) hb); clear BK173; clear HB; have BK173 := n0_; have HB := n1_; clear n0_ n1_; (try clear hb); (try clear hb2); (try clear hk); (try clear hi); have hcz7_0 : w6.cell? ⟨gb173, 0, none⟩ = some (.int .i64 a0_0) := (blk_cell BK173.out 0).trans rfl; have hcz7_1 : w6.cell? ⟨gb173, 1, none⟩ = some (.int .i64 a0_1) := (blk_cell BK173.out 1).trans rfl; have hcz7_2 : w6.cell? ⟨gb173, 2, none⟩ = some (.int .i64 a0_2) := (blk_cell BK173.out 2).trans rfl; have hcz7_3 : w6.cell? ⟨gb173, 3, none⟩ = some (.int .i64 a0_3) := (blk_cell BK173.out 3).trans rfl; have hcz7_4 : w6.cell? ⟨gb173, 4, none⟩ = some (.int .i64 a0_4) := (blk_cell BK173.out 4).trans rfl; have hfz7_0 := blk_frozen BK173.out 0; have hfz7_1 := blk_frozen BK173.out 1; have hfz7_2 := blk_frozen BK173.out 2; have hfz7_3 := blk_frozen BK173.out 3; have hfz7_4 := blk_frozen BK173.out 4))
    go_ret
    exact ⟨by first | rfl | (simp [errW_none, errW_some] <;> rfl) | (simp [*, errW_none, errW_some] <;> rfl), by repeat (first | (with_reducible first | exact HB.out | apply below_alloc | apply pw_below_drewN | apply below_drew1 | refine below_set ?_ GE173.out) | exact HB.out)⟩
  · replace c3 := Bool.eq_false_iff.mpr c3
    subst c3
    have H1 : (some 0) = some r := by rw [if_neg (show ¬ (false = true) by decide)] at H; exact H
    clear H
    have H := H1
    clear H1
    obtain rfl := Option.some.inj H
    go_enter Try.func35, Try.ntmps35
    go_wp2_with (first | ((with_reducible refine gate_dst (N := 1) rfl ?_); refine box_event ?hg (N := 1) ?hd (cs := #[.int .i64 a0_0, .int .i64 a0_1, .int .i64 a0_2, .int .i64 a0_3, .int .i64 a0_4]) (t := 23) ?hr ?_; (case hd => rfl); (case hg => rfl); (case hr => first | (go_simp; done) | (go_simp; rfl)); intro gb173 hg w8 hbox hb; have n0_ := Aside0.mk (below_step (by repeat (first | (with_reducible first | exact HB.out | apply below_alloc | apply pw_below_drewN | apply below_drew1) | exact HB.out)) hb); have n1_ := Aside0.mk (hbox); have n2_ := Aside0.mk ((by rw [hg]; exact (below_size (by repeat (first | (with_reducible first | exact HB.out | apply below_alloc | apply pw_below_drewN | apply below_drew1) | exact HB.out))) : w.heap.size ≤ gb173)); have n3_ := Aside0.mk ((by rw [hg]; exact (below_size (by repeat (first | (with_reducible first | exact HB.out | apply below_alloc | apply pw_below_drewN | apply below_drew1) | exact HB.out))) : w.heap.size ≤ gb173)); clear HB; have HB := n0_; have BK173 := n1_; have GW173 := n2_; have GE173 := n3_; clear n0_ n1_ n2_ n3_; clear hb hbox hg; have hcz9_0 : w8.cell? ⟨gb173, 0, none⟩ = some (.int .i64 a0_0) := (blk_cell BK173.out 0).trans rfl; have hcz9_1 : w8.cell? ⟨gb173, 1, none⟩ = some (.int .i64 a0_1) := (blk_cell BK173.out 1).trans rfl; have hcz9_2 : w8.cell? ⟨gb173, 2, none⟩ = some (.int .i64 a0_2) := (blk_cell BK173.out 2).trans rfl; have hcz9_3 : w8.cell? ⟨gb173, 3, none⟩ = some (.int .i64 a0_3) := (blk_cell BK173.out 3).trans rfl; have hcz9_4 : w8.cell? ⟨gb173, 4, none⟩ = some (.int .i64 a0_4) := (blk_cell BK173.out 4).trans rfl; have hfz9_0 := blk_frozen BK173.out 0; have hfz9_1 := blk_frozen BK173.out 1; have hfz9_2 := blk_frozen BK173.out 2; have hfz9_3 := blk_frozen BK173.out 3; have hfz9_4 := blk_frozen BK173.out 4) | ((with_reducible refine gate_callee (f := 14) rfl ?_); refine goesL_ (some 4) rfl rfl Try.func14 (by kernel_rfl) rfl #[.agg #[.int .i64 a0_0, .int .i64 a0_1, .int .i64 a0_2, .int .i64 a0_3, .int .i64 a0_4]] rfl (by (try simp only [List.map_toArray, List.map_cons, List.map_nil]); first | done | rfl | (simp only [List.length_drop, List.length_take]; rfl)) ?_; (with_reducible refine (geom_May.calls a0_0 a0_1 a0_2 a0_3 a0_4 false _ A2.out).mono ?_); rintro e w10 ⟨rfl, hb⟩; refine ⟨_, rfl, ?_⟩; have n0_ := Aside0.mk (blk_below (g := gb173) (o := .cells #[.int .i64 a0_0, .int .i64 a0_1, .int .i64 a0_2, .int .i64 a0_3, .int .i64 a0_4] 23 (0, 0)) (by (with_reducible repeat (first | refine blk_drewN ?_ _ | refine blk_drew ?_ | refine blk_alloc ?_ _)); exact BK173.out) hb); have n1_ := Aside0.mk (below_step (by repeat (first | (with_reducible first | exact HB.out | apply below_alloc | apply pw_below_drewN | apply below_drew1 | refine below_set ?_ GE173.out) | exact HB.out)) hb); clear BK173; clear HB; have BK173 := n0_; have HB := n1_; clear n0_ n1_; (try clear hb); (try clear hb2); (try clear hk); (try clear hi)))
    go_ret
    exact ⟨by first | rfl | (simp [errW_none, errW_some] <;> rfl) | (simp [*, errW_none, errW_some] <;> rfl), by repeat (first | (with_reducible first | exact HB.out | apply below_alloc | apply pw_below_drewN | apply below_drew1 | refine below_set ?_ GE173.out) | exact HB.out)⟩

/-! ### jotterlaw5_GeomLow: function 10 -/
def jotterlaw5_GeomLow.j0 : Nat → Int → Int → Int → Int → Int → Option (Bool)
  | 0, _, _, _, _, _ => none
  | k + 1, x176000, x176001, x176002, x176003, x176004 => (geom_May.f x176000 x176001 x176002 x176003 x176004).bind fun t180 => (if t180 = true then (some false) else ((geom_Logical.f x176000 x176001 x176002 x176003 x176004).bind fun t181 => (if t181 = 0 then ((geom_Raw.f x176000 x176001 x176002 x176003 x176004).bind fun t182 => (if t182 = 0 then ((geom_Bound.f x176000 x176001 x176002 x176003 x176004).bind fun t183 => (if t183 = 0 then ((geom_Slack.f x176000 x176001 x176002 x176003 x176004).bind fun t184 => (if t184 = 0 then ((geom_Number.f x176000 x176001 x176002 x176003 x176004 0 0).bind fun t185 => (if t185 = 0 then ((jotterlaw5_awake.f).bind fun t186 => (some t186)) else (some false))) else (some false))) else (some false))) else (some false))) else (some false))))
def jotterlaw5_GeomLow.f (k : Nat) (a0_0 : Int) (a0_1 : Int) (a0_2 : Int) (a0_3 : Int) (a0_4 : Int) (a1 : Int) (a2 : Int) : Option (Bool) := (geom_May.f a0_0 a0_1 a0_2 a0_3 a0_4).bind fun t176 => (if t176 = true then ((jotterlaw0_Low.f a2 1000).bind fun t178 => ((jotterlaw0_Low.f a1 10).bind fun t179 => (if t179 = 0 then (jotterlaw5_GeomLow.j0 k (wrap64 (8 - (wrap64 (1 + t178)))) a0_1 a0_2 a0_3 a0_4) else (if t179 = 1 then (jotterlaw5_GeomLow.j0 k (wrap64 (20 + (wrap64 (1 + t178)))) a0_1 a0_2 a0_3 a0_4) else (if t179 = 2 then (jotterlaw5_GeomLow.j0 k a0_0 (wrap64 (4 - (wrap64 (1 + t178)))) a0_2 a0_3 a0_4) else (if t179 = 3 then (jotterlaw5_GeomLow.j0 k a0_0 (wrap64 (8 + (wrap64 (1 + t178)))) a0_2 a0_3 a0_4) else (if t179 = 4 then (jotterlaw5_GeomLow.j0 k a0_0 a0_1 (wrap64 (24 - (wrap64 (1 + t178)))) a0_3 a0_4) else (if t179 = 5 then (jotterlaw5_GeomLow.j0 k a0_0 a0_1 (wrap64 (64 + (wrap64 (1 + t178)))) a0_3 a0_4) else (if t179 = 6 then (jotterlaw5_GeomLow.j0 k a0_0 a0_1 a0_2 (wrap64 (-(wrap64 (1 + t178)))) a0_4) else (if t179 = 7 then (jotterlaw5_GeomLow.j0 k a0_0 a0_1 a0_2 (wrap64 (4 + (wrap64 (1 + t178)))) a0_4) else (if t179 = 8 then (jotterlaw5_GeomLow.j0 k a0_0 a0_1 a0_2 a0_3 (wrap64 (2 - (wrap64 (1 + t178))))) else (jotterlaw5_GeomLow.j0 k a0_0 a0_1 a0_2 a0_3 (wrap64 (20 + (wrap64 (1 + t178)))))))))))))))) else ((jotterlaw5_awake.f).bind fun t177 => (some t177)))
theorem jotterlaw5_GeomLow.mono_l : ∀ k, (∀ y0 y1 y2 y3 y4, LeO (jotterlaw5_GeomLow.j0 k y0 y1 y2 y3 y4) (jotterlaw5_GeomLow.j0 (k + 1) y0 y1 y2 y3 y4))
  | 0 => fun _ _ _ _ _ r h => by simp [jotterlaw5_GeomLow.j0] at h
  | k + 1 => by
    have ih0 := jotterlaw5_GeomLow.mono_l k
    · intro y0 y1 y2 y3 y4
      unfold jotterlaw5_GeomLow.j0
      repeat' first
      | (with_reducible exact ih0 _ _ _ _ _)
      | (with_reducible exact LeO.refl _)
      | (with_reducible exact LeO.none _)
      | (with_reducible refine LeO.ite ?_ ?_)
      | (with_reducible refine LeO.bind ?_ (fun _ => ?_))
      | exact ih0 _ _ _ _ _
      | exact LeO.none _
      | refine LeO.ite ?_ ?_
      | refine LeO.bind ?_ (fun _ => ?_)
theorem jotterlaw5_GeomLow.mono : ∀ a0 a1 a2 a3 a4 a5 a6 k, LeO (jotterlaw5_GeomLow.f k a0 a1 a2 a3 a4 a5 a6) (jotterlaw5_GeomLow.f (k + 1) a0 a1 a2 a3 a4 a5 a6) := by
  intro a0 a1 a2 a3 a4 a5 a6 k
  have ih0 := jotterlaw5_GeomLow.mono_l k
  unfold jotterlaw5_GeomLow.f
  repeat' first
      | (with_reducible exact ih0 _ _ _ _ _)
      | (with_reducible exact LeO.refl _)
      | (with_reducible exact LeO.none _)
      | (with_reducible refine LeO.ite ?_ ?_)
      | (with_reducible refine LeO.bind ?_ (fun _ => ?_))
      | exact ih0 _ _ _ _ _
      | exact LeO.none _
      | refine LeO.ite ?_ ?_
      | refine LeO.bind ?_ (fun _ => ?_)
set_option maxHeartbeats 8000000 in
set_option maxRecDepth 100000 in
theorem jotterlaw5_GeomLow.calls (k : Nat) (a0_0 : Int) (a0_1 : Int) (a0_2 : Int) (a0_3 : Int) (a0_4 : Int) (a1 : Int) (a2 : Int) (r : Bool) (w : World) (h : jotterlaw5_GeomLow.f k a0_0 a0_1 a0_2 a0_3 a0_4 a1 a2 = some r) :
    Calls Try.prog 10 #[.agg #[.int .i64 a0_0, .int .i64 a0_1, .int .i64 a0_2, .int .i64 a0_3, .int .i64 a0_4], .int .i64 a1, .int .i64 a2] w fun e w' => e = .returned (.bool r) ∧ Below w.heap.size w w' := by
  have hu23 := Try.underlying23
  have hu26 := Try.underlying26
  have HB := Aside0.mk (Below.refl w.heap.size w)
  have H : ((geom_May.f a0_0 a0_1 a0_2 a0_3 a0_4).bind fun t176 => (if t176 = true then ((jotterlaw0_Low.f a2 1000).bind fun t178 => ((jotterlaw0_Low.f a1 10).bind fun t179 => (if t179 = 0 then (jotterlaw5_GeomLow.j0 k (wrap64 (8 - (wrap64 (1 + t178)))) a0_1 a0_2 a0_3 a0_4) else (if t179 = 1 then (jotterlaw5_GeomLow.j0 k (wrap64 (20 + (wrap64 (1 + t178)))) a0_1 a0_2 a0_3 a0_4) else (if t179 = 2 then (jotterlaw5_GeomLow.j0 k a0_0 (wrap64 (4 - (wrap64 (1 + t178)))) a0_2 a0_3 a0_4) else (if t179 = 3 then (jotterlaw5_GeomLow.j0 k a0_0 (wrap64 (8 + (wrap64 (1 + t178)))) a0_2 a0_3 a0_4) else (if t179 = 4 then (jotterlaw5_GeomLow.j0 k a0_0 a0_1 (wrap64 (24 - (wrap64 (1 + t178)))) a0_3 a0_4) else (if t179 = 5 then (jotterlaw5_GeomLow.j0 k a0_0 a0_1 (wrap64 (64 + (wrap64 (1 + t178)))) a0_3 a0_4) else (if t179 = 6 then (jotterlaw5_GeomLow.j0 k a0_0 a0_1 a0_2 (wrap64 (-(wrap64 (1 + t178)))) a0_4) else (if t179 = 7 then (jotterlaw5_GeomLow.j0 k a0_0 a0_1 a0_2 (wrap64 (4 + (wrap64 (1 + t178)))) a0_4) else (if t179 = 8 then (jotterlaw5_GeomLow.j0 k a0_0 a0_1 a0_2 a0_3 (wrap64 (2 - (wrap64 (1 + t178))))) else (jotterlaw5_GeomLow.j0 k a0_0 a0_1 a0_2 a0_3 (wrap64 (20 + (wrap64 (1 + t178)))))))))))))))) else ((jotterlaw5_awake.f).bind fun t177 => (some t177)))) = some r := h
  clear h
  replace H := Option.bind_eq_some_iff.mp H
  obtain ⟨t176, A40, H⟩ := H
  replace H : (if t176 = true then ((jotterlaw0_Low.f a2 1000).bind fun t178 => ((jotterlaw0_Low.f a1 10).bind fun t179 => (if t179 = 0 then (jotterlaw5_GeomLow.j0 k (wrap64 (8 - (wrap64 (1 + t178)))) a0_1 a0_2 a0_3 a0_4) else (if t179 = 1 then (jotterlaw5_GeomLow.j0 k (wrap64 (20 + (wrap64 (1 + t178)))) a0_1 a0_2 a0_3 a0_4) else (if t179 = 2 then (jotterlaw5_GeomLow.j0 k a0_0 (wrap64 (4 - (wrap64 (1 + t178)))) a0_2 a0_3 a0_4) else (if t179 = 3 then (jotterlaw5_GeomLow.j0 k a0_0 (wrap64 (8 + (wrap64 (1 + t178)))) a0_2 a0_3 a0_4) else (if t179 = 4 then (jotterlaw5_GeomLow.j0 k a0_0 a0_1 (wrap64 (24 - (wrap64 (1 + t178)))) a0_3 a0_4) else (if t179 = 5 then (jotterlaw5_GeomLow.j0 k a0_0 a0_1 (wrap64 (64 + (wrap64 (1 + t178)))) a0_3 a0_4) else (if t179 = 6 then (jotterlaw5_GeomLow.j0 k a0_0 a0_1 a0_2 (wrap64 (-(wrap64 (1 + t178)))) a0_4) else (if t179 = 7 then (jotterlaw5_GeomLow.j0 k a0_0 a0_1 a0_2 (wrap64 (4 + (wrap64 (1 + t178)))) a0_4) else (if t179 = 8 then (jotterlaw5_GeomLow.j0 k a0_0 a0_1 a0_2 a0_3 (wrap64 (2 - (wrap64 (1 + t178))))) else (jotterlaw5_GeomLow.j0 k a0_0 a0_1 a0_2 a0_3 (wrap64 (20 + (wrap64 (1 + t178)))))))))))))))) else ((jotterlaw5_awake.f).bind fun t177 => (some t177))) = some r := H
  have A4 := Aside0.mk A40
  clear A40
  by_cases c5 : t176 = true
  · subst c5
    have H1 : ((jotterlaw0_Low.f a2 1000).bind fun t178 => ((jotterlaw0_Low.f a1 10).bind fun t179 => (if t179 = 0 then (jotterlaw5_GeomLow.j0 k (wrap64 (8 - (wrap64 (1 + t178)))) a0_1 a0_2 a0_3 a0_4) else (if t179 = 1 then (jotterlaw5_GeomLow.j0 k (wrap64 (20 + (wrap64 (1 + t178)))) a0_1 a0_2 a0_3 a0_4) else (if t179 = 2 then (jotterlaw5_GeomLow.j0 k a0_0 (wrap64 (4 - (wrap64 (1 + t178)))) a0_2 a0_3 a0_4) else (if t179 = 3 then (jotterlaw5_GeomLow.j0 k a0_0 (wrap64 (8 + (wrap64 (1 + t178)))) a0_2 a0_3 a0_4) else (if t179 = 4 then (jotterlaw5_GeomLow.j0 k a0_0 a0_1 (wrap64 (24 - (wrap64 (1 + t178)))) a0_3 a0_4) else (if t179 = 5 then (jotterlaw5_GeomLow.j0 k a0_0 a0_1 (wrap64 (64 + (wrap64 (1 + t178)))) a0_3 a0_4) else (if t179 = 6 then (jotterlaw5_GeomLow.j0 k a0_0 a0_1 a0_2 (wrap64 (-(wrap64 (1 + t178)))) a0_4) else (if t179 = 7 then (jotterlaw5_GeomLow.j0 k a0_0 a0_1 a0_2 (wrap64 (4 + (wrap64 (1 + t178)))) a0_4) else (if t179 = 8 then (jotterlaw5_GeomLow.j0 k a0_0 a0_1 a0_2 a0_3 (wrap64 (2 - (wrap64 (1 + t178))))) else (jotterlaw5_GeomLow.j0 k a0_0 a0_1 a0_2 a0_3 (wrap64 (20 + (wrap64 (1 + t178)))))))))))))))) = some r := by rw [if_pos rfl] at H; exact H
    clear H
    have H := H1
    clear H1
    replace H := Option.bind_eq_some_iff.mp H
    obtain ⟨t178, A60, H⟩ := H
    replace H : ((jotterlaw0_Low.f a1 10).bind fun t179 => (if t179 = 0 then (jotterlaw5_GeomLow.j0 k (wrap64 (8 - (wrap64 (1 + t178)))) a0_1 a0_2 a0_3 a0_4) else (if t179 = 1 then (jotterlaw5_GeomLow.j0 k (wrap64 (20 + (wrap64 (1 + t178)))) a0_1 a0_2 a0_3 a0_4) else (if t179 = 2 then (jotterlaw5_GeomLow.j0 k a0_0 (wrap64 (4 - (wrap64 (1 + t178)))) a0_2 a0_3 a0_4) else (if t179 = 3 then (jotterlaw5_GeomLow.j0 k a0_0 (wrap64 (8 + (wrap64 (1 + t178)))) a0_2 a0_3 a0_4) else (if t179 = 4 then (jotterlaw5_GeomLow.j0 k a0_0 a0_1 (wrap64 (24 - (wrap64 (1 + t178)))) a0_3 a0_4) else (if t179 = 5 then (jotterlaw5_GeomLow.j0 k a0_0 a0_1 (wrap64 (64 + (wrap64 (1 + t178)))) a0_3 a0_4) else (if t179 = 6 then (jotterlaw5_GeomLow.j0 k a0_0 a0_1 a0_2 (wrap64 (-(wrap64 (1 + t178)))) a0_4) else (if t179 = 7 then (jotterlaw5_GeomLow.j0 k a0_0 a0_1 a0_2 (wrap64 (4 + (wrap64 (1 + t178)))) a0_4) else (if t179 = 8 then (jotterlaw5_GeomLow.j0 k a0_0 a0_1 a0_2 a0_3 (wrap64 (2 - (wrap64 (1 + t178))))) else (jotterlaw5_GeomLow.j0 k a0_0 a0_1 a0_2 a0_3 (wrap64 (20 + (wrap64 (1 + t178))))))))))))))) = some r := H
    have A6 := Aside0.mk A60
    clear A60
    replace H := Option.bind_eq_some_iff.mp H
    obtain ⟨t179, A70, H⟩ := H
    replace H : (if t179 = 0 then (jotterlaw5_GeomLow.j0 k (wrap64 (8 - (wrap64 (1 + t178)))) a0_1 a0_2 a0_3 a0_4) else (if t179 = 1 then (jotterlaw5_GeomLow.j0 k (wrap64 (20 + (wrap64 (1 + t178)))) a0_1 a0_2 a0_3 a0_4) else (if t179 = 2 then (jotterlaw5_GeomLow.j0 k a0_0 (wrap64 (4 - (wrap64 (1 + t178)))) a0_2 a0_3 a0_4) else (if t179 = 3 then (jotterlaw5_GeomLow.j0 k a0_0 (wrap64 (8 + (wrap64 (1 + t178)))) a0_2 a0_3 a0_4) else (if t179 = 4 then (jotterlaw5_GeomLow.j0 k a0_0 a0_1 (wrap64 (24 - (wrap64 (1 + t178)))) a0_3 a0_4) else (if t179 = 5 then (jotterlaw5_GeomLow.j0 k a0_0 a0_1 (wrap64 (64 + (wrap64 (1 + t178)))) a0_3 a0_4) else (if t179 = 6 then (jotterlaw5_GeomLow.j0 k a0_0 a0_1 a0_2 (wrap64 (-(wrap64 (1 + t178)))) a0_4) else (if t179 = 7 then (jotterlaw5_GeomLow.j0 k a0_0 a0_1 a0_2 (wrap64 (4 + (wrap64 (1 + t178)))) a0_4) else (if t179 = 8 then (jotterlaw5_GeomLow.j0 k a0_0 a0_1 a0_2 a0_3 (wrap64 (2 - (wrap64 (1 + t178))))) else (jotterlaw5_GeomLow.j0 k a0_0 a0_1 a0_2 a0_3 (wrap64 (20 + (wrap64 (1 + t178)))))))))))))) = some r := H
    have A7 := Aside0.mk A70
    clear A70
    have HC8 := Aside0.mk H
    clear H
    go_enter Try.func10, Try.ntmps10
    go_upto_block 0 with (first | ((with_reducible refine gate_dst (N := 3) rfl ?_); refine box_event ?hg (N := 3) ?hd (cs := #[.int .i64 a0_0, .int .i64 a0_1, .int .i64 a0_2, .int .i64 a0_3, .int .i64 a0_4]) (t := 23) ?hr ?_; (case hd => rfl); (case hg => rfl); (case hr => first | (go_simp; done) | (go_simp; rfl)); intro gb175 hg w9 hbox hb; have n0_ := Aside0.mk (below_step (by repeat (first | (with_reducible first | exact HB.out | apply below_alloc | apply pw_below_drewN | apply below_drew1) | exact HB.out)) hb); have n1_ := Aside0.mk (hbox); have n2_ := Aside0.mk ((by rw [hg]; exact (below_size (by repeat (first | (with_reducible first | exact HB.out | apply below_alloc | apply pw_below_drewN | apply below_drew1) | exact HB.out))) : w.heap.size ≤ gb175)); have n3_ := Aside0.mk ((by rw [hg]; exact (below_size (by repeat (first | (with_reducible first | exact HB.out | apply below_alloc | apply pw_below_drewN | apply below_drew1) | exact HB.out))) : w.heap.size ≤ gb175)); clear HB; have HB := n0_; have BK175 := n1_; have GW175 := n2_; have GE175 := n3_; clear n0_ n1_ n2_ n3_; clear hb hbox hg; have hcz10_0 : w9.cell? ⟨gb175, 0, none⟩ = some (.int .i64 a0_0) := (blk_cell BK175.out 0).trans rfl; have hcz10_1 : w9.cell? ⟨gb175, 1, none⟩ = some (.int .i64 a0_1) := (blk_cell BK175.out 1).trans rfl; have hcz10_2 : w9.cell? ⟨gb175, 2, none⟩ = some (.int .i64 a0_2) := (blk_cell BK175.out 2).trans rfl; have hcz10_3 : w9.cell? ⟨gb175, 3, none⟩ = some (.int .i64 a0_3) := (blk_cell BK175.out 3).trans rfl; have hcz10_4 : w9.cell? ⟨gb175, 4, none⟩ = some (.int .i64 a0_4) := (blk_cell BK175.out 4).trans rfl; have hfz10_0 := blk_frozen BK175.out 0; have hfz10_1 := blk_frozen BK175.out 1; have hfz10_2 := blk_frozen BK175.out 2; have hfz10_3 := blk_frozen BK175.out 3; have hfz10_4 := blk_frozen BK175.out 4) | ((with_reducible refine gate_callee (f := 14) rfl ?_); refine goesL_ (some 8) rfl rfl Try.func14 (by kernel_rfl) rfl #[.agg #[.int .i64 a0_0, .int .i64 a0_1, .int .i64 a0_2, .int .i64 a0_3, .int .i64 a0_4]] rfl (by (try simp only [List.map_toArray, List.map_cons, List.map_nil]); first | done | rfl | (simp only [List.length_drop, List.length_take]; rfl)) ?_; (with_reducible refine (geom_May.calls a0_0 a0_1 a0_2 a0_3 a0_4 true _ A4.out).mono ?_); rintro e w11 ⟨rfl, hb⟩; refine ⟨_, rfl, ?_⟩; have n0_ := Aside0.mk (blk_below (g := gb175) (o := .cells #[.int .i64 a0_0, .int .i64 a0_1, .int .i64 a0_2, .int .i64 a0_3, .int .i64 a0_4] 23 (0, 0)) (by (with_reducible repeat (first | refine blk_drewN ?_ _ | refine blk_drew ?_ | refine blk_alloc ?_ _)); exact BK175.out) hb); have n1_ := Aside0.mk (below_step (by repeat (first | (with_reducible first | exact HB.out | apply below_alloc | apply pw_below_drewN | apply below_drew1 | refine below_set ?_ GE175.out) | exact HB.out)) hb); clear BK175; clear HB; have BK175 := n0_; have HB := n1_; clear n0_ n1_; (try clear hb); (try clear hb2); (try clear hk); (try clear hi)) | ((with_reducible refine gate_callee (f := 27) rfl ?_); refine goesL_ (some 12) rfl rfl Try.func27 (by kernel_rfl) rfl #[.int .i64 a2, .int .i64 1000] rfl (by (try simp only [List.map_toArray, List.map_cons, List.map_nil]); first | done | rfl | (simp only [List.length_drop, List.length_take]; rfl)) ?_; (with_reducible refine (jotterlaw0_Low.calls a2 1000 t178 _ A6.out).mono ?_); rintro e w' ⟨rfl, ⟨nd, rfl⟩⟩; refine ⟨_, rfl, ?_⟩) | ((with_reducible refine gate_callee (f := 27) rfl ?_); refine goesL_ (some 15) rfl rfl Try.func27 (by kernel_rfl) rfl #[.int .i64 a1, .int .i64 10] rfl (by (try simp only [List.map_toArray, List.map_cons, List.map_nil]); first | done | rfl | (simp only [List.length_drop, List.length_take]; rfl)) ?_; (with_reducible refine (jotterlaw0_Low.calls a1 10 t179 _ A7.out).mono ?_); rintro e w' ⟨rfl, ⟨nd, rfl⟩⟩; refine ⟨_, rfl, ?_⟩))
    (try simp only [Act.put, List.setIfInBounds_toArray, List.set_cons_zero, List.set_cons_succ])
    go_cut [] (fun wc => ∃ (kq : Nat) (x176000_7 : Int) (x176001_7 : Int) (x176002_7 : Int) (x176003_7 : Int) (x176004_7 : Int), Aside0 (jotterlaw5_GeomLow.j0 kq x176000_7 x176001_7 x176002_7 x176003_7 x176004_7 = some r) ∧ Aside0 (kq ≤ k) ∧ Aside0 (wc.heap[gb175]? = some (.cells #[.int .i64 x176000_7, .int .i64 x176001_7, .int .i64 x176002_7, .int .i64 x176003_7, .int .i64 x176004_7] 23 (0, 0))) ∧ Aside0 (Below w.heap.size w wc))
    case first =>
      have H := HC8.out
      clear HC8
      by_cases c12 : t179 = 0
      · rw [if_pos c12] at H
        have c12b0 : (t179 == 0) = true := beq_iff_eq.mpr c12
        have c12b1 : (t179 != 0) = false := bne_eq_false_iff_eq.mpr c12
        clear c12
        (first | rw [c12b0] | (simp only [i64_w, i32_w]; rw [c12b0]) | skip)
        have H' := Aside0.mk H
        clear H
        have hcz13_0 : w11.cell? ⟨gb175, 0, none⟩ = some (.int .i64 a0_0) := (blk_cell BK175.out 0).trans rfl
        have hcz13_1 : w11.cell? ⟨gb175, 1, none⟩ = some (.int .i64 a0_1) := (blk_cell BK175.out 1).trans rfl
        have hcz13_2 : w11.cell? ⟨gb175, 2, none⟩ = some (.int .i64 a0_2) := (blk_cell BK175.out 2).trans rfl
        have hcz13_3 : w11.cell? ⟨gb175, 3, none⟩ = some (.int .i64 a0_3) := (blk_cell BK175.out 3).trans rfl
        have hcz13_4 : w11.cell? ⟨gb175, 4, none⟩ = some (.int .i64 a0_4) := (blk_cell BK175.out 4).trans rfl
        have hfz13_0 := blk_frozen BK175.out 0
        have hfz13_1 := blk_frozen BK175.out 1
        have hfz13_2 := blk_frozen BK175.out 2
        have hfz13_3 := blk_frozen BK175.out 3
        have hfz13_4 := blk_frozen BK175.out 4
        go_wp2
        go_meet
        case rel => exact ⟨_, (wrap64 (8 - (wrap64 (1 + t178)))), (a0_1), (a0_2), (a0_3), (a0_4), H', ⟨by first | omega | exact Nat.le_refl _⟩, ⟨by (with_reducible repeat (first | refine blk_drewN ?_ _ | refine blk_drew ?_ | refine blk_alloc ?_ _)); refine blk_put (cs := #[.int .i64 a0_0, .int .i64 a0_1, .int .i64 a0_2, .int .i64 a0_3, .int .i64 a0_4]) ?_ 0 _ rfl; (with_reducible repeat (first | refine blk_drewN ?_ _ | refine blk_drew ?_ | refine blk_alloc ?_ _)); exact BK175.out⟩, ⟨by repeat (first | (with_reducible first | exact HB.out | apply below_alloc | apply pw_below_drewN | apply below_drew1 | refine below_set ?_ GE175.out) | exact HB.out)⟩⟩
      · rw [if_neg c12] at H
        have c12b0 : (t179 == 0) = false := beq_eq_false_iff_ne.mpr c12
        have c12b1 : (t179 != 0) = true := bne_iff_ne.mpr c12
        (first | rw [c12b0] | (simp only [i64_w, i32_w]; rw [c12b0]) | skip)
        by_cases c14 : t179 = 1
        · rw [if_pos c14] at H
          have c14b0 : (t179 == 1) = true := beq_iff_eq.mpr c14
          have c14b1 : (t179 != 1) = false := bne_eq_false_iff_eq.mpr c14
          clear c14
          have H' := Aside0.mk H
          clear H
          have hcz15_0 : w11.cell? ⟨gb175, 0, none⟩ = some (.int .i64 a0_0) := (blk_cell BK175.out 0).trans rfl
          have hcz15_1 : w11.cell? ⟨gb175, 1, none⟩ = some (.int .i64 a0_1) := (blk_cell BK175.out 1).trans rfl
          have hcz15_2 : w11.cell? ⟨gb175, 2, none⟩ = some (.int .i64 a0_2) := (blk_cell BK175.out 2).trans rfl
          have hcz15_3 : w11.cell? ⟨gb175, 3, none⟩ = some (.int .i64 a0_3) := (blk_cell BK175.out 3).trans rfl
          have hcz15_4 : w11.cell? ⟨gb175, 4, none⟩ = some (.int .i64 a0_4) := (blk_cell BK175.out 4).trans rfl
          have hfz15_0 := blk_frozen BK175.out 0
          have hfz15_1 := blk_frozen BK175.out 1
          have hfz15_2 := blk_frozen BK175.out 2
          have hfz15_3 := blk_frozen BK175.out 3
          have hfz15_4 := blk_frozen BK175.out 4
          go_wp2
          go_meet
          case rel => exact ⟨_, (wrap64 (20 + (wrap64 (1 + t178)))), (a0_1), (a0_2), (a0_3), (a0_4), H', ⟨by first | omega | exact Nat.le_refl _⟩, ⟨by (with_reducible repeat (first | refine blk_drewN ?_ _ | refine blk_drew ?_ | refine blk_alloc ?_ _)); refine blk_put (cs := #[.int .i64 a0_0, .int .i64 a0_1, .int .i64 a0_2, .int .i64 a0_3, .int .i64 a0_4]) ?_ 0 _ rfl; (with_reducible repeat (first | refine blk_drewN ?_ _ | refine blk_drew ?_ | refine blk_alloc ?_ _)); exact BK175.out⟩, ⟨by repeat (first | (with_reducible first | exact HB.out | apply below_alloc | apply pw_below_drewN | apply below_drew1 | refine below_set ?_ GE175.out) | exact HB.out)⟩⟩
        · rw [if_neg c14] at H
          have c14b0 : (t179 == 1) = false := beq_eq_false_iff_ne.mpr c14
          have c14b1 : (t179 != 1) = true := bne_iff_ne.mpr c14
          by_cases c16 : t179 = 2
          · rw [if_pos c16] at H
            have c16b0 : (t179 == 2) = true := beq_iff_eq.mpr c16
            have c16b1 : (t179 != 2) = false := bne_eq_false_iff_eq.mpr c16
            clear c16
            have H' := Aside0.mk H
            clear H
            have hcz17_0 : w11.cell? ⟨gb175, 0, none⟩ = some (.int .i64 a0_0) := (blk_cell BK175.out 0).trans rfl
            have hcz17_1 : w11.cell? ⟨gb175, 1, none⟩ = some (.int .i64 a0_1) := (blk_cell BK175.out 1).trans rfl
            have hcz17_2 : w11.cell? ⟨gb175, 2, none⟩ = some (.int .i64 a0_2) := (blk_cell BK175.out 2).trans rfl
            have hcz17_3 : w11.cell? ⟨gb175, 3, none⟩ = some (.int .i64 a0_3) := (blk_cell BK175.out 3).trans rfl
            have hcz17_4 : w11.cell? ⟨gb175, 4, none⟩ = some (.int .i64 a0_4) := (blk_cell BK175.out 4).trans rfl
            have hfz17_0 := blk_frozen BK175.out 0
            have hfz17_1 := blk_frozen BK175.out 1
            have hfz17_2 := blk_frozen BK175.out 2
            have hfz17_3 := blk_frozen BK175.out 3
            have hfz17_4 := blk_frozen BK175.out 4
            go_wp2
            go_meet
            case rel => exact ⟨_, (a0_0), (wrap64 (4 - (wrap64 (1 + t178)))), (a0_2), (a0_3), (a0_4), H', ⟨by first | omega | exact Nat.le_refl _⟩, ⟨by (with_reducible repeat (first | refine blk_drewN ?_ _ | refine blk_drew ?_ | refine blk_alloc ?_ _)); refine blk_put (cs := #[.int .i64 a0_0, .int .i64 a0_1, .int .i64 a0_2, .int .i64 a0_3, .int .i64 a0_4]) ?_ 1 _ rfl; (with_reducible repeat (first | refine blk_drewN ?_ _ | refine blk_drew ?_ | refine blk_alloc ?_ _)); exact BK175.out⟩, ⟨by repeat (first | (with_reducible first | exact HB.out | apply below_alloc | apply pw_below_drewN | apply below_drew1 | refine below_set ?_ GE175.out) | exact HB.out)⟩⟩
          · rw [if_neg c16] at H
            have c16b0 : (t179 == 2) = false := beq_eq_false_iff_ne.mpr c16
            have c16b1 : (t179 != 2) = true := bne_iff_ne.mpr c16
            by_cases c18 : t179 = 3
            · rw [if_pos c18] at H
              have c18b0 : (t179 == 3) = true := beq_iff_eq.mpr c18
              have c18b1 : (t179 != 3) = false := bne_eq_false_iff_eq.mpr c18
              clear c18
              have H' := Aside0.mk H
              clear H
              have hcz19_0 : w11.cell? ⟨gb175, 0, none⟩ = some (.int .i64 a0_0) := (blk_cell BK175.out 0).trans rfl
              have hcz19_1 : w11.cell? ⟨gb175, 1, none⟩ = some (.int .i64 a0_1) := (blk_cell BK175.out 1).trans rfl
              have hcz19_2 : w11.cell? ⟨gb175, 2, none⟩ = some (.int .i64 a0_2) := (blk_cell BK175.out 2).trans rfl
              have hcz19_3 : w11.cell? ⟨gb175, 3, none⟩ = some (.int .i64 a0_3) := (blk_cell BK175.out 3).trans rfl
              have hcz19_4 : w11.cell? ⟨gb175, 4, none⟩ = some (.int .i64 a0_4) := (blk_cell BK175.out 4).trans rfl
              have hfz19_0 := blk_frozen BK175.out 0
              have hfz19_1 := blk_frozen BK175.out 1
              have hfz19_2 := blk_frozen BK175.out 2
              have hfz19_3 := blk_frozen BK175.out 3
              have hfz19_4 := blk_frozen BK175.out 4
              go_wp2
              go_meet
              case rel => exact ⟨_, (a0_0), (wrap64 (8 + (wrap64 (1 + t178)))), (a0_2), (a0_3), (a0_4), H', ⟨by first | omega | exact Nat.le_refl _⟩, ⟨by (with_reducible repeat (first | refine blk_drewN ?_ _ | refine blk_drew ?_ | refine blk_alloc ?_ _)); refine blk_put (cs := #[.int .i64 a0_0, .int .i64 a0_1, .int .i64 a0_2, .int .i64 a0_3, .int .i64 a0_4]) ?_ 1 _ rfl; (with_reducible repeat (first | refine blk_drewN ?_ _ | refine blk_drew ?_ | refine blk_alloc ?_ _)); exact BK175.out⟩, ⟨by repeat (first | (with_reducible first | exact HB.out | apply below_alloc | apply pw_below_drewN | apply below_drew1 | refine below_set ?_ GE175.out) | exact HB.out)⟩⟩
            · rw [if_neg c18] at H
              have c18b0 : (t179 == 3) = false := beq_eq_false_iff_ne.mpr c18
              have c18b1 : (t179 != 3) = true := bne_iff_ne.mpr c18
              by_cases c20 : t179 = 4
              · rw [if_pos c20] at H
                have c20b0 : (t179 == 4) = true := beq_iff_eq.mpr c20
                have c20b1 : (t179 != 4) = false := bne_eq_false_iff_eq.mpr c20
                clear c20
                have H' := Aside0.mk H
                clear H
                have hcz21_0 : w11.cell? ⟨gb175, 0, none⟩ = some (.int .i64 a0_0) := (blk_cell BK175.out 0).trans rfl
                have hcz21_1 : w11.cell? ⟨gb175, 1, none⟩ = some (.int .i64 a0_1) := (blk_cell BK175.out 1).trans rfl
                have hcz21_2 : w11.cell? ⟨gb175, 2, none⟩ = some (.int .i64 a0_2) := (blk_cell BK175.out 2).trans rfl
                have hcz21_3 : w11.cell? ⟨gb175, 3, none⟩ = some (.int .i64 a0_3) := (blk_cell BK175.out 3).trans rfl
                have hcz21_4 : w11.cell? ⟨gb175, 4, none⟩ = some (.int .i64 a0_4) := (blk_cell BK175.out 4).trans rfl
                have hfz21_0 := blk_frozen BK175.out 0
                have hfz21_1 := blk_frozen BK175.out 1
                have hfz21_2 := blk_frozen BK175.out 2
                have hfz21_3 := blk_frozen BK175.out 3
                have hfz21_4 := blk_frozen BK175.out 4
                go_wp2
                go_meet
                case rel => exact ⟨_, (a0_0), (a0_1), (wrap64 (24 - (wrap64 (1 + t178)))), (a0_3), (a0_4), H', ⟨by first | omega | exact Nat.le_refl _⟩, ⟨by (with_reducible repeat (first | refine blk_drewN ?_ _ | refine blk_drew ?_ | refine blk_alloc ?_ _)); refine blk_put (cs := #[.int .i64 a0_0, .int .i64 a0_1, .int .i64 a0_2, .int .i64 a0_3, .int .i64 a0_4]) ?_ 2 _ rfl; (with_reducible repeat (first | refine blk_drewN ?_ _ | refine blk_drew ?_ | refine blk_alloc ?_ _)); exact BK175.out⟩, ⟨by repeat (first | (with_reducible first | exact HB.out | apply below_alloc | apply pw_below_drewN | apply below_drew1 | refine below_set ?_ GE175.out) | exact HB.out)⟩⟩
              · rw [if_neg c20] at H
                have c20b0 : (t179 == 4) = false := beq_eq_false_iff_ne.mpr c20
                have c20b1 : (t179 != 4) = true := bne_iff_ne.mpr c20
                by_cases c22 : t179 = 5
                · rw [if_pos c22] at H
                  have c22b0 : (t179 == 5) = true := beq_iff_eq.mpr c22
                  have c22b1 : (t179 != 5) = false := bne_eq_false_iff_eq.mpr c22
                  clear c22
                  have H' := Aside0.mk H
                  clear H
                  have hcz23_0 : w11.cell? ⟨gb175, 0, none⟩ = some (.int .i64 a0_0) := (blk_cell BK175.out 0).trans rfl
                  have hcz23_1 : w11.cell? ⟨gb175, 1, none⟩ = some (.int .i64 a0_1) := (blk_cell BK175.out 1).trans rfl
                  have hcz23_2 : w11.cell? ⟨gb175, 2, none⟩ = some (.int .i64 a0_2) := (blk_cell BK175.out 2).trans rfl
                  have hcz23_3 : w11.cell? ⟨gb175, 3, none⟩ = some (.int .i64 a0_3) := (blk_cell BK175.out 3).trans rfl
                  have hcz23_4 : w11.cell? ⟨gb175, 4, none⟩ = some (.int .i64 a0_4) := (blk_cell BK175.out 4).trans rfl
                  have hfz23_0 := blk_frozen BK175.out 0
                  have hfz23_1 := blk_frozen BK175.out 1
                  have hfz23_2 := blk_frozen BK175.out 2
                  have hfz23_3 := blk_frozen BK175.out 3
                  have hfz23_4 := blk_frozen BK175.out 4
                  go_wp2
                  go_meet
                  case rel => exact ⟨_, (a0_0), (a0_1), (wrap64 (64 + (wrap64 (1 + t178)))), (a0_3), (a0_4), H', ⟨by first | omega | exact Nat.le_refl _⟩, ⟨by (with_reducible repeat (first | refine blk_drewN ?_ _ | refine blk_drew ?_ | refine blk_alloc ?_ _)); refine blk_put (cs := #[.int .i64 a0_0, .int .i64 a0_1, .int .i64 a0_2, .int .i64 a0_3, .int .i64 a0_4]) ?_ 2 _ rfl; (with_reducible repeat (first | refine blk_drewN ?_ _ | refine blk_drew ?_ | refine blk_alloc ?_ _)); exact BK175.out⟩, ⟨by repeat (first | (with_reducible first | exact HB.out | apply below_alloc | apply pw_below_drewN | apply below_drew1 | refine below_set ?_ GE175.out) | exact HB.out)⟩⟩
                · rw [if_neg c22] at H
                  have c22b0 : (t179 == 5) = false := beq_eq_false_iff_ne.mpr c22
                  have c22b1 : (t179 != 5) = true := bne_iff_ne.mpr c22
                  by_cases c24 : t179 = 6
                  · rw [if_pos c24] at H
                    have c24b0 : (t179 == 6) = true := beq_iff_eq.mpr c24
                    have c24b1 : (t179 != 6) = false := bne_eq_false_iff_eq.mpr c24
                    clear c24
                    have H' := Aside0.mk H
                    clear H
                    have hcz25_0 : w11.cell? ⟨gb175, 0, none⟩ = some (.int .i64 a0_0) := (blk_cell BK175.out 0).trans rfl
                    have hcz25_1 : w11.cell? ⟨gb175, 1, none⟩ = some (.int .i64 a0_1) := (blk_cell BK175.out 1).trans rfl
                    have hcz25_2 : w11.cell? ⟨gb175, 2, none⟩ = some (.int .i64 a0_2) := (blk_cell BK175.out 2).trans rfl
                    have hcz25_3 : w11.cell? ⟨gb175, 3, none⟩ = some (.int .i64 a0_3) := (blk_cell BK175.out 3).trans rfl
                    have hcz25_4 : w11.cell? ⟨gb175, 4, none⟩ = some (.int .i64 a0_4) := (blk_cell BK175.out 4).trans rfl
                    have hfz25_0 := blk_frozen BK175.out 0
                    have hfz25_1 := blk_frozen BK175.out 1
                    have hfz25_2 := blk_frozen BK175.out 2
                    have hfz25_3 := blk_frozen BK175.out 3
                    have hfz25_4 := blk_frozen BK175.out 4
                    go_wp2
                    go_meet
                    case rel => exact ⟨_, (a0_0), (a0_1), (a0_2), (wrap64 (-(wrap64 (1 + t178)))), (a0_4), H', ⟨by first | omega | exact Nat.le_refl _⟩, ⟨by (with_reducible repeat (first | refine blk_drewN ?_ _ | refine blk_drew ?_ | refine blk_alloc ?_ _)); refine blk_put (cs := #[.int .i64 a0_0, .int .i64 a0_1, .int .i64 a0_2, .int .i64 a0_3, .int .i64 a0_4]) ?_ 3 _ rfl; (with_reducible repeat (first | refine blk_drewN ?_ _ | refine blk_drew ?_ | refine blk_alloc ?_ _)); exact BK175.out⟩, ⟨by repeat (first | (with_reducible first | exact HB.out | apply below_alloc | apply pw_below_drewN | apply below_drew1 | refine below_set ?_ GE175.out) | exact HB.out)⟩⟩
                  · rw [if_neg c24] at H
                    have c24b0 : (t179 == 6) = false := beq_eq_false_iff_ne.mpr c24
                    have c24b1 : (t179 != 6) = true := bne_iff_ne.mpr c24
                    by_cases c26 : t179 = 7
                    · rw [if_pos c26] at H
                      have c26b0 : (t179 == 7) = true := beq_iff_eq.mpr c26
                      have c26b1 : (t179 != 7) = false := bne_eq_false_iff_eq.mpr c26
                      clear c26
                      have H' := Aside0.mk H
                      clear H
                      have hcz27_0 : w11.cell? ⟨gb175, 0, none⟩ = some (.int .i64 a0_0) := (blk_cell BK175.out 0).trans rfl
                      have hcz27_1 : w11.cell? ⟨gb175, 1, none⟩ = some (.int .i64 a0_1) := (blk_cell BK175.out 1).trans rfl
                      have hcz27_2 : w11.cell? ⟨gb175, 2, none⟩ = some (.int .i64 a0_2) := (blk_cell BK175.out 2).trans rfl
                      have hcz27_3 : w11.cell? ⟨gb175, 3, none⟩ = some (.int .i64 a0_3) := (blk_cell BK175.out 3).trans rfl
                      have hcz27_4 : w11.cell? ⟨gb175, 4, none⟩ = some (.int .i64 a0_4) := (blk_cell BK175.out 4).trans rfl
                      have hfz27_0 := blk_frozen BK175.out 0
                      have hfz27_1 := blk_frozen BK175.out 1
                      have hfz27_2 := blk_frozen BK175.out 2
                      have hfz27_3 := blk_frozen BK175.out 3
                      have hfz27_4 := blk_frozen BK175.out 4
                      go_wp2
                      go_meet
                      case rel => exact ⟨_, (a0_0), (a0_1), (a0_2), (wrap64 (4 + (wrap64 (1 + t178)))), (a0_4), H', ⟨by first | omega | exact Nat.le_refl _⟩, ⟨by (with_reducible repeat (first | refine blk_drewN ?_ _ | refine blk_drew ?_ | refine blk_alloc ?_ _)); refine blk_put (cs := #[.int .i64 a0_0, .int .i64 a0_1, .int .i64 a0_2, .int .i64 a0_3, .int .i64 a0_4]) ?_ 3 _ rfl; (with_reducible repeat (first | refine blk_drewN ?_ _ | refine blk_drew ?_ | refine blk_alloc ?_ _)); exact BK175.out⟩, ⟨by repeat (first | (with_reducible first | exact HB.out | apply below_alloc | apply pw_below_drewN | apply below_drew1 | refine below_set ?_ GE175.out) | exact HB.out)⟩⟩
                    · rw [if_neg c26] at H
                      have c26b0 : (t179 == 7) = false := beq_eq_false_iff_ne.mpr c26
                      have c26b1 : (t179 != 7) = true := bne_iff_ne.mpr c26
                      by_cases c28 : t179 = 8
                      · rw [if_pos c28] at H
                        have c28b0 : (t179 == 8) = true := beq_iff_eq.mpr c28
                        have c28b1 : (t179 != 8) = false := bne_eq_false_iff_eq.mpr c28
                        clear c28
                        have H' := Aside0.mk H
                        clear H
                        have hcz29_0 : w11.cell? ⟨gb175, 0, none⟩ = some (.int .i64 a0_0) := (blk_cell BK175.out 0).trans rfl
                        have hcz29_1 : w11.cell? ⟨gb175, 1, none⟩ = some (.int .i64 a0_1) := (blk_cell BK175.out 1).trans rfl
                        have hcz29_2 : w11.cell? ⟨gb175, 2, none⟩ = some (.int .i64 a0_2) := (blk_cell BK175.out 2).trans rfl
                        have hcz29_3 : w11.cell? ⟨gb175, 3, none⟩ = some (.int .i64 a0_3) := (blk_cell BK175.out 3).trans rfl
                        have hcz29_4 : w11.cell? ⟨gb175, 4, none⟩ = some (.int .i64 a0_4) := (blk_cell BK175.out 4).trans rfl
                        have hfz29_0 := blk_frozen BK175.out 0
                        have hfz29_1 := blk_frozen BK175.out 1
                        have hfz29_2 := blk_frozen BK175.out 2
                        have hfz29_3 := blk_frozen BK175.out 3
                        have hfz29_4 := blk_frozen BK175.out 4
                        go_wp2
                        go_meet
                        case rel => exact ⟨_, (a0_0), (a0_1), (a0_2), (a0_3), (wrap64 (2 - (wrap64 (1 + t178)))), H', ⟨by first | omega | exact Nat.le_refl _⟩, ⟨by (with_reducible repeat (first | refine blk_drewN ?_ _ | refine blk_drew ?_ | refine blk_alloc ?_ _)); refine blk_put (cs := #[.int .i64 a0_0, .int .i64 a0_1, .int .i64 a0_2, .int .i64 a0_3, .int .i64 a0_4]) ?_ 4 _ rfl; (with_reducible repeat (first | refine blk_drewN ?_ _ | refine blk_drew ?_ | refine blk_alloc ?_ _)); exact BK175.out⟩, ⟨by repeat (first | (with_reducible first | exact HB.out | apply below_alloc | apply pw_below_drewN | apply below_drew1 | refine below_set ?_ GE175.out) | exact HB.out)⟩⟩
                      · rw [if_neg c28] at H
                        have c28b0 : (t179 == 8) = false := beq_eq_false_iff_ne.mpr c28
                        have c28b1 : (t179 != 8) = true := bne_iff_ne.mpr c28
                        have H' := Aside0.mk H
                        clear H
                        have hcz30_0 : w11.cell? ⟨gb175, 0, none⟩ = some (.int .i64 a0_0) := (blk_cell BK175.out 0).trans rfl
                        have hcz30_1 : w11.cell? ⟨gb175, 1, none⟩ = some (.int .i64 a0_1) := (blk_cell BK175.out 1).trans rfl
                        have hcz30_2 : w11.cell? ⟨gb175, 2, none⟩ = some (.int .i64 a0_2) := (blk_cell BK175.out 2).trans rfl
                        have hcz30_3 : w11.cell? ⟨gb175, 3, none⟩ = some (.int .i64 a0_3) := (blk_cell BK175.out 3).trans rfl
                        have hcz30_4 : w11.cell? ⟨gb175, 4, none⟩ = some (.int .i64 a0_4) := (blk_cell BK175.out 4).trans rfl
                        have hfz30_0 := blk_frozen BK175.out 0
                        have hfz30_1 := blk_frozen BK175.out 1
                        have hfz30_2 := blk_frozen BK175.out 2
                        have hfz30_3 := blk_frozen BK175.out 3
                        have hfz30_4 := blk_frozen BK175.out 4
                        go_wp2
                        go_meet
                        case rel => exact ⟨_, (a0_0), (a0_1), (a0_2), (a0_3), (wrap64 (20 + (wrap64 (1 + t178)))), H', ⟨by first | omega | exact Nat.le_refl _⟩, ⟨by (with_reducible repeat (first | refine blk_drewN ?_ _ | refine blk_drew ?_ | refine blk_alloc ?_ _)); refine blk_put (cs := #[.int .i64 a0_0, .int .i64 a0_1, .int .i64 a0_2, .int .i64 a0_3, .int .i64 a0_4]) ?_ 4 _ rfl; (with_reducible repeat (first | refine blk_drewN ?_ _ | refine blk_drew ?_ | refine blk_alloc ?_ _)); exact BK175.out⟩, ⟨by repeat (first | (with_reducible first | exact HB.out | apply below_alloc | apply pw_below_drewN | apply below_drew1 | refine below_set ?_ GE175.out) | exact HB.out)⟩⟩
    case rest =>
      clear HC8
      try clear c1
      try clear c2
      try clear p2
      try clear c5
      try clear p6
      try clear c10
      try clear c12
      try clear c12b0
      try clear c12b1
      try clear c14
      try clear c14b0
      try clear c14b1
      try clear c16
      try clear c16b0
      try clear c16b1
      try clear c18
      try clear c18b0
      try clear c18b1
      try clear c20
      try clear c20b0
      try clear c20b1
      try clear c22
      try clear c22b0
      try clear c22b1
      try clear c24
      try clear c24b0
      try clear c24b1
      try clear c26
      try clear c26b0
      try clear c26b1
      try clear c27
      try clear c28
      try clear c28b0
      try clear c28b1
      try clear hcz10_0
      try clear hcz10_1
      try clear hcz10_2
      try clear hcz10_3
      try clear hcz10_4
      try clear hcz13_0
      try clear hcz13_1
      try clear hcz13_2
      try clear hcz13_3
      try clear hcz13_4
      try clear hcz15_0
      try clear hcz15_1
      try clear hcz15_2
      try clear hcz15_3
      try clear hcz15_4
      try clear hcz17_0
      try clear hcz17_1
      try clear hcz17_2
      try clear hcz17_3
      try clear hcz17_4
      try clear hcz19_0
      try clear hcz19_1
      try clear hcz19_2
      try clear hcz19_3
      try clear hcz19_4
      try clear hcz21_0
      try clear hcz21_1
      try clear hcz21_2
      try clear hcz21_3
      try clear hcz21_4
      try clear hcz23_0
      try clear hcz23_1
      try clear hcz23_2
      try clear hcz23_3
      try clear hcz23_4
      try clear hcz25_0
      try clear hcz25_1
      try clear hcz25_2
      try clear hcz25_3
      try clear hcz25_4
      try clear hcz27_0
      try clear hcz27_1
      try clear hcz27_2
      try clear hcz27_3
      try clear hcz27_4
      try clear hcz29_0
      try clear hcz29_1
      try clear hcz29_2
      try clear hcz29_3
      try clear hcz29_4
      try clear hcz30_0
      try clear hcz30_1
      try clear hcz30_2
      try clear hcz30_3
      try clear hcz30_4
      try clear hfz10_0
      try clear hfz10_1
      try clear hfz10_2
      try clear hfz10_3
      try clear hfz10_4
      try clear hfz13_0
      try clear hfz13_1
      try clear hfz13_2
      try clear hfz13_3
      try clear hfz13_4
      try clear hfz15_0
      try clear hfz15_1
      try clear hfz15_2
      try clear hfz15_3
      try clear hfz15_4
      try clear hfz17_0
      try clear hfz17_1
      try clear hfz17_2
      try clear hfz17_3
      try clear hfz17_4
      try clear hfz19_0
      try clear hfz19_1
      try clear hfz19_2
      try clear hfz19_3
      try clear hfz19_4
      try clear hfz21_0
      try clear hfz21_1
      try clear hfz21_2
      try clear hfz21_3
      try clear hfz21_4
      try clear hfz23_0
      try clear hfz23_1
      try clear hfz23_2
      try clear hfz23_3
      try clear hfz23_4
      try clear hfz25_0
      try clear hfz25_1
      try clear hfz25_2
      try clear hfz25_3
      try clear hfz25_4
      try clear hfz27_0
      try clear hfz27_1
      try clear hfz27_2
      try clear hfz27_3
      try clear hfz27_4
      try clear hfz29_0
      try clear hfz29_1
      try clear hfz29_2
      try clear hfz29_3
      try clear hfz29_4
      try clear hfz30_0
      try clear hfz30_1
      try clear hfz30_2
      try clear hfz30_3
      try clear hfz30_4
      obtain ⟨kq, x176000_7, x176001_7, x176002_7, x176003_7, x176004_7, HA, HJ7, BK175, HB⟩ := hcut
      cases kq with
      | zero => exact absurd HA.out (by simp [jotterlaw5_GeomLow.j0])
      | succ kj7 =>
        have H := HA.out
        clear HA
        simp only [jotterlaw5_GeomLow.j0] at H
        replace H := Option.bind_eq_some_iff.mp H
        obtain ⟨t180, A310, H⟩ := H
        replace H : (if t180 = true then (some false) else ((geom_Logical.f x176000_7 x176001_7 x176002_7 x176003_7 x176004_7).bind fun t181 => (if t181 = 0 then ((geom_Raw.f x176000_7 x176001_7 x176002_7 x176003_7 x176004_7).bind fun t182 => (if t182 = 0 then ((geom_Bound.f x176000_7 x176001_7 x176002_7 x176003_7 x176004_7).bind fun t183 => (if t183 = 0 then ((geom_Slack.f x176000_7 x176001_7 x176002_7 x176003_7 x176004_7).bind fun t184 => (if t184 = 0 then ((geom_Number.f x176000_7 x176001_7 x176002_7 x176003_7 x176004_7 0 0).bind fun t185 => (if t185 = 0 then ((jotterlaw5_awake.f).bind fun t186 => (some t186)) else (some false))) else (some false))) else (some false))) else (some false))) else (some false)))) = some r := H
        have A31 := Aside0.mk A310
        clear A310
        by_cases c32 : t180 = true
        · subst c32
          have H1 : (some false) = some r := by rw [if_pos rfl] at H; exact H
          clear H
          have H := H1
          clear H1
          obtain rfl := Option.some.inj H
          have hcz33_0 : wc.cell? ⟨gb175, 0, none⟩ = some (.int .i64 x176000_7) := (blk_cell BK175.out 0).trans rfl
          have hcz33_1 : wc.cell? ⟨gb175, 1, none⟩ = some (.int .i64 x176001_7) := (blk_cell BK175.out 1).trans rfl
          have hcz33_2 : wc.cell? ⟨gb175, 2, none⟩ = some (.int .i64 x176002_7) := (blk_cell BK175.out 2).trans rfl
          have hcz33_3 : wc.cell? ⟨gb175, 3, none⟩ = some (.int .i64 x176003_7) := (blk_cell BK175.out 3).trans rfl
          have hcz33_4 : wc.cell? ⟨gb175, 4, none⟩ = some (.int .i64 x176004_7) := (blk_cell BK175.out 4).trans rfl
          have hfz33_0 := blk_frozen BK175.out 0
          have hfz33_1 := blk_frozen BK175.out 1
          have hfz33_2 := blk_frozen BK175.out 2
          have hfz33_3 := blk_frozen BK175.out 3
          have hfz33_4 := blk_frozen BK175.out 4
          go_wp2_with (first | ((with_reducible refine gate_callee (f := 14) rfl ?_); refine goesL_ (some 65) rfl rfl Try.func14 (by kernel_rfl) rfl #[.agg #[.int .i64 x176000_7, .int .i64 x176001_7, .int .i64 x176002_7, .int .i64 x176003_7, .int .i64 x176004_7]] rfl (by (try simp only [List.map_toArray, List.map_cons, List.map_nil]); first | done | rfl | (simp only [List.length_drop, List.length_take]; rfl)) ?_; (with_reducible refine (geom_May.calls x176000_7 x176001_7 x176002_7 x176003_7 x176004_7 true _ A31.out).mono ?_); rintro e w34 ⟨rfl, hb⟩; refine ⟨_, rfl, ?_⟩; have n0_ := Aside0.mk (blk_below (g := gb175) (o := .cells #[.int .i64 x176000_7, .int .i64 x176001_7, .int .i64 x176002_7, .int .i64 x176003_7, .int .i64 x176004_7] 23 (0, 0)) (by (with_reducible repeat (first | refine blk_drewN ?_ _ | refine blk_drew ?_ | refine blk_alloc ?_ _)); exact BK175.out) hb); have n1_ := Aside0.mk (below_step (by repeat (first | (with_reducible first | exact HB.out | apply below_alloc | apply pw_below_drewN | apply below_drew1 | refine below_set ?_ GE175.out) | exact HB.out)) hb); clear BK175; clear HB; have BK175 := n0_; have HB := n1_; clear n0_ n1_; (try clear hb); (try clear hb2); (try clear hk); (try clear hi)))
          go_ret
          exact ⟨by first | rfl | (simp [errW_none, errW_some] <;> rfl) | (simp [*, errW_none, errW_some] <;> rfl), by repeat (first | (with_reducible first | exact HB.out | apply below_alloc | apply pw_below_drewN | apply below_drew1 | refine below_set ?_ GE175.out) | exact HB.out)⟩
        · replace c32 := Bool.eq_false_iff.mpr c32
          subst c32
          have H1 : ((geom_Logical.f x176000_7 x176001_7 x176002_7 x176003_7 x176004_7).bind fun t181 => (if t181 = 0 then ((geom_Raw.f x176000_7 x176001_7 x176002_7 x176003_7 x176004_7).bind fun t182 => (if t182 = 0 then ((geom_Bound.f x176000_7 x176001_7 x176002_7 x176003_7 x176004_7).bind fun t183 => (if t183 = 0 then ((geom_Slack.f x176000_7 x176001_7 x176002_7 x176003_7 x176004_7).bind fun t184 => (if t184 = 0 then ((geom_Number.f x176000_7 x176001_7 x176002_7 x176003_7 x176004_7 0 0).bind fun t185 => (if t185 = 0 then ((jotterlaw5_awake.f).bind fun t186 => (some t186)) else (some false))) else (some false))) else (some false))) else (some false))) else (some false))) = some r := by rw [if_neg (show ¬ (false = true) by decide)] at H; exact H
          clear H
          have H := H1
          clear H1
          replace H := Option.bind_eq_some_iff.mp H
          obtain ⟨t181, A350, H⟩ := H
          replace H : (if t181 = 0 then ((geom_Raw.f x176000_7 x176001_7 x176002_7 x176003_7 x176004_7).bind fun t182 => (if t182 = 0 then ((geom_Bound.f x176000_7 x176001_7 x176002_7 x176003_7 x176004_7).bind fun t183 => (if t183 = 0 then ((geom_Slack.f x176000_7 x176001_7 x176002_7 x176003_7 x176004_7).bind fun t184 => (if t184 = 0 then ((geom_Number.f x176000_7 x176001_7 x176002_7 x176003_7 x176004_7 0 0).bind fun t185 => (if t185 = 0 then ((jotterlaw5_awake.f).bind fun t186 => (some t186)) else (some false))) else (some false))) else (some false))) else (some false))) else (some false)) = some r := H
          have A35 := Aside0.mk A350
          clear A350
          by_cases c36 : t181 = 0
          · rw [if_pos c36] at H
            have c36b0 : (t181 == 0) = true := beq_iff_eq.mpr c36
            have c36b1 : (t181 != 0) = false := bne_eq_false_iff_eq.mpr c36
            clear c36
            replace H := Option.bind_eq_some_iff.mp H
            obtain ⟨t182, A370, H⟩ := H
            replace H : (if t182 = 0 then ((geom_Bound.f x176000_7 x176001_7 x176002_7 x176003_7 x176004_7).bind fun t183 => (if t183 = 0 then ((geom_Slack.f x176000_7 x176001_7 x176002_7 x176003_7 x176004_7).bind fun t184 => (if t184 = 0 then ((geom_Number.f x176000_7 x176001_7 x176002_7 x176003_7 x176004_7 0 0).bind fun t185 => (if t185 = 0 then ((jotterlaw5_awake.f).bind fun t186 => (some t186)) else (some false))) else (some false))) else (some false))) else (some false)) = some r := H
            have A37 := Aside0.mk A370
            clear A370
            by_cases c38 : t182 = 0
            · rw [if_pos c38] at H
              have c38b0 : (t182 == 0) = true := beq_iff_eq.mpr c38
              have c38b1 : (t182 != 0) = false := bne_eq_false_iff_eq.mpr c38
              clear c38
              replace H := Option.bind_eq_some_iff.mp H
              obtain ⟨t183, A390, H⟩ := H
              replace H : (if t183 = 0 then ((geom_Slack.f x176000_7 x176001_7 x176002_7 x176003_7 x176004_7).bind fun t184 => (if t184 = 0 then ((geom_Number.f x176000_7 x176001_7 x176002_7 x176003_7 x176004_7 0 0).bind fun t185 => (if t185 = 0 then ((jotterlaw5_awake.f).bind fun t186 => (some t186)) else (some false))) else (some false))) else (some false)) = some r := H
              have A39 := Aside0.mk A390
              clear A390
              by_cases c40 : t183 = 0
              · rw [if_pos c40] at H
                have c40b0 : (t183 == 0) = true := beq_iff_eq.mpr c40
                have c40b1 : (t183 != 0) = false := bne_eq_false_iff_eq.mpr c40
                clear c40
                replace H := Option.bind_eq_some_iff.mp H
                obtain ⟨t184, A410, H⟩ := H
                replace H : (if t184 = 0 then ((geom_Number.f x176000_7 x176001_7 x176002_7 x176003_7 x176004_7 0 0).bind fun t185 => (if t185 = 0 then ((jotterlaw5_awake.f).bind fun t186 => (some t186)) else (some false))) else (some false)) = some r := H
                have A41 := Aside0.mk A410
                clear A410
                by_cases c42 : t184 = 0
                · rw [if_pos c42] at H
                  have c42b0 : (t184 == 0) = true := beq_iff_eq.mpr c42
                  have c42b1 : (t184 != 0) = false := bne_eq_false_iff_eq.mpr c42
                  clear c42
                  replace H := Option.bind_eq_some_iff.mp H
                  obtain ⟨t185, A430, H⟩ := H
                  replace H : (if t185 = 0 then ((jotterlaw5_awake.f).bind fun t186 => (some t186)) else (some false)) = some r := H
                  have A43 := Aside0.mk A430
                  clear A430
                  by_cases c44 : t185 = 0
                  · rw [if_pos c44] at H
                    have c44b0 : (t185 == 0) = true := beq_iff_eq.mpr c44
                    have c44b1 : (t185 != 0) = false := bne_eq_false_iff_eq.mpr c44
                    clear c44
                    replace H := Option.bind_eq_some_iff.mp H
                    obtain ⟨t186, A450, H⟩ := H
                    replace H : (some t186) = some r := H
                    have A45 := Aside0.mk A450
                    clear A450
                    obtain rfl := Option.some.inj H
                    have hcz46_0 : wc.cell? ⟨gb175, 0, none⟩ = some (.int .i64 x176000_7) := (blk_cell BK175.out 0).trans rfl
                    have hcz46_1 : wc.cell? ⟨gb175, 1, none⟩ = some (.int .i64 x176001_7) := (blk_cell BK175.out 1).trans rfl
                    have hcz46_2 : wc.cell? ⟨gb175, 2, none⟩ = some (.int .i64 x176002_7) := (blk_cell BK175.out 2).trans rfl
                    have hcz46_3 : wc.cell? ⟨gb175, 3, none⟩ = some (.int .i64 x176003_7) := (blk_cell BK175.out 3).trans rfl
                    have hcz46_4 : wc.cell? ⟨gb175, 4, none⟩ = some (.int .i64 x176004_7) := (blk_cell BK175.out 4).trans rfl
                    have hfz46_0 := blk_frozen BK175.out 0
                    have hfz46_1 := blk_frozen BK175.out 1
                    have hfz46_2 := blk_frozen BK175.out 2
                    have hfz46_3 := blk_frozen BK175.out 3
                    have hfz46_4 := blk_frozen BK175.out 4
                    go_wp2_with (first | ((with_reducible refine gate_callee (f := 14) rfl ?_); refine goesL_ (some 65) rfl rfl Try.func14 (by kernel_rfl) rfl #[.agg #[.int .i64 x176000_7, .int .i64 x176001_7, .int .i64 x176002_7, .int .i64 x176003_7, .int .i64 x176004_7]] rfl (by (try simp only [List.map_toArray, List.map_cons, List.map_nil]); first | done | rfl | (simp only [List.length_drop, List.length_take]; rfl)) ?_; (with_reducible refine (geom_May.calls x176000_7 x176001_7 x176002_7 x176003_7 x176004_7 false _ A31.out).mono ?_); rintro e w47 ⟨rfl, hb⟩; refine ⟨_, rfl, ?_⟩; have n0_ := Aside0.mk (blk_below (g := gb175) (o := .cells #[.int .i64 x176000_7, .int .i64 x176001_7, .int .i64 x176002_7, .int .i64 x176003_7, .int .i64 x176004_7] 23 (0, 0)) (by (with_reducible repeat (first | refine blk_drewN ?_ _ | refine blk_drew ?_ | refine blk_alloc ?_ _)); exact BK175.out) hb); have n1_ := Aside0.mk (below_step (by repeat (first | (with_reducible first | exact HB.out | apply below_alloc | apply pw_below_drewN | apply below_drew1 | refine below_set ?_ GE175.out) | exact HB.out)) hb); clear BK175; clear HB; have BK175 := n0_; have HB := n1_; clear n0_ n1_; (try clear hb); (try clear hb2); (try clear hk); (try clear hi); have hcz48_0 : w47.cell? ⟨gb175, 0, none⟩ = some (.int .i64 x176000_7) := (blk_cell BK175.out 0).trans rfl; have hcz48_1 : w47.cell? ⟨gb175, 1, none⟩ = some (.int .i64 x176001_7) := (blk_cell BK175.out 1).trans rfl; have hcz48_2 : w47.cell? ⟨gb175, 2, none⟩ = some (.int .i64 x176002_7) := (blk_cell BK175.out 2).trans rfl; have hcz48_3 : w47.cell? ⟨gb175, 3, none⟩ = some (.int .i64 x176003_7) := (blk_cell BK175.out 3).trans rfl; have hcz48_4 : w47.cell? ⟨gb175, 4, none⟩ = some (.int .i64 x176004_7) := (blk_cell BK175.out 4).trans rfl; have hfz48_0 := blk_frozen BK175.out 0; have hfz48_1 := blk_frozen BK175.out 1; have hfz48_2 := blk_frozen BK175.out 2; have hfz48_3 := blk_frozen BK175.out 3; have hfz48_4 := blk_frozen BK175.out 4) | (go_at_call 16; (with_reducible refine (geom_Logical.calls x176000_7 x176001_7 x176002_7 x176003_7 x176004_7 t181 _ A35.out).mono ?_); rintro e w49 ⟨rfl, hb⟩; have n0_ := Aside0.mk (blk_below (g := gb175) (o := .cells #[.int .i64 x176000_7, .int .i64 x176001_7, .int .i64 x176002_7, .int .i64 x176003_7, .int .i64 x176004_7] 23 (0, 0)) (by (with_reducible repeat (first | refine blk_drewN ?_ _ | refine blk_drew ?_ | refine blk_alloc ?_ _)); exact BK175.out) hb); have n1_ := Aside0.mk (below_step (by repeat (first | (with_reducible first | exact HB.out | apply below_alloc | apply pw_below_drewN | apply below_drew1 | refine below_set ?_ GE175.out) | exact HB.out)) hb); clear BK175; clear HB; have BK175 := n0_; have HB := n1_; clear n0_ n1_; (try clear hb); (try clear hb2); (try clear hk); (try clear hi); have hcz50_0 : w49.cell? ⟨gb175, 0, none⟩ = some (.int .i64 x176000_7) := (blk_cell BK175.out 0).trans rfl; have hcz50_1 : w49.cell? ⟨gb175, 1, none⟩ = some (.int .i64 x176001_7) := (blk_cell BK175.out 1).trans rfl; have hcz50_2 : w49.cell? ⟨gb175, 2, none⟩ = some (.int .i64 x176002_7) := (blk_cell BK175.out 2).trans rfl; have hcz50_3 : w49.cell? ⟨gb175, 3, none⟩ = some (.int .i64 x176003_7) := (blk_cell BK175.out 3).trans rfl; have hcz50_4 : w49.cell? ⟨gb175, 4, none⟩ = some (.int .i64 x176004_7) := (blk_cell BK175.out 4).trans rfl; have hfz50_0 := blk_frozen BK175.out 0; have hfz50_1 := blk_frozen BK175.out 1; have hfz50_2 := blk_frozen BK175.out 2; have hfz50_3 := blk_frozen BK175.out 3; have hfz50_4 := blk_frozen BK175.out 4) | (go_at_call 32; (with_reducible refine (geom_Raw.calls x176000_7 x176001_7 x176002_7 x176003_7 x176004_7 t182 _ A37.out).mono ?_); rintro e w51 ⟨rfl, hb⟩; have n0_ := Aside0.mk (blk_below (g := gb175) (o := .cells #[.int .i64 x176000_7, .int .i64 x176001_7, .int .i64 x176002_7, .int .i64 x176003_7, .int .i64 x176004_7] 23 (0, 0)) (by (with_reducible repeat (first | refine blk_drewN ?_ _ | refine blk_drew ?_ | refine blk_alloc ?_ _)); exact BK175.out) hb); have n1_ := Aside0.mk (below_step (by repeat (first | (with_reducible first | exact HB.out | apply below_alloc | apply pw_below_drewN | apply below_drew1 | refine below_set ?_ GE175.out) | exact HB.out)) hb); clear BK175; clear HB; have BK175 := n0_; have HB := n1_; clear n0_ n1_; (try clear hb); (try clear hb2); (try clear hk); (try clear hi); have hcz52_0 : w51.cell? ⟨gb175, 0, none⟩ = some (.int .i64 x176000_7) := (blk_cell BK175.out 0).trans rfl; have hcz52_1 : w51.cell? ⟨gb175, 1, none⟩ = some (.int .i64 x176001_7) := (blk_cell BK175.out 1).trans rfl; have hcz52_2 : w51.cell? ⟨gb175, 2, none⟩ = some (.int .i64 x176002_7) := (blk_cell BK175.out 2).trans rfl; have hcz52_3 : w51.cell? ⟨gb175, 3, none⟩ = some (.int .i64 x176003_7) := (blk_cell BK175.out 3).trans rfl; have hcz52_4 : w51.cell? ⟨gb175, 4, none⟩ = some (.int .i64 x176004_7) := (blk_cell BK175.out 4).trans rfl; have hfz52_0 := blk_frozen BK175.out 0; have hfz52_1 := blk_frozen BK175.out 1; have hfz52_2 := blk_frozen BK175.out 2; have hfz52_3 := blk_frozen BK175.out 3; have hfz52_4 := blk_frozen BK175.out 4) | (go_at_call 28; (with_reducible refine (geom_Bound.calls x176000_7 x176001_7 x176002_7 x176003_7 x176004_7 t183 _ A39.out).mono ?_); rintro e w53 ⟨rfl, hb⟩; have n0_ := Aside0.mk (blk_below (g := gb175) (o := .cells #[.int .i64 x176000_7, .int .i64 x176001_7, .int .i64 x176002_7, .int .i64 x176003_7, .int .i64 x176004_7] 23 (0, 0)) (by (with_reducible repeat (first | refine blk_drewN ?_ _ | refine blk_drew ?_ | refine blk_alloc ?_ _)); exact BK175.out) hb); have n1_ := Aside0.mk (below_step (by repeat (first | (with_reducible first | exact HB.out | apply below_alloc | apply pw_below_drewN | apply below_drew1 | refine below_set ?_ GE175.out) | exact HB.out)) hb); clear BK175; clear HB; have BK175 := n0_; have HB := n1_; clear n0_ n1_; (try clear hb); (try clear hb2); (try clear hk); (try clear hi); have hcz54_0 : w53.cell? ⟨gb175, 0, none⟩ = some (.int .i64 x176000_7) := (blk_cell BK175.out 0).trans rfl; have hcz54_1 : w53.cell? ⟨gb175, 1, none⟩ = some (.int .i64 x176001_7) := (blk_cell BK175.out 1).trans rfl; have hcz54_2 : w53.cell? ⟨gb175, 2, none⟩ = some (.int .i64 x176002_7) := (blk_cell BK175.out 2).trans rfl; have hcz54_3 : w53.cell? ⟨gb175, 3, none⟩ = some (.int .i64 x176003_7) := (blk_cell BK175.out 3).trans rfl; have hcz54_4 : w53.cell? ⟨gb175, 4, none⟩ = some (.int .i64 x176004_7) := (blk_cell BK175.out 4).trans rfl; have hfz54_0 := blk_frozen BK175.out 0; have hfz54_1 := blk_frozen BK175.out 1; have hfz54_2 := blk_frozen BK175.out 2; have hfz54_3 := blk_frozen BK175.out 3; have hfz54_4 := blk_frozen BK175.out 4) | (go_at_call 35; (with_reducible refine (geom_Slack.calls x176000_7 x176001_7 x176002_7 x176003_7 x176004_7 t184 _ A41.out).mono ?_); rintro e w55 ⟨rfl, hb⟩; have n0_ := Aside0.mk (blk_below (g := gb175) (o := .cells #[.int .i64 x176000_7, .int .i64 x176001_7, .int .i64 x176002_7, .int .i64 x176003_7, .int .i64 x176004_7] 23 (0, 0)) (by (with_reducible repeat (first | refine blk_drewN ?_ _ | refine blk_drew ?_ | refine blk_alloc ?_ _)); exact BK175.out) hb); have n1_ := Aside0.mk (below_step (by repeat (first | (with_reducible first | exact HB.out | apply below_alloc | apply pw_below_drewN | apply below_drew1 | refine below_set ?_ GE175.out) | exact HB.out)) hb); clear BK175; clear HB; have BK175 := n0_; have HB := n1_; clear n0_ n1_; (try clear hb); (try clear hb2); (try clear hk); (try clear hi); have hcz56_0 : w55.cell? ⟨gb175, 0, none⟩ = some (.int .i64 x176000_7) := (blk_cell BK175.out 0).trans rfl; have hcz56_1 : w55.cell? ⟨gb175, 1, none⟩ = some (.int .i64 x176001_7) := (blk_cell BK175.out 1).trans rfl; have hcz56_2 : w55.cell? ⟨gb175, 2, none⟩ = some (.int .i64 x176002_7) := (blk_cell BK175.out 2).trans rfl; have hcz56_3 : w55.cell? ⟨gb175, 3, none⟩ = some (.int .i64 x176003_7) := (blk_cell BK175.out 3).trans rfl; have hcz56_4 : w55.cell? ⟨gb175, 4, none⟩ = some (.int .i64 x176004_7) := (blk_cell BK175.out 4).trans rfl; have hfz56_0 := blk_frozen BK175.out 0; have hfz56_1 := blk_frozen BK175.out 1; have hfz56_2 := blk_frozen BK175.out 2; have hfz56_3 := blk_frozen BK175.out 3; have hfz56_4 := blk_frozen BK175.out 4) | (go_at_call 18; (with_reducible refine (geom_Number.calls x176000_7 x176001_7 x176002_7 x176003_7 x176004_7 0 0 t185 _ A43.out).mono ?_); rintro e w57 ⟨rfl, hb⟩; have n0_ := Aside0.mk (blk_below (g := gb175) (o := .cells #[.int .i64 x176000_7, .int .i64 x176001_7, .int .i64 x176002_7, .int .i64 x176003_7, .int .i64 x176004_7] 23 (0, 0)) (by (with_reducible repeat (first | refine blk_drewN ?_ _ | refine blk_drew ?_ | refine blk_alloc ?_ _)); exact BK175.out) hb); have n1_ := Aside0.mk (below_step (by repeat (first | (with_reducible first | exact HB.out | apply below_alloc | apply pw_below_drewN | apply below_drew1 | refine below_set ?_ GE175.out) | exact HB.out)) hb); clear BK175; clear HB; have BK175 := n0_; have HB := n1_; clear n0_ n1_; (try clear hb); (try clear hb2); (try clear hk); (try clear hi)) | (go_at_call 17; (with_reducible refine (jotterlaw5_awake.calls  t186 _ A45.out).mono ?_); rintro e w58 ⟨rfl, hb⟩; have n0_ := Aside0.mk (blk_below (g := gb175) (o := .cells #[.int .i64 x176000_7, .int .i64 x176001_7, .int .i64 x176002_7, .int .i64 x176003_7, .int .i64 x176004_7] 23 (0, 0)) (by (with_reducible repeat (first | refine blk_drewN ?_ _ | refine blk_drew ?_ | refine blk_alloc ?_ _)); exact BK175.out) hb); have n1_ := Aside0.mk (below_step (by repeat (first | (with_reducible first | exact HB.out | apply below_alloc | apply pw_below_drewN | apply below_drew1 | refine below_set ?_ GE175.out) | exact HB.out)) hb); clear BK175; clear HB; have BK175 := n0_; have HB := n1_; clear n0_ n1_; (try clear hb); (try clear hb2); (try clear hk); (try clear hi)))
                    go_ret
                    exact ⟨by first | rfl | (simp [errW_none, errW_some] <;> rfl) | (simp [*, errW_none, errW_some] <;> rfl), by repeat (first | (with_reducible first | exact HB.out | apply below_alloc | apply pw_below_drewN | apply below_drew1 | refine below_set ?_ GE175.out) | exact HB.out)⟩
                  · rw [if_neg c44] at H
                    have c44b0 : (t185 == 0) = false := beq_eq_false_iff_ne.mpr c44
                    have c44b1 : (t185 != 0) = true := bne_iff_ne.mpr c44
                    obtain rfl := Option.some.inj H
                    have hcz59_0 : wc.cell? ⟨gb175, 0, none⟩ = some (.int .i64 x176000_7) := (blk_cell BK175.out 0).trans rfl
                    have hcz59_1 : wc.cell? ⟨gb175, 1, none⟩ = some (.int .i64 x176001_7) := (blk_cell BK175.out 1).trans rfl
                    have hcz59_2 : wc.cell? ⟨gb175, 2, none⟩ = some (.int .i64 x176002_7) := (blk_cell BK175.out 2).trans rfl
                    have hcz59_3 : wc.cell? ⟨gb175, 3, none⟩ = some (.int .i64 x176003_7) := (blk_cell BK175.out 3).trans rfl
                    have hcz59_4 : wc.cell? ⟨gb175, 4, none⟩ = some (.int .i64 x176004_7) := (blk_cell BK175.out 4).trans rfl
                    have hfz59_0 := blk_frozen BK175.out 0
                    have hfz59_1 := blk_frozen BK175.out 1
                    have hfz59_2 := blk_frozen BK175.out 2
                    have hfz59_3 := blk_frozen BK175.out 3
                    have hfz59_4 := blk_frozen BK175.out 4
                    go_wp2_with (first | ((with_reducible refine gate_callee (f := 14) rfl ?_); refine goesL_ (some 65) rfl rfl Try.func14 (by kernel_rfl) rfl #[.agg #[.int .i64 x176000_7, .int .i64 x176001_7, .int .i64 x176002_7, .int .i64 x176003_7, .int .i64 x176004_7]] rfl (by (try simp only [List.map_toArray, List.map_cons, List.map_nil]); first | done | rfl | (simp only [List.length_drop, List.length_take]; rfl)) ?_; (with_reducible refine (geom_May.calls x176000_7 x176001_7 x176002_7 x176003_7 x176004_7 false _ A31.out).mono ?_); rintro e w60 ⟨rfl, hb⟩; refine ⟨_, rfl, ?_⟩; have n0_ := Aside0.mk (blk_below (g := gb175) (o := .cells #[.int .i64 x176000_7, .int .i64 x176001_7, .int .i64 x176002_7, .int .i64 x176003_7, .int .i64 x176004_7] 23 (0, 0)) (by (with_reducible repeat (first | refine blk_drewN ?_ _ | refine blk_drew ?_ | refine blk_alloc ?_ _)); exact BK175.out) hb); have n1_ := Aside0.mk (below_step (by repeat (first | (with_reducible first | exact HB.out | apply below_alloc | apply pw_below_drewN | apply below_drew1 | refine below_set ?_ GE175.out) | exact HB.out)) hb); clear BK175; clear HB; have BK175 := n0_; have HB := n1_; clear n0_ n1_; (try clear hb); (try clear hb2); (try clear hk); (try clear hi); have hcz61_0 : w60.cell? ⟨gb175, 0, none⟩ = some (.int .i64 x176000_7) := (blk_cell BK175.out 0).trans rfl; have hcz61_1 : w60.cell? ⟨gb175, 1, none⟩ = some (.int .i64 x176001_7) := (blk_cell BK175.out 1).trans rfl; have hcz61_2 : w60.cell? ⟨gb175, 2, none⟩ = some (.int .i64 x176002_7) := (blk_cell BK175.out 2).trans rfl; have hcz61_3 : w60.cell? ⟨gb175, 3, none⟩ = some (.int .i64 x176003_7) := (blk_cell BK175.out 3).trans rfl; have hcz61_4 : w60.cell? ⟨gb175, 4, none⟩ = some (.int .i64 x176004_7) := (blk_cell BK175.out 4).trans rfl; have hfz61_0 := blk_frozen BK175.out 0; have hfz61_1 := blk_frozen BK175.out 1; have hfz61_2 := blk_frozen BK175.out 2; have hfz61_3 := blk_frozen BK175.out 3; have hfz61_4 := blk_frozen BK175.out 4) | (go_at_call 16; (with_reducible refine (geom_Logical.calls x176000_7 x176001_7 x176002_7 x176003_7 x176004_7 t181 _ A35.out).mono ?_); rintro e w62 ⟨rfl, hb⟩; have n0_ := Aside0.mk (blk_below (g := gb175) (o := .cells #[.int .i64 x176000_7, .int .i64 x176001_7, .int .i64 x176002_7, .int .i64 x176003_7, .int .i64 x176004_7] 23 (0, 0)) (by (with_reducible repeat (first | refine blk_drewN ?_ _ | refine blk_drew ?_ | refine blk_alloc ?_ _)); exact BK175.out) hb); have n1_ := Aside0.mk (below_step (by repeat (first | (with_reducible first | exact HB.out | apply below_alloc | apply pw_below_drewN | apply below_drew1 | refine below_set ?_ GE175.out) | exact HB.out)) hb); clear BK175; clear HB; have BK175 := n0_; have HB := n1_; clear n0_ n1_; (try clear hb); (try clear hb2); (try clear hk); (try clear hi); have hcz63_0 : w62.cell? ⟨gb175, 0, none⟩ = some (.int .i64 x176000_7) := (blk_cell BK175.out 0).trans rfl; have hcz63_1 : w62.cell? ⟨gb175, 1, none⟩ = some (.int .i64 x176001_7) := (blk_cell BK175.out 1).trans rfl; have hcz63_2 : w62.cell? ⟨gb175, 2, none⟩ = some (.int .i64 x176002_7) := (blk_cell BK175.out 2).trans rfl; have hcz63_3 : w62.cell? ⟨gb175, 3, none⟩ = some (.int .i64 x176003_7) := (blk_cell BK175.out 3).trans rfl; have hcz63_4 : w62.cell? ⟨gb175, 4, none⟩ = some (.int .i64 x176004_7) := (blk_cell BK175.out 4).trans rfl; have hfz63_0 := blk_frozen BK175.out 0; have hfz63_1 := blk_frozen BK175.out 1; have hfz63_2 := blk_frozen BK175.out 2; have hfz63_3 := blk_frozen BK175.out 3; have hfz63_4 := blk_frozen BK175.out 4) | (go_at_call 32; (with_reducible refine (geom_Raw.calls x176000_7 x176001_7 x176002_7 x176003_7 x176004_7 t182 _ A37.out).mono ?_); rintro e w64 ⟨rfl, hb⟩; have n0_ := Aside0.mk (blk_below (g := gb175) (o := .cells #[.int .i64 x176000_7, .int .i64 x176001_7, .int .i64 x176002_7, .int .i64 x176003_7, .int .i64 x176004_7] 23 (0, 0)) (by (with_reducible repeat (first | refine blk_drewN ?_ _ | refine blk_drew ?_ | refine blk_alloc ?_ _)); exact BK175.out) hb); have n1_ := Aside0.mk (below_step (by repeat (first | (with_reducible first | exact HB.out | apply below_alloc | apply pw_below_drewN | apply below_drew1 | refine below_set ?_ GE175.out) | exact HB.out)) hb); clear BK175; clear HB; have BK175 := n0_; have HB := n1_; clear n0_ n1_; (try clear hb); (try clear hb2); (try clear hk); (try clear hi); have hcz65_0 : w64.cell? ⟨gb175, 0, none⟩ = some (.int .i64 x176000_7) := (blk_cell BK175.out 0).trans rfl; have hcz65_1 : w64.cell? ⟨gb175, 1, none⟩ = some (.int .i64 x176001_7) := (blk_cell BK175.out 1).trans rfl; have hcz65_2 : w64.cell? ⟨gb175, 2, none⟩ = some (.int .i64 x176002_7) := (blk_cell BK175.out 2).trans rfl; have hcz65_3 : w64.cell? ⟨gb175, 3, none⟩ = some (.int .i64 x176003_7) := (blk_cell BK175.out 3).trans rfl; have hcz65_4 : w64.cell? ⟨gb175, 4, none⟩ = some (.int .i64 x176004_7) := (blk_cell BK175.out 4).trans rfl; have hfz65_0 := blk_frozen BK175.out 0; have hfz65_1 := blk_frozen BK175.out 1; have hfz65_2 := blk_frozen BK175.out 2; have hfz65_3 := blk_frozen BK175.out 3; have hfz65_4 := blk_frozen BK175.out 4) | (go_at_call 28; (with_reducible refine (geom_Bound.calls x176000_7 x176001_7 x176002_7 x176003_7 x176004_7 t183 _ A39.out).mono ?_); rintro e w66 ⟨rfl, hb⟩; have n0_ := Aside0.mk (blk_below (g := gb175) (o := .cells #[.int .i64 x176000_7, .int .i64 x176001_7, .int .i64 x176002_7, .int .i64 x176003_7, .int .i64 x176004_7] 23 (0, 0)) (by (with_reducible repeat (first | refine blk_drewN ?_ _ | refine blk_drew ?_ | refine blk_alloc ?_ _)); exact BK175.out) hb); have n1_ := Aside0.mk (below_step (by repeat (first | (with_reducible first | exact HB.out | apply below_alloc | apply pw_below_drewN | apply below_drew1 | refine below_set ?_ GE175.out) | exact HB.out)) hb); clear BK175; clear HB; have BK175 := n0_; have HB := n1_; clear n0_ n1_; (try clear hb); (try clear hb2); (try clear hk); (try clear hi); have hcz67_0 : w66.cell? ⟨gb175, 0, none⟩ = some (.int .i64 x176000_7) := (blk_cell BK175.out 0).trans rfl; have hcz67_1 : w66.cell? ⟨gb175, 1, none⟩ = some (.int .i64 x176001_7) := (blk_cell BK175.out 1).trans rfl; have hcz67_2 : w66.cell? ⟨gb175, 2, none⟩ = some (.int .i64 x176002_7) := (blk_cell BK175.out 2).trans rfl; have hcz67_3 : w66.cell? ⟨gb175, 3, none⟩ = some (.int .i64 x176003_7) := (blk_cell BK175.out 3).trans rfl; have hcz67_4 : w66.cell? ⟨gb175, 4, none⟩ = some (.int .i64 x176004_7) := (blk_cell BK175.out 4).trans rfl; have hfz67_0 := blk_frozen BK175.out 0; have hfz67_1 := blk_frozen BK175.out 1; have hfz67_2 := blk_frozen BK175.out 2; have hfz67_3 := blk_frozen BK175.out 3; have hfz67_4 := blk_frozen BK175.out 4) | (go_at_call 35; (with_reducible refine (geom_Slack.calls x176000_7 x176001_7 x176002_7 x176003_7 x176004_7 t184 _ A41.out).mono ?_); rintro e w68 ⟨rfl, hb⟩; have n0_ := Aside0.mk (blk_below (g := gb175) (o := .cells #[.int .i64 x176000_7, .int .i64 x176001_7, .int .i64 x176002_7, .int .i64 x176003_7, .int .i64 x176004_7] 23 (0, 0)) (by (with_reducible repeat (first | refine blk_drewN ?_ _ | refine blk_drew ?_ | refine blk_alloc ?_ _)); exact BK175.out) hb); have n1_ := Aside0.mk (below_step (by repeat (first | (with_reducible first | exact HB.out | apply below_alloc | apply pw_below_drewN | apply below_drew1 | refine below_set ?_ GE175.out) | exact HB.out)) hb); clear BK175; clear HB; have BK175 := n0_; have HB := n1_; clear n0_ n1_; (try clear hb); (try clear hb2); (try clear hk); (try clear hi); have hcz69_0 : w68.cell? ⟨gb175, 0, none⟩ = some (.int .i64 x176000_7) := (blk_cell BK175.out 0).trans rfl; have hcz69_1 : w68.cell? ⟨gb175, 1, none⟩ = some (.int .i64 x176001_7) := (blk_cell BK175.out 1).trans rfl; have hcz69_2 : w68.cell? ⟨gb175, 2, none⟩ = some (.int .i64 x176002_7) := (blk_cell BK175.out 2).trans rfl; have hcz69_3 : w68.cell? ⟨gb175, 3, none⟩ = some (.int .i64 x176003_7) := (blk_cell BK175.out 3).trans rfl; have hcz69_4 : w68.cell? ⟨gb175, 4, none⟩ = some (.int .i64 x176004_7) := (blk_cell BK175.out 4).trans rfl; have hfz69_0 := blk_frozen BK175.out 0; have hfz69_1 := blk_frozen BK175.out 1; have hfz69_2 := blk_frozen BK175.out 2; have hfz69_3 := blk_frozen BK175.out 3; have hfz69_4 := blk_frozen BK175.out 4) | (go_at_call 18; (with_reducible refine (geom_Number.calls x176000_7 x176001_7 x176002_7 x176003_7 x176004_7 0 0 t185 _ A43.out).mono ?_); rintro e w70 ⟨rfl, hb⟩; have n0_ := Aside0.mk (blk_below (g := gb175) (o := .cells #[.int .i64 x176000_7, .int .i64 x176001_7, .int .i64 x176002_7, .int .i64 x176003_7, .int .i64 x176004_7] 23 (0, 0)) (by (with_reducible repeat (first | refine blk_drewN ?_ _ | refine blk_drew ?_ | refine blk_alloc ?_ _)); exact BK175.out) hb); have n1_ := Aside0.mk (below_step (by repeat (first | (with_reducible first | exact HB.out | apply below_alloc | apply pw_below_drewN | apply below_drew1 | refine below_set ?_ GE175.out) | exact HB.out)) hb); clear BK175; clear HB; have BK175 := n0_; have HB := n1_; clear n0_ n1_; (try clear hb); (try clear hb2); (try clear hk); (try clear hi)))
                    go_ret
                    exact ⟨by first | rfl | (simp [errW_none, errW_some] <;> rfl) | (simp [*, errW_none, errW_some] <;> rfl), by repeat (first | (with_reducible first | exact HB.out | apply below_alloc | apply pw_below_drewN | apply below_drew1 | refine below_set ?_ GE175.out) | exact HB.out)⟩
                · rw [if_neg c42] at H
                  have c42b0 : (t184 == 0) = false := beq_eq_false_iff_ne.mpr c42
                  have c42b1 : (t184 != 0) = true := bne_iff_ne.mpr c42
                  obtain rfl := Option.some.inj H
                  have hcz71_0 : wc.cell? ⟨gb175, 0, none⟩ = some (.int .i64 x176000_7) := (blk_cell BK175.out 0).trans rfl
                  have hcz71_1 : wc.cell? ⟨gb175, 1, none⟩ = some (.int .i64 x176001_7) := (blk_cell BK175.out 1).trans rfl
                  have hcz71_2 : wc.cell? ⟨gb175, 2, none⟩ = some (.int .i64 x176002_7) := (blk_cell BK175.out 2).trans rfl
                  have hcz71_3 : wc.cell? ⟨gb175, 3, none⟩ = some (.int .i64 x176003_7) := (blk_cell BK175.out 3).trans rfl
                  have hcz71_4 : wc.cell? ⟨gb175, 4, none⟩ = some (.int .i64 x176004_7) := (blk_cell BK175.out 4).trans rfl
                  have hfz71_0 := blk_frozen BK175.out 0
                  have hfz71_1 := blk_frozen BK175.out 1
                  have hfz71_2 := blk_frozen BK175.out 2
                  have hfz71_3 := blk_frozen BK175.out 3
                  have hfz71_4 := blk_frozen BK175.out 4
                  go_wp2_with (first | ((with_reducible refine gate_callee (f := 14) rfl ?_); refine goesL_ (some 65) rfl rfl Try.func14 (by kernel_rfl) rfl #[.agg #[.int .i64 x176000_7, .int .i64 x176001_7, .int .i64 x176002_7, .int .i64 x176003_7, .int .i64 x176004_7]] rfl (by (try simp only [List.map_toArray, List.map_cons, List.map_nil]); first | done | rfl | (simp only [List.length_drop, List.length_take]; rfl)) ?_; (with_reducible refine (geom_May.calls x176000_7 x176001_7 x176002_7 x176003_7 x176004_7 false _ A31.out).mono ?_); rintro e w72 ⟨rfl, hb⟩; refine ⟨_, rfl, ?_⟩; have n0_ := Aside0.mk (blk_below (g := gb175) (o := .cells #[.int .i64 x176000_7, .int .i64 x176001_7, .int .i64 x176002_7, .int .i64 x176003_7, .int .i64 x176004_7] 23 (0, 0)) (by (with_reducible repeat (first | refine blk_drewN ?_ _ | refine blk_drew ?_ | refine blk_alloc ?_ _)); exact BK175.out) hb); have n1_ := Aside0.mk (below_step (by repeat (first | (with_reducible first | exact HB.out | apply below_alloc | apply pw_below_drewN | apply below_drew1 | refine below_set ?_ GE175.out) | exact HB.out)) hb); clear BK175; clear HB; have BK175 := n0_; have HB := n1_; clear n0_ n1_; (try clear hb); (try clear hb2); (try clear hk); (try clear hi); have hcz73_0 : w72.cell? ⟨gb175, 0, none⟩ = some (.int .i64 x176000_7) := (blk_cell BK175.out 0).trans rfl; have hcz73_1 : w72.cell? ⟨gb175, 1, none⟩ = some (.int .i64 x176001_7) := (blk_cell BK175.out 1).trans rfl; have hcz73_2 : w72.cell? ⟨gb175, 2, none⟩ = some (.int .i64 x176002_7) := (blk_cell BK175.out 2).trans rfl; have hcz73_3 : w72.cell? ⟨gb175, 3, none⟩ = some (.int .i64 x176003_7) := (blk_cell BK175.out 3).trans rfl; have hcz73_4 : w72.cell? ⟨gb175, 4, none⟩ = some (.int .i64 x176004_7) := (blk_cell BK175.out 4).trans rfl; have hfz73_0 := blk_frozen BK175.out 0; have hfz73_1 := blk_frozen BK175.out 1; have hfz73_2 := blk_frozen BK175.out 2; have hfz73_3 := blk_frozen BK175.out 3; have hfz73_4 := blk_frozen BK175.out 4) | (go_at_call 16; (with_reducible refine (geom_Logical.calls x176000_7 x176001_7 x176002_7 x176003_7 x176004_7 t181 _ A35.out).mono ?_); rintro e w74 ⟨rfl, hb⟩; have n0_ := Aside0.mk (blk_below (g := gb175) (o := .cells #[.int .i64 x176000_7, .int .i64 x176001_7, .int .i64 x176002_7, .int .i64 x176003_7, .int .i64 x176004_7] 23 (0, 0)) (by (with_reducible repeat (first | refine blk_drewN ?_ _ | refine blk_drew ?_ | refine blk_alloc ?_ _)); exact BK175.out) hb); have n1_ := Aside0.mk (below_step (by repeat (first | (with_reducible first | exact HB.out | apply below_alloc | apply pw_below_drewN | apply below_drew1 | refine below_set ?_ GE175.out) | exact HB.out)) hb); clear BK175; clear HB; have BK175 := n0_; have HB := n1_; clear n0_ n1_; (try clear hb); (try clear hb2); (try clear hk); (try clear hi); have hcz75_0 : w74.cell? ⟨gb175, 0, none⟩ = some (.int .i64 x176000_7) := (blk_cell BK175.out 0).trans rfl; have hcz75_1 : w74.cell? ⟨gb175, 1, none⟩ = some (.int .i64 x176001_7) := (blk_cell BK175.out 1).trans rfl; have hcz75_2 : w74.cell? ⟨gb175, 2, none⟩ = some (.int .i64 x176002_7) := (blk_cell BK175.out 2).trans rfl; have hcz75_3 : w74.cell? ⟨gb175, 3, none⟩ = some (.int .i64 x176003_7) := (blk_cell BK175.out 3).trans rfl; have hcz75_4 : w74.cell? ⟨gb175, 4, none⟩ = some (.int .i64 x176004_7) := (blk_cell BK175.out 4).trans rfl; have hfz75_0 := blk_frozen BK175.out 0; have hfz75_1 := blk_frozen BK175.out 1; have hfz75_2 := blk_frozen BK175.out 2; have hfz75_3 := blk_frozen BK175.out 3; have hfz75_4 := blk_frozen BK175.out 4) | (go_at_call 32; (with_reducible refine (geom_Raw.calls x176000_7 x176001_7 x176002_7 x176003_7 x176004_7 t182 _ A37.out).mono ?_); rintro e w76 ⟨rfl, hb⟩; have n0_ := Aside0.mk (blk_below (g := gb175) (o := .cells #[.int .i64 x176000_7, .int .i64 x176001_7, .int .i64 x176002_7, .int .i64 x176003_7, .int .i64 x176004_7] 23 (0, 0)) (by (with_reducible repeat (first | refine blk_drewN ?_ _ | refine blk_drew ?_ | refine blk_alloc ?_ _)); exact BK175.out) hb); have n1_ := Aside0.mk (below_step (by repeat (first | (with_reducible first | exact HB.out | apply below_alloc | apply pw_below_drewN | apply below_drew1 | refine below_set ?_ GE175.out) | exact HB.out)) hb); clear BK175; clear HB; have BK175 := n0_; have HB := n1_; clear n0_ n1_; (try clear hb); (try clear hb2); (try clear hk); (try clear hi); have hcz77_0 : w76.cell? ⟨gb175, 0, none⟩ = some (.int .i64 x176000_7) := (blk_cell BK175.out 0).trans rfl; have hcz77_1 : w76.cell? ⟨gb175, 1, none⟩ = some (.int .i64 x176001_7) := (blk_cell BK175.out 1).trans rfl; have hcz77_2 : w76.cell? ⟨gb175, 2, none⟩ = some (.int .i64 x176002_7) := (blk_cell BK175.out 2).trans rfl; have hcz77_3 : w76.cell? ⟨gb175, 3, none⟩ = some (.int .i64 x176003_7) := (blk_cell BK175.out 3).trans rfl; have hcz77_4 : w76.cell? ⟨gb175, 4, none⟩ = some (.int .i64 x176004_7) := (blk_cell BK175.out 4).trans rfl; have hfz77_0 := blk_frozen BK175.out 0; have hfz77_1 := blk_frozen BK175.out 1; have hfz77_2 := blk_frozen BK175.out 2; have hfz77_3 := blk_frozen BK175.out 3; have hfz77_4 := blk_frozen BK175.out 4) | (go_at_call 28; (with_reducible refine (geom_Bound.calls x176000_7 x176001_7 x176002_7 x176003_7 x176004_7 t183 _ A39.out).mono ?_); rintro e w78 ⟨rfl, hb⟩; have n0_ := Aside0.mk (blk_below (g := gb175) (o := .cells #[.int .i64 x176000_7, .int .i64 x176001_7, .int .i64 x176002_7, .int .i64 x176003_7, .int .i64 x176004_7] 23 (0, 0)) (by (with_reducible repeat (first | refine blk_drewN ?_ _ | refine blk_drew ?_ | refine blk_alloc ?_ _)); exact BK175.out) hb); have n1_ := Aside0.mk (below_step (by repeat (first | (with_reducible first | exact HB.out | apply below_alloc | apply pw_below_drewN | apply below_drew1 | refine below_set ?_ GE175.out) | exact HB.out)) hb); clear BK175; clear HB; have BK175 := n0_; have HB := n1_; clear n0_ n1_; (try clear hb); (try clear hb2); (try clear hk); (try clear hi); have hcz79_0 : w78.cell? ⟨gb175, 0, none⟩ = some (.int .i64 x176000_7) := (blk_cell BK175.out 0).trans rfl; have hcz79_1 : w78.cell? ⟨gb175, 1, none⟩ = some (.int .i64 x176001_7) := (blk_cell BK175.out 1).trans rfl; have hcz79_2 : w78.cell? ⟨gb175, 2, none⟩ = some (.int .i64 x176002_7) := (blk_cell BK175.out 2).trans rfl; have hcz79_3 : w78.cell? ⟨gb175, 3, none⟩ = some (.int .i64 x176003_7) := (blk_cell BK175.out 3).trans rfl; have hcz79_4 : w78.cell? ⟨gb175, 4, none⟩ = some (.int .i64 x176004_7) := (blk_cell BK175.out 4).trans rfl; have hfz79_0 := blk_frozen BK175.out 0; have hfz79_1 := blk_frozen BK175.out 1; have hfz79_2 := blk_frozen BK175.out 2; have hfz79_3 := blk_frozen BK175.out 3; have hfz79_4 := blk_frozen BK175.out 4) | (go_at_call 35; (with_reducible refine (geom_Slack.calls x176000_7 x176001_7 x176002_7 x176003_7 x176004_7 t184 _ A41.out).mono ?_); rintro e w80 ⟨rfl, hb⟩; have n0_ := Aside0.mk (blk_below (g := gb175) (o := .cells #[.int .i64 x176000_7, .int .i64 x176001_7, .int .i64 x176002_7, .int .i64 x176003_7, .int .i64 x176004_7] 23 (0, 0)) (by (with_reducible repeat (first | refine blk_drewN ?_ _ | refine blk_drew ?_ | refine blk_alloc ?_ _)); exact BK175.out) hb); have n1_ := Aside0.mk (below_step (by repeat (first | (with_reducible first | exact HB.out | apply below_alloc | apply pw_below_drewN | apply below_drew1 | refine below_set ?_ GE175.out) | exact HB.out)) hb); clear BK175; clear HB; have BK175 := n0_; have HB := n1_; clear n0_ n1_; (try clear hb); (try clear hb2); (try clear hk); (try clear hi)))
                  go_ret
                  exact ⟨by first | rfl | (simp [errW_none, errW_some] <;> rfl) | (simp [*, errW_none, errW_some] <;> rfl), by repeat (first | (with_reducible first | exact HB.out | apply below_alloc | apply pw_below_drewN | apply below_drew1 | refine below_set ?_ GE175.out) | exact HB.out)⟩
              · rw [if_neg c40] at H
                have c40b0 : (t183 == 0) = false := beq_eq_false_iff_ne.mpr c40
                have c40b1 : (t183 != 0) = true := bne_iff_ne.mpr c40
                obtain rfl := Option.some.inj H
                have hcz81_0 : wc.cell? ⟨gb175, 0, none⟩ = some (.int .i64 x176000_7) := (blk_cell BK175.out 0).trans rfl
                have hcz81_1 : wc.cell? ⟨gb175, 1, none⟩ = some (.int .i64 x176001_7) := (blk_cell BK175.out 1).trans rfl
                have hcz81_2 : wc.cell? ⟨gb175, 2, none⟩ = some (.int .i64 x176002_7) := (blk_cell BK175.out 2).trans rfl
                have hcz81_3 : wc.cell? ⟨gb175, 3, none⟩ = some (.int .i64 x176003_7) := (blk_cell BK175.out 3).trans rfl
                have hcz81_4 : wc.cell? ⟨gb175, 4, none⟩ = some (.int .i64 x176004_7) := (blk_cell BK175.out 4).trans rfl
                have hfz81_0 := blk_frozen BK175.out 0
                have hfz81_1 := blk_frozen BK175.out 1
                have hfz81_2 := blk_frozen BK175.out 2
                have hfz81_3 := blk_frozen BK175.out 3
                have hfz81_4 := blk_frozen BK175.out 4
                go_wp2_with (first | ((with_reducible refine gate_callee (f := 14) rfl ?_); refine goesL_ (some 65) rfl rfl Try.func14 (by kernel_rfl) rfl #[.agg #[.int .i64 x176000_7, .int .i64 x176001_7, .int .i64 x176002_7, .int .i64 x176003_7, .int .i64 x176004_7]] rfl (by (try simp only [List.map_toArray, List.map_cons, List.map_nil]); first | done | rfl | (simp only [List.length_drop, List.length_take]; rfl)) ?_; (with_reducible refine (geom_May.calls x176000_7 x176001_7 x176002_7 x176003_7 x176004_7 false _ A31.out).mono ?_); rintro e w82 ⟨rfl, hb⟩; refine ⟨_, rfl, ?_⟩; have n0_ := Aside0.mk (blk_below (g := gb175) (o := .cells #[.int .i64 x176000_7, .int .i64 x176001_7, .int .i64 x176002_7, .int .i64 x176003_7, .int .i64 x176004_7] 23 (0, 0)) (by (with_reducible repeat (first | refine blk_drewN ?_ _ | refine blk_drew ?_ | refine blk_alloc ?_ _)); exact BK175.out) hb); have n1_ := Aside0.mk (below_step (by repeat (first | (with_reducible first | exact HB.out | apply below_alloc | apply pw_below_drewN | apply below_drew1 | refine below_set ?_ GE175.out) | exact HB.out)) hb); clear BK175; clear HB; have BK175 := n0_; have HB := n1_; clear n0_ n1_; (try clear hb); (try clear hb2); (try clear hk); (try clear hi); have hcz83_0 : w82.cell? ⟨gb175, 0, none⟩ = some (.int .i64 x176000_7) := (blk_cell BK175.out 0).trans rfl; have hcz83_1 : w82.cell? ⟨gb175, 1, none⟩ = some (.int .i64 x176001_7) := (blk_cell BK175.out 1).trans rfl; have hcz83_2 : w82.cell? ⟨gb175, 2, none⟩ = some (.int .i64 x176002_7) := (blk_cell BK175.out 2).trans rfl; have hcz83_3 : w82.cell? ⟨gb175, 3, none⟩ = some (.int .i64 x176003_7) := (blk_cell BK175.out 3).trans rfl; have hcz83_4 : w82.cell? ⟨gb175, 4, none⟩ = some (.int .i64 x176004_7) := (blk_cell BK175.out 4).trans rfl; have hfz83_0 := blk_frozen BK175.out 0; have hfz83_1 := blk_frozen BK175.out 1; have hfz83_2 := blk_frozen BK175.out 2; have hfz83_3 := blk_frozen BK175.out 3; have hfz83_4 := blk_frozen BK175.out 4) | (go_at_call 16; (with_reducible refine (geom_Logical.calls x176000_7 x176001_7 x176002_7 x176003_7 x176004_7 t181 _ A35.out).mono ?_); rintro e w84 ⟨rfl, hb⟩; have n0_ := Aside0.mk (blk_below (g := gb175) (o := .cells #[.int .i64 x176000_7, .int .i64 x176001_7, .int .i64 x176002_7, .int .i64 x176003_7, .int .i64 x176004_7] 23 (0, 0)) (by (with_reducible repeat (first | refine blk_drewN ?_ _ | refine blk_drew ?_ | refine blk_alloc ?_ _)); exact BK175.out) hb); have n1_ := Aside0.mk (below_step (by repeat (first | (with_reducible first | exact HB.out | apply below_alloc | apply pw_below_drewN | apply below_drew1 | refine below_set ?_ GE175.out) | exact HB.out)) hb); clear BK175; clear HB; have BK175 := n0_; have HB := n1_; clear n0_ n1_; (try clear hb); (try clear hb2); (try clear hk); (try clear hi); have hcz85_0 : w84.cell? ⟨gb175, 0, none⟩ = some (.int .i64 x176000_7) := (blk_cell BK175.out 0).trans rfl; have hcz85_1 : w84.cell? ⟨gb175, 1, none⟩ = some (.int .i64 x176001_7) := (blk_cell BK175.out 1).trans rfl; have hcz85_2 : w84.cell? ⟨gb175, 2, none⟩ = some (.int .i64 x176002_7) := (blk_cell BK175.out 2).trans rfl; have hcz85_3 : w84.cell? ⟨gb175, 3, none⟩ = some (.int .i64 x176003_7) := (blk_cell BK175.out 3).trans rfl; have hcz85_4 : w84.cell? ⟨gb175, 4, none⟩ = some (.int .i64 x176004_7) := (blk_cell BK175.out 4).trans rfl; have hfz85_0 := blk_frozen BK175.out 0; have hfz85_1 := blk_frozen BK175.out 1; have hfz85_2 := blk_frozen BK175.out 2; have hfz85_3 := blk_frozen BK175.out 3; have hfz85_4 := blk_frozen BK175.out 4) | (go_at_call 32; (with_reducible refine (geom_Raw.calls x176000_7 x176001_7 x176002_7 x176003_7 x176004_7 t182 _ A37.out).mono ?_); rintro e w86 ⟨rfl, hb⟩; have n0_ := Aside0.mk (blk_below (g := gb175) (o := .cells #[.int .i64 x176000_7, .int .i64 x176001_7, .int .i64 x176002_7, .int .i64 x176003_7, .int .i64 x176004_7] 23 (0, 0)) (by (with_reducible repeat (first | refine blk_drewN ?_ _ | refine blk_drew ?_ | refine blk_alloc ?_ _)); exact BK175.out) hb); have n1_ := Aside0.mk (below_step (by repeat (first | (with_reducible first | exact HB.out | apply below_alloc | apply pw_below_drewN | apply below_drew1 | refine below_set ?_ GE175.out) | exact HB.out)) hb); clear BK175; clear HB; have BK175 := n0_; have HB := n1_; clear n0_ n1_; (try clear hb); (try clear hb2); (try clear hk); (try clear hi); have hcz87_0 : w86.cell? ⟨gb175, 0, none⟩ = some (.int .i64 x176000_7) := (blk_cell BK175.out 0).trans rfl; have hcz87_1 : w86.cell? ⟨gb175, 1, none⟩ = some (.int .i64 x176001_7) := (blk_cell BK175.out 1).trans rfl; have hcz87_2 : w86.cell? ⟨gb175, 2, none⟩ = some (.int .i64 x176002_7) := (blk_cell BK175.out 2).trans rfl; have hcz87_3 : w86.cell? ⟨gb175, 3, none⟩ = some (.int .i64 x176003_7) := (blk_cell BK175.out 3).trans rfl; have hcz87_4 : w86.cell? ⟨gb175, 4, none⟩ = some (.int .i64 x176004_7) := (blk_cell BK175.out 4).trans rfl; have hfz87_0 := blk_frozen BK175.out 0; have hfz87_1 := blk_frozen BK175.out 1; have hfz87_2 := blk_frozen BK175.out 2; have hfz87_3 := blk_frozen BK175.out 3; have hfz87_4 := blk_frozen BK175.out 4) | (go_at_call 28; (with_reducible refine (geom_Bound.calls x176000_7 x176001_7 x176002_7 x176003_7 x176004_7 t183 _ A39.out).mono ?_); rintro e w88 ⟨rfl, hb⟩; have n0_ := Aside0.mk (blk_below (g := gb175) (o := .cells #[.int .i64 x176000_7, .int .i64 x176001_7, .int .i64 x176002_7, .int .i64 x176003_7, .int .i64 x176004_7] 23 (0, 0)) (by (with_reducible repeat (first | refine blk_drewN ?_ _ | refine blk_drew ?_ | refine blk_alloc ?_ _)); exact BK175.out) hb); have n1_ := Aside0.mk (below_step (by repeat (first | (with_reducible first | exact HB.out | apply below_alloc | apply pw_below_drewN | apply below_drew1 | refine below_set ?_ GE175.out) | exact HB.out)) hb); clear BK175; clear HB; have BK175 := n0_; have HB := n1_; clear n0_ n1_; (try clear hb); (try clear hb2); (try clear hk); (try clear hi)))
                go_ret
                exact ⟨by first | rfl | (simp [errW_none, errW_some] <;> rfl) | (simp [*, errW_none, errW_some] <;> rfl), by repeat (first | (with_reducible first | exact HB.out | apply below_alloc | apply pw_below_drewN | apply below_drew1 | refine below_set ?_ GE175.out) | exact HB.out)⟩
            · rw [if_neg c38] at H
              have c38b0 : (t182 == 0) = false := beq_eq_false_iff_ne.mpr c38
              have c38b1 : (t182 != 0) = true := bne_iff_ne.mpr c38
              obtain rfl := Option.some.inj H
              have hcz89_0 : wc.cell? ⟨gb175, 0, none⟩ = some (.int .i64 x176000_7) := (blk_cell BK175.out 0).trans rfl
              have hcz89_1 : wc.cell? ⟨gb175, 1, none⟩ = some (.int .i64 x176001_7) := (blk_cell BK175.out 1).trans rfl
              have hcz89_2 : wc.cell? ⟨gb175, 2, none⟩ = some (.int .i64 x176002_7) := (blk_cell BK175.out 2).trans rfl
              have hcz89_3 : wc.cell? ⟨gb175, 3, none⟩ = some (.int .i64 x176003_7) := (blk_cell BK175.out 3).trans rfl
              have hcz89_4 : wc.cell? ⟨gb175, 4, none⟩ = some (.int .i64 x176004_7) := (blk_cell BK175.out 4).trans rfl
              have hfz89_0 := blk_frozen BK175.out 0
              have hfz89_1 := blk_frozen BK175.out 1
              have hfz89_2 := blk_frozen BK175.out 2
              have hfz89_3 := blk_frozen BK175.out 3
              have hfz89_4 := blk_frozen BK175.out 4
              go_wp2_with (first | ((with_reducible refine gate_callee (f := 14) rfl ?_); refine goesL_ (some 65) rfl rfl Try.func14 (by kernel_rfl) rfl #[.agg #[.int .i64 x176000_7, .int .i64 x176001_7, .int .i64 x176002_7, .int .i64 x176003_7, .int .i64 x176004_7]] rfl (by (try simp only [List.map_toArray, List.map_cons, List.map_nil]); first | done | rfl | (simp only [List.length_drop, List.length_take]; rfl)) ?_; (with_reducible refine (geom_May.calls x176000_7 x176001_7 x176002_7 x176003_7 x176004_7 false _ A31.out).mono ?_); rintro e w90 ⟨rfl, hb⟩; refine ⟨_, rfl, ?_⟩; have n0_ := Aside0.mk (blk_below (g := gb175) (o := .cells #[.int .i64 x176000_7, .int .i64 x176001_7, .int .i64 x176002_7, .int .i64 x176003_7, .int .i64 x176004_7] 23 (0, 0)) (by (with_reducible repeat (first | refine blk_drewN ?_ _ | refine blk_drew ?_ | refine blk_alloc ?_ _)); exact BK175.out) hb); have n1_ := Aside0.mk (below_step (by repeat (first | (with_reducible first | exact HB.out | apply below_alloc | apply pw_below_drewN | apply below_drew1 | refine below_set ?_ GE175.out) | exact HB.out)) hb); clear BK175; clear HB; have BK175 := n0_; have HB := n1_; clear n0_ n1_; (try clear hb); (try clear hb2); (try clear hk); (try clear hi); have hcz91_0 : w90.cell? ⟨gb175, 0, none⟩ = some (.int .i64 x176000_7) := (blk_cell BK175.out 0).trans rfl; have hcz91_1 : w90.cell? ⟨gb175, 1, none⟩ = some (.int .i64 x176001_7) := (blk_cell BK175.out 1).trans rfl; have hcz91_2 : w90.cell? ⟨gb175, 2, none⟩ = some (.int .i64 x176002_7) := (blk_cell BK175.out 2).trans rfl; have hcz91_3 : w90.cell? ⟨gb175, 3, none⟩ = some (.int .i64 x176003_7) := (blk_cell BK175.out 3).trans rfl; have hcz91_4 : w90.cell? ⟨gb175, 4, none⟩ = some (.int .i64 x176004_7) := (blk_cell BK175.out 4).trans rfl; have hfz91_0 := blk_frozen BK175.out 0; have hfz91_1 := blk_frozen BK175.out 1; have hfz91_2 := blk_frozen BK175.out 2; have hfz91_3 := blk_frozen BK175.out 3; have hfz91_4 := blk_frozen BK175.out 4) | (go_at_call 16; (with_reducible refine (geom_Logical.calls x176000_7 x176001_7 x176002_7 x176003_7 x176004_7 t181 _ A35.out).mono ?_); rintro e w92 ⟨rfl, hb⟩; have n0_ := Aside0.mk (blk_below (g := gb175) (o := .cells #[.int .i64 x176000_7, .int .i64 x176001_7, .int .i64 x176002_7, .int .i64 x176003_7, .int .i64 x176004_7] 23 (0, 0)) (by (with_reducible repeat (first | refine blk_drewN ?_ _ | refine blk_drew ?_ | refine blk_alloc ?_ _)); exact BK175.out) hb); have n1_ := Aside0.mk (below_step (by repeat (first | (with_reducible first | exact HB.out | apply below_alloc | apply pw_below_drewN | apply below_drew1 | refine below_set ?_ GE175.out) | exact HB.out)) hb); clear BK175; clear HB; have BK175 := n0_; have HB := n1_; clear n0_ n1_; (try clear hb); (try clear hb2); (try clear hk); (try clear hi); have hcz93_0 : w92.cell? ⟨gb175, 0, none⟩ = some (.int .i64 x176000_7) := (blk_cell BK175.out 0).trans rfl; have hcz93_1 : w92.cell? ⟨gb175, 1, none⟩ = some (.int .i64 x176001_7) := (blk_cell BK175.out 1).trans rfl; have hcz93_2 : w92.cell? ⟨gb175, 2, none⟩ = some (.int .i64 x176002_7) := (blk_cell BK175.out 2).trans rfl; have hcz93_3 : w92.cell? ⟨gb175, 3, none⟩ = some (.int .i64 x176003_7) := (blk_cell BK175.out 3).trans rfl; have hcz93_4 : w92.cell? ⟨gb175, 4, none⟩ = some (.int .i64 x176004_7) := (blk_cell BK175.out 4).trans rfl; have hfz93_0 := blk_frozen BK175.out 0; have hfz93_1 := blk_frozen BK175.out 1; have hfz93_2 := blk_frozen BK175.out 2; have hfz93_3 := blk_frozen BK175.out 3; have hfz93_4 := blk_frozen BK175.out 4) | (go_at_call 32; (with_reducible refine (geom_Raw.calls x176000_7 x176001_7 x176002_7 x176003_7 x176004_7 t182 _ A37.out).mono ?_); rintro e w94 ⟨rfl, hb⟩; have n0_ := Aside0.mk (blk_below (g := gb175) (o := .cells #[.int .i64 x176000_7, .int .i64 x176001_7, .int .i64 x176002_7, .int .i64 x176003_7, .int .i64 x176004_7] 23 (0, 0)) (by (with_reducible repeat (first | refine blk_drewN ?_ _ | refine blk_drew ?_ | refine blk_alloc ?_ _)); exact BK175.out) hb); have n1_ := Aside0.mk (below_step (by repeat (first | (with_reducible first | exact HB.out | apply below_alloc | apply pw_below_drewN | apply below_drew1 | refine below_set ?_ GE175.out) | exact HB.out)) hb); clear BK175; clear HB; have BK175 := n0_; have HB := n1_; clear n0_ n1_; (try clear hb); (try clear hb2); (try clear hk); (try clear hi)))
              go_ret
              exact ⟨by first | rfl | (simp [errW_none, errW_some] <;> rfl) | (simp [*, errW_none, errW_some] <;> rfl), by repeat (first | (with_reducible first | exact HB.out | apply below_alloc | apply pw_below_drewN | apply below_drew1 | refine below_set ?_ GE175.out) | exact HB.out)⟩
          · rw [if_neg c36] at H
            have c36b0 : (t181 == 0) = false := beq_eq_false_iff_ne.mpr c36
            have c36b1 : (t181 != 0) = true := bne_iff_ne.mpr c36
            obtain rfl := Option.some.inj H
            have hcz95_0 : wc.cell? ⟨gb175, 0, none⟩ = some (.int .i64 x176000_7) := (blk_cell BK175.out 0).trans rfl
            have hcz95_1 : wc.cell? ⟨gb175, 1, none⟩ = some (.int .i64 x176001_7) := (blk_cell BK175.out 1).trans rfl
            have hcz95_2 : wc.cell? ⟨gb175, 2, none⟩ = some (.int .i64 x176002_7) := (blk_cell BK175.out 2).trans rfl
            have hcz95_3 : wc.cell? ⟨gb175, 3, none⟩ = some (.int .i64 x176003_7) := (blk_cell BK175.out 3).trans rfl
            have hcz95_4 : wc.cell? ⟨gb175, 4, none⟩ = some (.int .i64 x176004_7) := (blk_cell BK175.out 4).trans rfl
            have hfz95_0 := blk_frozen BK175.out 0
            have hfz95_1 := blk_frozen BK175.out 1
            have hfz95_2 := blk_frozen BK175.out 2
            have hfz95_3 := blk_frozen BK175.out 3
            have hfz95_4 := blk_frozen BK175.out 4
            go_wp2_with (first | ((with_reducible refine gate_callee (f := 14) rfl ?_); refine goesL_ (some 65) rfl rfl Try.func14 (by kernel_rfl) rfl #[.agg #[.int .i64 x176000_7, .int .i64 x176001_7, .int .i64 x176002_7, .int .i64 x176003_7, .int .i64 x176004_7]] rfl (by (try simp only [List.map_toArray, List.map_cons, List.map_nil]); first | done | rfl | (simp only [List.length_drop, List.length_take]; rfl)) ?_; (with_reducible refine (geom_May.calls x176000_7 x176001_7 x176002_7 x176003_7 x176004_7 false _ A31.out).mono ?_); rintro e w96 ⟨rfl, hb⟩; refine ⟨_, rfl, ?_⟩; have n0_ := Aside0.mk (blk_below (g := gb175) (o := .cells #[.int .i64 x176000_7, .int .i64 x176001_7, .int .i64 x176002_7, .int .i64 x176003_7, .int .i64 x176004_7] 23 (0, 0)) (by (with_reducible repeat (first | refine blk_drewN ?_ _ | refine blk_drew ?_ | refine blk_alloc ?_ _)); exact BK175.out) hb); have n1_ := Aside0.mk (below_step (by repeat (first | (with_reducible first | exact HB.out | apply below_alloc | apply pw_below_drewN | apply below_drew1 | refine below_set ?_ GE175.out) | exact HB.out)) hb); clear BK175; clear HB; have BK175 := n0_; have HB := n1_; clear n0_ n1_; (try clear hb); (try clear hb2); (try clear hk); (try clear hi); have hcz97_0 : w96.cell? ⟨gb175, 0, none⟩ = some (.int .i64 x176000_7) := (blk_cell BK175.out 0).trans rfl; have hcz97_1 : w96.cell? ⟨gb175, 1, none⟩ = some (.int .i64 x176001_7) := (blk_cell BK175.out 1).trans rfl; have hcz97_2 : w96.cell? ⟨gb175, 2, none⟩ = some (.int .i64 x176002_7) := (blk_cell BK175.out 2).trans rfl; have hcz97_3 : w96.cell? ⟨gb175, 3, none⟩ = some (.int .i64 x176003_7) := (blk_cell BK175.out 3).trans rfl; have hcz97_4 : w96.cell? ⟨gb175, 4, none⟩ = some (.int .i64 x176004_7) := (blk_cell BK175.out 4).trans rfl; have hfz97_0 := blk_frozen BK175.out 0; have hfz97_1 := blk_frozen BK175.out 1; have hfz97_2 := blk_frozen BK175.out 2; have hfz97_3 := blk_frozen BK175.out 3; have hfz97_4 := blk_frozen BK175.out 4) | (go_at_call 16; (with_reducible refine (geom_Logical.calls x176000_7 x176001_7 x176002_7 x176003_7 x176004_7 t181 _ A35.out).mono ?_); rintro e w98 ⟨rfl, hb⟩; have n0_ := Aside0.mk (blk_below (g := gb175) (o := .cells #[.int .i64 x176000_7, .int .i64 x176001_7, .int .i64 x176002_7, .int .i64 x176003_7, .int .i64 x176004_7] 23 (0, 0)) (by (with_reducible repeat (first | refine blk_drewN ?_ _ | refine blk_drew ?_ | refine blk_alloc ?_ _)); exact BK175.out) hb); have n1_ := Aside0.mk (below_step (by repeat (first | (with_reducible first | exact HB.out | apply below_alloc | apply pw_below_drewN | apply below_drew1 | refine below_set ?_ GE175.out) | exact HB.out)) hb); clear BK175; clear HB; have BK175 := n0_; have HB := n1_; clear n0_ n1_; (try clear hb); (try clear hb2); (try clear hk); (try clear hi)))
            go_ret
            exact ⟨by first | rfl | (simp [errW_none, errW_some] <;> rfl) | (simp [*, errW_none, errW_some] <;> rfl), by repeat (first | (with_reducible first | exact HB.out | apply below_alloc | apply pw_below_drewN | apply below_drew1 | refine below_set ?_ GE175.out) | exact HB.out)⟩
  · replace c5 := Bool.eq_false_iff.mpr c5
    subst c5
    have H1 : ((jotterlaw5_awake.f).bind fun t177 => (some t177)) = some r := by rw [if_neg (show ¬ (false = true) by decide)] at H; exact H
    clear H
    have H := H1
    clear H1
    replace H := Option.bind_eq_some_iff.mp H
    obtain ⟨t177, A990, H⟩ := H
    replace H : (some t177) = some r := H
    have A99 := Aside0.mk A990
    clear A990
    obtain rfl := Option.some.inj H
    go_enter Try.func10, Try.ntmps10
    go_wp2_with (first | ((with_reducible refine gate_dst (N := 3) rfl ?_); refine box_event ?hg (N := 3) ?hd (cs := #[.int .i64 a0_0, .int .i64 a0_1, .int .i64 a0_2, .int .i64 a0_3, .int .i64 a0_4]) (t := 23) ?hr ?_; (case hd => rfl); (case hg => rfl); (case hr => first | (go_simp; done) | (go_simp; rfl)); intro gb175 hg w100 hbox hb; have n0_ := Aside0.mk (below_step (by repeat (first | (with_reducible first | exact HB.out | apply below_alloc | apply pw_below_drewN | apply below_drew1) | exact HB.out)) hb); have n1_ := Aside0.mk (hbox); have n2_ := Aside0.mk ((by rw [hg]; exact (below_size (by repeat (first | (with_reducible first | exact HB.out | apply below_alloc | apply pw_below_drewN | apply below_drew1) | exact HB.out))) : w.heap.size ≤ gb175)); have n3_ := Aside0.mk ((by rw [hg]; exact (below_size (by repeat (first | (with_reducible first | exact HB.out | apply below_alloc | apply pw_below_drewN | apply below_drew1) | exact HB.out))) : w.heap.size ≤ gb175)); clear HB; have HB := n0_; have BK175 := n1_; have GW175 := n2_; have GE175 := n3_; clear n0_ n1_ n2_ n3_; clear hb hbox hg; have hcz101_0 : w100.cell? ⟨gb175, 0, none⟩ = some (.int .i64 a0_0) := (blk_cell BK175.out 0).trans rfl; have hcz101_1 : w100.cell? ⟨gb175, 1, none⟩ = some (.int .i64 a0_1) := (blk_cell BK175.out 1).trans rfl; have hcz101_2 : w100.cell? ⟨gb175, 2, none⟩ = some (.int .i64 a0_2) := (blk_cell BK175.out 2).trans rfl; have hcz101_3 : w100.cell? ⟨gb175, 3, none⟩ = some (.int .i64 a0_3) := (blk_cell BK175.out 3).trans rfl; have hcz101_4 : w100.cell? ⟨gb175, 4, none⟩ = some (.int .i64 a0_4) := (blk_cell BK175.out 4).trans rfl; have hfz101_0 := blk_frozen BK175.out 0; have hfz101_1 := blk_frozen BK175.out 1; have hfz101_2 := blk_frozen BK175.out 2; have hfz101_3 := blk_frozen BK175.out 3; have hfz101_4 := blk_frozen BK175.out 4) | ((with_reducible refine gate_callee (f := 14) rfl ?_); refine goesL_ (some 8) rfl rfl Try.func14 (by kernel_rfl) rfl #[.agg #[.int .i64 a0_0, .int .i64 a0_1, .int .i64 a0_2, .int .i64 a0_3, .int .i64 a0_4]] rfl (by (try simp only [List.map_toArray, List.map_cons, List.map_nil]); first | done | rfl | (simp only [List.length_drop, List.length_take]; rfl)) ?_; (with_reducible refine (geom_May.calls a0_0 a0_1 a0_2 a0_3 a0_4 false _ A4.out).mono ?_); rintro e w102 ⟨rfl, hb⟩; refine ⟨_, rfl, ?_⟩; have n0_ := Aside0.mk (blk_below (g := gb175) (o := .cells #[.int .i64 a0_0, .int .i64 a0_1, .int .i64 a0_2, .int .i64 a0_3, .int .i64 a0_4] 23 (0, 0)) (by (with_reducible repeat (first | refine blk_drewN ?_ _ | refine blk_drew ?_ | refine blk_alloc ?_ _)); exact BK175.out) hb); have n1_ := Aside0.mk (below_step (by repeat (first | (with_reducible first | exact HB.out | apply below_alloc | apply pw_below_drewN | apply below_drew1 | refine below_set ?_ GE175.out) | exact HB.out)) hb); clear BK175; clear HB; have BK175 := n0_; have HB := n1_; clear n0_ n1_; (try clear hb); (try clear hb2); (try clear hk); (try clear hi)) | ((with_reducible refine gate_callee (f := 17) rfl ?_); refine goesL_ (some 10) rfl rfl Try.func17 (by kernel_rfl) rfl #[] rfl (by (try simp only [List.map_toArray, List.map_cons, List.map_nil]); first | done | rfl | (simp only [List.length_drop, List.length_take]; rfl)) ?_; (with_reducible refine (jotterlaw5_awake.calls  t177 _ A99.out).mono ?_); rintro e w103 ⟨rfl, hb⟩; refine ⟨_, rfl, ?_⟩; have n0_ := Aside0.mk (blk_below (g := gb175) (o := .cells #[.int .i64 a0_0, .int .i64 a0_1, .int .i64 a0_2, .int .i64 a0_3, .int .i64 a0_4] 23 (0, 0)) (by (with_reducible repeat (first | refine blk_drewN ?_ _ | refine blk_drew ?_ | refine blk_alloc ?_ _)); exact BK175.out) hb); have n1_ := Aside0.mk (below_step (by repeat (first | (with_reducible first | exact HB.out | apply below_alloc | apply pw_below_drewN | apply below_drew1 | refine below_set ?_ GE175.out) | exact HB.out)) hb); clear BK175; clear HB; have BK175 := n0_; have HB := n1_; clear n0_ n1_; (try clear hb); (try clear hb2); (try clear hk); (try clear hi)))
    go_ret
    exact ⟨by first | rfl | (simp [errW_none, errW_some] <;> rfl) | (simp [*, errW_none, errW_some] <;> rfl), by repeat (first | (with_reducible first | exact HB.out | apply below_alloc | apply pw_below_drewN | apply below_drew1 | refine below_set ?_ GE175.out) | exact HB.out)⟩

end Go.Proofs.Ytmpbedjbimimoaa.PGeomLow
