/- Contracts of Go functions of this seat, laid by a program of this session out of the translation. No condition. -/
import Derived.Test.YtjagkehablfmkaaPVictimShiftsx0
import Derived.Test.YtjagkehablfmkaaPVictimShiftsx1
import Derived.Test.YtjagkehablfmkaaPVictimShiftsx2
namespace Go.Proofs.Ytjagkehablfmkaa.PVictimShifts
open Go.RowKit Go.Proofs.YtjagkehablfmkaaW.PrintWords Go.Proofs.YtjagkehablfmkaaW.PrintLast Go.Proofs.YtjagkehablfmkaaW.PrintMore
attribute [local go_sem] max2_int min2_int max_two min_two max_three min_three max_four min_four   -- for this text's walks alone
set_option linter.unusedVariables false
set_option linter.unusedSimpArgs false

/-! ### jotterlaw12_VictimShifts: function 8 -/
mutual
def jotterlaw12_VictimShifts.j0 : Nat → List Int → List Int → List Bool → Int → Int → Bool → Option (Bool)
  | 0, _, _, _, _, _, _ => none
  | k + 1, x0, x1, x2, x3, x4, x27 => if x27 = true then ((jotterlaw12_awake.f k).bind fun t156 => (some t156)) else (if 0 ≤ (mn (mn (x0.length : Int) (x1.length : Int)) (x2.length : Int)) then (if (mn (mn (x0.length : Int) (x1.length : Int)) (x2.length : Int)) ≤ (x0.length : Int) then ((jotterlaw12_low.f k (x0.take ((mn (mn (x0.length : Int) (x1.length : Int)) (x2.length : Int)) : Int).toNat) 9).bind fun t158 => (if (mn (mn (x0.length : Int) (x1.length : Int)) (x2.length : Int)) ≤ (x1.length : Int) then ((jotterlaw12_low.f k (x1.take ((mn (mn (x0.length : Int) (x1.length : Int)) (x2.length : Int)) : Int).toNat) 1000).bind fun t162 => ((jotterlaw0_Low.f x3 1000).bind fun t165 => (if (mn (mn (x0.length : Int) (x1.length : Int)) (x2.length : Int)) ≤ (x2.length : Int) then (jotterlaw12_VictimShifts.l0 k t158 t162 (x2.take ((mn (mn (x0.length : Int) (x1.length : Int)) (x2.length : Int)) : Int).toNat) t165 x4 (mn (mn (x0.length : Int) (x1.length : Int)) (x2.length : Int)) ([] : List Int) ([] : List Int) 0) else (none)))) else (none))) else (none)) else (none))
def jotterlaw12_VictimShifts.l0 : Nat → List Int → List Int → List Bool → Int → Int → Int → List Int → List Int → Int → Option (Bool)
  | 0, _, _, _, _, _, _, _, _, _ => none
  | k + 1, x0, x1, x2, x3, x4, x11, x12, x13, x14 => if x14 < x11 then (if 0 ≤ x14 then (if x14 < (x0.length : Int) then ((some (([wrap64 ((rd x0 x14) + 1)] : List Int) : List Int)).bind fun y168 => (if x12.length + y168.length < 17592186044416 then (if x14 < (x1.length : Int) then ((some (([wrap64 ((rd x1 x14) + x3)] : List Int) : List Int)).bind fun y175 => (if x13.length + y175.length < 17592186044416 then (jotterlaw12_VictimShifts.l0 k x0 x1 x2 x3 x4 x11 (x12 ++ y168) (x13 ++ y175) (wrap64 (x14 + 1))) else (none))) else (none)) else (none))) else (none)) else (none)) else ((victim_Pick.f k x12 x13 x2).bind fun t181 => ((victim_Pick.f k x0 x1 x2).bind fun t182 => (if t181 = t182 then ((victim_Free.f k x13 x2).bind fun t183 => ((victim_Free.f k x1 x2).bind fun t184 => (if t183 = t184 then ((victim_Cold.f k x12 x13 x2 7).bind fun t185 => ((victim_Cold.f k x12 x1 x2 7).bind fun t186 => (jotterlaw12_VictimShifts.j2 k x0 x1 x2 x4 x11 x12 x13 (t185 != t186)))) else (jotterlaw12_VictimShifts.j2 k x0 x1 x2 x4 x11 x12 x13 true)))) else (jotterlaw12_VictimShifts.j2 k x0 x1 x2 x4 x11 x12 x13 true))))
def jotterlaw12_VictimShifts.j2 : Nat → List Int → List Int → List Bool → Int → Int → List Int → List Int → Bool → Option (Bool)
  | 0, _, _, _, _, _, _, _, _ => none
  | k + 1, x0, x1, x2, x4, x11, x12, x13, x99 => if x99 = true then (some false) else (if x11 = 0 then ((victim_Pick.f k x0 x1 x2).bind fun t187 => (if t187 = (-1) then ((jotterlaw12_awake.f k).bind fun t188 => (some t188)) else (some false))) else ((jotterlaw0_Low.f x4 x11).bind fun t189 => (if 0 ≤ t189 then (if t189 < (x12.length : Int) then ((some (x12.set (t189 : Int).toNat 0 : List Int)).bind fun y190 => (if t189 < (x2.length : Int) then (if rdOf false x2 t189 = true then ((victim_Pick.f k y190 x13 x2).bind fun t192 => (if t192 = t189 then ((jotterlaw12_awake.f k).bind fun t194 => (some t194)) else (some false))) else ((victim_Pick.f k y190 x13 x2).bind fun t196 => (if t196 = t189 then (some false) else ((jotterlaw12_awake.f k).bind fun t197 => (some t197))))) else (none))) else (none)) else (none))))
end
def jotterlaw12_VictimShifts.f (k : Nat) (l0 : List Int) (l1 : List Int) (l2 : List Bool) (a3 : Int) (a4 : Int) : Option (Bool) := if (l0.length : Int) > 40 then (jotterlaw12_VictimShifts.j0 k l0 l1 l2 a3 a4 true) else (if (l1.length : Int) > 40 then (jotterlaw12_VictimShifts.j0 k l0 l1 l2 a3 a4 true) else (jotterlaw12_VictimShifts.j0 k l0 l1 l2 a3 a4 (decide ((l2.length : Int) > 40))))
theorem jotterlaw12_VictimShifts.mono_l : ∀ k, (∀ y0 y1 y2 y3 y4 y5, LeO (jotterlaw12_VictimShifts.j0 k y0 y1 y2 y3 y4 y5) (jotterlaw12_VictimShifts.j0 (k + 1) y0 y1 y2 y3 y4 y5)) ∧ (∀ y0 y1 y2 y3 y4 y5 y6 y7 y8, LeO (jotterlaw12_VictimShifts.l0 k y0 y1 y2 y3 y4 y5 y6 y7 y8) (jotterlaw12_VictimShifts.l0 (k + 1) y0 y1 y2 y3 y4 y5 y6 y7 y8)) ∧ (∀ y0 y1 y2 y3 y4 y5 y6 y7, LeO (jotterlaw12_VictimShifts.j2 k y0 y1 y2 y3 y4 y5 y6 y7) (jotterlaw12_VictimShifts.j2 (k + 1) y0 y1 y2 y3 y4 y5 y6 y7))
  | 0 => ⟨fun _ _ _ _ _ _ r h => by simp [jotterlaw12_VictimShifts.j0] at h, fun _ _ _ _ _ _ _ _ _ r h => by simp [jotterlaw12_VictimShifts.l0] at h, fun _ _ _ _ _ _ _ _ r h => by simp [jotterlaw12_VictimShifts.j2] at h⟩
  | k + 1 => by
    obtain ⟨ih0, ih1, ih2⟩ := jotterlaw12_VictimShifts.mono_l k
    refine ⟨?_, ?_, ?_⟩
    · intro y0 y1 y2 y3 y4 y5
      unfold jotterlaw12_VictimShifts.j0
      repeat' first
      | (with_reducible exact ih0 _ _ _ _ _ _)
      | (with_reducible exact ih1 _ _ _ _ _ _ _ _ _)
      | (with_reducible exact ih2 _ _ _ _ _ _ _ _)
      | (with_reducible exact jotterlaw12_awake.mono _)
      | (with_reducible exact jotterlaw12_low.mono _ _ _)
      | (with_reducible exact victim_Cold.mono _ _ _ _ _)
      | (with_reducible exact victim_Free.mono _ _ _)
      | (with_reducible exact victim_Pick.mono _ _ _ _)
      | (with_reducible exact LeO.refl _)
      | (with_reducible exact LeO.none _)
      | (with_reducible refine LeO.ite ?_ ?_)
      | (with_reducible refine LeO.bind ?_ (fun _ => ?_))
      | exact ih0 _ _ _ _ _ _
      | exact ih1 _ _ _ _ _ _ _ _ _
      | exact ih2 _ _ _ _ _ _ _ _
      | exact jotterlaw12_awake.mono _
      | exact jotterlaw12_low.mono _ _ _
      | exact victim_Cold.mono _ _ _ _ _
      | exact victim_Free.mono _ _ _
      | exact victim_Pick.mono _ _ _ _
      | exact LeO.none _
      | refine LeO.ite ?_ ?_
      | refine LeO.bind ?_ (fun _ => ?_)
    · intro y0 y1 y2 y3 y4 y5 y6 y7 y8
      unfold jotterlaw12_VictimShifts.l0
      repeat' first
      | (with_reducible exact ih0 _ _ _ _ _ _)
      | (with_reducible exact ih1 _ _ _ _ _ _ _ _ _)
      | (with_reducible exact ih2 _ _ _ _ _ _ _ _)
      | (with_reducible exact jotterlaw12_awake.mono _)
      | (with_reducible exact jotterlaw12_low.mono _ _ _)
      | (with_reducible exact victim_Cold.mono _ _ _ _ _)
      | (with_reducible exact victim_Free.mono _ _ _)
      | (with_reducible exact victim_Pick.mono _ _ _ _)
      | (with_reducible exact LeO.refl _)
      | (with_reducible exact LeO.none _)
      | (with_reducible refine LeO.ite ?_ ?_)
      | (with_reducible refine LeO.bind ?_ (fun _ => ?_))
      | exact ih0 _ _ _ _ _ _
      | exact ih1 _ _ _ _ _ _ _ _ _
      | exact ih2 _ _ _ _ _ _ _ _
      | exact jotterlaw12_awake.mono _
      | exact jotterlaw12_low.mono _ _ _
      | exact victim_Cold.mono _ _ _ _ _
      | exact victim_Free.mono _ _ _
      | exact victim_Pick.mono _ _ _ _
      | exact LeO.none _
      | refine LeO.ite ?_ ?_
      | refine LeO.bind ?_ (fun _ => ?_)
    · intro y0 y1 y2 y3 y4 y5 y6 y7
      unfold jotterlaw12_VictimShifts.j2
      repeat' first
      | (with_reducible exact ih0 _ _ _ _ _ _)
      | (with_reducible exact ih1 _ _ _ _ _ _ _ _ _)
      | (with_reducible exact ih2 _ _ _ _ _ _ _ _)
      | (with_reducible exact jotterlaw12_awake.mono _)
      | (with_reducible exact jotterlaw12_low.mono _ _ _)
      | (with_reducible exact victim_Cold.mono _ _ _ _ _)
      | (with_reducible exact victim_Free.mono _ _ _)
      | (with_reducible exact victim_Pick.mono _ _ _ _)
      | (with_reducible exact LeO.refl _)
      | (with_reducible exact LeO.none _)
      | (with_reducible refine LeO.ite ?_ ?_)
      | (with_reducible refine LeO.bind ?_ (fun _ => ?_))
      | exact ih0 _ _ _ _ _ _
      | exact ih1 _ _ _ _ _ _ _ _ _
      | exact ih2 _ _ _ _ _ _ _ _
      | exact jotterlaw12_awake.mono _
      | exact jotterlaw12_low.mono _ _ _
      | exact victim_Cold.mono _ _ _ _ _
      | exact victim_Free.mono _ _ _
      | exact victim_Pick.mono _ _ _ _
      | exact LeO.none _
      | refine LeO.ite ?_ ?_
      | refine LeO.bind ?_ (fun _ => ?_)
theorem jotterlaw12_VictimShifts.mono : ∀ a0 a1 a2 a3 a4 k, LeO (jotterlaw12_VictimShifts.f k a0 a1 a2 a3 a4) (jotterlaw12_VictimShifts.f (k + 1) a0 a1 a2 a3 a4) := by
  intro a0 a1 a2 a3 a4 k
  obtain ⟨ih0, ih1, ih2⟩ := jotterlaw12_VictimShifts.mono_l k
  unfold jotterlaw12_VictimShifts.f
  repeat' first
      | (with_reducible exact ih0 _ _ _ _ _ _)
      | (with_reducible exact ih1 _ _ _ _ _ _ _ _ _)
      | (with_reducible exact ih2 _ _ _ _ _ _ _ _)
      | (with_reducible exact jotterlaw12_awake.mono _)
      | (with_reducible exact jotterlaw12_low.mono _ _ _)
      | (with_reducible exact victim_Cold.mono _ _ _ _ _)
      | (with_reducible exact victim_Free.mono _ _ _)
      | (with_reducible exact victim_Pick.mono _ _ _ _)
      | (with_reducible exact LeO.refl _)
      | (with_reducible exact LeO.none _)
      | (with_reducible refine LeO.ite ?_ ?_)
      | (with_reducible refine LeO.bind ?_ (fun _ => ?_))
      | exact ih0 _ _ _ _ _ _
      | exact ih1 _ _ _ _ _ _ _ _ _
      | exact ih2 _ _ _ _ _ _ _ _
      | exact jotterlaw12_awake.mono _
      | exact jotterlaw12_low.mono _ _ _
      | exact victim_Cold.mono _ _ _ _ _
      | exact victim_Free.mono _ _ _
      | exact victim_Pick.mono _ _ _ _
      | exact LeO.none _
      | refine LeO.ite ?_ ?_
      | refine LeO.bind ?_ (fun _ => ?_)
def jotterlaw12_VictimShifts.T4 : Bool × List (List Nat × List Nat) := (true, [([], []), ([], []), ([0, 1], [0, 1]), ([2], [2]), ([], []), ([], []), ([4, 5], [4, 5]), ([6, 3], [6]), ([], []), ([8, 7], [8]), ([3, 9, 0, 1, 2, 3], [0, 3]), ([7, 10, 0, 1, 2, 3, 4, 5, 6, 7, 10], [4, 7]), ([9, 11, 0, 1, 2, 3, 4, 5, 6, 7, 8, 9, 10, 11], [8, 9])])
def jotterlaw12_VictimShifts.B4 : List Nat := [0, 0, 3, 7, 0, 0, 48, 127, 0, 511, 1023, 2047, 4095]
theorem jotterlaw12_VictimShifts.tab4 : rtab .any (opsOf Try.f8 4) = jotterlaw12_VictimShifts.T4 := by kernel_rfl
theorem jotterlaw12_VictimShifts.bits4 : waitsOk jotterlaw12_VictimShifts.T4.2 jotterlaw12_VictimShifts.B4 = true := by kernel_rfl
def jotterlaw12_VictimShifts.T10 : Bool × List (List Nat × List Nat) := (true, [([], []), ([], []), ([], []), ([1, 2], [1, 2]), ([3], [3]), ([4], [4]), ([5], [5]), ([0, 6], [0, 6]), ([], []), ([], []), ([], []), ([9, 10], [9, 10]), ([11], [11]), ([], []), ([12, 13], [12, 13]), ([14], [14]), ([8, 15, 7], [8, 15]), ([7, 16, 0, 1, 2, 3, 4, 5, 6, 7], [0, 7]), ([16, 17, 0, 1, 2, 3, 4, 5, 6, 7, 8, 9, 10, 11, 12, 13, 14, 15, 16, 17], [8, 16])])
def jotterlaw12_VictimShifts.B10 : List Nat := [0, 0, 0, 6, 14, 30, 62, 127, 0, 0, 0, 1536, 3584, 0, 15872, 32256, 65535, 131071, 262143]
theorem jotterlaw12_VictimShifts.tab10 : rtab .any (opsOf Try.f8 10) = jotterlaw12_VictimShifts.T10 := by kernel_rfl
theorem jotterlaw12_VictimShifts.bits10 : waitsOk jotterlaw12_VictimShifts.T10.2 jotterlaw12_VictimShifts.B10 = true := by kernel_rfl
set_option maxHeartbeats 8000000 in
set_option maxRecDepth 100000 in
theorem jotterlaw12_VictimShifts.calls (k : Nat) (A0 : Option Addr) (c0 : Nat) (l0 : List Int) (A1 : Option Addr) (c1 : Nat) (l1 : List Int) (A2 : Option Addr) (c2 : Nat) (l2 : List Bool) (a3 : Int) (a4 : Int) (r : Bool) (w : World) (hr0 : Kd.C (Kd.int .i64) w A0 l0.length l0) (hc0 : l0.length ≤ c0) (hr1 : Kd.C (Kd.int .i64) w A1 l1.length l1) (hc1 : l1.length ≤ c1) (hr2 : Kd.C Kd.bool w A2 l2.length l2) (hc2 : l2.length ≤ c2) (h : jotterlaw12_VictimShifts.f k l0 l1 l2 a3 a4 = some r) :
    Calls Try.prog 8 #[.slice A0 l0.length c0, .slice A1 l1.length c1, .slice A2 l2.length c2, .int .i64 a3, .int .i64 a4] w fun e w' => e = .returned (.bool r) ∧ Below w.heap.size w w' := by
  have HR0 := Aside0.mk hr0
  have HC0 := Aside0.mk hc0
  clear hr0 hc0
  have HR1 := Aside0.mk hr1
  have HC1 := Aside0.mk hc1
  clear hr1 hc1
  have HR2 := Aside0.mk hr2
  have HC2 := Aside0.mk hc2
  clear hr2 hc2
  have HB := Aside0.mk (Below.refl w.heap.size w)
  have H : (if (l0.length : Int) > 40 then (jotterlaw12_VictimShifts.j0 k l0 l1 l2 a3 a4 true) else (if (l1.length : Int) > 40 then (jotterlaw12_VictimShifts.j0 k l0 l1 l2 a3 a4 true) else (jotterlaw12_VictimShifts.j0 k l0 l1 l2 a3 a4 (decide ((l2.length : Int) > 40))))) = some r := h
  clear h
  have HC6 := Aside0.mk H
  clear H
  go_enter Try.func8, Try.ntmps8
  go_upto_region 1 with (fail)
  go_cut [27] (fun v27 wc => ∃ (kq : Nat) (x27_5 : Bool), v27 = .bool x27_5 ∧ Aside0 (jotterlaw12_VictimShifts.j0 kq l0 l1 l2 a3 a4 x27_5 = some r) ∧ Aside0 (kq ≤ k) ∧ Aside0 (Below w.heap.size w wc))
  case first =>
    have H := HC6.out
    clear HC6
    by_cases c7 : (l0.length : Int) > 40
    · rw [if_pos c7] at H
      have c7b0 : decide (40 < (l0.length : Int)) = true := decide_eq_true c7
      have c7b1 : decide (40 < l0.length) = true := decide_eq_true (by omega)
      clear c7
      (first | rw [c7b0] | (simp only [i64_w, i32_w]; rw [c7b0]) | skip)
      have H' := Aside0.mk H
      clear H
      go_wp2
      go_meet
      case rel => exact ⟨_, (true), (by first | rfl | (simp; done) | (simp [*]; done)), H', ⟨by first | omega | exact Nat.le_refl _⟩, ⟨by repeat (first | (with_reducible first | exact HB.out | apply below_alloc | apply pw_below_drewN | apply below_drew1) | exact HB.out)⟩⟩
    · rw [if_neg c7] at H
      have c7b0 : decide (40 < (l0.length : Int)) = false := decide_eq_false c7
      have c7b1 : decide (40 < l0.length) = false := decide_eq_false (by omega)
      clear c7
      (first | rw [c7b0] | (simp only [i64_w, i32_w]; rw [c7b0]) | skip)
      by_cases c8 : (l1.length : Int) > 40
      · rw [if_pos c8] at H
        have c8b0 : decide (40 < (l1.length : Int)) = true := decide_eq_true c8
        have c8b1 : decide (40 < l1.length) = true := decide_eq_true (by omega)
        clear c8
        have H' := Aside0.mk H
        clear H
        go_wp2
        go_meet
        case rel => exact ⟨_, (true), (by first | rfl | (simp; done) | (simp [*]; done)), H', ⟨by first | omega | exact Nat.le_refl _⟩, ⟨by repeat (first | (with_reducible first | exact HB.out | apply below_alloc | apply pw_below_drewN | apply below_drew1) | exact HB.out)⟩⟩
      · rw [if_neg c8] at H
        have c8b0 : decide (40 < (l1.length : Int)) = false := decide_eq_false c8
        have c8b1 : decide (40 < l1.length) = false := decide_eq_false (by omega)
        clear c8
        have H' := Aside0.mk H
        clear H
        go_wp2
        go_meet
        case rel => exact ⟨_, (decide ((l2.length : Int) > 40)), (by first | rfl | (simp; done) | (simp [*]; done)), H', ⟨by first | omega | exact Nat.le_refl _⟩, ⟨by repeat (first | (with_reducible first | exact HB.out | apply below_alloc | apply pw_below_drewN | apply below_drew1) | exact HB.out)⟩⟩
  case rest =>
    clear HC6
    try clear c1
    try clear c2
    try clear p2
    try clear c7
    try clear c7b0
    try clear c7b1
    try clear c8
    try clear c8b0
    try clear c8b1
    obtain ⟨kq, x27_5, rfl, HA, HJ5, HB⟩ := hcut
    cases kq with
    | zero => exact absurd HA.out (by simp [jotterlaw12_VictimShifts.j0])
    | succ kj5 =>
      have H := HA.out
      clear HA
      simp only [jotterlaw12_VictimShifts.j0] at H
      by_cases c9 : x27_5 = true
      · subst c9
        have H1 : ((jotterlaw12_awake.f kj5).bind fun t156 => (some t156)) = some r := by rw [if_pos rfl] at H; exact H
        clear H
        have H := H1
        clear H1
        replace H := Option.bind_eq_some_iff.mp H
        obtain ⟨t156, A100, H⟩ := H
        replace H : (some t156) = some r := H
        have A10 := Aside0.mk A100
        clear A100
        obtain rfl := Option.some.inj H
        go_wp2_with (first | ((with_reducible refine gate_callee (f := 20) rfl ?_); refine goesL_ (some 28) rfl rfl Try.func20 (by kernel_rfl) rfl #[] rfl (by (try simp only [List.map_toArray, List.map_cons, List.map_nil]); first | done | rfl | (simp only [List.length_drop, List.length_take]; rfl)) ?_; (with_reducible refine (jotterlaw12_awake.calls kj5  t156 _ A10.out).mono ?_); rintro e w11 ⟨rfl, hb⟩; refine ⟨_, rfl, ?_⟩; have n0_ := Aside0.mk (below_step (by repeat (first | (with_reducible first | exact HB.out | apply below_alloc | apply pw_below_drewN | apply below_drew1) | exact HB.out)) hb); clear HB; have HB := n0_; clear n0_; (try clear hb); (try clear hb2); (try clear hk); (try clear hi)))
        go_ret
        exact ⟨by first | rfl | (simp [errW_none, errW_some] <;> rfl) | (simp [*, errW_none, errW_some] <;> rfl), by repeat (first | (with_reducible first | exact HB.out | apply below_alloc | apply pw_below_drewN | apply below_drew1) | exact HB.out)⟩
      · replace c9 := Bool.eq_false_iff.mpr c9
        subst c9
        have H1 : (if 0 ≤ (mn (mn (l0.length : Int) (l1.length : Int)) (l2.length : Int)) then (if (mn (mn (l0.length : Int) (l1.length : Int)) (l2.length : Int)) ≤ (l0.length : Int) then ((jotterlaw12_low.f kj5 (l0.take ((mn (mn (l0.length : Int) (l1.length : Int)) (l2.length : Int)) : Int).toNat) 9).bind fun t158 => (if (mn (mn (l0.length : Int) (l1.length : Int)) (l2.length : Int)) ≤ (l1.length : Int) then ((jotterlaw12_low.f kj5 (l1.take ((mn (mn (l0.length : Int) (l1.length : Int)) (l2.length : Int)) : Int).toNat) 1000).bind fun t162 => ((jotterlaw0_Low.f a3 1000).bind fun t165 => (if (mn (mn (l0.length : Int) (l1.length : Int)) (l2.length : Int)) ≤ (l2.length : Int) then (jotterlaw12_VictimShifts.l0 kj5 t158 t162 (l2.take ((mn (mn (l0.length : Int) (l1.length : Int)) (l2.length : Int)) : Int).toNat) t165 a4 (mn (mn (l0.length : Int) (l1.length : Int)) (l2.length : Int)) ([] : List Int) ([] : List Int) 0) else (none)))) else (none))) else (none)) else (none)) = some r := by rw [if_neg (show ¬ (false = true) by decide)] at H; exact H
        clear H
        have H := H1
        clear H1
        obtain ⟨ji12, hji12⟩ : ∃ j_ : Int, (mn (l0.length : Int) (l1.length : Int)) = j_ := ⟨_, rfl⟩
        replace H : (if 0 ≤ (mn (ji12) (l2.length : Int)) then (if (mn (ji12) (l2.length : Int)) ≤ (l0.length : Int) then ((jotterlaw12_low.f kj5 (l0.take ((mn (ji12) (l2.length : Int)) : Int).toNat) 9).bind fun t158 => (if (mn (ji12) (l2.length : Int)) ≤ (l1.length : Int) then ((jotterlaw12_low.f kj5 (l1.take ((mn (ji12) (l2.length : Int)) : Int).toNat) 1000).bind fun t162 => ((jotterlaw0_Low.f a3 1000).bind fun t165 => (if (mn (ji12) (l2.length : Int)) ≤ (l2.length : Int) then (jotterlaw12_VictimShifts.l0 kj5 t158 t162 (l2.take ((mn (ji12) (l2.length : Int)) : Int).toNat) t165 a4 (mn (ji12) (l2.length : Int)) ([] : List Int) ([] : List Int) 0) else (none)))) else (none))) else (none)) else (none)) = some r := by first | (rw [hji12] at H; exact H) | (simp only [hji12] at H ⊢; exact H)
        (try (have hji12l : 0 ≤ ji12 := by (rw [← hji12]; unfold mn; (repeat' split) <;> omega)))
        (try (have hji12m : 0 ≤ ji12 := by omega))
        have hji12_ : (if l1.length < l0.length then (l1.length : Int) else (l0.length : Int)) = ji12 := by (rw [← hji12]; first | unfold mn | unfold mx); (by_cases c_ : l1.length < l0.length; rw [if_pos c_, if_pos (by omega)]; rw [if_neg c_, if_neg (by omega)])
        obtain ⟨ji13, hji13⟩ : ∃ j_ : Int, (mn (ji12) (l2.length : Int)) = j_ := ⟨_, rfl⟩
        replace H : (if 0 ≤ (ji13) then (if (ji13) ≤ (l0.length : Int) then ((jotterlaw12_low.f kj5 (l0.take ((ji13) : Int).toNat) 9).bind fun t158 => (if (ji13) ≤ (l1.length : Int) then ((jotterlaw12_low.f kj5 (l1.take ((ji13) : Int).toNat) 1000).bind fun t162 => ((jotterlaw0_Low.f a3 1000).bind fun t165 => (if (ji13) ≤ (l2.length : Int) then (jotterlaw12_VictimShifts.l0 kj5 t158 t162 (l2.take ((ji13) : Int).toNat) t165 a4 ji13 ([] : List Int) ([] : List Int) 0) else (none)))) else (none))) else (none)) else (none)) = some r := by first | (rw [hji13] at H; exact H) | (simp only [hji13] at H ⊢; exact H)
        have hji13_ : (if (l2.length : Int) < (ji12) then (l2.length : Int) else (ji12)) = ji13 := hji13
        by_cases c14 : 0 ≤ (ji13)
        · rw [if_pos c14] at H
          have c14b0 := eq_true c14
          have c14b1 : decide (0 ≤ (ji13)) = true := decide_eq_true c14
          clear c14
          by_cases c15 : (ji13) ≤ (l0.length : Int)
          · rw [if_pos c15] at H
            have c15b0 := eq_true c15
            have c15b1 : decide ((ji13) ≤ (l0.length : Int)) = true := decide_eq_true c15
            clear c15
            replace H := Option.bind_eq_some_iff.mp H
            obtain ⟨t158, A160, H⟩ := H
            replace H : (if (ji13) ≤ (l1.length : Int) then ((jotterlaw12_low.f kj5 (l1.take ((ji13) : Int).toNat) 1000).bind fun t162 => ((jotterlaw0_Low.f a3 1000).bind fun t165 => (if (ji13) ≤ (l2.length : Int) then (jotterlaw12_VictimShifts.l0 kj5 t158 t162 (l2.take ((ji13) : Int).toNat) t165 a4 ji13 ([] : List Int) ([] : List Int) 0) else (none)))) else (none)) = some r := H
            have A16 := Aside0.mk A160
            clear A160
            have c17b0 := eq_true (of_decide_eq_true (by first | (with_reducible assumption) | assumption) : 0 ≤ (ji13))
            by_cases c18 : (ji13) ≤ (l1.length : Int)
            · rw [if_pos c18] at H
              have c18b0 := eq_true c18
              have c18b1 : decide ((ji13) ≤ (l1.length : Int)) = true := decide_eq_true c18
              clear c18
              replace H := Option.bind_eq_some_iff.mp H
              obtain ⟨t162, A190, H⟩ := H
              replace H : ((jotterlaw0_Low.f a3 1000).bind fun t165 => (if (ji13) ≤ (l2.length : Int) then (jotterlaw12_VictimShifts.l0 kj5 t158 t162 (l2.take ((ji13) : Int).toNat) t165 a4 ji13 ([] : List Int) ([] : List Int) 0) else (none))) = some r := H
              have A19 := Aside0.mk A190
              clear A190
              replace H := Option.bind_eq_some_iff.mp H
              obtain ⟨t165, A200, H⟩ := H
              replace H : (if (ji13) ≤ (l2.length : Int) then (jotterlaw12_VictimShifts.l0 kj5 t158 t162 (l2.take ((ji13) : Int).toNat) t165 a4 ji13 ([] : List Int) ([] : List Int) 0) else (none)) = some r := H
              have A20 := Aside0.mk A200
              clear A200
              have c21b0 := eq_true (of_decide_eq_true (by first | (with_reducible assumption) | assumption) : 0 ≤ (ji13))
              by_cases c22 : (ji13) ≤ (l2.length : Int)
              · rw [if_pos c22] at H
                have c22b0 := eq_true c22
                have c22b1 : decide ((ji13) ≤ (l2.length : Int)) = true := decide_eq_true c22
                have TL2 : Aside0 ((l2.take ((ji13) : Int).toNat).length = ((ji13) : Int).toNat) := ⟨by (rw [List.length_take]; have := of_decide_eq_true c22b1; omega)⟩
                clear c22
                have H' := Aside0.mk H
                clear H
                try go_wp2
                have n0_ := Aside0.mk (below_drew1 HB.out)
                clear HB
                have HB := n0_
                clear n0_
                obtain ⟨i024, hi024, _, hsz24, _⟩ := info_parts info3
                obtain ⟨hcut24, hA24, hC24⟩ := print_take_of (P := Try.prog) (Value.int .i64) 0 22 3 .i64 Try.underlying22 hi024 hsz24 A0 c0 l0 (ji13) (of_decide_eq_true (by first | (with_reducible assumption) | assumption)) (of_decide_eq_true (by first | (with_reducible assumption) | assumption)) HC0.out
                have HR157 := Aside0.mk (Kd.C_of_reads (h1 := fun _ => rfl) (hA24 _ (Kd.reads_of_C HR0.out)))
                have HC157 := Aside0.mk hC24
                clear hA24 hC24 hi024 hsz24
                obtain ⟨i025, hi025, _, hsz25, _⟩ := info_parts info3
                obtain ⟨hcut25, hA25, hC25⟩ := print_take_of (P := Try.prog) (Value.int .i64) 0 22 3 .i64 Try.underlying22 hi025 hsz25 A1 c1 l1 (ji13) (of_decide_eq_true (by first | (with_reducible assumption) | assumption)) (of_decide_eq_true (by first | (with_reducible assumption) | assumption)) HC1.out
                have HR161 := Aside0.mk (Kd.C_of_reads (h1 := fun _ => rfl) (hA25 _ (Kd.reads_of_C HR1.out)))
                have HC161 := Aside0.mk hC25
                clear hA25 hC25 hi025 hsz25
                refine start_ (n := 13) (S := fun w' => True) (ds := []) #[false, false, false, false, false, false, false, false, false, false, false, false, false] (by kernel_rfl) rfl rfl trivial (fun hHeld => ?_); refine with_tabW jotterlaw12_VictimShifts.tab4 jotterlaw12_VictimShifts.bits4 (fun HT_ HW_ => ?_)
                generalize wc.drew = w23 at HB HR157 HR161 hHeld ⊢
                refine pure_ (i := 0) (N := some 36) (v := ?_) (a' := ?_) #[true, false, false, false, false, false, false, false, false, false, false, false, false] rfl rfl (any_of HT_.out (by kernel_rfl)) (fun _ _ _ h => h) (Or.inl ⟨by rfl, ?_⟩) ?_ ?_
                rotate_left
                · intro w'
                  go_simp
                  with_reducible rfl
                rotate_left
                · simp only [Act.put, List.setIfInBounds_toArray, List.set_cons_zero, List.set_cons_succ, i64_w, i32_w]
                  rfl
                refine pure_ (i := 1) (N := some 37) (v := ?_) (a' := ?_) #[true, true, false, false, false, false, false, false, false, false, false, false, false] rfl rfl (any_of HT_.out (by kernel_rfl)) (fun _ _ _ h => h) (Or.inl ⟨by rfl, ?_⟩) ?_ ?_
                rotate_left
                · intro w'
                  go_simp
                  with_reducible rfl
                rotate_left
                · simp only [Act.put, List.setIfInBounds_toArray, List.set_cons_zero, List.set_cons_succ, i64_w, i32_w]
                  rfl
                refine pure_ (i := 2) (N := some 38) (v := ?_) (a' := ?_) #[true, true, true, false, false, false, false, false, false, false, false, false, false] rfl rfl (any_of HT_.out (by kernel_rfl)) (fun _ _ _ h => h) (Or.inl ⟨by rfl, ?_⟩) ?_ ?_
                rotate_left
                · intro w'
                  go_simp
                  with_reducible rfl
                rotate_left
                · simp only [Act.put, List.setIfInBounds_toArray, List.set_cons_zero, List.set_cons_succ, i64_w, i32_w]
                  rfl
                refine pure_ (i := 4) (N := some 40) (v := ?_) (a' := ?_) #[true, true, true, false, true, false, false, false, false, false, false, false, false] rfl rfl (any_of HT_.out (by kernel_rfl)) (fun _ _ _ h => h) (Or.inl ⟨by rfl, ?_⟩) ?_ ?_
                rotate_left
                · intro w'
                  go_simp
                  with_reducible rfl
                rotate_left
                · simp only [Act.put, List.setIfInBounds_toArray, List.set_cons_zero, List.set_cons_succ, i64_w, i32_w]
                  rfl
                refine pure_ (i := 5) (N := some 41) (v := ?_) (a' := ?_) #[true, true, true, false, true, true, false, false, false, false, false, false, false] rfl rfl (any_of HT_.out (by kernel_rfl)) (fun _ _ _ h => h) (Or.inl ⟨by rfl, ?_⟩) ?_ ?_
                rotate_left
                · intro w'
                  go_simp
                  with_reducible rfl
                rotate_left
                · simp only [Act.put, List.setIfInBounds_toArray, List.set_cons_zero, List.set_cons_succ, i64_w, i32_w]
                  rfl
                refine pure_ (i := 6) (N := some 42) (v := ?_) (a' := ?_) #[true, true, true, false, true, true, true, false, false, false, false, false, false] rfl rfl (any_of HT_.out (by kernel_rfl)) (fun _ _ _ h => h) (Or.inl ⟨by rfl, ?_⟩) ?_ ?_
                rotate_left
                · intro w'
                  go_simp
                  with_reducible rfl
                rotate_left
                · simp only [Act.put, List.setIfInBounds_toArray, List.set_cons_zero, List.set_cons_succ, i64_w, i32_w]
                  rfl
                refine pure_ (i := 8) (N := some 44) (v := ?_) (a' := ?_) #[true, true, true, false, true, true, true, false, true, false, false, false, false] rfl rfl (any_of HT_.out (by kernel_rfl)) (fun _ _ _ h => h) (Or.inl ⟨by rfl, ?_⟩) ?_ ?_
                rotate_left
                · intro w'
                  go_simp
                  with_reducible rfl
                rotate_left
                · simp only [Act.put, List.setIfInBounds_toArray, List.set_cons_zero, List.set_cons_succ, i64_w, i32_w]
                  rfl
                refine one_ (i := 3) (N := some 39) #[true, true, true, true, true, true, true, false, true, false, false, false, false] rfl rfl (one_of HT_.out (by kernel_rfl)) (by decide) (fun K hK => ?_)
                refine goes_ Try.func21 (by kernel_rfl) rfl #[.slice A0 (l0.take ((ji13) : Int).toNat).length c0, .int .i64 9] (by rfl) rfl rfl (by (try simp only [List.map_toArray, List.map_cons, List.map_nil]); first | done | (rw [show (l0.take ((ji13) : Int).toNat).length = (ji13).toNat from (by rw [List.length_take]; have h_ : ((ji13) : Int) ≤ (l0.length : Int) := of_decide_eq_true (by first | (with_reducible assumption) | assumption); omega)] <;> rfl) | (simp only [hji13]; rfl) | rfl | (simp only [List.length_drop, List.length_take]; rfl)) ?_
                with_reducible refine (jotterlaw12_low.calls kj5 _ _ (l0.take ((ji13) : Int).toNat) 9 t158 _ ?side1 ?side2 A16.out).mono ?_
                (case side1 => repeat (first | exact (Kd.C_below HR157.out HB.out) | (with_reducible refine Kd.C_alloc ?_ _) | (with_reducible refine Kd.C_drewN ?_ _) | (with_reducible refine Kd.C_drew ?_)))
                (case side2 => exact HC157.out)
                rintro e w26 ⟨v159, rfl, ho0, hb⟩
                refine ⟨_, rfl, ?_⟩
                have n0_ := Aside0.mk (Kd.R_lower ho0 (below_size (by repeat (first | (with_reducible first | exact HB.out | apply below_alloc | apply pw_below_drewN | apply below_drew1) | exact HB.out))))
                have n1_ := Aside0.mk (below_step (by repeat (first | (with_reducible first | exact HB.out | apply below_alloc | apply pw_below_drewN | apply below_drew1) | exact HB.out)) hb)
                clear HB
                have HO160 := n0_
                have HB := n1_
                clear n0_ n1_
                (try clear hb)
                (try clear hb2)
                (try clear hk)
                (try clear hi)
                (try clear ho0)
                refine hK.out _ _ trivial (fun hHeld => ?_)
                clear hK K
                refine norm_ (a' := ?_) ?_ ?_
                rotate_left
                · show Act.put _ (some 39) _ = _
                  simp only [Act.put, List.setIfInBounds_toArray, List.set_cons_zero, List.set_cons_succ, i64_w, i32_w]
                  rfl
                refine one_ (i := 7) (N := some 43) #[true, true, true, true, true, true, true, true, true, false, false, false, false] rfl rfl (one_of HT_.out (by kernel_rfl)) (by decide) (fun K hK => ?_)
                refine goes_ Try.func21 (by kernel_rfl) rfl #[.slice A1 (l1.take ((ji13) : Int).toNat).length c1, .int .i64 1000] (by rfl) rfl rfl (by (try simp only [List.map_toArray, List.map_cons, List.map_nil]); first | done | (rw [show (l1.take ((ji13) : Int).toNat).length = (ji13).toNat from (by rw [List.length_take]; have h_ : ((ji13) : Int) ≤ (l1.length : Int) := of_decide_eq_true (by first | (with_reducible assumption) | assumption); omega)] <;> rfl) | (simp only [hji13]; rfl) | rfl | (simp only [List.length_drop, List.length_take]; rfl)) ?_
                with_reducible refine (jotterlaw12_low.calls kj5 _ _ (l1.take ((ji13) : Int).toNat) 1000 t162 _ ?side1 ?side2 A19.out).mono ?_
                (case side1 => repeat (first | exact (Kd.C_below HR161.out HB.out) | (with_reducible refine Kd.C_alloc ?_ _) | (with_reducible refine Kd.C_drewN ?_ _) | (with_reducible refine Kd.C_drew ?_)))
                (case side2 => exact HC161.out)
                rintro e w27 ⟨v163, rfl, ho0, hb⟩
                refine ⟨_, rfl, ?_⟩
                have n0_ := Aside0.mk (Kd.R_elder' (by (with_reducible repeat (first | apply Kd.R_alloc | apply Kd.R_drewN | apply Kd.R_drew)); exact HO160.out) (Kd.R_base ho0) hb)
                have n1_ := Aside0.mk (Kd.R_lower (Kd.R_new' ho0 (Kd.R_lt (by (with_reducible repeat (first | apply Kd.R_alloc | apply Kd.R_drewN | apply Kd.R_drew)); exact HO160.out))) (below_size (by repeat (first | (with_reducible first | exact HB.out | apply below_alloc | apply pw_below_drewN | apply below_drew1) | exact HB.out))))
                have n2_ := Aside0.mk (below_step (by repeat (first | (with_reducible first | exact HB.out | apply below_alloc | apply pw_below_drewN | apply below_drew1) | exact HB.out)) hb)
                clear HO160
                clear HB
                have HO160 := n0_
                have HO164 := n1_
                have HB := n2_
                clear n0_ n1_ n2_
                (try clear hb)
                (try clear hb2)
                (try clear hk)
                (try clear hi)
                (try clear ho0)
                refine hK.out _ _ trivial (fun hHeld => ?_)
                clear hK K
                refine norm_ (a' := ?_) ?_ ?_
                rotate_left
                · show Act.put _ (some 43) _ = _
                  simp only [Act.put, List.setIfInBounds_toArray, List.set_cons_zero, List.set_cons_succ, i64_w, i32_w]
                  rfl
                refine one_ (i := 9) (N := some 45) #[true, true, true, true, true, true, true, true, true, true, false, false, false] rfl rfl (one_of HT_.out (by kernel_rfl)) (by decide) (fun K hK => ?_)
                refine goes_ Try.func19 (by kernel_rfl) rfl #[.int .i64 a3, .int .i64 1000] (by rfl) rfl rfl (by (try simp only [List.map_toArray, List.map_cons, List.map_nil]); first | done | rfl | (simp only [List.length_drop, List.length_take]; rfl)) ?_
                with_reducible refine (jotterlaw0_Low.calls a3 1000 t165 _ A20.out).mono ?_
                rintro e w' ⟨rfl, ⟨nd, rfl⟩⟩
                refine ⟨_, rfl, ?_⟩
                refine hK.out _ _ trivial (fun hHeld => ?_)
                clear hK K
                refine norm_ (a' := ?_) ?_ ?_
                rotate_left
                · show Act.put _ (some 45) _ = _
                  simp only [Act.put, List.setIfInBounds_toArray, List.set_cons_zero, List.set_cons_succ, i64_w, i32_w]
                  rfl
                refine pure_ (i := 10) (N := some 0) (v := ?_) (a' := ?_) #[true, true, true, true, true, true, true, true, true, true, true, false, false] rfl rfl (any_of HT_.out (by kernel_rfl)) (fun _ _ _ h => h) (Or.inl ⟨by rfl, ?_⟩) ?_ ?_
                rotate_left
                · intro w'
                  go_simp
                  with_reducible rfl
                rotate_left
                · simp only [Act.put, List.setIfInBounds_toArray, List.set_cons_zero, List.set_cons_succ, i64_w, i32_w]
                  rfl
                refine pure_ (i := 11) (N := some 1) (v := ?_) (a' := ?_) #[true, true, true, true, true, true, true, true, true, true, true, true, false] rfl rfl (any_of HT_.out (by kernel_rfl)) (fun _ _ _ h => h) (Or.inl ⟨by rfl, ?_⟩) ?_ ?_
                rotate_left
                · intro w'
                  go_simp
                  with_reducible rfl
                rotate_left
                · simp only [Act.put, List.setIfInBounds_toArray, List.set_cons_zero, List.set_cons_succ, i64_w, i32_w]
                  rfl
                refine pure_ (i := 12) (N := some 3) (v := ?_) (a' := ?_) #[true, true, true, true, true, true, true, true, true, true, true, true, true] rfl rfl (any_of HT_.out (by kernel_rfl)) (fun _ _ _ h => h) (Or.inl ⟨by rfl, ?_⟩) ?_ ?_
                rotate_left
                · intro w'
                  go_simp
                  with_reducible rfl
                rotate_left
                · simp only [Act.put, List.setIfInBounds_toArray, List.set_cons_zero, List.set_cons_succ, i64_w, i32_w]
                  rfl
                refine done_ (done_of HT_.out (by kernel_rfl)) ?_
                obtain ⟨i028, hi028, _, hsz28, _⟩ := info_parts info4
                obtain ⟨hcut28, hA28, hC28⟩ := print_take_of (P := Try.prog) Value.bool false 23 4 .i64 Try.underlying23 hi028 hsz28 A2 c2 l2 (ji13) (of_decide_eq_true (by first | (with_reducible assumption) | assumption)) (of_decide_eq_true (by first | (with_reducible assumption) | assumption)) HC2.out
                have HR166 := Aside0.mk (Kd.C_of_reads (h1 := fun _ => rfl) (hA28 _ (Kd.reads_of_C HR2.out)))
                have HC166 := Aside0.mk hC28
                clear hA28 hC28 hi028 hsz28
                try go_wp2
                go_loopg [12, 13, 14] kj5 (fun kq v12 v13 v14 w' => ∃ (x12_2 : List Int) (x13_2 : List Int) (x14_2 : Int), v14 = .int .i64 x14_2 ∧ Aside0 (jotterlaw12_VictimShifts.l0 kq t158 t162 (l2.take ((ji13) : Int).toNat) t165 a4 ji13 x12_2 x13_2 x14_2 = some r) ∧ Aside0 (kq ≤ kj5) ∧ Aside0 (Kd.R (Kd.int .i64) 3 w' w.heap.size (fun k_ => some k_ ≠ (v163 : Value).ownBlock ∧ some k_ ≠ (v12 : Value).ownBlock ∧ some k_ ≠ (v13 : Value).ownBlock) v159 t158) ∧ Aside0 (Kd.R (Kd.int .i64) 3 w' w.heap.size (fun k_ => some k_ ≠ (v159 : Value).ownBlock ∧ some k_ ≠ (v12 : Value).ownBlock ∧ some k_ ≠ (v13 : Value).ownBlock) v163 t162) ∧ Aside0 (Kd.R (Kd.int .i64) 3 w' w.heap.size (fun k_ => some k_ ≠ (v159 : Value).ownBlock ∧ some k_ ≠ (v163 : Value).ownBlock ∧ some k_ ≠ (v13 : Value).ownBlock) v12 x12_2) ∧ Aside0 (Kd.R (Kd.int .i64) 3 w' w.heap.size (fun k_ => some k_ ≠ (v159 : Value).ownBlock ∧ some k_ ≠ (v163 : Value).ownBlock ∧ some k_ ≠ (v12 : Value).ownBlock) v13 x13_2) ∧ Aside0 (Below w.heap.size w w'))
                case atStart => exact ⟨(([] : List Int)), (([] : List Int)), (0), (by first | rfl | (simp; done) | (simp [*]; done)), H', ⟨Nat.le_refl _⟩, ⟨by (with_reducible repeat (first | apply Kd.R_alloc | apply Kd.R_drewN | apply Kd.R_drew)); exact Kd.R_mono HO160.out (fun _ hk => ⟨hk.2, ⟨(by simp [Value.ownBlock]), (by simp [Value.ownBlock])⟩⟩)⟩, ⟨by (with_reducible repeat (first | apply Kd.R_alloc | apply Kd.R_drewN | apply Kd.R_drew)); exact Kd.R_mono HO164.out (fun _ hk => ⟨hk.2, ⟨(by simp [Value.ownBlock]), (by simp [Value.ownBlock])⟩⟩)⟩, ⟨by first | exact Kd.R_nil _ _ _ _ _ | exact Kd.N_nil _ _ _ _ _ | exact Kd.V_nil _ _ _ _ _ | exact Kd.Q_nil _ _ _ _ _ | exact Kd.S_nil _ _ _ _ _⟩, ⟨by first | exact Kd.R_nil _ _ _ _ _ | exact Kd.N_nil _ _ _ _ _ | exact Kd.V_nil _ _ _ _ _ | exact Kd.Q_nil _ _ _ _ _ | exact Kd.S_nil _ _ _ _ _⟩, ⟨by repeat (first | (with_reducible first | exact HB.out | apply below_alloc | apply pw_below_drewN | apply below_drew1) | exact HB.out)⟩⟩
                case round =>
                  clear H'
                  try clear c1
                  try clear c2
                  try clear p2
                  try clear c7
                  try clear c7b0
                  try clear c7b1
                  try clear c8
                  try clear c8b0
                  try clear c8b1
                  try clear c9
                  try clear c14
                  try clear c14b0
                  try clear c14b1
                  try clear c15
                  try clear c15b0
                  try clear c15b1
                  try clear c17
                  try clear c17b0
                  try clear c18
                  try clear c18b0
                  try clear c18b1
                  try clear c19
                  try clear c20
                  try clear c21
                  try clear c21b0
                  try clear c22
                  try clear c22b0
                  try clear c22b1
                  try clear p2
                  obtain ⟨x12_2, x13_2, x14_2, rfl, HA, HK2, HO_0, HO_1, HO_12, HO_13, HB⟩ := hrel
                  cases gk with
                  | zero => exact absurd HA.out (by simp [jotterlaw12_VictimShifts.l0])
                  | succ k2 =>
                    have H := HA.out
                    clear HA
                    simp only [jotterlaw12_VictimShifts.l0] at H
                    by_cases c29 : x14_2 < ji13
                    · rw [if_pos c29] at H
                      have c29b0 : decide (x14_2 < ji13) = true := decide_eq_true c29
                      clear c29
                      by_cases c30 : 0 ≤ x14_2
                      · rw [if_pos c30] at H
                        have c30b0 : decide (0 ≤ x14_2) = true := decide_eq_true c30
                        clear c30
                        by_cases c31 : x14_2 < (t158.length : Int)
                        · rw [if_pos c31] at H
                          have c31b0 : decide (x14_2 < (t158.length : Int)) = true := decide_eq_true c31
                          clear c31
                          obtain ⟨y168, hy168⟩ : ∃ y_ : List Int, y_ = (([wrap64 ((rd t158 x14_2) + 1)] : List Int)) := ⟨_, rfl⟩
                          replace H : (if x12_2.length + y168.length < 17592186044416 then (if x14_2 < (t162.length : Int) then ((some (([wrap64 ((rd t162 x14_2) + t165)] : List Int) : List Int)).bind fun y175 => (if x13_2.length + y175.length < 17592186044416 then (jotterlaw12_VictimShifts.l0 k2 t158 t162 (l2.take ((ji13) : Int).toNat) t165 a4 ji13 (x12_2 ++ y168) (x13_2 ++ y175) (wrap64 (x14_2 + 1))) else (none))) else (none)) else (none)) = some r := by first | (rw [hy168]; with_reducible exact H) | (have H2_ := (Option.bind_some _ _).symm.trans H; rw [hy168]; with_reducible exact H2_) | (have H2_ := (Option.bind_some _ _).symm.trans H; with_reducible exact H2_) | with_reducible exact H | (rw [hy168]; exact H) | exact H
                          have Ny168 := Aside0.mk hy168
                          clear hy168
                          by_cases c32 : x12_2.length + y168.length < 17592186044416
                          · rw [if_pos c32] at H
                            have LMc32 := Aside0.mk c32
                            clear c32
                            obtain ⟨y171, hy171⟩ : ∃ y_ : List Int, y_ = (x12_2 ++ y168) := ⟨_, rfl⟩
                            replace H : (if x14_2 < (t162.length : Int) then ((some (([wrap64 ((rd t162 x14_2) + t165)] : List Int) : List Int)).bind fun y175 => (if x13_2.length + y175.length < 17592186044416 then (jotterlaw12_VictimShifts.l0 k2 t158 t162 (l2.take ((ji13) : Int).toNat) t165 a4 ji13 y171 (x13_2 ++ y175) (wrap64 (x14_2 + 1))) else (none))) else (none)) = some r := by first | (rw [hy171]; with_reducible exact H) | (have H2_ := (Option.bind_some _ _).symm.trans H; rw [hy171]; with_reducible exact H2_) | (have H2_ := (Option.bind_some _ _).symm.trans H; with_reducible exact H2_) | with_reducible exact H | (rw [hy171]; exact H) | exact H
                            have Ny171 := Aside0.mk hy171
                            clear hy171
                            by_cases c33 : x14_2 < (t162.length : Int)
                            · rw [if_pos c33] at H
                              have c33b0 : decide (x14_2 < (t162.length : Int)) = true := decide_eq_true c33
                              clear c33
                              obtain ⟨y175, hy175⟩ : ∃ y_ : List Int, y_ = (([wrap64 ((rd t162 x14_2) + t165)] : List Int)) := ⟨_, rfl⟩
                              replace H : (if x13_2.length + y175.length < 17592186044416 then (jotterlaw12_VictimShifts.l0 k2 t158 t162 (l2.take ((ji13) : Int).toNat) t165 a4 ji13 y171 (x13_2 ++ y175) (wrap64 (x14_2 + 1))) else (none)) = some r := by first | (rw [hy175]; with_reducible exact H) | (have H2_ := (Option.bind_some _ _).symm.trans H; rw [hy175]; with_reducible exact H2_) | (have H2_ := (Option.bind_some _ _).symm.trans H; with_reducible exact H2_) | with_reducible exact H | (rw [hy175]; exact H) | exact H
                              have Ny175 := Aside0.mk hy175
                              clear hy175
                              by_cases c34 : x13_2.length + y175.length < 17592186044416
                              · rw [if_pos c34] at H
                                have LMc34 := Aside0.mk c34
                                clear c34
                                obtain ⟨y178, hy178⟩ : ∃ y_ : List Int, y_ = (x13_2 ++ y175) := ⟨_, rfl⟩
                                replace H : (jotterlaw12_VictimShifts.l0 k2 t158 t162 (l2.take ((ji13) : Int).toNat) t165 a4 ji13 y171 y178 (wrap64 (x14_2 + 1))) = some r := by first | (rw [hy178]; with_reducible exact H) | (have H2_ := (Option.bind_some _ _).symm.trans H; rw [hy178]; with_reducible exact H2_) | (have H2_ := (Option.bind_some _ _).symm.trans H; with_reducible exact H2_) | with_reducible exact H | (rw [hy178]; exact H) | exact H
                                have Ny178 := Aside0.mk hy178
                                clear hy178
                                have H' := Aside0.mk H
                                clear H
                                obtain ⟨Ao35, co35, eo35⟩ := Kd.R_slice HO_12.out
                                subst eo35
                                obtain ⟨Ao36, co36, eo36⟩ := Kd.R_slice HO_13.out
                                subst eo36
                                try go_wp2
                                have n0_ := Aside0.mk (Kd.R_drew HO_0.out)
                                have n1_ := Aside0.mk (Kd.R_drew HO_1.out)
                                have n2_ := Aside0.mk (Kd.R_drew HO_12.out)
                                have n3_ := Aside0.mk (Kd.R_drew HO_13.out)
                                have n4_ := Aside0.mk (below_drew1 HB.out)
                                clear HO_0
                                clear HO_1
                                clear HO_12
                                clear HO_13
                                clear HB
                                have HO_0 := n0_
                                have HO_1 := n1_
                                have HO_12 := n2_
                                have HO_13 := n3_
                                have HB := n4_
                                clear n0_ n1_ n2_ n3_ n4_
                                obtain ⟨Ao38, co38, eo38⟩ := Kd.R_slice HO_0.out
                                (first | subst eo38 | (injection eo38 with f1_ f2_ f3_; have f4_ := f1_.symm; have f5_ := f3_.symm; clear f1_ f2_ f3_; subst f4_; subst f5_))
                                have p167 : 0 ≤ (x14_2 : Int) := of_decide_eq_true (by first | (with_reducible assumption) | assumption)
                                have q167 : x14_2 < (t158.length : Int) := of_decide_eq_true (by first | (with_reducible assumption) | assumption)
                                obtain ⟨ad167, e167, hx167_0⟩ := Kd.at_int (Kd.R_reads' HO_0.out).2.2 x14_2 p167 q167
                                cases e167
                                replace p167 := eq_true p167
                                replace q167 := eq_true q167
                                obtain ⟨Ao39, co39, eo39⟩ := Kd.R_slice HO_1.out
                                (first | subst eo39 | (injection eo39 with f1_ f2_ f3_; have f4_ := f1_.symm; have f5_ := f3_.symm; clear f1_ f2_ f3_; subst f4_; subst f5_))
                                have p174 : 0 ≤ (x14_2 : Int) := of_decide_eq_true (by first | (with_reducible assumption) | assumption)
                                have q174 : x14_2 < (t162.length : Int) := of_decide_eq_true (by first | (with_reducible assumption) | assumption)
                                obtain ⟨ad174, e174, hx174_0⟩ := Kd.at_int (Kd.R_reads' HO_1.out).2.2 x14_2 p174 q174
                                cases e174
                                replace p174 := eq_true p174
                                replace q174 := eq_true q174
                                refine start_ (n := 19) (S := fun w' => w'.cell? (ad167.add (x14_2).toNat) = some (.int .i64 (rd t158 x14_2)) ∧ w'.cell? (ad174.add (x14_2).toNat) = some (.int .i64 (rd t162 x14_2))) (ds := []) #[false, false, false, false, false, false, false, false, false, false, false, false, false, false, false, false, false, false, false] (by kernel_rfl) rfl rfl ⟨hx167_0, hx174_0⟩ (fun hHeld => ?_); refine with_tabW jotterlaw12_VictimShifts.tab10 jotterlaw12_VictimShifts.bits10 (fun HT_ HW_ => ?_)
                                generalize wr.drew = w37 at HO_0 HO_1 HO_12 HO_13 HB hx167_0 hx174_0 hHeld ⊢
                                refine pure_ (i := 0) (N := some 54) (v := ?_) (a' := ?_) #[true, false, false, false, false, false, false, false, false, false, false, false, false, false, false, false, false, false, false] rfl rfl (any_of HT_.out (by kernel_rfl)) (fun _ _ _ h => h) (Or.inl ⟨by rfl, ?_⟩) ?_ ?_
                                rotate_left
                                · intro w'
                                  go_simp
                                  with_reducible rfl
                                rotate_left
                                · simp only [Act.put, List.setIfInBounds_toArray, List.set_cons_zero, List.set_cons_succ, i64_w, i32_w]
                                  rfl
                                refine pure_ (i := 1) (N := some 55) (v := ?_) (a' := ?_) #[true, true, false, false, false, false, false, false, false, false, false, false, false, false, false, false, false, false, false] rfl rfl (any_of HT_.out (by kernel_rfl)) (fun _ _ _ h => h) (Or.inl ⟨by rfl, ?_⟩) ?_ ?_
                                rotate_left
                                · intro w'
                                  go_simp
                                  with_reducible rfl
                                rotate_left
                                · simp only [Act.put, List.setIfInBounds_toArray, List.set_cons_zero, List.set_cons_succ, i64_w, i32_w]
                                  rfl
                                refine pure_ (i := 2) (N := some 56) (v := ?_) (a' := ?_) #[true, true, true, false, false, false, false, false, false, false, false, false, false, false, false, false, false, false, false] rfl rfl (any_of HT_.out (by kernel_rfl)) (fun _ _ _ h => h) (Or.inl ⟨by rfl, ?_⟩) ?_ ?_
                                rotate_left
                                · intro w'
                                  go_simp
                                  with_reducible rfl
                                rotate_left
                                · simp only [Act.put, List.setIfInBounds_toArray, List.set_cons_zero, List.set_cons_succ, i64_w, i32_w]
                                  rfl
                                refine pure_ (i := 3) (N := some 57) (v := ?_) (a' := ?_) #[true, true, true, true, false, false, false, false, false, false, false, false, false, false, false, false, false, false, false] rfl rfl (any_of HT_.out (by kernel_rfl)) (fun _ _ _ h => h) (Or.inl ⟨by rfl, ?_⟩) ?_ ?_
                                rotate_left
                                · intro w'
                                  go_simp
                                  with_reducible rfl
                                rotate_left
                                · simp only [Act.put, List.setIfInBounds_toArray, List.set_cons_zero, List.set_cons_succ, i64_w, i32_w]
                                  rfl
                                refine pure_ (i := 8) (N := some 62) (v := ?_) (a' := ?_) #[true, true, true, true, false, false, false, false, true, false, false, false, false, false, false, false, false, false, false] rfl rfl (any_of HT_.out (by kernel_rfl)) (fun _ _ _ h => h) (Or.inl ⟨by rfl, ?_⟩) ?_ ?_
                                rotate_left
                                · intro w'
                                  go_simp
                                  with_reducible rfl
                                rotate_left
                                · simp only [Act.put, List.setIfInBounds_toArray, List.set_cons_zero, List.set_cons_succ, i64_w, i32_w]
                                  rfl
                                refine pure_ (i := 9) (N := some 63) (v := ?_) (a' := ?_) #[true, true, true, true, false, false, false, false, true, true, false, false, false, false, false, false, false, false, false] rfl rfl (any_of HT_.out (by kernel_rfl)) (fun _ _ _ h => h) (Or.inl ⟨by rfl, ?_⟩) ?_ ?_
                                rotate_left
                                · intro w'
                                  go_simp
                                  with_reducible rfl
                                rotate_left
                                · simp only [Act.put, List.setIfInBounds_toArray, List.set_cons_zero, List.set_cons_succ, i64_w, i32_w]
                                  rfl
                                refine pure_ (i := 10) (N := some 64) (v := ?_) (a' := ?_) #[true, true, true, true, false, false, false, false, true, true, true, false, false, false, false, false, false, false, false] rfl rfl (any_of HT_.out (by kernel_rfl)) (fun _ _ _ h => h) (Or.inl ⟨by rfl, ?_⟩) ?_ ?_
                                rotate_left
                                · intro w'
                                  go_simp
                                  with_reducible rfl
                                rotate_left
                                · simp only [Act.put, List.setIfInBounds_toArray, List.set_cons_zero, List.set_cons_succ, i64_w, i32_w]
                                  rfl
                                refine pure_ (i := 11) (N := some 65) (v := ?_) (a' := ?_) #[true, true, true, true, false, false, false, false, true, true, true, true, false, false, false, false, false, false, false] rfl rfl (any_of HT_.out (by kernel_rfl)) (fun _ _ _ h => h) (Or.inl ⟨by rfl, ?_⟩) ?_ ?_
                                rotate_left
                                · intro w'
                                  go_simp
                                  with_reducible rfl
                                rotate_left
                                · simp only [Act.put, List.setIfInBounds_toArray, List.set_cons_zero, List.set_cons_succ, i64_w, i32_w]
                                  rfl
                                refine pure_ (i := 13) (N := some 67) (v := ?_) (a' := ?_) #[true, true, true, true, false, false, false, false, true, true, true, true, false, true, false, false, false, false, false] rfl rfl (any_of HT_.out (by kernel_rfl)) (fun _ _ _ h => h) (Or.inl ⟨by rfl, ?_⟩) ?_ ?_
                                rotate_left
                                · intro w'
                                  go_simp
                                  with_reducible rfl
                                rotate_left
                                · simp only [Act.put, List.setIfInBounds_toArray, List.set_cons_zero, List.set_cons_succ, i64_w, i32_w]
                                  rfl
                                refine take_ (i := 4) (N := some 58) (v := ?_) (a' := ?_) #[true, true, true, true, true, false, false, false, true, true, true, true, false, true, false, false, false, false, false] rfl rfl (take_ofW HT_.out HW_.out (by kernel_rfl)) (fun _ _ _ h => h) (Or.inl ⟨by rfl, ?_⟩) hHeld ?_ ?_
                                rotate_left
                                · rintro w' ⟨s0, s1⟩
                                  go_simp
                                  with_reducible rfl
                                rotate_left
                                · simp only [Act.put, List.setIfInBounds_toArray, List.set_cons_zero, List.set_cons_succ, i64_w, i32_w]
                                  rfl
                                refine pure_ (i := 5) (N := some 59) (v := ?_) (a' := ?_) #[true, true, true, true, true, true, false, false, true, true, true, true, false, true, false, false, false, false, false] rfl rfl (any_of HT_.out (by kernel_rfl)) (fun _ _ _ h => h) (Or.inl ⟨by rfl, ?_⟩) ?_ ?_
                                rotate_left
                                · intro w'
                                  go_simp
                                  with_reducible rfl
                                rotate_left
                                · simp only [Act.put, List.setIfInBounds_toArray, List.set_cons_zero, List.set_cons_succ, i64_w, i32_w]
                                  rfl
                                refine take_ (i := 12) (N := some 66) (v := ?_) (a' := ?_) #[true, true, true, true, true, true, false, false, true, true, true, true, true, true, false, false, false, false, false] rfl rfl (take_ofW HT_.out HW_.out (by kernel_rfl)) (fun _ _ _ h => h) (Or.inl ⟨by rfl, ?_⟩) hHeld ?_ ?_
                                rotate_left
                                · rintro w' ⟨s0, s1⟩
                                  go_simp
                                  with_reducible rfl
                                rotate_left
                                · simp only [Act.put, List.setIfInBounds_toArray, List.set_cons_zero, List.set_cons_succ, i64_w, i32_w]
                                  rfl
                                refine pure_ (i := 14) (N := some 68) (v := ?_) (a' := ?_) #[true, true, true, true, true, true, false, false, true, true, true, true, true, true, true, false, false, false, false] rfl rfl (any_of HT_.out (by kernel_rfl)) (fun _ _ _ h => h) (Or.inl ⟨by rfl, ?_⟩) ?_ ?_
                                rotate_left
                                · intro w'
                                  go_simp
                                  with_reducible rfl
                                rotate_left
                                · simp only [Act.put, List.setIfInBounds_toArray, List.set_cons_zero, List.set_cons_succ, i64_w, i32_w]
                                  rfl
                                refine join_ (σ := Value × Value × Value) 3 #[true, true, true, true, true, true, true, true, true, true, true, true, true, true, true, true, false, false, false] (fun s_ => [(60, s_.1), (61, s_.2.1), (69, s_.2.2)]) (fun s_ w' => (w'.cell? (ad167.add (x14_2).toNat) = some (.int .i64 (rd t158 x14_2)) ∧ w'.cell? (ad174.add (x14_2).toNat) = some (.int .i64 (rd t162 x14_2))) ∧ (Kd.R (Kd.int .i64) 3 w' w.heap.size (fun k_ => some k_ ≠ (s_.2.1 : Value).ownBlock ∧ some k_ ≠ (s_.2.2 : Value).ownBlock ∧ some k_ ≠ (.slice (some ad167) t158.length co38 : Value).ownBlock ∧ some k_ ≠ (.slice (some ad174) t162.length co39 : Value).ownBlock ∧ some k_ ≠ (.slice Ao36 x13_2.length co36 : Value).ownBlock) s_.1 y168) ∧ (Kd.R (Kd.int .i64) 3 w' w.heap.size (fun k_ => some k_ ≠ (s_.1 : Value).ownBlock ∧ some k_ ≠ (s_.2.2 : Value).ownBlock ∧ some k_ ≠ (.slice (some ad167) t158.length co38 : Value).ownBlock ∧ some k_ ≠ (.slice (some ad174) t162.length co39 : Value).ownBlock ∧ some k_ ≠ (.slice Ao36 x13_2.length co36 : Value).ownBlock) s_.2.1 y171) ∧ (Kd.R (Kd.int .i64) 3 w' w.heap.size (fun k_ => some k_ ≠ (s_.1 : Value).ownBlock ∧ some k_ ≠ (s_.2.1 : Value).ownBlock ∧ some k_ ≠ (.slice (some ad167) t158.length co38 : Value).ownBlock ∧ some k_ ≠ (.slice (some ad174) t162.length co39 : Value).ownBlock ∧ some k_ ≠ (.slice Ao36 x13_2.length co36 : Value).ownBlock) s_.2.2 y175) ∧ (Kd.R (Kd.int .i64) 3 w' w.heap.size (fun k_ => some k_ ≠ (s_.1 : Value).ownBlock ∧ some k_ ≠ (s_.2.1 : Value).ownBlock ∧ some k_ ≠ (s_.2.2 : Value).ownBlock ∧ some k_ ≠ (.slice (some ad174) t162.length co39 : Value).ownBlock ∧ some k_ ≠ (.slice Ao36 x13_2.length co36 : Value).ownBlock) (.slice (some ad167) t158.length co38) t158) ∧ (Kd.R (Kd.int .i64) 3 w' w.heap.size (fun k_ => some k_ ≠ (s_.1 : Value).ownBlock ∧ some k_ ≠ (s_.2.1 : Value).ownBlock ∧ some k_ ≠ (s_.2.2 : Value).ownBlock ∧ some k_ ≠ (.slice (some ad167) t158.length co38 : Value).ownBlock ∧ some k_ ≠ (.slice Ao36 x13_2.length co36 : Value).ownBlock) (.slice (some ad174) t162.length co39) t162) ∧ (Kd.R (Kd.int .i64) 3 w' w.heap.size (fun k_ => some k_ ≠ (s_.1 : Value).ownBlock ∧ some k_ ≠ (s_.2.1 : Value).ownBlock ∧ some k_ ≠ (s_.2.2 : Value).ownBlock ∧ some k_ ≠ (.slice (some ad167) t158.length co38 : Value).ownBlock ∧ some k_ ≠ (.slice (some ad174) t162.length co39 : Value).ownBlock) (.slice Ao36 x13_2.length co36) x13_2) ∧ (Below w.heap.size w w')) ?_ ?_
                                rotate_left
                                · intro hCont
                                  refine two_ (i := 6) (j := 15) (Ni := some 60) (Nj := some 69) #[true, true, true, true, true, true, true, false, true, true, true, true, true, true, true, false, false, false, false] #[true, true, true, true, true, true, false, false, true, true, true, true, true, true, true, true, false, false, false] rfl rfl rfl rfl (two_of HT_.out (by kernel_rfl)) (by decide) (by decide) (fun K hK => ?_) (fun K hK => ?_)
                                  · skip
                                    refine Kd.R_lit_step (Kd.int .i64) _ 3 ?hg (N := 60) ?hd (xs := ([wrap64 ((rd t158 x14_2) + 1)] : List Int)) (inner := [.int .i64 (wrap64 ((rd t158 x14_2) + 1))]) (ok := fun _ => True) (okp := fun _ => True) ?hr ?hp (fun _ hk => hk) trivial (Below.refl _ _) (Nat.le_refl _) (by simp) ?_; (case hd => rfl); (case hg => rfl); (case hr => first | (go_simp; done) | (go_simp; rfl)); (case hp => exact (Reps.one (show Kd.M (Kd.int .i64) _ _ _ (wrap64 ((rd t158 x14_2) + 1)) [.int .i64 (wrap64 ((rd t158 x14_2) + 1))] from rfl) (Reps.none _ _)))
                                    intro v169 w40 ho41 hb hg_ hnew_
                                    have HS0_ := (hb.cell (World.block_lt_of_cell? _ _ (hHeld.1))).trans (hHeld.1)
                                    have HS1_ := (hb.cell (World.block_lt_of_cell? _ _ (hHeld.2))).trans (hHeld.2)
                                    clear hg_ hnew_
                                    (first | rw [← Ny168.out] at ho41 | (simp only [Int.reduceToNat] at ho41; rw [← Ny168.out] at ho41))
                                    have n0_ := Aside0.mk (Kd.R_elder' (by (with_reducible repeat (first | apply Kd.R_alloc | apply Kd.R_drewN | apply Kd.R_drew)); exact HO_0.out) (Kd.R_base ho41) hb)
                                    have n1_ := Aside0.mk (Kd.R_elder' (by (with_reducible repeat (first | apply Kd.R_alloc | apply Kd.R_drewN | apply Kd.R_drew)); exact HO_1.out) (Kd.R_base ho41) hb)
                                    have n2_ := Aside0.mk (Kd.R_elder' (by (with_reducible repeat (first | apply Kd.R_alloc | apply Kd.R_drewN | apply Kd.R_drew)); exact HO_12.out) (Kd.R_base ho41) hb)
                                    have n3_ := Aside0.mk (Kd.R_elder' (by (with_reducible repeat (first | apply Kd.R_alloc | apply Kd.R_drewN | apply Kd.R_drew)); exact HO_13.out) (Kd.R_base ho41) hb)
                                    have n4_ := Aside0.mk (Kd.R_lower (Kd.R_new' (Kd.R_new' (Kd.R_new' (Kd.R_new' ho41 (Kd.R_lt (by (with_reducible repeat (first | apply Kd.R_alloc | apply Kd.R_drewN | apply Kd.R_drew)); exact HO_0.out))) (Kd.R_lt (by (with_reducible repeat (first | apply Kd.R_alloc | apply Kd.R_drewN | apply Kd.R_drew)); exact HO_1.out))) (Kd.R_lt (by (with_reducible repeat (first | apply Kd.R_alloc | apply Kd.R_drewN | apply Kd.R_drew)); exact HO_12.out))) (Kd.R_lt (by (with_reducible repeat (first | apply Kd.R_alloc | apply Kd.R_drewN | apply Kd.R_drew)); exact HO_13.out))) (below_size (by repeat (first | (with_reducible first | exact HB.out | apply below_alloc | apply pw_below_drewN | apply below_drew1) | exact HB.out))))
                                    have n5_ := Aside0.mk (below_step (by repeat (first | (with_reducible first | exact HB.out | apply below_alloc | apply pw_below_drewN | apply below_drew1) | exact HB.out)) hb)
                                    clear HO_0
                                    clear HO_1
                                    clear HO_12
                                    clear HO_13
                                    clear HB
                                    have HO_0 := n0_
                                    have HO_1 := n1_
                                    have HO_12 := n2_
                                    have HO_13 := n3_
                                    have HO170 := n4_
                                    have HB := n5_
                                    clear n0_ n1_ n2_ n3_ n4_ n5_
                                    clear hb ho41
                                    obtain ⟨Ao43, co43, eo43⟩ := Kd.R_slice HO170.out
                                    (first | subst eo43 | (injection eo43 with f1_ f2_ f3_; have f4_ := f1_.symm; have f5_ := f3_.symm; clear f1_ f2_ f3_; subst f4_; subst f5_))
                                    refine hK.out _ _ ⟨HS0_, HS1_⟩ (fun hHeld => ?_)
                                    clear hK K
                                    refine norm_ (a' := ?_) ?_ ?_
                                    rotate_left
                                    · show Act.put _ (some 60) _ = _
                                      simp only [Act.put, List.setIfInBounds_toArray, List.set_cons_zero, List.set_cons_succ, i64_w, i32_w]
                                      rfl
                                    refine two_ (i := 7) (j := 15) (Ni := some 61) (Nj := some 69) #[true, true, true, true, true, true, true, true, true, true, true, true, true, true, true, false, false, false, false] #[true, true, true, true, true, true, true, false, true, true, true, true, true, true, true, true, false, false, false] rfl rfl rfl rfl (two_of HT_.out (by kernel_rfl)) (by decide) (by decide) (fun K hK => ?_) (fun K hK => ?_)
                                    · skip
                                      refine Kd.R_append_rows_step (Kd.int .i64) (w0 := w) w.heap.size (by rfl) (.tmp 54) (.tmp 60) 22 3 (.int .i64 0) 8 rfl Try.underlying22 info3 rfl (by decide) (by omega) (.slice Ao35 x12_2.length co35) x12_2 y168 _ _ _ (fun k_ => some k_ ≠ (.slice (some ad167) t158.length co38 : Value).ownBlock ∧ some k_ ≠ (.slice (some ad174) t162.length co39 : Value).ownBlock ∧ some k_ ≠ (.slice Ao36 x13_2.length co36 : Value).ownBlock ∧ some k_ ≠ (.slice Ao43 y168.length co43 : Value).ownBlock) (fun _ => False) rfl rfl ?aO ?aR (fun _ _ h => h) (fun _ h => h.elim) ?aF ?aB ?aS ?aL ?_
                                      (case aR => repeat (first | exact (Kd.R_reads' HO170.out).2.2 | (with_reducible refine Kd.C_alloc ?_ _) | (with_reducible refine Kd.C_drewN ?_ _) | (with_reducible refine Kd.C_drew ?_)))
                                      (case aB => exact (by repeat (first | (with_reducible first | exact HB.out | apply below_alloc | apply pw_below_drewN | apply below_drew1) | exact HB.out)))
                                      (case aF => exact (fun k_ hk => ⟨Kd.fresh' (Kd.R_lt (by (with_reducible repeat (first | apply Kd.R_alloc | apply Kd.R_drewN | apply Kd.R_drew)); exact HO_0.out)) k_ hk, Kd.fresh' (Kd.R_lt (by (with_reducible repeat (first | apply Kd.R_alloc | apply Kd.R_drewN | apply Kd.R_drew)); exact HO_1.out)) k_ hk, Kd.fresh' (Kd.R_lt (by (with_reducible repeat (first | apply Kd.R_alloc | apply Kd.R_drewN | apply Kd.R_drew)); exact HO_13.out)) k_ hk, Kd.fresh' (Kd.R_lt (by (with_reducible repeat (first | apply Kd.R_alloc | apply Kd.R_drewN | apply Kd.R_drew)); exact HO170.out)) k_ hk⟩))
                                      (case aO => exact (by (with_reducible repeat (first | apply Kd.R_alloc | apply Kd.R_drewN | apply Kd.R_drew)); exact Kd.R_mono HO_12.out (fun _ hk => ⟨hk.1.1, ⟨hk.1.2.1, ⟨hk.1.2.2, hk.2⟩⟩⟩)))
                                      (case aS => exact (below_size (by repeat (first | (with_reducible first | exact HB.out | apply below_alloc | apply pw_below_drewN | apply below_drew1) | exact HB.out))))
                                      (case aL => have := LMc32.out; omega)
                                      intro v172 w42 ho hb hg hat
                                      (first | have HS0_ := cell_grown hg (hHeld.1) (by first | (rw [add_block]; exact (by have h_ := HO_0.out.1 _ rfl; (try simp only [and_assoc] at h_); first | exact h_ | exact h_.1 | exact h_.2 | exact h_.2.1 | exact h_.2.2 | exact h_.2.2.1 | exact h_.2.2.2 | exact h_.2.2.2.1 | exact h_.2.2.2.2 | exact h_.2.2.2.2.1 | exact h_.2.2.2.2.2 | exact h_.2.2.2.2.2.1 | exact h_.2.2.2.2.2.2 | exact h_.2.2.2.2.2.2.1 | exact h_.2.2.2.2.2.2.2 | exact h_.2.2.2.2.2.2.2.1 | exact h_.2.2.2.2.2.2.2.2 | exact h_.2.2.2.2.2.2.2.2.1 | exact h_.2.2.2.2.2.2.2.2.2)) | (show some (Addr.add _ _).block ≠ _; rw [add_block]; exact (by have h_ := HO_0.out.1 _ rfl; (try simp only [and_assoc] at h_); first | exact h_ | exact h_.1 | exact h_.2 | exact h_.2.1 | exact h_.2.2 | exact h_.2.2.1 | exact h_.2.2.2 | exact h_.2.2.2.1 | exact h_.2.2.2.2 | exact h_.2.2.2.2.1 | exact h_.2.2.2.2.2 | exact h_.2.2.2.2.2.1 | exact h_.2.2.2.2.2.2 | exact h_.2.2.2.2.2.2.1 | exact h_.2.2.2.2.2.2.2 | exact h_.2.2.2.2.2.2.2.1 | exact h_.2.2.2.2.2.2.2.2 | exact h_.2.2.2.2.2.2.2.2.1 | exact h_.2.2.2.2.2.2.2.2.2)) | exact (by have h_ := HO_0.out.1 _ rfl; (try simp only [and_assoc] at h_); first | exact h_ | exact h_.1 | exact h_.2 | exact h_.2.1 | exact h_.2.2 | exact h_.2.2.1 | exact h_.2.2.2 | exact h_.2.2.2.1 | exact h_.2.2.2.2 | exact h_.2.2.2.2.1 | exact h_.2.2.2.2.2 | exact h_.2.2.2.2.2.1 | exact h_.2.2.2.2.2.2 | exact h_.2.2.2.2.2.2.1 | exact h_.2.2.2.2.2.2.2 | exact h_.2.2.2.2.2.2.2.1 | exact h_.2.2.2.2.2.2.2.2 | exact h_.2.2.2.2.2.2.2.2.1 | exact h_.2.2.2.2.2.2.2.2.2)) | have HS0_ := cell_grown hg (cell_unalloc (hHeld.1) (by first | (rw [add_block]; exact Kd.R_lt HO_0.out _ rfl) | (show (Addr.add _ _).block < _; rw [add_block]; exact Kd.R_lt HO_0.out _ rfl) | exact Kd.R_lt HO_0.out _ rfl)) (by first | (rw [add_block]; exact (by have h_ := HO_0.out.1 _ rfl; (try simp only [and_assoc] at h_); first | exact h_ | exact h_.1 | exact h_.2 | exact h_.2.1 | exact h_.2.2 | exact h_.2.2.1 | exact h_.2.2.2 | exact h_.2.2.2.1 | exact h_.2.2.2.2 | exact h_.2.2.2.2.1 | exact h_.2.2.2.2.2 | exact h_.2.2.2.2.2.1 | exact h_.2.2.2.2.2.2 | exact h_.2.2.2.2.2.2.1 | exact h_.2.2.2.2.2.2.2 | exact h_.2.2.2.2.2.2.2.1 | exact h_.2.2.2.2.2.2.2.2 | exact h_.2.2.2.2.2.2.2.2.1 | exact h_.2.2.2.2.2.2.2.2.2)) | (show some (Addr.add _ _).block ≠ _; rw [add_block]; exact (by have h_ := HO_0.out.1 _ rfl; (try simp only [and_assoc] at h_); first | exact h_ | exact h_.1 | exact h_.2 | exact h_.2.1 | exact h_.2.2 | exact h_.2.2.1 | exact h_.2.2.2 | exact h_.2.2.2.1 | exact h_.2.2.2.2 | exact h_.2.2.2.2.1 | exact h_.2.2.2.2.2 | exact h_.2.2.2.2.2.1 | exact h_.2.2.2.2.2.2 | exact h_.2.2.2.2.2.2.1 | exact h_.2.2.2.2.2.2.2 | exact h_.2.2.2.2.2.2.2.1 | exact h_.2.2.2.2.2.2.2.2 | exact h_.2.2.2.2.2.2.2.2.1 | exact h_.2.2.2.2.2.2.2.2.2)) | exact (by have h_ := HO_0.out.1 _ rfl; (try simp only [and_assoc] at h_); first | exact h_ | exact h_.1 | exact h_.2 | exact h_.2.1 | exact h_.2.2 | exact h_.2.2.1 | exact h_.2.2.2 | exact h_.2.2.2.1 | exact h_.2.2.2.2 | exact h_.2.2.2.2.1 | exact h_.2.2.2.2.2 | exact h_.2.2.2.2.2.1 | exact h_.2.2.2.2.2.2 | exact h_.2.2.2.2.2.2.1 | exact h_.2.2.2.2.2.2.2 | exact h_.2.2.2.2.2.2.2.1 | exact h_.2.2.2.2.2.2.2.2 | exact h_.2.2.2.2.2.2.2.2.1 | exact h_.2.2.2.2.2.2.2.2.2)))
                                      (first | have HS1_ := cell_grown hg (hHeld.2) (by first | (rw [add_block]; exact (by have h_ := HO_1.out.1 _ rfl; (try simp only [and_assoc] at h_); first | exact h_ | exact h_.1 | exact h_.2 | exact h_.2.1 | exact h_.2.2 | exact h_.2.2.1 | exact h_.2.2.2 | exact h_.2.2.2.1 | exact h_.2.2.2.2 | exact h_.2.2.2.2.1 | exact h_.2.2.2.2.2 | exact h_.2.2.2.2.2.1 | exact h_.2.2.2.2.2.2 | exact h_.2.2.2.2.2.2.1 | exact h_.2.2.2.2.2.2.2 | exact h_.2.2.2.2.2.2.2.1 | exact h_.2.2.2.2.2.2.2.2 | exact h_.2.2.2.2.2.2.2.2.1 | exact h_.2.2.2.2.2.2.2.2.2)) | (show some (Addr.add _ _).block ≠ _; rw [add_block]; exact (by have h_ := HO_1.out.1 _ rfl; (try simp only [and_assoc] at h_); first | exact h_ | exact h_.1 | exact h_.2 | exact h_.2.1 | exact h_.2.2 | exact h_.2.2.1 | exact h_.2.2.2 | exact h_.2.2.2.1 | exact h_.2.2.2.2 | exact h_.2.2.2.2.1 | exact h_.2.2.2.2.2 | exact h_.2.2.2.2.2.1 | exact h_.2.2.2.2.2.2 | exact h_.2.2.2.2.2.2.1 | exact h_.2.2.2.2.2.2.2 | exact h_.2.2.2.2.2.2.2.1 | exact h_.2.2.2.2.2.2.2.2 | exact h_.2.2.2.2.2.2.2.2.1 | exact h_.2.2.2.2.2.2.2.2.2)) | exact (by have h_ := HO_1.out.1 _ rfl; (try simp only [and_assoc] at h_); first | exact h_ | exact h_.1 | exact h_.2 | exact h_.2.1 | exact h_.2.2 | exact h_.2.2.1 | exact h_.2.2.2 | exact h_.2.2.2.1 | exact h_.2.2.2.2 | exact h_.2.2.2.2.1 | exact h_.2.2.2.2.2 | exact h_.2.2.2.2.2.1 | exact h_.2.2.2.2.2.2 | exact h_.2.2.2.2.2.2.1 | exact h_.2.2.2.2.2.2.2 | exact h_.2.2.2.2.2.2.2.1 | exact h_.2.2.2.2.2.2.2.2 | exact h_.2.2.2.2.2.2.2.2.1 | exact h_.2.2.2.2.2.2.2.2.2)) | have HS1_ := cell_grown hg (cell_unalloc (hHeld.2) (by first | (rw [add_block]; exact Kd.R_lt HO_1.out _ rfl) | (show (Addr.add _ _).block < _; rw [add_block]; exact Kd.R_lt HO_1.out _ rfl) | exact Kd.R_lt HO_1.out _ rfl)) (by first | (rw [add_block]; exact (by have h_ := HO_1.out.1 _ rfl; (try simp only [and_assoc] at h_); first | exact h_ | exact h_.1 | exact h_.2 | exact h_.2.1 | exact h_.2.2 | exact h_.2.2.1 | exact h_.2.2.2 | exact h_.2.2.2.1 | exact h_.2.2.2.2 | exact h_.2.2.2.2.1 | exact h_.2.2.2.2.2 | exact h_.2.2.2.2.2.1 | exact h_.2.2.2.2.2.2 | exact h_.2.2.2.2.2.2.1 | exact h_.2.2.2.2.2.2.2 | exact h_.2.2.2.2.2.2.2.1 | exact h_.2.2.2.2.2.2.2.2 | exact h_.2.2.2.2.2.2.2.2.1 | exact h_.2.2.2.2.2.2.2.2.2)) | (show some (Addr.add _ _).block ≠ _; rw [add_block]; exact (by have h_ := HO_1.out.1 _ rfl; (try simp only [and_assoc] at h_); first | exact h_ | exact h_.1 | exact h_.2 | exact h_.2.1 | exact h_.2.2 | exact h_.2.2.1 | exact h_.2.2.2 | exact h_.2.2.2.1 | exact h_.2.2.2.2 | exact h_.2.2.2.2.1 | exact h_.2.2.2.2.2 | exact h_.2.2.2.2.2.1 | exact h_.2.2.2.2.2.2 | exact h_.2.2.2.2.2.2.1 | exact h_.2.2.2.2.2.2.2 | exact h_.2.2.2.2.2.2.2.1 | exact h_.2.2.2.2.2.2.2.2 | exact h_.2.2.2.2.2.2.2.2.1 | exact h_.2.2.2.2.2.2.2.2.2)) | exact (by have h_ := HO_1.out.1 _ rfl; (try simp only [and_assoc] at h_); first | exact h_ | exact h_.1 | exact h_.2 | exact h_.2.1 | exact h_.2.2 | exact h_.2.2.1 | exact h_.2.2.2 | exact h_.2.2.2.1 | exact h_.2.2.2.2 | exact h_.2.2.2.2.1 | exact h_.2.2.2.2.2 | exact h_.2.2.2.2.2.1 | exact h_.2.2.2.2.2.2 | exact h_.2.2.2.2.2.2.1 | exact h_.2.2.2.2.2.2.2 | exact h_.2.2.2.2.2.2.2.1 | exact h_.2.2.2.2.2.2.2.2 | exact h_.2.2.2.2.2.2.2.2.1 | exact h_.2.2.2.2.2.2.2.2.2)))
                                      rw [← Ny171.out] at ho
                                      have n0_ := Aside0.mk (Kd.R_after (ok := (fun k_ => some k_ ≠ (.slice (some ad174) t162.length co39 : Value).ownBlock ∧ some k_ ≠ (.slice Ao36 x13_2.length co36 : Value).ownBlock ∧ some k_ ≠ (.slice Ao43 y168.length co43 : Value).ownBlock)) (by (with_reducible repeat (first | apply Kd.R_alloc | apply Kd.R_drewN | apply Kd.R_drew)); exact Kd.R_mono HO_0.out (fun _ hk => ⟨⟨hk.1.1, ⟨hk.1.2.2, hk.2⟩⟩, hk.1.2.1⟩)) hg hat)
                                      have n1_ := Aside0.mk (Kd.R_after (ok := (fun k_ => some k_ ≠ (.slice (some ad167) t158.length co38 : Value).ownBlock ∧ some k_ ≠ (.slice Ao36 x13_2.length co36 : Value).ownBlock ∧ some k_ ≠ (.slice Ao43 y168.length co43 : Value).ownBlock)) (by (with_reducible repeat (first | apply Kd.R_alloc | apply Kd.R_drewN | apply Kd.R_drew)); exact Kd.R_mono HO_1.out (fun _ hk => ⟨⟨hk.1.1, ⟨hk.1.2.2, hk.2⟩⟩, hk.1.2.1⟩)) hg hat)
                                      have n2_ := Aside0.mk (Kd.R_after (ok := (fun k_ => some k_ ≠ (.slice (some ad167) t158.length co38 : Value).ownBlock ∧ some k_ ≠ (.slice (some ad174) t162.length co39 : Value).ownBlock ∧ some k_ ≠ (.slice Ao43 y168.length co43 : Value).ownBlock)) (by (with_reducible repeat (first | apply Kd.R_alloc | apply Kd.R_drewN | apply Kd.R_drew)); exact Kd.R_mono HO_13.out (fun _ hk => ⟨⟨hk.1.1, ⟨hk.1.2.1, hk.2⟩⟩, hk.1.2.2⟩)) hg hat)
                                      have n3_ := Aside0.mk (Kd.R_after (ok := (fun k_ => some k_ ≠ (.slice (some ad167) t158.length co38 : Value).ownBlock ∧ some k_ ≠ (.slice (some ad174) t162.length co39 : Value).ownBlock ∧ some k_ ≠ (.slice Ao36 x13_2.length co36 : Value).ownBlock)) (by (with_reducible repeat (first | apply Kd.R_alloc | apply Kd.R_drewN | apply Kd.R_drew)); exact Kd.R_mono HO170.out (fun _ hk => ⟨⟨hk.1.1.1.2, ⟨hk.1.1.2, hk.2⟩⟩, hk.1.2⟩)) hg hat)
                                      have n4_ := Aside0.mk (hb)
                                      have n5_ := Aside0.mk (ho)
                                      clear HO_0
                                      clear HO_1
                                      clear HO_13
                                      clear HO170
                                      clear HB
                                      clear HO_12
                                      have HO_0 := n0_
                                      have HO_1 := n1_
                                      have HO_13 := n2_
                                      have HO170 := n3_
                                      have HB := n4_
                                      have HO173 := n5_
                                      clear n0_ n1_ n2_ n3_ n4_ n5_
                                      clear ho hb hg hat
                                      refine hK.out _ _ ⟨HS0_, HS1_⟩ (fun hHeld => ?_)
                                      clear hK K
                                      refine norm_ (a' := ?_) ?_ ?_
                                      rotate_left
                                      · show Act.put _ (some 61) _ = _
                                        simp only [Act.put, List.setIfInBounds_toArray, List.set_cons_zero, List.set_cons_succ, i64_w, i32_w]
                                        rfl
                                      refine one_ (i := 15) (N := some 69) #[true, true, true, true, true, true, true, true, true, true, true, true, true, true, true, true, false, false, false] rfl rfl (one_of HT_.out (by kernel_rfl)) (by decide) (fun K hK => ?_)
                                      refine Kd.R_lit_step (Kd.int .i64) _ 3 ?hg (N := 69) ?hd (xs := ([wrap64 ((rd t162 x14_2) + t165)] : List Int)) (inner := [.int .i64 (wrap64 ((rd t162 x14_2) + t165))]) (ok := fun _ => True) (okp := fun _ => True) ?hr ?hp (fun _ hk => hk) trivial (Below.refl _ _) (Nat.le_refl _) (by simp) ?_; (case hd => rfl); (case hg => rfl); (case hr => first | (go_simp; done) | (go_simp; rfl)); (case hp => exact (Reps.one (show Kd.M (Kd.int .i64) _ _ _ (wrap64 ((rd t162 x14_2) + t165)) [.int .i64 (wrap64 ((rd t162 x14_2) + t165))] from rfl) (Reps.none _ _)))
                                      intro v176 w44 ho45 hb hg_ hnew_
                                      have HS0_ := (hb.cell (World.block_lt_of_cell? _ _ (hHeld.1))).trans (hHeld.1)
                                      have HS1_ := (hb.cell (World.block_lt_of_cell? _ _ (hHeld.2))).trans (hHeld.2)
                                      clear hg_ hnew_
                                      (first | rw [← Ny175.out] at ho45 | (simp only [Int.reduceToNat] at ho45; rw [← Ny175.out] at ho45))
                                      have n0_ := Aside0.mk (Kd.R_elder' (by (with_reducible repeat (first | apply Kd.R_alloc | apply Kd.R_drewN | apply Kd.R_drew)); exact HO_0.out) (Kd.R_base ho45) hb)
                                      have n1_ := Aside0.mk (Kd.R_elder' (by (with_reducible repeat (first | apply Kd.R_alloc | apply Kd.R_drewN | apply Kd.R_drew)); exact HO_1.out) (Kd.R_base ho45) hb)
                                      have n2_ := Aside0.mk (Kd.R_elder' (by (with_reducible repeat (first | apply Kd.R_alloc | apply Kd.R_drewN | apply Kd.R_drew)); exact HO_13.out) (Kd.R_base ho45) hb)
                                      have n3_ := Aside0.mk (Kd.R_elder' (by (with_reducible repeat (first | apply Kd.R_alloc | apply Kd.R_drewN | apply Kd.R_drew)); exact HO170.out) (Kd.R_base ho45) hb)
                                      have n4_ := Aside0.mk (Kd.R_elder' (by (with_reducible repeat (first | apply Kd.R_alloc | apply Kd.R_drewN | apply Kd.R_drew)); exact HO173.out) (Kd.R_base ho45) hb)
                                      have n5_ := Aside0.mk (Kd.R_lower (Kd.R_new' (Kd.R_new' (Kd.R_new' (Kd.R_new' (Kd.R_new' ho45 (Kd.R_lt (by (with_reducible repeat (first | apply Kd.R_alloc | apply Kd.R_drewN | apply Kd.R_drew)); exact HO_0.out))) (Kd.R_lt (by (with_reducible repeat (first | apply Kd.R_alloc | apply Kd.R_drewN | apply Kd.R_drew)); exact HO_1.out))) (Kd.R_lt (by (with_reducible repeat (first | apply Kd.R_alloc | apply Kd.R_drewN | apply Kd.R_drew)); exact HO_13.out))) (Kd.R_lt (by (with_reducible repeat (first | apply Kd.R_alloc | apply Kd.R_drewN | apply Kd.R_drew)); exact HO170.out))) (Kd.R_lt (by (with_reducible repeat (first | apply Kd.R_alloc | apply Kd.R_drewN | apply Kd.R_drew)); exact HO173.out))) (below_size (by repeat (first | (with_reducible first | exact HB.out | apply below_alloc | apply pw_below_drewN | apply below_drew1) | exact HB.out))))
                                      have n6_ := Aside0.mk (below_step (by repeat (first | (with_reducible first | exact HB.out | apply below_alloc | apply pw_below_drewN | apply below_drew1) | exact HB.out)) hb)
                                      clear HO_0
                                      clear HO_1
                                      clear HO_13
                                      clear HO170
                                      clear HO173
                                      clear HB
                                      have HO_0 := n0_
                                      have HO_1 := n1_
                                      have HO_13 := n2_
                                      have HO170 := n3_
                                      have HO173 := n4_
                                      have HO177 := n5_
                                      have HB := n6_
                                      clear n0_ n1_ n2_ n3_ n4_ n5_ n6_
                                      clear hb ho45
                                      refine hK.out _ _ ⟨HS0_, HS1_⟩ (fun hHeld => ?_)
                                      clear hK K
                                      refine norm_ (a' := ?_) ?_ ?_
                                      rotate_left
                                      · show Act.put _ (some 69) _ = _
                                        simp only [Act.put, List.setIfInBounds_toArray, List.set_cons_zero, List.set_cons_succ, i64_w, i32_w]
                                        rfl
                                      exact norm_ (by simp only [putAll, Act.put, List.setIfInBounds_toArray, List.set_cons_zero, List.set_cons_succ]) (hCont (.slice Ao43 y168.length co43, v172, v176) _ ⟨hHeld, (by (with_reducible repeat (first | apply Kd.R_alloc | apply Kd.R_drewN | apply Kd.R_drew)); exact Kd.R_mono HO170.out (fun _ hk => ⟨hk.1.2, ⟨hk.2, ⟨hk.1.1.1, ⟨hk.1.1.2.1, hk.1.1.2.2⟩⟩⟩⟩)), (by (with_reducible repeat (first | apply Kd.R_alloc | apply Kd.R_drewN | apply Kd.R_drew)); exact Kd.R_mono HO173.out (fun _ hk => ⟨hk.1.2.2.2, ⟨hk.2, ⟨hk.1.1, ⟨hk.1.2.1, hk.1.2.2.1⟩⟩⟩⟩)), (by (with_reducible repeat (first | apply Kd.R_alloc | apply Kd.R_drewN | apply Kd.R_drew)); exact Kd.R_mono HO177.out (fun _ hk => ⟨hk.1.2, ⟨hk.2, ⟨hk.1.1.1.1.2, ⟨hk.1.1.1.2, hk.1.1.2⟩⟩⟩⟩)), (by (with_reducible repeat (first | apply Kd.R_alloc | apply Kd.R_drewN | apply Kd.R_drew)); exact Kd.R_mono HO_0.out (fun _ hk => ⟨hk.1.1.2.2, ⟨hk.1.2, ⟨hk.2, ⟨hk.1.1.1, hk.1.1.2.1⟩⟩⟩⟩)), (by (with_reducible repeat (first | apply Kd.R_alloc | apply Kd.R_drewN | apply Kd.R_drew)); exact Kd.R_mono HO_1.out (fun _ hk => ⟨hk.1.1.2.2, ⟨hk.1.2, ⟨hk.2, ⟨hk.1.1.1, hk.1.1.2.1⟩⟩⟩⟩)), (by (with_reducible repeat (first | apply Kd.R_alloc | apply Kd.R_drewN | apply Kd.R_drew)); exact Kd.R_mono HO_13.out (fun _ hk => ⟨hk.1.1.2.2, ⟨hk.1.2, ⟨hk.2, ⟨hk.1.1.1, hk.1.1.2.1⟩⟩⟩⟩)), (by repeat (first | (with_reducible first | exact HB.out | apply below_alloc | apply pw_below_drewN | apply below_drew1) | exact HB.out))⟩)
                                    · skip
                                      refine Kd.R_lit_step (Kd.int .i64) _ 3 ?hg (N := 69) ?hd (xs := ([wrap64 ((rd t162 x14_2) + t165)] : List Int)) (inner := [.int .i64 (wrap64 ((rd t162 x14_2) + t165))]) (ok := fun _ => True) (okp := fun _ => True) ?hr ?hp (fun _ hk => hk) trivial (Below.refl _ _) (Nat.le_refl _) (by simp) ?_; (case hd => rfl); (case hg => rfl); (case hr => first | (go_simp; done) | (go_simp; rfl)); (case hp => exact (Reps.one (show Kd.M (Kd.int .i64) _ _ _ (wrap64 ((rd t162 x14_2) + t165)) [.int .i64 (wrap64 ((rd t162 x14_2) + t165))] from rfl) (Reps.none _ _)))
                                      intro v176 w42 ho43 hb hg_ hnew_
                                      have HS0_ := (hb.cell (World.block_lt_of_cell? _ _ (hHeld.1))).trans (hHeld.1)
                                      have HS1_ := (hb.cell (World.block_lt_of_cell? _ _ (hHeld.2))).trans (hHeld.2)
                                      clear hg_ hnew_
                                      (first | rw [← Ny175.out] at ho43 | (simp only [Int.reduceToNat] at ho43; rw [← Ny175.out] at ho43))
                                      have n0_ := Aside0.mk (Kd.R_elder' (by (with_reducible repeat (first | apply Kd.R_alloc | apply Kd.R_drewN | apply Kd.R_drew)); exact HO_0.out) (Kd.R_base ho43) hb)
                                      have n1_ := Aside0.mk (Kd.R_elder' (by (with_reducible repeat (first | apply Kd.R_alloc | apply Kd.R_drewN | apply Kd.R_drew)); exact HO_1.out) (Kd.R_base ho43) hb)
                                      have n2_ := Aside0.mk (Kd.R_elder' (by (with_reducible repeat (first | apply Kd.R_alloc | apply Kd.R_drewN | apply Kd.R_drew)); exact HO_12.out) (Kd.R_base ho43) hb)
                                      have n3_ := Aside0.mk (Kd.R_elder' (by (with_reducible repeat (first | apply Kd.R_alloc | apply Kd.R_drewN | apply Kd.R_drew)); exact HO_13.out) (Kd.R_base ho43) hb)
                                      have n4_ := Aside0.mk (Kd.R_elder' (by (with_reducible repeat (first | apply Kd.R_alloc | apply Kd.R_drewN | apply Kd.R_drew)); exact HO170.out) (Kd.R_base ho43) hb)
                                      have n5_ := Aside0.mk (Kd.R_lower (Kd.R_new' (Kd.R_new' (Kd.R_new' (Kd.R_new' (Kd.R_new' ho43 (Kd.R_lt (by (with_reducible repeat (first | apply Kd.R_alloc | apply Kd.R_drewN | apply Kd.R_drew)); exact HO_0.out))) (Kd.R_lt (by (with_reducible repeat (first | apply Kd.R_alloc | apply Kd.R_drewN | apply Kd.R_drew)); exact HO_1.out))) (Kd.R_lt (by (with_reducible repeat (first | apply Kd.R_alloc | apply Kd.R_drewN | apply Kd.R_drew)); exact HO_12.out))) (Kd.R_lt (by (with_reducible repeat (first | apply Kd.R_alloc | apply Kd.R_drewN | apply Kd.R_drew)); exact HO_13.out))) (Kd.R_lt (by (with_reducible repeat (first | apply Kd.R_alloc | apply Kd.R_drewN | apply Kd.R_drew)); exact HO170.out))) (below_size (by repeat (first | (with_reducible first | exact HB.out | apply below_alloc | apply pw_below_drewN | apply below_drew1) | exact HB.out))))
                                      have n6_ := Aside0.mk (below_step (by repeat (first | (with_reducible first | exact HB.out | apply below_alloc | apply pw_below_drewN | apply below_drew1) | exact HB.out)) hb)
                                      clear HO_0
                                      clear HO_1
                                      clear HO_12
                                      clear HO_13
                                      clear HO170
                                      clear HB
                                      have HO_0 := n0_
                                      have HO_1 := n1_
                                      have HO_12 := n2_
                                      have HO_13 := n3_
                                      have HO170 := n4_
                                      have HO177 := n5_
                                      have HB := n6_
                                      clear n0_ n1_ n2_ n3_ n4_ n5_ n6_
                                      clear hb ho43
                                      obtain ⟨Ao45, co45, eo45⟩ := Kd.R_slice HO170.out
                                      (first | subst eo45 | (injection eo45 with f1_ f2_ f3_; have f4_ := f1_.symm; have f5_ := f3_.symm; clear f1_ f2_ f3_; subst f4_; subst f5_))
                                      refine hK.out _ _ ⟨HS0_, HS1_⟩ (fun hHeld => ?_)
                                      clear hK K
                                      refine norm_ (a' := ?_) ?_ ?_
                                      rotate_left
                                      · show Act.put _ (some 69) _ = _
                                        simp only [Act.put, List.setIfInBounds_toArray, List.set_cons_zero, List.set_cons_succ, i64_w, i32_w]
                                        rfl
                                      refine one_ (i := 7) (N := some 61) #[true, true, true, true, true, true, true, true, true, true, true, true, true, true, true, true, false, false, false] rfl rfl (one_of HT_.out (by kernel_rfl)) (by decide) (fun K hK => ?_)
                                      refine Kd.R_append_rows_step (Kd.int .i64) (w0 := w) w.heap.size (by rfl) (.tmp 54) (.tmp 60) 22 3 (.int .i64 0) 8 rfl Try.underlying22 info3 rfl (by decide) (by omega) (.slice Ao35 x12_2.length co35) x12_2 y168 _ _ _ (fun k_ => some k_ ≠ (.slice (some ad167) t158.length co38 : Value).ownBlock ∧ some k_ ≠ (.slice (some ad174) t162.length co39 : Value).ownBlock ∧ some k_ ≠ (.slice Ao36 x13_2.length co36 : Value).ownBlock ∧ some k_ ≠ (.slice Ao45 y168.length co45 : Value).ownBlock ∧ some k_ ≠ (v176 : Value).ownBlock) (fun _ => False) rfl rfl ?aO ?aR (fun _ _ h => h) (fun _ h => h.elim) ?aF ?aB ?aS ?aL ?_
                                      (case aR => repeat (first | exact (Kd.R_reads' HO170.out).2.2 | (with_reducible refine Kd.C_alloc ?_ _) | (with_reducible refine Kd.C_drewN ?_ _) | (with_reducible refine Kd.C_drew ?_)))
                                      (case aB => exact (by repeat (first | (with_reducible first | exact HB.out | apply below_alloc | apply pw_below_drewN | apply below_drew1) | exact HB.out)))
                                      (case aF => exact (fun k_ hk => ⟨Kd.fresh' (Kd.R_lt (by (with_reducible repeat (first | apply Kd.R_alloc | apply Kd.R_drewN | apply Kd.R_drew)); exact HO_0.out)) k_ hk, Kd.fresh' (Kd.R_lt (by (with_reducible repeat (first | apply Kd.R_alloc | apply Kd.R_drewN | apply Kd.R_drew)); exact HO_1.out)) k_ hk, Kd.fresh' (Kd.R_lt (by (with_reducible repeat (first | apply Kd.R_alloc | apply Kd.R_drewN | apply Kd.R_drew)); exact HO_13.out)) k_ hk, Kd.fresh' (Kd.R_lt (by (with_reducible repeat (first | apply Kd.R_alloc | apply Kd.R_drewN | apply Kd.R_drew)); exact HO170.out)) k_ hk, Kd.fresh' (Kd.R_lt (by (with_reducible repeat (first | apply Kd.R_alloc | apply Kd.R_drewN | apply Kd.R_drew)); exact HO177.out)) k_ hk⟩))
                                      (case aO => exact (by (with_reducible repeat (first | apply Kd.R_alloc | apply Kd.R_drewN | apply Kd.R_drew)); exact Kd.R_mono HO_12.out (fun _ hk => ⟨hk.1.1.1, ⟨hk.1.1.2.1, ⟨hk.1.1.2.2, ⟨hk.1.2, hk.2⟩⟩⟩⟩)))
                                      (case aS => exact (below_size (by repeat (first | (with_reducible first | exact HB.out | apply below_alloc | apply pw_below_drewN | apply below_drew1) | exact HB.out))))
                                      (case aL => have := LMc32.out; omega)
                                      intro v172 w44 ho hb hg hat
                                      (first | have HS0_ := cell_grown hg (hHeld.1) (by first | (rw [add_block]; exact (by have h_ := HO_0.out.1 _ rfl; (try simp only [and_assoc] at h_); first | exact h_ | exact h_.1 | exact h_.2 | exact h_.2.1 | exact h_.2.2 | exact h_.2.2.1 | exact h_.2.2.2 | exact h_.2.2.2.1 | exact h_.2.2.2.2 | exact h_.2.2.2.2.1 | exact h_.2.2.2.2.2 | exact h_.2.2.2.2.2.1 | exact h_.2.2.2.2.2.2 | exact h_.2.2.2.2.2.2.1 | exact h_.2.2.2.2.2.2.2 | exact h_.2.2.2.2.2.2.2.1 | exact h_.2.2.2.2.2.2.2.2 | exact h_.2.2.2.2.2.2.2.2.1 | exact h_.2.2.2.2.2.2.2.2.2)) | (show some (Addr.add _ _).block ≠ _; rw [add_block]; exact (by have h_ := HO_0.out.1 _ rfl; (try simp only [and_assoc] at h_); first | exact h_ | exact h_.1 | exact h_.2 | exact h_.2.1 | exact h_.2.2 | exact h_.2.2.1 | exact h_.2.2.2 | exact h_.2.2.2.1 | exact h_.2.2.2.2 | exact h_.2.2.2.2.1 | exact h_.2.2.2.2.2 | exact h_.2.2.2.2.2.1 | exact h_.2.2.2.2.2.2 | exact h_.2.2.2.2.2.2.1 | exact h_.2.2.2.2.2.2.2 | exact h_.2.2.2.2.2.2.2.1 | exact h_.2.2.2.2.2.2.2.2 | exact h_.2.2.2.2.2.2.2.2.1 | exact h_.2.2.2.2.2.2.2.2.2)) | exact (by have h_ := HO_0.out.1 _ rfl; (try simp only [and_assoc] at h_); first | exact h_ | exact h_.1 | exact h_.2 | exact h_.2.1 | exact h_.2.2 | exact h_.2.2.1 | exact h_.2.2.2 | exact h_.2.2.2.1 | exact h_.2.2.2.2 | exact h_.2.2.2.2.1 | exact h_.2.2.2.2.2 | exact h_.2.2.2.2.2.1 | exact h_.2.2.2.2.2.2 | exact h_.2.2.2.2.2.2.1 | exact h_.2.2.2.2.2.2.2 | exact h_.2.2.2.2.2.2.2.1 | exact h_.2.2.2.2.2.2.2.2 | exact h_.2.2.2.2.2.2.2.2.1 | exact h_.2.2.2.2.2.2.2.2.2)) | have HS0_ := cell_grown hg (cell_unalloc (hHeld.1) (by first | (rw [add_block]; exact Kd.R_lt HO_0.out _ rfl) | (show (Addr.add _ _).block < _; rw [add_block]; exact Kd.R_lt HO_0.out _ rfl) | exact Kd.R_lt HO_0.out _ rfl)) (by first | (rw [add_block]; exact (by have h_ := HO_0.out.1 _ rfl; (try simp only [and_assoc] at h_); first | exact h_ | exact h_.1 | exact h_.2 | exact h_.2.1 | exact h_.2.2 | exact h_.2.2.1 | exact h_.2.2.2 | exact h_.2.2.2.1 | exact h_.2.2.2.2 | exact h_.2.2.2.2.1 | exact h_.2.2.2.2.2 | exact h_.2.2.2.2.2.1 | exact h_.2.2.2.2.2.2 | exact h_.2.2.2.2.2.2.1 | exact h_.2.2.2.2.2.2.2 | exact h_.2.2.2.2.2.2.2.1 | exact h_.2.2.2.2.2.2.2.2 | exact h_.2.2.2.2.2.2.2.2.1 | exact h_.2.2.2.2.2.2.2.2.2)) | (show some (Addr.add _ _).block ≠ _; rw [add_block]; exact (by have h_ := HO_0.out.1 _ rfl; (try simp only [and_assoc] at h_); first | exact h_ | exact h_.1 | exact h_.2 | exact h_.2.1 | exact h_.2.2 | exact h_.2.2.1 | exact h_.2.2.2 | exact h_.2.2.2.1 | exact h_.2.2.2.2 | exact h_.2.2.2.2.1 | exact h_.2.2.2.2.2 | exact h_.2.2.2.2.2.1 | exact h_.2.2.2.2.2.2 | exact h_.2.2.2.2.2.2.1 | exact h_.2.2.2.2.2.2.2 | exact h_.2.2.2.2.2.2.2.1 | exact h_.2.2.2.2.2.2.2.2 | exact h_.2.2.2.2.2.2.2.2.1 | exact h_.2.2.2.2.2.2.2.2.2)) | exact (by have h_ := HO_0.out.1 _ rfl; (try simp only [and_assoc] at h_); first | exact h_ | exact h_.1 | exact h_.2 | exact h_.2.1 | exact h_.2.2 | exact h_.2.2.1 | exact h_.2.2.2 | exact h_.2.2.2.1 | exact h_.2.2.2.2 | exact h_.2.2.2.2.1 | exact h_.2.2.2.2.2 | exact h_.2.2.2.2.2.1 | exact h_.2.2.2.2.2.2 | exact h_.2.2.2.2.2.2.1 | exact h_.2.2.2.2.2.2.2 | exact h_.2.2.2.2.2.2.2.1 | exact h_.2.2.2.2.2.2.2.2 | exact h_.2.2.2.2.2.2.2.2.1 | exact h_.2.2.2.2.2.2.2.2.2)))
                                      (first | have HS1_ := cell_grown hg (hHeld.2) (by first | (rw [add_block]; exact (by have h_ := HO_1.out.1 _ rfl; (try simp only [and_assoc] at h_); first | exact h_ | exact h_.1 | exact h_.2 | exact h_.2.1 | exact h_.2.2 | exact h_.2.2.1 | exact h_.2.2.2 | exact h_.2.2.2.1 | exact h_.2.2.2.2 | exact h_.2.2.2.2.1 | exact h_.2.2.2.2.2 | exact h_.2.2.2.2.2.1 | exact h_.2.2.2.2.2.2 | exact h_.2.2.2.2.2.2.1 | exact h_.2.2.2.2.2.2.2 | exact h_.2.2.2.2.2.2.2.1 | exact h_.2.2.2.2.2.2.2.2 | exact h_.2.2.2.2.2.2.2.2.1 | exact h_.2.2.2.2.2.2.2.2.2)) | (show some (Addr.add _ _).block ≠ _; rw [add_block]; exact (by have h_ := HO_1.out.1 _ rfl; (try simp only [and_assoc] at h_); first | exact h_ | exact h_.1 | exact h_.2 | exact h_.2.1 | exact h_.2.2 | exact h_.2.2.1 | exact h_.2.2.2 | exact h_.2.2.2.1 | exact h_.2.2.2.2 | exact h_.2.2.2.2.1 | exact h_.2.2.2.2.2 | exact h_.2.2.2.2.2.1 | exact h_.2.2.2.2.2.2 | exact h_.2.2.2.2.2.2.1 | exact h_.2.2.2.2.2.2.2 | exact h_.2.2.2.2.2.2.2.1 | exact h_.2.2.2.2.2.2.2.2 | exact h_.2.2.2.2.2.2.2.2.1 | exact h_.2.2.2.2.2.2.2.2.2)) | exact (by have h_ := HO_1.out.1 _ rfl; (try simp only [and_assoc] at h_); first | exact h_ | exact h_.1 | exact h_.2 | exact h_.2.1 | exact h_.2.2 | exact h_.2.2.1 | exact h_.2.2.2 | exact h_.2.2.2.1 | exact h_.2.2.2.2 | exact h_.2.2.2.2.1 | exact h_.2.2.2.2.2 | exact h_.2.2.2.2.2.1 | exact h_.2.2.2.2.2.2 | exact h_.2.2.2.2.2.2.1 | exact h_.2.2.2.2.2.2.2 | exact h_.2.2.2.2.2.2.2.1 | exact h_.2.2.2.2.2.2.2.2 | exact h_.2.2.2.2.2.2.2.2.1 | exact h_.2.2.2.2.2.2.2.2.2)) | have HS1_ := cell_grown hg (cell_unalloc (hHeld.2) (by first | (rw [add_block]; exact Kd.R_lt HO_1.out _ rfl) | (show (Addr.add _ _).block < _; rw [add_block]; exact Kd.R_lt HO_1.out _ rfl) | exact Kd.R_lt HO_1.out _ rfl)) (by first | (rw [add_block]; exact (by have h_ := HO_1.out.1 _ rfl; (try simp only [and_assoc] at h_); first | exact h_ | exact h_.1 | exact h_.2 | exact h_.2.1 | exact h_.2.2 | exact h_.2.2.1 | exact h_.2.2.2 | exact h_.2.2.2.1 | exact h_.2.2.2.2 | exact h_.2.2.2.2.1 | exact h_.2.2.2.2.2 | exact h_.2.2.2.2.2.1 | exact h_.2.2.2.2.2.2 | exact h_.2.2.2.2.2.2.1 | exact h_.2.2.2.2.2.2.2 | exact h_.2.2.2.2.2.2.2.1 | exact h_.2.2.2.2.2.2.2.2 | exact h_.2.2.2.2.2.2.2.2.1 | exact h_.2.2.2.2.2.2.2.2.2)) | (show some (Addr.add _ _).block ≠ _; rw [add_block]; exact (by have h_ := HO_1.out.1 _ rfl; (try simp only [and_assoc] at h_); first | exact h_ | exact h_.1 | exact h_.2 | exact h_.2.1 | exact h_.2.2 | exact h_.2.2.1 | exact h_.2.2.2 | exact h_.2.2.2.1 | exact h_.2.2.2.2 | exact h_.2.2.2.2.1 | exact h_.2.2.2.2.2 | exact h_.2.2.2.2.2.1 | exact h_.2.2.2.2.2.2 | exact h_.2.2.2.2.2.2.1 | exact h_.2.2.2.2.2.2.2 | exact h_.2.2.2.2.2.2.2.1 | exact h_.2.2.2.2.2.2.2.2 | exact h_.2.2.2.2.2.2.2.2.1 | exact h_.2.2.2.2.2.2.2.2.2)) | exact (by have h_ := HO_1.out.1 _ rfl; (try simp only [and_assoc] at h_); first | exact h_ | exact h_.1 | exact h_.2 | exact h_.2.1 | exact h_.2.2 | exact h_.2.2.1 | exact h_.2.2.2 | exact h_.2.2.2.1 | exact h_.2.2.2.2 | exact h_.2.2.2.2.1 | exact h_.2.2.2.2.2 | exact h_.2.2.2.2.2.1 | exact h_.2.2.2.2.2.2 | exact h_.2.2.2.2.2.2.1 | exact h_.2.2.2.2.2.2.2 | exact h_.2.2.2.2.2.2.2.1 | exact h_.2.2.2.2.2.2.2.2 | exact h_.2.2.2.2.2.2.2.2.1 | exact h_.2.2.2.2.2.2.2.2.2)))
                                      rw [← Ny171.out] at ho
                                      have n0_ := Aside0.mk (Kd.R_after (ok := (fun k_ => some k_ ≠ (.slice (some ad174) t162.length co39 : Value).ownBlock ∧ some k_ ≠ (.slice Ao36 x13_2.length co36 : Value).ownBlock ∧ some k_ ≠ (.slice Ao45 y168.length co45 : Value).ownBlock ∧ some k_ ≠ (v176 : Value).ownBlock)) (by (with_reducible repeat (first | apply Kd.R_alloc | apply Kd.R_drewN | apply Kd.R_drew)); exact Kd.R_mono HO_0.out (fun _ hk => ⟨⟨hk.1.1.1, ⟨hk.1.1.2.2, ⟨hk.1.2, hk.2⟩⟩⟩, hk.1.1.2.1⟩)) hg hat)
                                      have n1_ := Aside0.mk (Kd.R_after (ok := (fun k_ => some k_ ≠ (.slice (some ad167) t158.length co38 : Value).ownBlock ∧ some k_ ≠ (.slice Ao36 x13_2.length co36 : Value).ownBlock ∧ some k_ ≠ (.slice Ao45 y168.length co45 : Value).ownBlock ∧ some k_ ≠ (v176 : Value).ownBlock)) (by (with_reducible repeat (first | apply Kd.R_alloc | apply Kd.R_drewN | apply Kd.R_drew)); exact Kd.R_mono HO_1.out (fun _ hk => ⟨⟨hk.1.1.1, ⟨hk.1.1.2.2, ⟨hk.1.2, hk.2⟩⟩⟩, hk.1.1.2.1⟩)) hg hat)
                                      have n2_ := Aside0.mk (Kd.R_after (ok := (fun k_ => some k_ ≠ (.slice (some ad167) t158.length co38 : Value).ownBlock ∧ some k_ ≠ (.slice (some ad174) t162.length co39 : Value).ownBlock ∧ some k_ ≠ (.slice Ao45 y168.length co45 : Value).ownBlock ∧ some k_ ≠ (v176 : Value).ownBlock)) (by (with_reducible repeat (first | apply Kd.R_alloc | apply Kd.R_drewN | apply Kd.R_drew)); exact Kd.R_mono HO_13.out (fun _ hk => ⟨⟨hk.1.1.1, ⟨hk.1.1.2.1, ⟨hk.1.2, hk.2⟩⟩⟩, hk.1.1.2.2⟩)) hg hat)
                                      have n3_ := Aside0.mk (Kd.R_after (ok := (fun k_ => some k_ ≠ (.slice (some ad167) t158.length co38 : Value).ownBlock ∧ some k_ ≠ (.slice (some ad174) t162.length co39 : Value).ownBlock ∧ some k_ ≠ (.slice Ao36 x13_2.length co36 : Value).ownBlock ∧ some k_ ≠ (v176 : Value).ownBlock)) (by (with_reducible repeat (first | apply Kd.R_alloc | apply Kd.R_drewN | apply Kd.R_drew)); exact Kd.R_mono HO170.out (fun _ hk => ⟨⟨hk.1.1.1.1.2, ⟨hk.1.1.1.2, ⟨hk.1.2, hk.2⟩⟩⟩, hk.1.1.2⟩)) hg hat)
                                      have n4_ := Aside0.mk (Kd.R_after (ok := (fun k_ => some k_ ≠ (.slice (some ad167) t158.length co38 : Value).ownBlock ∧ some k_ ≠ (.slice (some ad174) t162.length co39 : Value).ownBlock ∧ some k_ ≠ (.slice Ao36 x13_2.length co36 : Value).ownBlock ∧ some k_ ≠ (.slice Ao45 y168.length co45 : Value).ownBlock)) (by (with_reducible repeat (first | apply Kd.R_alloc | apply Kd.R_drewN | apply Kd.R_drew)); exact Kd.R_mono HO177.out (fun _ hk => ⟨⟨hk.1.1.1.1.2, ⟨hk.1.1.1.2, ⟨hk.1.2, hk.2⟩⟩⟩, hk.1.1.2⟩)) hg hat)
                                      have n5_ := Aside0.mk (hb)
                                      have n6_ := Aside0.mk (ho)
                                      clear HO_0
                                      clear HO_1
                                      clear HO_13
                                      clear HO170
                                      clear HO177
                                      clear HB
                                      clear HO_12
                                      have HO_0 := n0_
                                      have HO_1 := n1_
                                      have HO_13 := n2_
                                      have HO170 := n3_
                                      have HO177 := n4_
                                      have HB := n5_
                                      have HO173 := n6_
                                      clear n0_ n1_ n2_ n3_ n4_ n5_ n6_
                                      clear ho hb hg hat
                                      refine hK.out _ _ ⟨HS0_, HS1_⟩ (fun hHeld => ?_)
                                      clear hK K
                                      refine norm_ (a' := ?_) ?_ ?_
                                      rotate_left
                                      · show Act.put _ (some 61) _ = _
                                        simp only [Act.put, List.setIfInBounds_toArray, List.set_cons_zero, List.set_cons_succ, i64_w, i32_w]
                                        rfl
                                      exact norm_ (by simp only [putAll, Act.put, List.setIfInBounds_toArray, List.set_cons_zero, List.set_cons_succ]) (hCont (.slice Ao45 y168.length co45, v172, v176) _ ⟨hHeld, (by (with_reducible repeat (first | apply Kd.R_alloc | apply Kd.R_drewN | apply Kd.R_drew)); exact Kd.R_mono HO170.out (fun _ hk => ⟨hk.2, ⟨hk.1.2.2.2, ⟨hk.1.1, ⟨hk.1.2.1, hk.1.2.2.1⟩⟩⟩⟩)), (by (with_reducible repeat (first | apply Kd.R_alloc | apply Kd.R_drewN | apply Kd.R_drew)); exact Kd.R_mono HO173.out (fun _ hk => ⟨hk.2.2.2.1, ⟨hk.2.2.2.2, ⟨hk.1, ⟨hk.2.1, hk.2.2.1⟩⟩⟩⟩)), (by (with_reducible repeat (first | apply Kd.R_alloc | apply Kd.R_drewN | apply Kd.R_drew)); exact Kd.R_mono HO177.out (fun _ hk => ⟨hk.1.2.2.2, ⟨hk.2, ⟨hk.1.1, ⟨hk.1.2.1, hk.1.2.2.1⟩⟩⟩⟩)), (by (with_reducible repeat (first | apply Kd.R_alloc | apply Kd.R_drewN | apply Kd.R_drew)); exact Kd.R_mono HO_0.out (fun _ hk => ⟨hk.1.2.2.1, ⟨hk.2, ⟨hk.1.2.2.2, ⟨hk.1.1, hk.1.2.1⟩⟩⟩⟩)), (by (with_reducible repeat (first | apply Kd.R_alloc | apply Kd.R_drewN | apply Kd.R_drew)); exact Kd.R_mono HO_1.out (fun _ hk => ⟨hk.1.2.2.1, ⟨hk.2, ⟨hk.1.2.2.2, ⟨hk.1.1, hk.1.2.1⟩⟩⟩⟩)), (by (with_reducible repeat (first | apply Kd.R_alloc | apply Kd.R_drewN | apply Kd.R_drew)); exact Kd.R_mono HO_13.out (fun _ hk => ⟨hk.1.2.2.1, ⟨hk.2, ⟨hk.1.2.2.2, ⟨hk.1.1, hk.1.2.1⟩⟩⟩⟩)), (by repeat (first | (with_reducible first | exact HB.out | apply below_alloc | apply pw_below_drewN | apply below_drew1) | exact HB.out))⟩)
                                  · skip
                                    refine Kd.R_lit_step (Kd.int .i64) _ 3 ?hg (N := 69) ?hd (xs := ([wrap64 ((rd t162 x14_2) + t165)] : List Int)) (inner := [.int .i64 (wrap64 ((rd t162 x14_2) + t165))]) (ok := fun _ => True) (okp := fun _ => True) ?hr ?hp (fun _ hk => hk) trivial (Below.refl _ _) (Nat.le_refl _) (by simp) ?_; (case hd => rfl); (case hg => rfl); (case hr => first | (go_simp; done) | (go_simp; rfl)); (case hp => exact (Reps.one (show Kd.M (Kd.int .i64) _ _ _ (wrap64 ((rd t162 x14_2) + t165)) [.int .i64 (wrap64 ((rd t162 x14_2) + t165))] from rfl) (Reps.none _ _)))
                                    intro v176 w40 ho41 hb hg_ hnew_
                                    have HS0_ := (hb.cell (World.block_lt_of_cell? _ _ (hHeld.1))).trans (hHeld.1)
                                    have HS1_ := (hb.cell (World.block_lt_of_cell? _ _ (hHeld.2))).trans (hHeld.2)
                                    clear hg_ hnew_
                                    (first | rw [← Ny175.out] at ho41 | (simp only [Int.reduceToNat] at ho41; rw [← Ny175.out] at ho41))
                                    have n0_ := Aside0.mk (Kd.R_elder' (by (with_reducible repeat (first | apply Kd.R_alloc | apply Kd.R_drewN | apply Kd.R_drew)); exact HO_0.out) (Kd.R_base ho41) hb)
                                    have n1_ := Aside0.mk (Kd.R_elder' (by (with_reducible repeat (first | apply Kd.R_alloc | apply Kd.R_drewN | apply Kd.R_drew)); exact HO_1.out) (Kd.R_base ho41) hb)
                                    have n2_ := Aside0.mk (Kd.R_elder' (by (with_reducible repeat (first | apply Kd.R_alloc | apply Kd.R_drewN | apply Kd.R_drew)); exact HO_12.out) (Kd.R_base ho41) hb)
                                    have n3_ := Aside0.mk (Kd.R_elder' (by (with_reducible repeat (first | apply Kd.R_alloc | apply Kd.R_drewN | apply Kd.R_drew)); exact HO_13.out) (Kd.R_base ho41) hb)
                                    have n4_ := Aside0.mk (Kd.R_lower (Kd.R_new' (Kd.R_new' (Kd.R_new' (Kd.R_new' ho41 (Kd.R_lt (by (with_reducible repeat (first | apply Kd.R_alloc | apply Kd.R_drewN | apply Kd.R_drew)); exact HO_0.out))) (Kd.R_lt (by (with_reducible repeat (first | apply Kd.R_alloc | apply Kd.R_drewN | apply Kd.R_drew)); exact HO_1.out))) (Kd.R_lt (by (with_reducible repeat (first | apply Kd.R_alloc | apply Kd.R_drewN | apply Kd.R_drew)); exact HO_12.out))) (Kd.R_lt (by (with_reducible repeat (first | apply Kd.R_alloc | apply Kd.R_drewN | apply Kd.R_drew)); exact HO_13.out))) (below_size (by repeat (first | (with_reducible first | exact HB.out | apply below_alloc | apply pw_below_drewN | apply below_drew1) | exact HB.out))))
                                    have n5_ := Aside0.mk (below_step (by repeat (first | (with_reducible first | exact HB.out | apply below_alloc | apply pw_below_drewN | apply below_drew1) | exact HB.out)) hb)
                                    clear HO_0
                                    clear HO_1
                                    clear HO_12
                                    clear HO_13
                                    clear HB
                                    have HO_0 := n0_
                                    have HO_1 := n1_
                                    have HO_12 := n2_
                                    have HO_13 := n3_
                                    have HO177 := n4_
                                    have HB := n5_
                                    clear n0_ n1_ n2_ n3_ n4_ n5_
                                    clear hb ho41
                                    refine hK.out _ _ ⟨HS0_, HS1_⟩ (fun hHeld => ?_)
                                    clear hK K
                                    refine norm_ (a' := ?_) ?_ ?_
                                    rotate_left
                                    · show Act.put _ (some 69) _ = _
                                      simp only [Act.put, List.setIfInBounds_toArray, List.set_cons_zero, List.set_cons_succ, i64_w, i32_w]
                                      rfl
                                    refine one_ (i := 6) (N := some 60) #[true, true, true, true, true, true, true, false, true, true, true, true, true, true, true, true, false, false, false] rfl rfl (one_of HT_.out (by kernel_rfl)) (by decide) (fun K hK => ?_)
                                    refine Kd.R_lit_step (Kd.int .i64) _ 3 ?hg (N := 60) ?hd (xs := ([wrap64 ((rd t158 x14_2) + 1)] : List Int)) (inner := [.int .i64 (wrap64 ((rd t158 x14_2) + 1))]) (ok := fun _ => True) (okp := fun _ => True) ?hr ?hp (fun _ hk => hk) trivial (Below.refl _ _) (Nat.le_refl _) (by simp) ?_; (case hd => rfl); (case hg => rfl); (case hr => first | (go_simp; done) | (go_simp; rfl)); (case hp => exact (Reps.one (show Kd.M (Kd.int .i64) _ _ _ (wrap64 ((rd t158 x14_2) + 1)) [.int .i64 (wrap64 ((rd t158 x14_2) + 1))] from rfl) (Reps.none _ _)))
                                    intro v169 w42 ho43 hb hg_ hnew_
                                    have HS0_ := (hb.cell (World.block_lt_of_cell? _ _ (hHeld.1))).trans (hHeld.1)
                                    have HS1_ := (hb.cell (World.block_lt_of_cell? _ _ (hHeld.2))).trans (hHeld.2)
                                    clear hg_ hnew_
                                    (first | rw [← Ny168.out] at ho43 | (simp only [Int.reduceToNat] at ho43; rw [← Ny168.out] at ho43))
                                    have n0_ := Aside0.mk (Kd.R_elder' (by (with_reducible repeat (first | apply Kd.R_alloc | apply Kd.R_drewN | apply Kd.R_drew)); exact HO_0.out) (Kd.R_base ho43) hb)
                                    have n1_ := Aside0.mk (Kd.R_elder' (by (with_reducible repeat (first | apply Kd.R_alloc | apply Kd.R_drewN | apply Kd.R_drew)); exact HO_1.out) (Kd.R_base ho43) hb)
                                    have n2_ := Aside0.mk (Kd.R_elder' (by (with_reducible repeat (first | apply Kd.R_alloc | apply Kd.R_drewN | apply Kd.R_drew)); exact HO_12.out) (Kd.R_base ho43) hb)
                                    have n3_ := Aside0.mk (Kd.R_elder' (by (with_reducible repeat (first | apply Kd.R_alloc | apply Kd.R_drewN | apply Kd.R_drew)); exact HO_13.out) (Kd.R_base ho43) hb)
                                    have n4_ := Aside0.mk (Kd.R_elder' (by (with_reducible repeat (first | apply Kd.R_alloc | apply Kd.R_drewN | apply Kd.R_drew)); exact HO177.out) (Kd.R_base ho43) hb)
                                    have n5_ := Aside0.mk (Kd.R_lower (Kd.R_new' (Kd.R_new' (Kd.R_new' (Kd.R_new' (Kd.R_new' ho43 (Kd.R_lt (by (with_reducible repeat (first | apply Kd.R_alloc | apply Kd.R_drewN | apply Kd.R_drew)); exact HO_0.out))) (Kd.R_lt (by (with_reducible repeat (first | apply Kd.R_alloc | apply Kd.R_drewN | apply Kd.R_drew)); exact HO_1.out))) (Kd.R_lt (by (with_reducible repeat (first | apply Kd.R_alloc | apply Kd.R_drewN | apply Kd.R_drew)); exact HO_12.out))) (Kd.R_lt (by (with_reducible repeat (first | apply Kd.R_alloc | apply Kd.R_drewN | apply Kd.R_drew)); exact HO_13.out))) (Kd.R_lt (by (with_reducible repeat (first | apply Kd.R_alloc | apply Kd.R_drewN | apply Kd.R_drew)); exact HO177.out))) (below_size (by repeat (first | (with_reducible first | exact HB.out | apply below_alloc | apply pw_below_drewN | apply below_drew1) | exact HB.out))))
                                    have n6_ := Aside0.mk (below_step (by repeat (first | (with_reducible first | exact HB.out | apply below_alloc | apply pw_below_drewN | apply below_drew1) | exact HB.out)) hb)
                                    clear HO_0
                                    clear HO_1
                                    clear HO_12
                                    clear HO_13
                                    clear HO177
                                    clear HB
                                    have HO_0 := n0_
                                    have HO_1 := n1_
                                    have HO_12 := n2_
                                    have HO_13 := n3_
                                    have HO177 := n4_
                                    have HO170 := n5_
                                    have HB := n6_
                                    clear n0_ n1_ n2_ n3_ n4_ n5_ n6_
                                    clear hb ho43
                                    obtain ⟨Ao45, co45, eo45⟩ := Kd.R_slice HO170.out
                                    (first | subst eo45 | (injection eo45 with f1_ f2_ f3_; have f4_ := f1_.symm; have f5_ := f3_.symm; clear f1_ f2_ f3_; subst f4_; subst f5_))
                                    refine hK.out _ _ ⟨HS0_, HS1_⟩ (fun hHeld => ?_)
                                    clear hK K
                                    refine norm_ (a' := ?_) ?_ ?_
                                    rotate_left
                                    · show Act.put _ (some 60) _ = _
                                      simp only [Act.put, List.setIfInBounds_toArray, List.set_cons_zero, List.set_cons_succ, i64_w, i32_w]
                                      rfl
                                    refine one_ (i := 7) (N := some 61) #[true, true, true, true, true, true, true, true, true, true, true, true, true, true, true, true, false, false, false] rfl rfl (one_of HT_.out (by kernel_rfl)) (by decide) (fun K hK => ?_)
                                    refine Kd.R_append_rows_step (Kd.int .i64) (w0 := w) w.heap.size (by rfl) (.tmp 54) (.tmp 60) 22 3 (.int .i64 0) 8 rfl Try.underlying22 info3 rfl (by decide) (by omega) (.slice Ao35 x12_2.length co35) x12_2 y168 _ _ _ (fun k_ => some k_ ≠ (.slice (some ad167) t158.length co38 : Value).ownBlock ∧ some k_ ≠ (.slice (some ad174) t162.length co39 : Value).ownBlock ∧ some k_ ≠ (.slice Ao36 x13_2.length co36 : Value).ownBlock ∧ some k_ ≠ (v176 : Value).ownBlock ∧ some k_ ≠ (.slice Ao45 y168.length co45 : Value).ownBlock) (fun _ => False) rfl rfl ?aO ?aR (fun _ _ h => h) (fun _ h => h.elim) ?aF ?aB ?aS ?aL ?_
                                    (case aR => repeat (first | exact (Kd.R_reads' HO170.out).2.2 | (with_reducible refine Kd.C_alloc ?_ _) | (with_reducible refine Kd.C_drewN ?_ _) | (with_reducible refine Kd.C_drew ?_)))
                                    (case aB => exact (by repeat (first | (with_reducible first | exact HB.out | apply below_alloc | apply pw_below_drewN | apply below_drew1) | exact HB.out)))
                                    (case aF => exact (fun k_ hk => ⟨Kd.fresh' (Kd.R_lt (by (with_reducible repeat (first | apply Kd.R_alloc | apply Kd.R_drewN | apply Kd.R_drew)); exact HO_0.out)) k_ hk, Kd.fresh' (Kd.R_lt (by (with_reducible repeat (first | apply Kd.R_alloc | apply Kd.R_drewN | apply Kd.R_drew)); exact HO_1.out)) k_ hk, Kd.fresh' (Kd.R_lt (by (with_reducible repeat (first | apply Kd.R_alloc | apply Kd.R_drewN | apply Kd.R_drew)); exact HO_13.out)) k_ hk, Kd.fresh' (Kd.R_lt (by (with_reducible repeat (first | apply Kd.R_alloc | apply Kd.R_drewN | apply Kd.R_drew)); exact HO177.out)) k_ hk, Kd.fresh' (Kd.R_lt (by (with_reducible repeat (first | apply Kd.R_alloc | apply Kd.R_drewN | apply Kd.R_drew)); exact HO170.out)) k_ hk⟩))
                                    (case aO => exact (by (with_reducible repeat (first | apply Kd.R_alloc | apply Kd.R_drewN | apply Kd.R_drew)); exact Kd.R_mono HO_12.out (fun _ hk => ⟨hk.1.1.1, ⟨hk.1.1.2.1, ⟨hk.1.1.2.2, ⟨hk.1.2, hk.2⟩⟩⟩⟩)))
                                    (case aS => exact (below_size (by repeat (first | (with_reducible first | exact HB.out | apply below_alloc | apply pw_below_drewN | apply below_drew1) | exact HB.out))))
                                    (case aL => have := LMc32.out; omega)
                                    intro v172 w44 ho hb hg hat
                                    (first | have HS0_ := cell_grown hg (hHeld.1) (by first | (rw [add_block]; exact (by have h_ := HO_0.out.1 _ rfl; (try simp only [and_assoc] at h_); first | exact h_ | exact h_.1 | exact h_.2 | exact h_.2.1 | exact h_.2.2 | exact h_.2.2.1 | exact h_.2.2.2 | exact h_.2.2.2.1 | exact h_.2.2.2.2 | exact h_.2.2.2.2.1 | exact h_.2.2.2.2.2 | exact h_.2.2.2.2.2.1 | exact h_.2.2.2.2.2.2 | exact h_.2.2.2.2.2.2.1 | exact h_.2.2.2.2.2.2.2 | exact h_.2.2.2.2.2.2.2.1 | exact h_.2.2.2.2.2.2.2.2 | exact h_.2.2.2.2.2.2.2.2.1 | exact h_.2.2.2.2.2.2.2.2.2)) | (show some (Addr.add _ _).block ≠ _; rw [add_block]; exact (by have h_ := HO_0.out.1 _ rfl; (try simp only [and_assoc] at h_); first | exact h_ | exact h_.1 | exact h_.2 | exact h_.2.1 | exact h_.2.2 | exact h_.2.2.1 | exact h_.2.2.2 | exact h_.2.2.2.1 | exact h_.2.2.2.2 | exact h_.2.2.2.2.1 | exact h_.2.2.2.2.2 | exact h_.2.2.2.2.2.1 | exact h_.2.2.2.2.2.2 | exact h_.2.2.2.2.2.2.1 | exact h_.2.2.2.2.2.2.2 | exact h_.2.2.2.2.2.2.2.1 | exact h_.2.2.2.2.2.2.2.2 | exact h_.2.2.2.2.2.2.2.2.1 | exact h_.2.2.2.2.2.2.2.2.2)) | exact (by have h_ := HO_0.out.1 _ rfl; (try simp only [and_assoc] at h_); first | exact h_ | exact h_.1 | exact h_.2 | exact h_.2.1 | exact h_.2.2 | exact h_.2.2.1 | exact h_.2.2.2 | exact h_.2.2.2.1 | exact h_.2.2.2.2 | exact h_.2.2.2.2.1 | exact h_.2.2.2.2.2 | exact h_.2.2.2.2.2.1 | exact h_.2.2.2.2.2.2 | exact h_.2.2.2.2.2.2.1 | exact h_.2.2.2.2.2.2.2 | exact h_.2.2.2.2.2.2.2.1 | exact h_.2.2.2.2.2.2.2.2 | exact h_.2.2.2.2.2.2.2.2.1 | exact h_.2.2.2.2.2.2.2.2.2)) | have HS0_ := cell_grown hg (cell_unalloc (hHeld.1) (by first | (rw [add_block]; exact Kd.R_lt HO_0.out _ rfl) | (show (Addr.add _ _).block < _; rw [add_block]; exact Kd.R_lt HO_0.out _ rfl) | exact Kd.R_lt HO_0.out _ rfl)) (by first | (rw [add_block]; exact (by have h_ := HO_0.out.1 _ rfl; (try simp only [and_assoc] at h_); first | exact h_ | exact h_.1 | exact h_.2 | exact h_.2.1 | exact h_.2.2 | exact h_.2.2.1 | exact h_.2.2.2 | exact h_.2.2.2.1 | exact h_.2.2.2.2 | exact h_.2.2.2.2.1 | exact h_.2.2.2.2.2 | exact h_.2.2.2.2.2.1 | exact h_.2.2.2.2.2.2 | exact h_.2.2.2.2.2.2.1 | exact h_.2.2.2.2.2.2.2 | exact h_.2.2.2.2.2.2.2.1 | exact h_.2.2.2.2.2.2.2.2 | exact h_.2.2.2.2.2.2.2.2.1 | exact h_.2.2.2.2.2.2.2.2.2)) | (show some (Addr.add _ _).block ≠ _; rw [add_block]; exact (by have h_ := HO_0.out.1 _ rfl; (try simp only [and_assoc] at h_); first | exact h_ | exact h_.1 | exact h_.2 | exact h_.2.1 | exact h_.2.2 | exact h_.2.2.1 | exact h_.2.2.2 | exact h_.2.2.2.1 | exact h_.2.2.2.2 | exact h_.2.2.2.2.1 | exact h_.2.2.2.2.2 | exact h_.2.2.2.2.2.1 | exact h_.2.2.2.2.2.2 | exact h_.2.2.2.2.2.2.1 | exact h_.2.2.2.2.2.2.2 | exact h_.2.2.2.2.2.2.2.1 | exact h_.2.2.2.2.2.2.2.2 | exact h_.2.2.2.2.2.2.2.2.1 | exact h_.2.2.2.2.2.2.2.2.2)) | exact (by have h_ := HO_0.out.1 _ rfl; (try simp only [and_assoc] at h_); first | exact h_ | exact h_.1 | exact h_.2 | exact h_.2.1 | exact h_.2.2 | exact h_.2.2.1 | exact h_.2.2.2 | exact h_.2.2.2.1 | exact h_.2.2.2.2 | exact h_.2.2.2.2.1 | exact h_.2.2.2.2.2 | exact h_.2.2.2.2.2.1 | exact h_.2.2.2.2.2.2 | exact h_.2.2.2.2.2.2.1 | exact h_.2.2.2.2.2.2.2 | exact h_.2.2.2.2.2.2.2.1 | exact h_.2.2.2.2.2.2.2.2 | exact h_.2.2.2.2.2.2.2.2.1 | exact h_.2.2.2.2.2.2.2.2.2)))
                                    (first | have HS1_ := cell_grown hg (hHeld.2) (by first | (rw [add_block]; exact (by have h_ := HO_1.out.1 _ rfl; (try simp only [and_assoc] at h_); first | exact h_ | exact h_.1 | exact h_.2 | exact h_.2.1 | exact h_.2.2 | exact h_.2.2.1 | exact h_.2.2.2 | exact h_.2.2.2.1 | exact h_.2.2.2.2 | exact h_.2.2.2.2.1 | exact h_.2.2.2.2.2 | exact h_.2.2.2.2.2.1 | exact h_.2.2.2.2.2.2 | exact h_.2.2.2.2.2.2.1 | exact h_.2.2.2.2.2.2.2 | exact h_.2.2.2.2.2.2.2.1 | exact h_.2.2.2.2.2.2.2.2 | exact h_.2.2.2.2.2.2.2.2.1 | exact h_.2.2.2.2.2.2.2.2.2)) | (show some (Addr.add _ _).block ≠ _; rw [add_block]; exact (by have h_ := HO_1.out.1 _ rfl; (try simp only [and_assoc] at h_); first | exact h_ | exact h_.1 | exact h_.2 | exact h_.2.1 | exact h_.2.2 | exact h_.2.2.1 | exact h_.2.2.2 | exact h_.2.2.2.1 | exact h_.2.2.2.2 | exact h_.2.2.2.2.1 | exact h_.2.2.2.2.2 | exact h_.2.2.2.2.2.1 | exact h_.2.2.2.2.2.2 | exact h_.2.2.2.2.2.2.1 | exact h_.2.2.2.2.2.2.2 | exact h_.2.2.2.2.2.2.2.1 | exact h_.2.2.2.2.2.2.2.2 | exact h_.2.2.2.2.2.2.2.2.1 | exact h_.2.2.2.2.2.2.2.2.2)) | exact (by have h_ := HO_1.out.1 _ rfl; (try simp only [and_assoc] at h_); first | exact h_ | exact h_.1 | exact h_.2 | exact h_.2.1 | exact h_.2.2 | exact h_.2.2.1 | exact h_.2.2.2 | exact h_.2.2.2.1 | exact h_.2.2.2.2 | exact h_.2.2.2.2.1 | exact h_.2.2.2.2.2 | exact h_.2.2.2.2.2.1 | exact h_.2.2.2.2.2.2 | exact h_.2.2.2.2.2.2.1 | exact h_.2.2.2.2.2.2.2 | exact h_.2.2.2.2.2.2.2.1 | exact h_.2.2.2.2.2.2.2.2 | exact h_.2.2.2.2.2.2.2.2.1 | exact h_.2.2.2.2.2.2.2.2.2)) | have HS1_ := cell_grown hg (cell_unalloc (hHeld.2) (by first | (rw [add_block]; exact Kd.R_lt HO_1.out _ rfl) | (show (Addr.add _ _).block < _; rw [add_block]; exact Kd.R_lt HO_1.out _ rfl) | exact Kd.R_lt HO_1.out _ rfl)) (by first | (rw [add_block]; exact (by have h_ := HO_1.out.1 _ rfl; (try simp only [and_assoc] at h_); first | exact h_ | exact h_.1 | exact h_.2 | exact h_.2.1 | exact h_.2.2 | exact h_.2.2.1 | exact h_.2.2.2 | exact h_.2.2.2.1 | exact h_.2.2.2.2 | exact h_.2.2.2.2.1 | exact h_.2.2.2.2.2 | exact h_.2.2.2.2.2.1 | exact h_.2.2.2.2.2.2 | exact h_.2.2.2.2.2.2.1 | exact h_.2.2.2.2.2.2.2 | exact h_.2.2.2.2.2.2.2.1 | exact h_.2.2.2.2.2.2.2.2 | exact h_.2.2.2.2.2.2.2.2.1 | exact h_.2.2.2.2.2.2.2.2.2)) | (show some (Addr.add _ _).block ≠ _; rw [add_block]; exact (by have h_ := HO_1.out.1 _ rfl; (try simp only [and_assoc] at h_); first | exact h_ | exact h_.1 | exact h_.2 | exact h_.2.1 | exact h_.2.2 | exact h_.2.2.1 | exact h_.2.2.2 | exact h_.2.2.2.1 | exact h_.2.2.2.2 | exact h_.2.2.2.2.1 | exact h_.2.2.2.2.2 | exact h_.2.2.2.2.2.1 | exact h_.2.2.2.2.2.2 | exact h_.2.2.2.2.2.2.1 | exact h_.2.2.2.2.2.2.2 | exact h_.2.2.2.2.2.2.2.1 | exact h_.2.2.2.2.2.2.2.2 | exact h_.2.2.2.2.2.2.2.2.1 | exact h_.2.2.2.2.2.2.2.2.2)) | exact (by have h_ := HO_1.out.1 _ rfl; (try simp only [and_assoc] at h_); first | exact h_ | exact h_.1 | exact h_.2 | exact h_.2.1 | exact h_.2.2 | exact h_.2.2.1 | exact h_.2.2.2 | exact h_.2.2.2.1 | exact h_.2.2.2.2 | exact h_.2.2.2.2.1 | exact h_.2.2.2.2.2 | exact h_.2.2.2.2.2.1 | exact h_.2.2.2.2.2.2 | exact h_.2.2.2.2.2.2.1 | exact h_.2.2.2.2.2.2.2 | exact h_.2.2.2.2.2.2.2.1 | exact h_.2.2.2.2.2.2.2.2 | exact h_.2.2.2.2.2.2.2.2.1 | exact h_.2.2.2.2.2.2.2.2.2)))
                                    rw [← Ny171.out] at ho
                                    have n0_ := Aside0.mk (Kd.R_after (ok := (fun k_ => some k_ ≠ (.slice (some ad174) t162.length co39 : Value).ownBlock ∧ some k_ ≠ (.slice Ao36 x13_2.length co36 : Value).ownBlock ∧ some k_ ≠ (v176 : Value).ownBlock ∧ some k_ ≠ (.slice Ao45 y168.length co45 : Value).ownBlock)) (by (with_reducible repeat (first | apply Kd.R_alloc | apply Kd.R_drewN | apply Kd.R_drew)); exact Kd.R_mono HO_0.out (fun _ hk => ⟨⟨hk.1.1.1, ⟨hk.1.1.2.2, ⟨hk.1.2, hk.2⟩⟩⟩, hk.1.1.2.1⟩)) hg hat)
                                    have n1_ := Aside0.mk (Kd.R_after (ok := (fun k_ => some k_ ≠ (.slice (some ad167) t158.length co38 : Value).ownBlock ∧ some k_ ≠ (.slice Ao36 x13_2.length co36 : Value).ownBlock ∧ some k_ ≠ (v176 : Value).ownBlock ∧ some k_ ≠ (.slice Ao45 y168.length co45 : Value).ownBlock)) (by (with_reducible repeat (first | apply Kd.R_alloc | apply Kd.R_drewN | apply Kd.R_drew)); exact Kd.R_mono HO_1.out (fun _ hk => ⟨⟨hk.1.1.1, ⟨hk.1.1.2.2, ⟨hk.1.2, hk.2⟩⟩⟩, hk.1.1.2.1⟩)) hg hat)
                                    have n2_ := Aside0.mk (Kd.R_after (ok := (fun k_ => some k_ ≠ (.slice (some ad167) t158.length co38 : Value).ownBlock ∧ some k_ ≠ (.slice (some ad174) t162.length co39 : Value).ownBlock ∧ some k_ ≠ (v176 : Value).ownBlock ∧ some k_ ≠ (.slice Ao45 y168.length co45 : Value).ownBlock)) (by (with_reducible repeat (first | apply Kd.R_alloc | apply Kd.R_drewN | apply Kd.R_drew)); exact Kd.R_mono HO_13.out (fun _ hk => ⟨⟨hk.1.1.1, ⟨hk.1.1.2.1, ⟨hk.1.2, hk.2⟩⟩⟩, hk.1.1.2.2⟩)) hg hat)
                                    have n3_ := Aside0.mk (Kd.R_after (ok := (fun k_ => some k_ ≠ (.slice (some ad167) t158.length co38 : Value).ownBlock ∧ some k_ ≠ (.slice (some ad174) t162.length co39 : Value).ownBlock ∧ some k_ ≠ (.slice Ao36 x13_2.length co36 : Value).ownBlock ∧ some k_ ≠ (.slice Ao45 y168.length co45 : Value).ownBlock)) (by (with_reducible repeat (first | apply Kd.R_alloc | apply Kd.R_drewN | apply Kd.R_drew)); exact Kd.R_mono HO177.out (fun _ hk => ⟨⟨hk.1.1.1.1.2, ⟨hk.1.1.1.2, ⟨hk.1.2, hk.2⟩⟩⟩, hk.1.1.2⟩)) hg hat)
                                    have n4_ := Aside0.mk (Kd.R_after (ok := (fun k_ => some k_ ≠ (.slice (some ad167) t158.length co38 : Value).ownBlock ∧ some k_ ≠ (.slice (some ad174) t162.length co39 : Value).ownBlock ∧ some k_ ≠ (.slice Ao36 x13_2.length co36 : Value).ownBlock ∧ some k_ ≠ (v176 : Value).ownBlock)) (by (with_reducible repeat (first | apply Kd.R_alloc | apply Kd.R_drewN | apply Kd.R_drew)); exact Kd.R_mono HO170.out (fun _ hk => ⟨⟨hk.1.1.1.1.2, ⟨hk.1.1.1.2, ⟨hk.1.2, hk.2⟩⟩⟩, hk.1.1.2⟩)) hg hat)
                                    have n5_ := Aside0.mk (hb)
                                    have n6_ := Aside0.mk (ho)
                                    clear HO_0
                                    clear HO_1
                                    clear HO_13
                                    clear HO177
                                    clear HO170
                                    clear HB
                                    clear HO_12
                                    have HO_0 := n0_
                                    have HO_1 := n1_
                                    have HO_13 := n2_
                                    have HO177 := n3_
                                    have HO170 := n4_
                                    have HB := n5_
                                    have HO173 := n6_
                                    clear n0_ n1_ n2_ n3_ n4_ n5_ n6_
                                    clear ho hb hg hat
                                    refine hK.out _ _ ⟨HS0_, HS1_⟩ (fun hHeld => ?_)
                                    clear hK K
                                    refine norm_ (a' := ?_) ?_ ?_
                                    rotate_left
                                    · show Act.put _ (some 61) _ = _
                                      simp only [Act.put, List.setIfInBounds_toArray, List.set_cons_zero, List.set_cons_succ, i64_w, i32_w]
                                      rfl
                                    exact norm_ (by simp only [putAll, Act.put, List.setIfInBounds_toArray, List.set_cons_zero, List.set_cons_succ]) (hCont (.slice Ao45 y168.length co45, v172, v176) _ ⟨hHeld, (by (with_reducible repeat (first | apply Kd.R_alloc | apply Kd.R_drewN | apply Kd.R_drew)); exact Kd.R_mono HO170.out (fun _ hk => ⟨hk.2, ⟨hk.1.2.2.2, ⟨hk.1.1, ⟨hk.1.2.1, hk.1.2.2.1⟩⟩⟩⟩)), (by (with_reducible repeat (first | apply Kd.R_alloc | apply Kd.R_drewN | apply Kd.R_drew)); exact Kd.R_mono HO173.out (fun _ hk => ⟨hk.2.2.2.2, ⟨hk.2.2.2.1, ⟨hk.1, ⟨hk.2.1, hk.2.2.1⟩⟩⟩⟩)), (by (with_reducible repeat (first | apply Kd.R_alloc | apply Kd.R_drewN | apply Kd.R_drew)); exact Kd.R_mono HO177.out (fun _ hk => ⟨hk.1.2.2.2, ⟨hk.2, ⟨hk.1.1, ⟨hk.1.2.1, hk.1.2.2.1⟩⟩⟩⟩)), (by (with_reducible repeat (first | apply Kd.R_alloc | apply Kd.R_drewN | apply Kd.R_drew)); exact Kd.R_mono HO_0.out (fun _ hk => ⟨hk.1.2.2.2, ⟨hk.2, ⟨hk.1.2.2.1, ⟨hk.1.1, hk.1.2.1⟩⟩⟩⟩)), (by (with_reducible repeat (first | apply Kd.R_alloc | apply Kd.R_drewN | apply Kd.R_drew)); exact Kd.R_mono HO_1.out (fun _ hk => ⟨hk.1.2.2.2, ⟨hk.2, ⟨hk.1.2.2.1, ⟨hk.1.1, hk.1.2.1⟩⟩⟩⟩)), (by (with_reducible repeat (first | apply Kd.R_alloc | apply Kd.R_drewN | apply Kd.R_drew)); exact Kd.R_mono HO_13.out (fun _ hk => ⟨hk.1.2.2.2, ⟨hk.2, ⟨hk.1.2.2.1, ⟨hk.1.1, hk.1.2.1⟩⟩⟩⟩)), (by repeat (first | (with_reducible first | exact HB.out | apply below_alloc | apply pw_below_drewN | apply below_drew1) | exact HB.out))⟩)
                                rintro ⟨v169, v172, v176⟩ w46 ⟨hS_, h0_, h1_, h2_, h3_, h4_, h5_, h6_⟩
                                have n0_ : Aside0 (Kd.R (Kd.int .i64) 3 w46 w.heap.size (fun k_ => some k_ ≠ (v172 : Value).ownBlock ∧ some k_ ≠ (v176 : Value).ownBlock ∧ some k_ ≠ (.slice (some ad167) t158.length co38 : Value).ownBlock ∧ some k_ ≠ (.slice (some ad174) t162.length co39 : Value).ownBlock ∧ some k_ ≠ (.slice Ao36 x13_2.length co36 : Value).ownBlock) v169 y168) := ⟨h0_⟩
                                have n1_ : Aside0 (Kd.R (Kd.int .i64) 3 w46 w.heap.size (fun k_ => some k_ ≠ (v169 : Value).ownBlock ∧ some k_ ≠ (v176 : Value).ownBlock ∧ some k_ ≠ (.slice (some ad167) t158.length co38 : Value).ownBlock ∧ some k_ ≠ (.slice (some ad174) t162.length co39 : Value).ownBlock ∧ some k_ ≠ (.slice Ao36 x13_2.length co36 : Value).ownBlock) v172 y171) := ⟨h1_⟩
                                have n2_ : Aside0 (Kd.R (Kd.int .i64) 3 w46 w.heap.size (fun k_ => some k_ ≠ (v169 : Value).ownBlock ∧ some k_ ≠ (v172 : Value).ownBlock ∧ some k_ ≠ (.slice (some ad167) t158.length co38 : Value).ownBlock ∧ some k_ ≠ (.slice (some ad174) t162.length co39 : Value).ownBlock ∧ some k_ ≠ (.slice Ao36 x13_2.length co36 : Value).ownBlock) v176 y175) := ⟨h2_⟩
                                have n3_ : Aside0 (Kd.R (Kd.int .i64) 3 w46 w.heap.size (fun k_ => some k_ ≠ (v169 : Value).ownBlock ∧ some k_ ≠ (v172 : Value).ownBlock ∧ some k_ ≠ (v176 : Value).ownBlock ∧ some k_ ≠ (.slice (some ad174) t162.length co39 : Value).ownBlock ∧ some k_ ≠ (.slice Ao36 x13_2.length co36 : Value).ownBlock) (.slice (some ad167) t158.length co38) t158) := ⟨h3_⟩
                                have n4_ : Aside0 (Kd.R (Kd.int .i64) 3 w46 w.heap.size (fun k_ => some k_ ≠ (v169 : Value).ownBlock ∧ some k_ ≠ (v172 : Value).ownBlock ∧ some k_ ≠ (v176 : Value).ownBlock ∧ some k_ ≠ (.slice (some ad167) t158.length co38 : Value).ownBlock ∧ some k_ ≠ (.slice Ao36 x13_2.length co36 : Value).ownBlock) (.slice (some ad174) t162.length co39) t162) := ⟨h4_⟩
                                have n5_ : Aside0 (Kd.R (Kd.int .i64) 3 w46 w.heap.size (fun k_ => some k_ ≠ (v169 : Value).ownBlock ∧ some k_ ≠ (v172 : Value).ownBlock ∧ some k_ ≠ (v176 : Value).ownBlock ∧ some k_ ≠ (.slice (some ad167) t158.length co38 : Value).ownBlock ∧ some k_ ≠ (.slice (some ad174) t162.length co39 : Value).ownBlock) (.slice Ao36 x13_2.length co36) x13_2) := ⟨h5_⟩
                                have n6_ : Aside0 (Below w.heap.size w w46) := ⟨h6_⟩
                                clear HO_0
                                clear HO_1
                                clear HO_12
                                clear HO_13
                                clear HB
                                clear h0_ h1_ h2_ h3_ h4_ h5_ h6_
                                have HO170 := n0_
                                have HO173 := n1_
                                have HO177 := n2_
                                have HO_0 := n3_
                                have HO_1 := n4_
                                have HO_13 := n5_
                                have HB := n6_
                                clear n0_ n1_ n2_ n3_ n4_ n5_ n6_
                                have hHeld : w46.cell? (ad167.add (x14_2).toNat) = some (.int .i64 (rd t158 x14_2)) ∧ w46.cell? (ad174.add (x14_2).toNat) = some (.int .i64 (rd t162 x14_2)) := hS_
                                obtain ⟨Ao48, co48, eo48⟩ := Kd.R_slice HO177.out
                                (first | subst eo48 | (injection eo48 with f1_ f2_ f3_; have f4_ := f1_.symm; have f5_ := f3_.symm; clear f1_ f2_ f3_; subst f4_; subst f5_))
                                refine norm_ (a' := ?_) ?_ ?_
                                rotate_left
                                · simp only [putAll, Act.put, List.setIfInBounds_toArray, List.set_cons_zero, List.set_cons_succ]
                                  rfl
                                refine one_ (i := 16) (N := some 70) #[true, true, true, true, true, true, true, true, true, true, true, true, true, true, true, true, true, false, false] rfl rfl (one_of HT_.out (by kernel_rfl)) (by decide) (fun K hK => ?_)
                                refine Kd.R_append_rows_step (Kd.int .i64) (w0 := w) w.heap.size (by rfl) (.tmp 62) (.tmp 69) 22 3 (.int .i64 0) 8 rfl Try.underlying22 info3 rfl (by decide) (by omega) (.slice Ao36 x13_2.length co36) x13_2 y175 _ _ _ (fun k_ => some k_ ≠ (.slice (some ad167) t158.length co38 : Value).ownBlock ∧ some k_ ≠ (.slice (some ad174) t162.length co39 : Value).ownBlock ∧ some k_ ≠ (v169 : Value).ownBlock ∧ some k_ ≠ (v172 : Value).ownBlock ∧ some k_ ≠ (.slice Ao48 y175.length co48 : Value).ownBlock) (fun _ => False) rfl rfl ?aO ?aR (fun _ _ h => h) (fun _ h => h.elim) ?aF ?aB ?aS ?aL ?_
                                (case aR => repeat (first | exact (Kd.R_reads' HO177.out).2.2 | (with_reducible refine Kd.C_alloc ?_ _) | (with_reducible refine Kd.C_drewN ?_ _) | (with_reducible refine Kd.C_drew ?_)))
                                (case aB => exact (by repeat (first | (with_reducible first | exact HB.out | apply below_alloc | apply pw_below_drewN | apply below_drew1) | exact HB.out)))
                                (case aF => exact (fun k_ hk => ⟨Kd.fresh' (Kd.R_lt (by (with_reducible repeat (first | apply Kd.R_alloc | apply Kd.R_drewN | apply Kd.R_drew)); exact HO_0.out)) k_ hk, Kd.fresh' (Kd.R_lt (by (with_reducible repeat (first | apply Kd.R_alloc | apply Kd.R_drewN | apply Kd.R_drew)); exact HO_1.out)) k_ hk, Kd.fresh' (Kd.R_lt (by (with_reducible repeat (first | apply Kd.R_alloc | apply Kd.R_drewN | apply Kd.R_drew)); exact HO170.out)) k_ hk, Kd.fresh' (Kd.R_lt (by (with_reducible repeat (first | apply Kd.R_alloc | apply Kd.R_drewN | apply Kd.R_drew)); exact HO173.out)) k_ hk, Kd.fresh' (Kd.R_lt (by (with_reducible repeat (first | apply Kd.R_alloc | apply Kd.R_drewN | apply Kd.R_drew)); exact HO177.out)) k_ hk⟩))
                                (case aO => exact (by (with_reducible repeat (first | apply Kd.R_alloc | apply Kd.R_drewN | apply Kd.R_drew)); exact Kd.R_mono HO_13.out (fun _ hk => ⟨hk.2.2.2.1, ⟨hk.2.2.2.2, ⟨hk.1, ⟨hk.2.1, hk.2.2.1⟩⟩⟩⟩)))
                                (case aS => exact (below_size (by repeat (first | (with_reducible first | exact HB.out | apply below_alloc | apply pw_below_drewN | apply below_drew1) | exact HB.out))))
                                (case aL => have := LMc34.out; omega)
                                intro v179 w47 ho hb hg hat
                                (first | have HS0_ := cell_grown hg (hHeld.1) (by first | (rw [add_block]; exact (by have h_ := HO_0.out.1 _ rfl; (try simp only [and_assoc] at h_); first | exact h_ | exact h_.1 | exact h_.2 | exact h_.2.1 | exact h_.2.2 | exact h_.2.2.1 | exact h_.2.2.2 | exact h_.2.2.2.1 | exact h_.2.2.2.2 | exact h_.2.2.2.2.1 | exact h_.2.2.2.2.2 | exact h_.2.2.2.2.2.1 | exact h_.2.2.2.2.2.2 | exact h_.2.2.2.2.2.2.1 | exact h_.2.2.2.2.2.2.2 | exact h_.2.2.2.2.2.2.2.1 | exact h_.2.2.2.2.2.2.2.2 | exact h_.2.2.2.2.2.2.2.2.1 | exact h_.2.2.2.2.2.2.2.2.2)) | (show some (Addr.add _ _).block ≠ _; rw [add_block]; exact (by have h_ := HO_0.out.1 _ rfl; (try simp only [and_assoc] at h_); first | exact h_ | exact h_.1 | exact h_.2 | exact h_.2.1 | exact h_.2.2 | exact h_.2.2.1 | exact h_.2.2.2 | exact h_.2.2.2.1 | exact h_.2.2.2.2 | exact h_.2.2.2.2.1 | exact h_.2.2.2.2.2 | exact h_.2.2.2.2.2.1 | exact h_.2.2.2.2.2.2 | exact h_.2.2.2.2.2.2.1 | exact h_.2.2.2.2.2.2.2 | exact h_.2.2.2.2.2.2.2.1 | exact h_.2.2.2.2.2.2.2.2 | exact h_.2.2.2.2.2.2.2.2.1 | exact h_.2.2.2.2.2.2.2.2.2)) | exact (by have h_ := HO_0.out.1 _ rfl; (try simp only [and_assoc] at h_); first | exact h_ | exact h_.1 | exact h_.2 | exact h_.2.1 | exact h_.2.2 | exact h_.2.2.1 | exact h_.2.2.2 | exact h_.2.2.2.1 | exact h_.2.2.2.2 | exact h_.2.2.2.2.1 | exact h_.2.2.2.2.2 | exact h_.2.2.2.2.2.1 | exact h_.2.2.2.2.2.2 | exact h_.2.2.2.2.2.2.1 | exact h_.2.2.2.2.2.2.2 | exact h_.2.2.2.2.2.2.2.1 | exact h_.2.2.2.2.2.2.2.2 | exact h_.2.2.2.2.2.2.2.2.1 | exact h_.2.2.2.2.2.2.2.2.2)) | have HS0_ := cell_grown hg (cell_unalloc (hHeld.1) (by first | (rw [add_block]; exact Kd.R_lt HO_0.out _ rfl) | (show (Addr.add _ _).block < _; rw [add_block]; exact Kd.R_lt HO_0.out _ rfl) | exact Kd.R_lt HO_0.out _ rfl)) (by first | (rw [add_block]; exact (by have h_ := HO_0.out.1 _ rfl; (try simp only [and_assoc] at h_); first | exact h_ | exact h_.1 | exact h_.2 | exact h_.2.1 | exact h_.2.2 | exact h_.2.2.1 | exact h_.2.2.2 | exact h_.2.2.2.1 | exact h_.2.2.2.2 | exact h_.2.2.2.2.1 | exact h_.2.2.2.2.2 | exact h_.2.2.2.2.2.1 | exact h_.2.2.2.2.2.2 | exact h_.2.2.2.2.2.2.1 | exact h_.2.2.2.2.2.2.2 | exact h_.2.2.2.2.2.2.2.1 | exact h_.2.2.2.2.2.2.2.2 | exact h_.2.2.2.2.2.2.2.2.1 | exact h_.2.2.2.2.2.2.2.2.2)) | (show some (Addr.add _ _).block ≠ _; rw [add_block]; exact (by have h_ := HO_0.out.1 _ rfl; (try simp only [and_assoc] at h_); first | exact h_ | exact h_.1 | exact h_.2 | exact h_.2.1 | exact h_.2.2 | exact h_.2.2.1 | exact h_.2.2.2 | exact h_.2.2.2.1 | exact h_.2.2.2.2 | exact h_.2.2.2.2.1 | exact h_.2.2.2.2.2 | exact h_.2.2.2.2.2.1 | exact h_.2.2.2.2.2.2 | exact h_.2.2.2.2.2.2.1 | exact h_.2.2.2.2.2.2.2 | exact h_.2.2.2.2.2.2.2.1 | exact h_.2.2.2.2.2.2.2.2 | exact h_.2.2.2.2.2.2.2.2.1 | exact h_.2.2.2.2.2.2.2.2.2)) | exact (by have h_ := HO_0.out.1 _ rfl; (try simp only [and_assoc] at h_); first | exact h_ | exact h_.1 | exact h_.2 | exact h_.2.1 | exact h_.2.2 | exact h_.2.2.1 | exact h_.2.2.2 | exact h_.2.2.2.1 | exact h_.2.2.2.2 | exact h_.2.2.2.2.1 | exact h_.2.2.2.2.2 | exact h_.2.2.2.2.2.1 | exact h_.2.2.2.2.2.2 | exact h_.2.2.2.2.2.2.1 | exact h_.2.2.2.2.2.2.2 | exact h_.2.2.2.2.2.2.2.1 | exact h_.2.2.2.2.2.2.2.2 | exact h_.2.2.2.2.2.2.2.2.1 | exact h_.2.2.2.2.2.2.2.2.2)))
                                (first | have HS1_ := cell_grown hg (hHeld.2) (by first | (rw [add_block]; exact (by have h_ := HO_1.out.1 _ rfl; (try simp only [and_assoc] at h_); first | exact h_ | exact h_.1 | exact h_.2 | exact h_.2.1 | exact h_.2.2 | exact h_.2.2.1 | exact h_.2.2.2 | exact h_.2.2.2.1 | exact h_.2.2.2.2 | exact h_.2.2.2.2.1 | exact h_.2.2.2.2.2 | exact h_.2.2.2.2.2.1 | exact h_.2.2.2.2.2.2 | exact h_.2.2.2.2.2.2.1 | exact h_.2.2.2.2.2.2.2 | exact h_.2.2.2.2.2.2.2.1 | exact h_.2.2.2.2.2.2.2.2 | exact h_.2.2.2.2.2.2.2.2.1 | exact h_.2.2.2.2.2.2.2.2.2)) | (show some (Addr.add _ _).block ≠ _; rw [add_block]; exact (by have h_ := HO_1.out.1 _ rfl; (try simp only [and_assoc] at h_); first | exact h_ | exact h_.1 | exact h_.2 | exact h_.2.1 | exact h_.2.2 | exact h_.2.2.1 | exact h_.2.2.2 | exact h_.2.2.2.1 | exact h_.2.2.2.2 | exact h_.2.2.2.2.1 | exact h_.2.2.2.2.2 | exact h_.2.2.2.2.2.1 | exact h_.2.2.2.2.2.2 | exact h_.2.2.2.2.2.2.1 | exact h_.2.2.2.2.2.2.2 | exact h_.2.2.2.2.2.2.2.1 | exact h_.2.2.2.2.2.2.2.2 | exact h_.2.2.2.2.2.2.2.2.1 | exact h_.2.2.2.2.2.2.2.2.2)) | exact (by have h_ := HO_1.out.1 _ rfl; (try simp only [and_assoc] at h_); first | exact h_ | exact h_.1 | exact h_.2 | exact h_.2.1 | exact h_.2.2 | exact h_.2.2.1 | exact h_.2.2.2 | exact h_.2.2.2.1 | exact h_.2.2.2.2 | exact h_.2.2.2.2.1 | exact h_.2.2.2.2.2 | exact h_.2.2.2.2.2.1 | exact h_.2.2.2.2.2.2 | exact h_.2.2.2.2.2.2.1 | exact h_.2.2.2.2.2.2.2 | exact h_.2.2.2.2.2.2.2.1 | exact h_.2.2.2.2.2.2.2.2 | exact h_.2.2.2.2.2.2.2.2.1 | exact h_.2.2.2.2.2.2.2.2.2)) | have HS1_ := cell_grown hg (cell_unalloc (hHeld.2) (by first | (rw [add_block]; exact Kd.R_lt HO_1.out _ rfl) | (show (Addr.add _ _).block < _; rw [add_block]; exact Kd.R_lt HO_1.out _ rfl) | exact Kd.R_lt HO_1.out _ rfl)) (by first | (rw [add_block]; exact (by have h_ := HO_1.out.1 _ rfl; (try simp only [and_assoc] at h_); first | exact h_ | exact h_.1 | exact h_.2 | exact h_.2.1 | exact h_.2.2 | exact h_.2.2.1 | exact h_.2.2.2 | exact h_.2.2.2.1 | exact h_.2.2.2.2 | exact h_.2.2.2.2.1 | exact h_.2.2.2.2.2 | exact h_.2.2.2.2.2.1 | exact h_.2.2.2.2.2.2 | exact h_.2.2.2.2.2.2.1 | exact h_.2.2.2.2.2.2.2 | exact h_.2.2.2.2.2.2.2.1 | exact h_.2.2.2.2.2.2.2.2 | exact h_.2.2.2.2.2.2.2.2.1 | exact h_.2.2.2.2.2.2.2.2.2)) | (show some (Addr.add _ _).block ≠ _; rw [add_block]; exact (by have h_ := HO_1.out.1 _ rfl; (try simp only [and_assoc] at h_); first | exact h_ | exact h_.1 | exact h_.2 | exact h_.2.1 | exact h_.2.2 | exact h_.2.2.1 | exact h_.2.2.2 | exact h_.2.2.2.1 | exact h_.2.2.2.2 | exact h_.2.2.2.2.1 | exact h_.2.2.2.2.2 | exact h_.2.2.2.2.2.1 | exact h_.2.2.2.2.2.2 | exact h_.2.2.2.2.2.2.1 | exact h_.2.2.2.2.2.2.2 | exact h_.2.2.2.2.2.2.2.1 | exact h_.2.2.2.2.2.2.2.2 | exact h_.2.2.2.2.2.2.2.2.1 | exact h_.2.2.2.2.2.2.2.2.2)) | exact (by have h_ := HO_1.out.1 _ rfl; (try simp only [and_assoc] at h_); first | exact h_ | exact h_.1 | exact h_.2 | exact h_.2.1 | exact h_.2.2 | exact h_.2.2.1 | exact h_.2.2.2 | exact h_.2.2.2.1 | exact h_.2.2.2.2 | exact h_.2.2.2.2.1 | exact h_.2.2.2.2.2 | exact h_.2.2.2.2.2.1 | exact h_.2.2.2.2.2.2 | exact h_.2.2.2.2.2.2.1 | exact h_.2.2.2.2.2.2.2 | exact h_.2.2.2.2.2.2.2.1 | exact h_.2.2.2.2.2.2.2.2 | exact h_.2.2.2.2.2.2.2.2.1 | exact h_.2.2.2.2.2.2.2.2.2)))
                                rw [← Ny178.out] at ho
                                have n0_ := Aside0.mk (Kd.R_after (ok := (fun k_ => some k_ ≠ (.slice (some ad174) t162.length co39 : Value).ownBlock ∧ some k_ ≠ (v169 : Value).ownBlock ∧ some k_ ≠ (v172 : Value).ownBlock ∧ some k_ ≠ (.slice Ao48 y175.length co48 : Value).ownBlock)) (by (with_reducible repeat (first | apply Kd.R_alloc | apply Kd.R_drewN | apply Kd.R_drew)); exact Kd.R_mono HO_0.out (fun _ hk => ⟨⟨hk.2.2.2.1, ⟨hk.1, ⟨hk.2.1, hk.2.2.1⟩⟩⟩, hk.2.2.2.2⟩)) hg hat)
                                have n1_ := Aside0.mk (Kd.R_after (ok := (fun k_ => some k_ ≠ (.slice (some ad167) t158.length co38 : Value).ownBlock ∧ some k_ ≠ (v169 : Value).ownBlock ∧ some k_ ≠ (v172 : Value).ownBlock ∧ some k_ ≠ (.slice Ao48 y175.length co48 : Value).ownBlock)) (by (with_reducible repeat (first | apply Kd.R_alloc | apply Kd.R_drewN | apply Kd.R_drew)); exact Kd.R_mono HO_1.out (fun _ hk => ⟨⟨hk.2.2.2.1, ⟨hk.1, ⟨hk.2.1, hk.2.2.1⟩⟩⟩, hk.2.2.2.2⟩)) hg hat)
                                have n2_ := Aside0.mk (Kd.R_after (ok := (fun k_ => some k_ ≠ (.slice (some ad167) t158.length co38 : Value).ownBlock ∧ some k_ ≠ (.slice (some ad174) t162.length co39 : Value).ownBlock ∧ some k_ ≠ (v172 : Value).ownBlock ∧ some k_ ≠ (.slice Ao48 y175.length co48 : Value).ownBlock)) (by (with_reducible repeat (first | apply Kd.R_alloc | apply Kd.R_drewN | apply Kd.R_drew)); exact Kd.R_mono HO170.out (fun _ hk => ⟨⟨hk.2.2.1, ⟨hk.2.2.2.1, ⟨hk.1, hk.2.1⟩⟩⟩, hk.2.2.2.2⟩)) hg hat)
                                have n3_ := Aside0.mk (Kd.R_after (ok := (fun k_ => some k_ ≠ (.slice (some ad167) t158.length co38 : Value).ownBlock ∧ some k_ ≠ (.slice (some ad174) t162.length co39 : Value).ownBlock ∧ some k_ ≠ (v169 : Value).ownBlock ∧ some k_ ≠ (.slice Ao48 y175.length co48 : Value).ownBlock)) (by (with_reducible repeat (first | apply Kd.R_alloc | apply Kd.R_drewN | apply Kd.R_drew)); exact Kd.R_mono HO173.out (fun _ hk => ⟨⟨hk.2.2.1, ⟨hk.2.2.2.1, ⟨hk.1, hk.2.1⟩⟩⟩, hk.2.2.2.2⟩)) hg hat)
                                have n4_ := Aside0.mk (Kd.R_after (ok := (fun k_ => some k_ ≠ (.slice (some ad167) t158.length co38 : Value).ownBlock ∧ some k_ ≠ (.slice (some ad174) t162.length co39 : Value).ownBlock ∧ some k_ ≠ (v169 : Value).ownBlock ∧ some k_ ≠ (v172 : Value).ownBlock)) (by (with_reducible repeat (first | apply Kd.R_alloc | apply Kd.R_drewN | apply Kd.R_drew)); exact Kd.R_mono HO177.out (fun _ hk => ⟨⟨hk.2.2.1, ⟨hk.2.2.2.1, ⟨hk.1, hk.2.1⟩⟩⟩, hk.2.2.2.2⟩)) hg hat)
                                have n5_ := Aside0.mk (hb)
                                have n6_ := Aside0.mk (ho)
                                clear HO_0
                                clear HO_1
                                clear HO170
                                clear HO173
                                clear HO177
                                clear HB
                                clear HO_13
                                have HO_0 := n0_
                                have HO_1 := n1_
                                have HO170 := n2_
                                have HO173 := n3_
                                have HO177 := n4_
                                have HB := n5_
                                have HO180 := n6_
                                clear n0_ n1_ n2_ n3_ n4_ n5_ n6_
                                clear ho hb hg hat
                                refine hK.out _ _ ⟨HS0_, HS1_⟩ (fun hHeld => ?_)
                                clear hK K
                                refine norm_ (a' := ?_) ?_ ?_
                                rotate_left
                                · show Act.put _ (some 70) _ = _
                                  simp only [Act.put, List.setIfInBounds_toArray, List.set_cons_zero, List.set_cons_succ, i64_w, i32_w]
                                  rfl
                                refine pure_ (i := 17) (N := some 12) (v := ?_) (a' := ?_) #[true, true, true, true, true, true, true, true, true, true, true, true, true, true, true, true, true, true, false] rfl rfl (any_of HT_.out (by kernel_rfl)) (fun _ _ _ h => h) (Or.inl ⟨by rfl, ?_⟩) ?_ ?_
                                rotate_left
                                · intro w'
                                  go_simp
                                  with_reducible rfl
                                rotate_left
                                · simp only [Act.put, List.setIfInBounds_toArray, List.set_cons_zero, List.set_cons_succ, i64_w, i32_w]
                                  rfl
                                refine pure_ (i := 18) (N := some 13) (v := ?_) (a' := ?_) #[true, true, true, true, true, true, true, true, true, true, true, true, true, true, true, true, true, true, true] rfl rfl (any_of HT_.out (by kernel_rfl)) (fun _ _ _ h => h) (Or.inl ⟨by rfl, ?_⟩) ?_ ?_
                                rotate_left
                                · intro w'
                                  go_simp
                                  with_reducible rfl
                                rotate_left
                                · simp only [Act.put, List.setIfInBounds_toArray, List.set_cons_zero, List.set_cons_succ, i64_w, i32_w]
                                  rfl
                                refine done_ (done_of HT_.out (by kernel_rfl)) ?_
                                try go_wp2
                                go_roundg k2
                                case measure => have := HJ5.out; have := HK2.out; omega
                                case rel => exact ⟨(y171), (y178), (wrap64 (x14_2 + 1)), (by first | rfl | (simp; done) | (simp [*]; done)), H', ⟨by have := HJ5.out; have := HK2.out; omega⟩, ⟨by (with_reducible repeat (first | apply Kd.R_alloc | apply Kd.R_drewN | apply Kd.R_drew)); exact Kd.R_mono HO_0.out (fun _ hk => ⟨hk.1.1, ⟨hk.1.2.2.1, hk.2⟩⟩)⟩, ⟨by (with_reducible repeat (first | apply Kd.R_alloc | apply Kd.R_drewN | apply Kd.R_drew)); exact Kd.R_mono HO_1.out (fun _ hk => ⟨hk.1.1, ⟨hk.1.2.2.1, hk.2⟩⟩)⟩, ⟨by (with_reducible repeat (first | apply Kd.R_alloc | apply Kd.R_drewN | apply Kd.R_drew)); exact Kd.R_mono HO173.out (fun _ hk => ⟨hk.1.1, ⟨hk.1.2.1, hk.2⟩⟩)⟩, ⟨by (with_reducible repeat (first | apply Kd.R_alloc | apply Kd.R_drewN | apply Kd.R_drew)); exact Kd.R_mono HO180.out (fun _ hk => ⟨hk.1, ⟨hk.2.1, hk.2.2.2.1⟩⟩)⟩, ⟨by repeat (first | (with_reducible first | exact HB.out | apply below_alloc | apply pw_below_drewN | apply below_drew1) | exact HB.out)⟩⟩
                              · rw [if_neg c34] at H
                                exact absurd H (by simp)
                            · rw [if_neg c33] at H
                              exact absurd H (by simp)
                          · rw [if_neg c32] at H
                            exact absurd H (by simp)
                        · rw [if_neg c31] at H
                          exact absurd H (by simp)
                      · rw [if_neg c30] at H
                        exact absurd H (by simp)
                    · rw [if_neg c29] at H
                      have c29b0 : decide (x14_2 < ji13) = false := decide_eq_false c29
                      clear c29
                      have HC49 := Aside0.mk H
                      clear H
                      go_upto_region 11 with (fail)
                      go_cut [99] (fun v99 wc => ∃ (kq : Nat) (x99_48 : Bool), v99 = .bool x99_48 ∧ Aside0 (jotterlaw12_VictimShifts.j2 kq t158 t162 (l2.take ((ji13) : Int).toNat) a4 ji13 x12_2 x13_2 x99_48 = some r) ∧ Aside0 (kq ≤ k2) ∧ Aside0 (Kd.R (Kd.int .i64) 3 wc w.heap.size (fun k_ => some k_ ≠ (v163 : Value).ownBlock ∧ some k_ ≠ (u12 : Value).ownBlock ∧ some k_ ≠ (u13 : Value).ownBlock) v159 t158) ∧ Aside0 (Kd.R (Kd.int .i64) 3 wc w.heap.size (fun k_ => some k_ ≠ (v159 : Value).ownBlock ∧ some k_ ≠ (u12 : Value).ownBlock ∧ some k_ ≠ (u13 : Value).ownBlock) v163 t162) ∧ Aside0 (Kd.R (Kd.int .i64) 3 wc w.heap.size (fun k_ => some k_ ≠ (v159 : Value).ownBlock ∧ some k_ ≠ (v163 : Value).ownBlock ∧ some k_ ≠ (u13 : Value).ownBlock) u12 x12_2) ∧ Aside0 (Kd.R (Kd.int .i64) 3 wc w.heap.size (fun k_ => some k_ ≠ (v159 : Value).ownBlock ∧ some k_ ≠ (v163 : Value).ownBlock ∧ some k_ ≠ (u12 : Value).ownBlock) u13 x13_2) ∧ Aside0 (Below w.heap.size w wc))
                      case first =>
                        have H := HC49.out
                        clear HC49
                        replace H := Option.bind_eq_some_iff.mp H
                        obtain ⟨t181, A500, H⟩ := H
                        replace H : ((victim_Pick.f k2 t158 t162 (l2.take ((ji13) : Int).toNat)).bind fun t182 => (if t181 = t182 then ((victim_Free.f k2 x13_2 (l2.take ((ji13) : Int).toNat)).bind fun t183 => ((victim_Free.f k2 t162 (l2.take ((ji13) : Int).toNat)).bind fun t184 => (if t183 = t184 then ((victim_Cold.f k2 x12_2 x13_2 (l2.take ((ji13) : Int).toNat) 7).bind fun t185 => ((victim_Cold.f k2 x12_2 t162 (l2.take ((ji13) : Int).toNat) 7).bind fun t186 => (jotterlaw12_VictimShifts.j2 k2 t158 t162 (l2.take ((ji13) : Int).toNat) a4 ji13 x12_2 x13_2 (t185 != t186)))) else (jotterlaw12_VictimShifts.j2 k2 t158 t162 (l2.take ((ji13) : Int).toNat) a4 ji13 x12_2 x13_2 true)))) else (jotterlaw12_VictimShifts.j2 k2 t158 t162 (l2.take ((ji13) : Int).toNat) a4 ji13 x12_2 x13_2 true))) = some r := H
                        have A50 := Aside0.mk A500
                        clear A500
                        replace H := Option.bind_eq_some_iff.mp H
                        obtain ⟨t182, A510, H⟩ := H
                        replace H : (if t181 = t182 then ((victim_Free.f k2 x13_2 (l2.take ((ji13) : Int).toNat)).bind fun t183 => ((victim_Free.f k2 t162 (l2.take ((ji13) : Int).toNat)).bind fun t184 => (if t183 = t184 then ((victim_Cold.f k2 x12_2 x13_2 (l2.take ((ji13) : Int).toNat) 7).bind fun t185 => ((victim_Cold.f k2 x12_2 t162 (l2.take ((ji13) : Int).toNat) 7).bind fun t186 => (jotterlaw12_VictimShifts.j2 k2 t158 t162 (l2.take ((ji13) : Int).toNat) a4 ji13 x12_2 x13_2 (t185 != t186)))) else (jotterlaw12_VictimShifts.j2 k2 t158 t162 (l2.take ((ji13) : Int).toNat) a4 ji13 x12_2 x13_2 true)))) else (jotterlaw12_VictimShifts.j2 k2 t158 t162 (l2.take ((ji13) : Int).toNat) a4 ji13 x12_2 x13_2 true)) = some r := H
                        have A51 := Aside0.mk A510
                        clear A510
                        by_cases c52 : t181 = t182
                        · rw [if_pos c52] at H
                          have c52b0 : (t181 == t182) = true := beq_iff_eq.mpr c52
                          have c52b1 : (t181 != t182) = false := bne_eq_false_iff_eq.mpr c52
                          clear c52
                          (first | rw [c52b0] | (simp only [i64_w, i32_w]; rw [c52b0]) | skip)
                          replace H := Option.bind_eq_some_iff.mp H
                          obtain ⟨t183, A530, H⟩ := H
                          replace H : ((victim_Free.f k2 t162 (l2.take ((ji13) : Int).toNat)).bind fun t184 => (if t183 = t184 then ((victim_Cold.f k2 x12_2 x13_2 (l2.take ((ji13) : Int).toNat) 7).bind fun t185 => ((victim_Cold.f k2 x12_2 t162 (l2.take ((ji13) : Int).toNat) 7).bind fun t186 => (jotterlaw12_VictimShifts.j2 k2 t158 t162 (l2.take ((ji13) : Int).toNat) a4 ji13 x12_2 x13_2 (t185 != t186)))) else (jotterlaw12_VictimShifts.j2 k2 t158 t162 (l2.take ((ji13) : Int).toNat) a4 ji13 x12_2 x13_2 true))) = some r := H
                          have A53 := Aside0.mk A530
                          clear A530
                          replace H := Option.bind_eq_some_iff.mp H
                          obtain ⟨t184, A540, H⟩ := H
                          replace H : (if t183 = t184 then ((victim_Cold.f k2 x12_2 x13_2 (l2.take ((ji13) : Int).toNat) 7).bind fun t185 => ((victim_Cold.f k2 x12_2 t162 (l2.take ((ji13) : Int).toNat) 7).bind fun t186 => (jotterlaw12_VictimShifts.j2 k2 t158 t162 (l2.take ((ji13) : Int).toNat) a4 ji13 x12_2 x13_2 (t185 != t186)))) else (jotterlaw12_VictimShifts.j2 k2 t158 t162 (l2.take ((ji13) : Int).toNat) a4 ji13 x12_2 x13_2 true)) = some r := H
                          have A54 := Aside0.mk A540
                          clear A540
                          by_cases c55 : t183 = t184
                          · rw [if_pos c55] at H
                            have c55b0 : (t183 == t184) = true := beq_iff_eq.mpr c55
                            have c55b1 : (t183 != t184) = false := bne_eq_false_iff_eq.mpr c55
                            clear c55
                            replace H := Option.bind_eq_some_iff.mp H
                            obtain ⟨t185, A560, H⟩ := H
                            replace H : ((victim_Cold.f k2 x12_2 t162 (l2.take ((ji13) : Int).toNat) 7).bind fun t186 => (jotterlaw12_VictimShifts.j2 k2 t158 t162 (l2.take ((ji13) : Int).toNat) a4 ji13 x12_2 x13_2 (t185 != t186))) = some r := H
                            have A56 := Aside0.mk A560
                            clear A560
                            replace H := Option.bind_eq_some_iff.mp H
                            obtain ⟨t186, A570, H⟩ := H
                            replace H : (jotterlaw12_VictimShifts.j2 k2 t158 t162 (l2.take ((ji13) : Int).toNat) a4 ji13 x12_2 x13_2 (t185 != t186)) = some r := H
                            have A57 := Aside0.mk A570
                            clear A570
                            have H' := Aside0.mk H
                            clear H
                            obtain ⟨Ao58, co58, eo58⟩ := Kd.R_slice HO_12.out
                            subst eo58
                            obtain ⟨Ao59, co59, eo59⟩ := Kd.R_slice HO_13.out
                            subst eo59
                            go_wp2_with (first | ((with_reducible refine gate_callee (f := 22) rfl ?_); refine goesL_ (some 74) rfl rfl Try.func22 (by kernel_rfl) rfl #[.slice Ao58 x12_2.length co58, .slice Ao59 x13_2.length co59, .slice A2 (l2.take ((ji13) : Int).toNat).length c2] rfl (by (try simp only [List.map_toArray, List.map_cons, List.map_nil]); first | done | (rw [TL2.out] <;> rfl) | (simp only [hji13]; rfl) | rfl | (simp only [List.length_drop, List.length_take]; rfl)) ?_; (with_reducible refine (victim_Pick.calls k2 _ _ x12_2 _ _ x13_2 _ _ (l2.take ((ji13) : Int).toNat) t181 _ ?side1 ?side2 ?side3 ?side4 ?side5 ?side6 A50.out).mono ?_); (case side1 => repeat (first | exact (Kd.R_reads' HO_12.out).2.2 | (with_reducible refine Kd.C_alloc ?_ _) | (with_reducible refine Kd.C_drewN ?_ _) | (with_reducible refine Kd.C_drew ?_))); (case side2 => exact (Kd.R_reads' HO_12.out).2.1); (case side3 => repeat (first | exact (Kd.R_reads' HO_13.out).2.2 | (with_reducible refine Kd.C_alloc ?_ _) | (with_reducible refine Kd.C_drewN ?_ _) | (with_reducible refine Kd.C_drew ?_))); (case side4 => exact (Kd.R_reads' HO_13.out).2.1); (case side5 => repeat (first | exact (Kd.C_below HR166.out HB.out) | (with_reducible refine Kd.C_alloc ?_ _) | (with_reducible refine Kd.C_drewN ?_ _) | (with_reducible refine Kd.C_drew ?_))); (case side6 => exact HC166.out); rintro e w60 ⟨rfl, hb⟩; refine ⟨_, rfl, ?_⟩; have n0_ := Aside0.mk (Kd.R_below (by (with_reducible repeat (first | apply Kd.R_alloc | apply Kd.R_drewN | apply Kd.R_drew)); exact HO_0.out) hb); have n1_ := Aside0.mk (Kd.R_below (by (with_reducible repeat (first | apply Kd.R_alloc | apply Kd.R_drewN | apply Kd.R_drew)); exact HO_1.out) hb); have n2_ := Aside0.mk (Kd.R_below (by (with_reducible repeat (first | apply Kd.R_alloc | apply Kd.R_drewN | apply Kd.R_drew)); exact HO_12.out) hb); have n3_ := Aside0.mk (Kd.R_below (by (with_reducible repeat (first | apply Kd.R_alloc | apply Kd.R_drewN | apply Kd.R_drew)); exact HO_13.out) hb); have n4_ := Aside0.mk (below_step (by repeat (first | (with_reducible first | exact HB.out | apply below_alloc | apply pw_below_drewN | apply below_drew1) | exact HB.out)) hb); clear HO_0; clear HO_1; clear HO_12; clear HO_13; clear HB; have HO_0 := n0_; have HO_1 := n1_; have HO_12 := n2_; have HO_13 := n3_; have HB := n4_; clear n0_ n1_ n2_ n3_ n4_; (try clear hb); (try clear hb2); (try clear hk); (try clear hi); obtain ⟨Ao61, co61, eo61⟩ := Kd.R_slice HO_0.out; subst eo61; obtain ⟨Ao62, co62, eo62⟩ := Kd.R_slice HO_1.out; subst eo62) | ((with_reducible refine gate_callee (f := 22) rfl ?_); refine goesL_ (some 78) rfl rfl Try.func22 (by kernel_rfl) rfl #[.slice Ao61 t158.length co61, .slice Ao62 t162.length co62, .slice A2 (l2.take ((ji13) : Int).toNat).length c2] rfl (by (try simp only [List.map_toArray, List.map_cons, List.map_nil]); first | done | (rw [TL2.out] <;> rfl) | (simp only [hji13]; rfl) | rfl | (simp only [List.length_drop, List.length_take]; rfl)) ?_; (with_reducible refine (victim_Pick.calls k2 _ _ t158 _ _ t162 _ _ (l2.take ((ji13) : Int).toNat) t182 _ ?side1 ?side2 ?side3 ?side4 ?side5 ?side6 A51.out).mono ?_); (case side1 => repeat (first | exact (Kd.R_reads' HO_0.out).2.2 | (with_reducible refine Kd.C_alloc ?_ _) | (with_reducible refine Kd.C_drewN ?_ _) | (with_reducible refine Kd.C_drew ?_))); (case side2 => exact (Kd.R_reads' HO_0.out).2.1); (case side3 => repeat (first | exact (Kd.R_reads' HO_1.out).2.2 | (with_reducible refine Kd.C_alloc ?_ _) | (with_reducible refine Kd.C_drewN ?_ _) | (with_reducible refine Kd.C_drew ?_))); (case side4 => exact (Kd.R_reads' HO_1.out).2.1); (case side5 => repeat (first | exact (Kd.C_below HR166.out HB.out) | (with_reducible refine Kd.C_alloc ?_ _) | (with_reducible refine Kd.C_drewN ?_ _) | (with_reducible refine Kd.C_drew ?_))); (case side6 => exact HC166.out); rintro e w63 ⟨rfl, hb⟩; refine ⟨_, rfl, ?_⟩; have n0_ := Aside0.mk (Kd.R_below (by (with_reducible repeat (first | apply Kd.R_alloc | apply Kd.R_drewN | apply Kd.R_drew)); exact HO_0.out) hb); have n1_ := Aside0.mk (Kd.R_below (by (with_reducible repeat (first | apply Kd.R_alloc | apply Kd.R_drewN | apply Kd.R_drew)); exact HO_1.out) hb); have n2_ := Aside0.mk (Kd.R_below (by (with_reducible repeat (first | apply Kd.R_alloc | apply Kd.R_drewN | apply Kd.R_drew)); exact HO_12.out) hb); have n3_ := Aside0.mk (Kd.R_below (by (with_reducible repeat (first | apply Kd.R_alloc | apply Kd.R_drewN | apply Kd.R_drew)); exact HO_13.out) hb); have n4_ := Aside0.mk (below_step (by repeat (first | (with_reducible first | exact HB.out | apply below_alloc | apply pw_below_drewN | apply below_drew1) | exact HB.out)) hb); clear HO_0; clear HO_1; clear HO_12; clear HO_13; clear HB; have HO_0 := n0_; have HO_1 := n1_; have HO_12 := n2_; have HO_13 := n3_; have HB := n4_; clear n0_ n1_ n2_ n3_ n4_; (try clear hb); (try clear hb2); (try clear hk); (try clear hi)) | (go_at_call 24; refine calls_at1 TL2.out ?_; (with_reducible refine (victim_Free.calls k2 _ _ x13_2 _ _ (l2.take ((ji13) : Int).toNat) t183 _ ?side1 ?side2 ?side3 ?side4 A53.out).mono ?_); (case side1 => repeat (first | exact (Kd.R_reads' HO_13.out).2.2 | (with_reducible refine Kd.C_alloc ?_ _) | (with_reducible refine Kd.C_drewN ?_ _) | (with_reducible refine Kd.C_drew ?_))); (case side2 => exact (Kd.R_reads' HO_13.out).2.1); (case side3 => repeat (first | exact (Kd.C_below HR166.out HB.out) | (with_reducible refine Kd.C_alloc ?_ _) | (with_reducible refine Kd.C_drewN ?_ _) | (with_reducible refine Kd.C_drew ?_))); (case side4 => exact HC166.out); rintro e w' ⟨rfl, ⟨nd, rfl⟩⟩) | (go_at_call 24; refine calls_at1 TL2.out ?_; (with_reducible refine (victim_Free.calls k2 _ _ t162 _ _ (l2.take ((ji13) : Int).toNat) t184 _ ?side1 ?side2 ?side3 ?side4 A54.out).mono ?_); (case side1 => repeat (first | exact (Kd.R_reads' HO_1.out).2.2 | (with_reducible refine Kd.C_alloc ?_ _) | (with_reducible refine Kd.C_drewN ?_ _) | (with_reducible refine Kd.C_drew ?_))); (case side2 => exact (Kd.R_reads' HO_1.out).2.1); (case side3 => repeat (first | exact (Kd.C_below HR166.out (by repeat (first | (with_reducible first | exact HB.out | apply below_alloc | apply pw_below_drewN | apply below_drew1) | exact HB.out))) | (with_reducible refine Kd.C_alloc ?_ _) | (with_reducible refine Kd.C_drewN ?_ _) | (with_reducible refine Kd.C_drew ?_))); (case side4 => exact HC166.out); rintro e w' ⟨rfl, ⟨nd, rfl⟩⟩) | (go_at_call 26; refine calls_at2 TL2.out ?_; (with_reducible refine (victim_Cold.calls k2 _ _ x12_2 _ _ x13_2 _ _ (l2.take ((ji13) : Int).toNat) 7 t185 _ ?side1 ?side2 ?side3 ?side4 ?side5 ?side6 A56.out).mono ?_); (case side1 => repeat (first | exact (Kd.R_reads' HO_12.out).2.2 | (with_reducible refine Kd.C_alloc ?_ _) | (with_reducible refine Kd.C_drewN ?_ _) | (with_reducible refine Kd.C_drew ?_))); (case side2 => exact (Kd.R_reads' HO_12.out).2.1); (case side3 => repeat (first | exact (Kd.R_reads' HO_13.out).2.2 | (with_reducible refine Kd.C_alloc ?_ _) | (with_reducible refine Kd.C_drewN ?_ _) | (with_reducible refine Kd.C_drew ?_))); (case side4 => exact (Kd.R_reads' HO_13.out).2.1); (case side5 => repeat (first | exact (Kd.C_below HR166.out (by repeat (first | (with_reducible first | exact HB.out | apply below_alloc | apply pw_below_drewN | apply below_drew1) | exact HB.out))) | (with_reducible refine Kd.C_alloc ?_ _) | (with_reducible refine Kd.C_drewN ?_ _) | (with_reducible refine Kd.C_drew ?_))); (case side6 => exact HC166.out); rintro e w64 ⟨rfl, hb⟩; have n0_ := Aside0.mk (Kd.R_below (by (with_reducible repeat (first | apply Kd.R_alloc | apply Kd.R_drewN | apply Kd.R_drew)); exact HO_0.out) hb); have n1_ := Aside0.mk (Kd.R_below (by (with_reducible repeat (first | apply Kd.R_alloc | apply Kd.R_drewN | apply Kd.R_drew)); exact HO_1.out) hb); have n2_ := Aside0.mk (Kd.R_below (by (with_reducible repeat (first | apply Kd.R_alloc | apply Kd.R_drewN | apply Kd.R_drew)); exact HO_12.out) hb); have n3_ := Aside0.mk (Kd.R_below (by (with_reducible repeat (first | apply Kd.R_alloc | apply Kd.R_drewN | apply Kd.R_drew)); exact HO_13.out) hb); have n4_ := Aside0.mk (below_step (by repeat (first | (with_reducible first | exact HB.out | apply below_alloc | apply pw_below_drewN | apply below_drew1) | exact HB.out)) hb); clear HO_0; clear HO_1; clear HO_12; clear HO_13; clear HB; have HO_0 := n0_; have HO_1 := n1_; have HO_12 := n2_; have HO_13 := n3_; have HB := n4_; clear n0_ n1_ n2_ n3_ n4_; (try clear hb); (try clear hb2); (try clear hk); (try clear hi)) | (go_at_call 26; refine calls_at2 TL2.out ?_; (with_reducible refine (victim_Cold.calls k2 _ _ x12_2 _ _ t162 _ _ (l2.take ((ji13) : Int).toNat) 7 t186 _ ?side1 ?side2 ?side3 ?side4 ?side5 ?side6 A57.out).mono ?_); (case side1 => repeat (first | exact (Kd.R_reads' HO_12.out).2.2 | (with_reducible refine Kd.C_alloc ?_ _) | (with_reducible refine Kd.C_drewN ?_ _) | (with_reducible refine Kd.C_drew ?_))); (case side2 => exact (Kd.R_reads' HO_12.out).2.1); (case side3 => repeat (first | exact (Kd.R_reads' HO_1.out).2.2 | (with_reducible refine Kd.C_alloc ?_ _) | (with_reducible refine Kd.C_drewN ?_ _) | (with_reducible refine Kd.C_drew ?_))); (case side4 => exact (Kd.R_reads' HO_1.out).2.1); (case side5 => repeat (first | exact (Kd.C_below HR166.out HB.out) | (with_reducible refine Kd.C_alloc ?_ _) | (with_reducible refine Kd.C_drewN ?_ _) | (with_reducible refine Kd.C_drew ?_))); (case side6 => exact HC166.out); rintro e w65 ⟨rfl, hb⟩; have n0_ := Aside0.mk (Kd.R_below (by (with_reducible repeat (first | apply Kd.R_alloc | apply Kd.R_drewN | apply Kd.R_drew)); exact HO_0.out) hb); have n1_ := Aside0.mk (Kd.R_below (by (with_reducible repeat (first | apply Kd.R_alloc | apply Kd.R_drewN | apply Kd.R_drew)); exact HO_1.out) hb); have n2_ := Aside0.mk (Kd.R_below (by (with_reducible repeat (first | apply Kd.R_alloc | apply Kd.R_drewN | apply Kd.R_drew)); exact HO_12.out) hb); have n3_ := Aside0.mk (Kd.R_below (by (with_reducible repeat (first | apply Kd.R_alloc | apply Kd.R_drewN | apply Kd.R_drew)); exact HO_13.out) hb); have n4_ := Aside0.mk (below_step (by repeat (first | (with_reducible first | exact HB.out | apply below_alloc | apply pw_below_drewN | apply below_drew1) | exact HB.out)) hb); clear HO_0; clear HO_1; clear HO_12; clear HO_13; clear HB; have HO_0 := n0_; have HO_1 := n1_; have HO_12 := n2_; have HO_13 := n3_; have HB := n4_; clear n0_ n1_ n2_ n3_ n4_; (try clear hb); (try clear hb2); (try clear hk); (try clear hi)))
                            go_meet
                            case rel => exact ⟨_, ((t185 != t186)), (by first | rfl | (simp; done) | (simp [*]; done)), H', ⟨by have := HJ5.out; have := HK2.out; first | omega | exact Nat.le_refl _⟩, ⟨by (with_reducible repeat (first | apply Kd.R_alloc | apply Kd.R_drewN | apply Kd.R_drew)); exact HO_0.out⟩, ⟨by (with_reducible repeat (first | apply Kd.R_alloc | apply Kd.R_drewN | apply Kd.R_drew)); exact HO_1.out⟩, ⟨by (with_reducible repeat (first | apply Kd.R_alloc | apply Kd.R_drewN | apply Kd.R_drew)); exact HO_12.out⟩, ⟨by (with_reducible repeat (first | apply Kd.R_alloc | apply Kd.R_drewN | apply Kd.R_drew)); exact HO_13.out⟩, ⟨by repeat (first | (with_reducible first | exact HB.out | apply below_alloc | apply pw_below_drewN | apply below_drew1) | exact HB.out)⟩⟩
                          · rw [if_neg c55] at H
                            have c55b0 : (t183 == t184) = false := beq_eq_false_iff_ne.mpr c55
                            have c55b1 : (t183 != t184) = true := bne_iff_ne.mpr c55
                            have H' := Aside0.mk H
                            clear H
                            obtain ⟨Ao66, co66, eo66⟩ := Kd.R_slice HO_12.out
                            subst eo66
                            obtain ⟨Ao67, co67, eo67⟩ := Kd.R_slice HO_13.out
                            subst eo67
                            go_wp2_with (first | ((with_reducible refine gate_callee (f := 22) rfl ?_); refine goesL_ (some 74) rfl rfl Try.func22 (by kernel_rfl) rfl #[.slice Ao66 x12_2.length co66, .slice Ao67 x13_2.length co67, .slice A2 (l2.take ((ji13) : Int).toNat).length c2] rfl (by (try simp only [List.map_toArray, List.map_cons, List.map_nil]); first | done | (rw [TL2.out] <;> rfl) | (simp only [hji13]; rfl) | rfl | (simp only [List.length_drop, List.length_take]; rfl)) ?_; (with_reducible refine (victim_Pick.calls k2 _ _ x12_2 _ _ x13_2 _ _ (l2.take ((ji13) : Int).toNat) t181 _ ?side1 ?side2 ?side3 ?side4 ?side5 ?side6 A50.out).mono ?_); (case side1 => repeat (first | exact (Kd.R_reads' HO_12.out).2.2 | (with_reducible refine Kd.C_alloc ?_ _) | (with_reducible refine Kd.C_drewN ?_ _) | (with_reducible refine Kd.C_drew ?_))); (case side2 => exact (Kd.R_reads' HO_12.out).2.1); (case side3 => repeat (first | exact (Kd.R_reads' HO_13.out).2.2 | (with_reducible refine Kd.C_alloc ?_ _) | (with_reducible refine Kd.C_drewN ?_ _) | (with_reducible refine Kd.C_drew ?_))); (case side4 => exact (Kd.R_reads' HO_13.out).2.1); (case side5 => repeat (first | exact (Kd.C_below HR166.out HB.out) | (with_reducible refine Kd.C_alloc ?_ _) | (with_reducible refine Kd.C_drewN ?_ _) | (with_reducible refine Kd.C_drew ?_))); (case side6 => exact HC166.out); rintro e w68 ⟨rfl, hb⟩; refine ⟨_, rfl, ?_⟩; have n0_ := Aside0.mk (Kd.R_below (by (with_reducible repeat (first | apply Kd.R_alloc | apply Kd.R_drewN | apply Kd.R_drew)); exact HO_0.out) hb); have n1_ := Aside0.mk (Kd.R_below (by (with_reducible repeat (first | apply Kd.R_alloc | apply Kd.R_drewN | apply Kd.R_drew)); exact HO_1.out) hb); have n2_ := Aside0.mk (Kd.R_below (by (with_reducible repeat (first | apply Kd.R_alloc | apply Kd.R_drewN | apply Kd.R_drew)); exact HO_12.out) hb); have n3_ := Aside0.mk (Kd.R_below (by (with_reducible repeat (first | apply Kd.R_alloc | apply Kd.R_drewN | apply Kd.R_drew)); exact HO_13.out) hb); have n4_ := Aside0.mk (below_step (by repeat (first | (with_reducible first | exact HB.out | apply below_alloc | apply pw_below_drewN | apply below_drew1) | exact HB.out)) hb); clear HO_0; clear HO_1; clear HO_12; clear HO_13; clear HB; have HO_0 := n0_; have HO_1 := n1_; have HO_12 := n2_; have HO_13 := n3_; have HB := n4_; clear n0_ n1_ n2_ n3_ n4_; (try clear hb); (try clear hb2); (try clear hk); (try clear hi); obtain ⟨Ao69, co69, eo69⟩ := Kd.R_slice HO_0.out; subst eo69; obtain ⟨Ao70, co70, eo70⟩ := Kd.R_slice HO_1.out; subst eo70) | ((with_reducible refine gate_callee (f := 22) rfl ?_); refine goesL_ (some 78) rfl rfl Try.func22 (by kernel_rfl) rfl #[.slice Ao69 t158.length co69, .slice Ao70 t162.length co70, .slice A2 (l2.take ((ji13) : Int).toNat).length c2] rfl (by (try simp only [List.map_toArray, List.map_cons, List.map_nil]); first | done | (rw [TL2.out] <;> rfl) | (simp only [hji13]; rfl) | rfl | (simp only [List.length_drop, List.length_take]; rfl)) ?_; (with_reducible refine (victim_Pick.calls k2 _ _ t158 _ _ t162 _ _ (l2.take ((ji13) : Int).toNat) t182 _ ?side1 ?side2 ?side3 ?side4 ?side5 ?side6 A51.out).mono ?_); (case side1 => repeat (first | exact (Kd.R_reads' HO_0.out).2.2 | (with_reducible refine Kd.C_alloc ?_ _) | (with_reducible refine Kd.C_drewN ?_ _) | (with_reducible refine Kd.C_drew ?_))); (case side2 => exact (Kd.R_reads' HO_0.out).2.1); (case side3 => repeat (first | exact (Kd.R_reads' HO_1.out).2.2 | (with_reducible refine Kd.C_alloc ?_ _) | (with_reducible refine Kd.C_drewN ?_ _) | (with_reducible refine Kd.C_drew ?_))); (case side4 => exact (Kd.R_reads' HO_1.out).2.1); (case side5 => repeat (first | exact (Kd.C_below HR166.out HB.out) | (with_reducible refine Kd.C_alloc ?_ _) | (with_reducible refine Kd.C_drewN ?_ _) | (with_reducible refine Kd.C_drew ?_))); (case side6 => exact HC166.out); rintro e w71 ⟨rfl, hb⟩; refine ⟨_, rfl, ?_⟩; have n0_ := Aside0.mk (Kd.R_below (by (with_reducible repeat (first | apply Kd.R_alloc | apply Kd.R_drewN | apply Kd.R_drew)); exact HO_0.out) hb); have n1_ := Aside0.mk (Kd.R_below (by (with_reducible repeat (first | apply Kd.R_alloc | apply Kd.R_drewN | apply Kd.R_drew)); exact HO_1.out) hb); have n2_ := Aside0.mk (Kd.R_below (by (with_reducible repeat (first | apply Kd.R_alloc | apply Kd.R_drewN | apply Kd.R_drew)); exact HO_12.out) hb); have n3_ := Aside0.mk (Kd.R_below (by (with_reducible repeat (first | apply Kd.R_alloc | apply Kd.R_drewN | apply Kd.R_drew)); exact HO_13.out) hb); have n4_ := Aside0.mk (below_step (by repeat (first | (with_reducible first | exact HB.out | apply below_alloc | apply pw_below_drewN | apply below_drew1) | exact HB.out)) hb); clear HO_0; clear HO_1; clear HO_12; clear HO_13; clear HB; have HO_0 := n0_; have HO_1 := n1_; have HO_12 := n2_; have HO_13 := n3_; have HB := n4_; clear n0_ n1_ n2_ n3_ n4_; (try clear hb); (try clear hb2); (try clear hk); (try clear hi)) | (go_at_call 24; refine calls_at1 TL2.out ?_; (with_reducible refine (victim_Free.calls k2 _ _ x13_2 _ _ (l2.take ((ji13) : Int).toNat) t183 _ ?side1 ?side2 ?side3 ?side4 A53.out).mono ?_); (case side1 => repeat (first | exact (Kd.R_reads' HO_13.out).2.2 | (with_reducible refine Kd.C_alloc ?_ _) | (with_reducible refine Kd.C_drewN ?_ _) | (with_reducible refine Kd.C_drew ?_))); (case side2 => exact (Kd.R_reads' HO_13.out).2.1); (case side3 => repeat (first | exact (Kd.C_below HR166.out HB.out) | (with_reducible refine Kd.C_alloc ?_ _) | (with_reducible refine Kd.C_drewN ?_ _) | (with_reducible refine Kd.C_drew ?_))); (case side4 => exact HC166.out); rintro e w' ⟨rfl, ⟨nd, rfl⟩⟩) | (go_at_call 24; refine calls_at1 TL2.out ?_; (with_reducible refine (victim_Free.calls k2 _ _ t162 _ _ (l2.take ((ji13) : Int).toNat) t184 _ ?side1 ?side2 ?side3 ?side4 A54.out).mono ?_); (case side1 => repeat (first | exact (Kd.R_reads' HO_1.out).2.2 | (with_reducible refine Kd.C_alloc ?_ _) | (with_reducible refine Kd.C_drewN ?_ _) | (with_reducible refine Kd.C_drew ?_))); (case side2 => exact (Kd.R_reads' HO_1.out).2.1); (case side3 => repeat (first | exact (Kd.C_below HR166.out (by repeat (first | (with_reducible first | exact HB.out | apply below_alloc | apply pw_below_drewN | apply below_drew1) | exact HB.out))) | (with_reducible refine Kd.C_alloc ?_ _) | (with_reducible refine Kd.C_drewN ?_ _) | (with_reducible refine Kd.C_drew ?_))); (case side4 => exact HC166.out); rintro e w' ⟨rfl, ⟨nd, rfl⟩⟩))
                            go_meet
                            case rel => exact ⟨_, (true), (by first | rfl | (simp; done) | (simp [*]; done)), H', ⟨by have := HJ5.out; have := HK2.out; first | omega | exact Nat.le_refl _⟩, ⟨by (with_reducible repeat (first | apply Kd.R_alloc | apply Kd.R_drewN | apply Kd.R_drew)); exact HO_0.out⟩, ⟨by (with_reducible repeat (first | apply Kd.R_alloc | apply Kd.R_drewN | apply Kd.R_drew)); exact HO_1.out⟩, ⟨by (with_reducible repeat (first | apply Kd.R_alloc | apply Kd.R_drewN | apply Kd.R_drew)); exact HO_12.out⟩, ⟨by (with_reducible repeat (first | apply Kd.R_alloc | apply Kd.R_drewN | apply Kd.R_drew)); exact HO_13.out⟩, ⟨by repeat (first | (with_reducible first | exact HB.out | apply below_alloc | apply pw_below_drewN | apply below_drew1) | exact HB.out)⟩⟩
                        · rw [if_neg c52] at H
                          have c52b0 : (t181 == t182) = false := beq_eq_false_iff_ne.mpr c52
                          have c52b1 : (t181 != t182) = true := bne_iff_ne.mpr c52
                          (first | rw [c52b0] | (simp only [i64_w, i32_w]; rw [c52b0]) | skip)
                          have H' := Aside0.mk H
                          clear H
                          obtain ⟨Ao72, co72, eo72⟩ := Kd.R_slice HO_12.out
                          subst eo72
                          obtain ⟨Ao73, co73, eo73⟩ := Kd.R_slice HO_13.out
                          subst eo73
                          go_wp2_with (first | ((with_reducible refine gate_callee (f := 22) rfl ?_); refine goesL_ (some 74) rfl rfl Try.func22 (by kernel_rfl) rfl #[.slice Ao72 x12_2.length co72, .slice Ao73 x13_2.length co73, .slice A2 (l2.take ((ji13) : Int).toNat).length c2] rfl (by (try simp only [List.map_toArray, List.map_cons, List.map_nil]); first | done | (rw [TL2.out] <;> rfl) | (simp only [hji13]; rfl) | rfl | (simp only [List.length_drop, List.length_take]; rfl)) ?_; (with_reducible refine (victim_Pick.calls k2 _ _ x12_2 _ _ x13_2 _ _ (l2.take ((ji13) : Int).toNat) t181 _ ?side1 ?side2 ?side3 ?side4 ?side5 ?side6 A50.out).mono ?_); (case side1 => repeat (first | exact (Kd.R_reads' HO_12.out).2.2 | (with_reducible refine Kd.C_alloc ?_ _) | (with_reducible refine Kd.C_drewN ?_ _) | (with_reducible refine Kd.C_drew ?_))); (case side2 => exact (Kd.R_reads' HO_12.out).2.1); (case side3 => repeat (first | exact (Kd.R_reads' HO_13.out).2.2 | (with_reducible refine Kd.C_alloc ?_ _) | (with_reducible refine Kd.C_drewN ?_ _) | (with_reducible refine Kd.C_drew ?_))); (case side4 => exact (Kd.R_reads' HO_13.out).2.1); (case side5 => repeat (first | exact (Kd.C_below HR166.out HB.out) | (with_reducible refine Kd.C_alloc ?_ _) | (with_reducible refine Kd.C_drewN ?_ _) | (with_reducible refine Kd.C_drew ?_))); (case side6 => exact HC166.out); rintro e w74 ⟨rfl, hb⟩; refine ⟨_, rfl, ?_⟩; have n0_ := Aside0.mk (Kd.R_below (by (with_reducible repeat (first | apply Kd.R_alloc | apply Kd.R_drewN | apply Kd.R_drew)); exact HO_0.out) hb); have n1_ := Aside0.mk (Kd.R_below (by (with_reducible repeat (first | apply Kd.R_alloc | apply Kd.R_drewN | apply Kd.R_drew)); exact HO_1.out) hb); have n2_ := Aside0.mk (Kd.R_below (by (with_reducible repeat (first | apply Kd.R_alloc | apply Kd.R_drewN | apply Kd.R_drew)); exact HO_12.out) hb); have n3_ := Aside0.mk (Kd.R_below (by (with_reducible repeat (first | apply Kd.R_alloc | apply Kd.R_drewN | apply Kd.R_drew)); exact HO_13.out) hb); have n4_ := Aside0.mk (below_step (by repeat (first | (with_reducible first | exact HB.out | apply below_alloc | apply pw_below_drewN | apply below_drew1) | exact HB.out)) hb); clear HO_0; clear HO_1; clear HO_12; clear HO_13; clear HB; have HO_0 := n0_; have HO_1 := n1_; have HO_12 := n2_; have HO_13 := n3_; have HB := n4_; clear n0_ n1_ n2_ n3_ n4_; (try clear hb); (try clear hb2); (try clear hk); (try clear hi); obtain ⟨Ao75, co75, eo75⟩ := Kd.R_slice HO_0.out; subst eo75; obtain ⟨Ao76, co76, eo76⟩ := Kd.R_slice HO_1.out; subst eo76) | ((with_reducible refine gate_callee (f := 22) rfl ?_); refine goesL_ (some 78) rfl rfl Try.func22 (by kernel_rfl) rfl #[.slice Ao75 t158.length co75, .slice Ao76 t162.length co76, .slice A2 (l2.take ((ji13) : Int).toNat).length c2] rfl (by (try simp only [List.map_toArray, List.map_cons, List.map_nil]); first | done | (rw [TL2.out] <;> rfl) | (simp only [hji13]; rfl) | rfl | (simp only [List.length_drop, List.length_take]; rfl)) ?_; (with_reducible refine (victim_Pick.calls k2 _ _ t158 _ _ t162 _ _ (l2.take ((ji13) : Int).toNat) t182 _ ?side1 ?side2 ?side3 ?side4 ?side5 ?side6 A51.out).mono ?_); (case side1 => repeat (first | exact (Kd.R_reads' HO_0.out).2.2 | (with_reducible refine Kd.C_alloc ?_ _) | (with_reducible refine Kd.C_drewN ?_ _) | (with_reducible refine Kd.C_drew ?_))); (case side2 => exact (Kd.R_reads' HO_0.out).2.1); (case side3 => repeat (first | exact (Kd.R_reads' HO_1.out).2.2 | (with_reducible refine Kd.C_alloc ?_ _) | (with_reducible refine Kd.C_drewN ?_ _) | (with_reducible refine Kd.C_drew ?_))); (case side4 => exact (Kd.R_reads' HO_1.out).2.1); (case side5 => repeat (first | exact (Kd.C_below HR166.out HB.out) | (with_reducible refine Kd.C_alloc ?_ _) | (with_reducible refine Kd.C_drewN ?_ _) | (with_reducible refine Kd.C_drew ?_))); (case side6 => exact HC166.out); rintro e w77 ⟨rfl, hb⟩; refine ⟨_, rfl, ?_⟩; have n0_ := Aside0.mk (Kd.R_below (by (with_reducible repeat (first | apply Kd.R_alloc | apply Kd.R_drewN | apply Kd.R_drew)); exact HO_0.out) hb); have n1_ := Aside0.mk (Kd.R_below (by (with_reducible repeat (first | apply Kd.R_alloc | apply Kd.R_drewN | apply Kd.R_drew)); exact HO_1.out) hb); have n2_ := Aside0.mk (Kd.R_below (by (with_reducible repeat (first | apply Kd.R_alloc | apply Kd.R_drewN | apply Kd.R_drew)); exact HO_12.out) hb); have n3_ := Aside0.mk (Kd.R_below (by (with_reducible repeat (first | apply Kd.R_alloc | apply Kd.R_drewN | apply Kd.R_drew)); exact HO_13.out) hb); have n4_ := Aside0.mk (below_step (by repeat (first | (with_reducible first | exact HB.out | apply below_alloc | apply pw_below_drewN | apply below_drew1) | exact HB.out)) hb); clear HO_0; clear HO_1; clear HO_12; clear HO_13; clear HB; have HO_0 := n0_; have HO_1 := n1_; have HO_12 := n2_; have HO_13 := n3_; have HB := n4_; clear n0_ n1_ n2_ n3_ n4_; (try clear hb); (try clear hb2); (try clear hk); (try clear hi)))
                          go_meet
                          case rel => exact ⟨_, (true), (by first | rfl | (simp; done) | (simp [*]; done)), H', ⟨by have := HJ5.out; have := HK2.out; first | omega | exact Nat.le_refl _⟩, ⟨by (with_reducible repeat (first | apply Kd.R_alloc | apply Kd.R_drewN | apply Kd.R_drew)); exact HO_0.out⟩, ⟨by (with_reducible repeat (first | apply Kd.R_alloc | apply Kd.R_drewN | apply Kd.R_drew)); exact HO_1.out⟩, ⟨by (with_reducible repeat (first | apply Kd.R_alloc | apply Kd.R_drewN | apply Kd.R_drew)); exact HO_12.out⟩, ⟨by (with_reducible repeat (first | apply Kd.R_alloc | apply Kd.R_drewN | apply Kd.R_drew)); exact HO_13.out⟩, ⟨by repeat (first | (with_reducible first | exact HB.out | apply below_alloc | apply pw_below_drewN | apply below_drew1) | exact HB.out)⟩⟩
                      case rest =>
                        clear HC49
                        try clear c2
                        try clear p2
                        try clear c3
                        try clear c5
                        try clear p6
                        try clear c22
                        try clear c29
                        try clear c29b0
                        try clear c30
                        try clear c31
                        try clear c32
                        try clear c33
                        try clear c34
                        try clear c52
                        try clear c52b0
                        try clear c52b1
                        try clear c55
                        try clear c55b0
                        try clear c55b1
                        try clear p64
                        obtain ⟨kq, x99_48, rfl, HA, HJ48, HO_0, HO_1, HO_12, HO_13, HB⟩ := hcut
                        cases kq with
                        | zero => exact absurd HA.out (by simp [jotterlaw12_VictimShifts.j2])
                        | succ kj48 =>
                          have H := HA.out
                          clear HA
                          simp only [jotterlaw12_VictimShifts.j2] at H
                          by_cases c78 : x99_48 = true
                          · subst c78
                            have H1 : (some false) = some r := by rw [if_pos rfl] at H; exact H
                            clear H
                            have H := H1
                            clear H1
                            obtain rfl := Option.some.inj H
                            go_wp2
                            go_ret
                            exact ⟨by first | rfl | (simp [errW_none, errW_some] <;> rfl) | (simp only [← hji12, ← hji13]; first | rfl | (simp [errW_none, errW_some] <;> rfl)) | (simp [*, errW_none, errW_some] <;> rfl), by repeat (first | (with_reducible first | exact HB.out | apply below_alloc | apply pw_below_drewN | apply below_drew1) | exact HB.out)⟩
                          · replace c78 := Bool.eq_false_iff.mpr c78
                            subst c78
                            have H1 : (if ji13 = 0 then ((victim_Pick.f kj48 t158 t162 (l2.take ((ji13) : Int).toNat)).bind fun t187 => (if t187 = (-1) then ((jotterlaw12_awake.f kj48).bind fun t188 => (some t188)) else (some false))) else ((jotterlaw0_Low.f a4 ji13).bind fun t189 => (if 0 ≤ t189 then (if t189 < (x12_2.length : Int) then ((some (x12_2.set (t189 : Int).toNat 0 : List Int)).bind fun y190 => (if t189 < ((l2.take ((ji13) : Int).toNat).length : Int) then (if rdOf false (l2.take ((ji13) : Int).toNat) t189 = true then ((victim_Pick.f kj48 y190 x13_2 (l2.take ((ji13) : Int).toNat)).bind fun t192 => (if t192 = t189 then ((jotterlaw12_awake.f kj48).bind fun t194 => (some t194)) else (some false))) else ((victim_Pick.f kj48 y190 x13_2 (l2.take ((ji13) : Int).toNat)).bind fun t196 => (if t196 = t189 then (some false) else ((jotterlaw12_awake.f kj48).bind fun t197 => (some t197))))) else (none))) else (none)) else (none)))) = some r := by rw [if_neg (show ¬ (false = true) by decide)] at H; exact H
                            clear H
                            have H := H1
                            clear H1
                            by_cases c79 : ji13 = 0
                            · rw [if_pos c79] at H
                              have c79b0 : (ji13 == 0) = true := beq_iff_eq.mpr c79
                              have c79b1 : (ji13 != 0) = false := bne_eq_false_iff_eq.mpr c79
                              clear c79
                              replace H := Option.bind_eq_some_iff.mp H
                              obtain ⟨t187, A800, H⟩ := H
                              replace H : (if t187 = (-1) then ((jotterlaw12_awake.f kj48).bind fun t188 => (some t188)) else (some false)) = some r := H
                              have A80 := Aside0.mk A800
                              clear A800
                              by_cases c81 : t187 = (-1)
                              · rw [if_pos c81] at H
                                have c81b0 : (t187 == (-1)) = true := beq_iff_eq.mpr c81
                                have c81b1 : (t187 != (-1)) = false := bne_eq_false_iff_eq.mpr c81
                                clear c81
                                replace H := Option.bind_eq_some_iff.mp H
                                obtain ⟨t188, A820, H⟩ := H
                                replace H : (some t188) = some r := H
                                have A82 := Aside0.mk A820
                                clear A820
                                obtain rfl := Option.some.inj H
                                obtain ⟨Ao83, co83, eo83⟩ := Kd.R_slice HO_0.out
                                subst eo83
                                obtain ⟨Ao84, co84, eo84⟩ := Kd.R_slice HO_1.out
                                subst eo84
                                go_wp2_with (first | ((with_reducible refine gate_callee (f := 22) rfl ?_); refine goesL_ (some 105) rfl rfl Try.func22 (by kernel_rfl) rfl #[.slice Ao83 t158.length co83, .slice Ao84 t162.length co84, .slice A2 (l2.take ((ji13) : Int).toNat).length c2] rfl (by (try simp only [List.map_toArray, List.map_cons, List.map_nil]); first | done | (rw [TL2.out] <;> rfl) | (simp only [hji13]; rfl) | rfl | (simp only [List.length_drop, List.length_take]; rfl)) ?_; (with_reducible refine (victim_Pick.calls kj48 _ _ t158 _ _ t162 _ _ (l2.take ((ji13) : Int).toNat) t187 _ ?side1 ?side2 ?side3 ?side4 ?side5 ?side6 A80.out).mono ?_); (case side1 => repeat (first | exact (Kd.R_reads' HO_0.out).2.2 | (with_reducible refine Kd.C_alloc ?_ _) | (with_reducible refine Kd.C_drewN ?_ _) | (with_reducible refine Kd.C_drew ?_))); (case side2 => exact (Kd.R_reads' HO_0.out).2.1); (case side3 => repeat (first | exact (Kd.R_reads' HO_1.out).2.2 | (with_reducible refine Kd.C_alloc ?_ _) | (with_reducible refine Kd.C_drewN ?_ _) | (with_reducible refine Kd.C_drew ?_))); (case side4 => exact (Kd.R_reads' HO_1.out).2.1); (case side5 => repeat (first | exact (Kd.C_below HR166.out HB.out) | (with_reducible refine Kd.C_alloc ?_ _) | (with_reducible refine Kd.C_drewN ?_ _) | (with_reducible refine Kd.C_drew ?_))); (case side6 => exact HC166.out); rintro e w85 ⟨rfl, hb⟩; refine ⟨_, rfl, ?_⟩; have n0_ := Aside0.mk (Kd.R_below (by (with_reducible repeat (first | apply Kd.R_alloc | apply Kd.R_drewN | apply Kd.R_drew)); exact HO_0.out) hb); have n1_ := Aside0.mk (Kd.R_below (by (with_reducible repeat (first | apply Kd.R_alloc | apply Kd.R_drewN | apply Kd.R_drew)); exact HO_1.out) hb); have n2_ := Aside0.mk (Kd.R_below (by (with_reducible repeat (first | apply Kd.R_alloc | apply Kd.R_drewN | apply Kd.R_drew)); exact HO_12.out) hb); have n3_ := Aside0.mk (Kd.R_below (by (with_reducible repeat (first | apply Kd.R_alloc | apply Kd.R_drewN | apply Kd.R_drew)); exact HO_13.out) hb); have n4_ := Aside0.mk (below_step (by repeat (first | (with_reducible first | exact HB.out | apply below_alloc | apply pw_below_drewN | apply below_drew1) | exact HB.out)) hb); clear HO_0; clear HO_1; clear HO_12; clear HO_13; clear HB; have HO_0 := n0_; have HO_1 := n1_; have HO_12 := n2_; have HO_13 := n3_; have HB := n4_; clear n0_ n1_ n2_ n3_ n4_; (try clear hb); (try clear hb2); (try clear hk); (try clear hi)) | (go_at_call 20; (with_reducible refine (jotterlaw12_awake.calls kj48  t188 _ A82.out).mono ?_); rintro e w86 ⟨rfl, hb⟩; have n0_ := Aside0.mk (Kd.R_below (by (with_reducible repeat (first | apply Kd.R_alloc | apply Kd.R_drewN | apply Kd.R_drew)); exact HO_0.out) hb); have n1_ := Aside0.mk (Kd.R_below (by (with_reducible repeat (first | apply Kd.R_alloc | apply Kd.R_drewN | apply Kd.R_drew)); exact HO_1.out) hb); have n2_ := Aside0.mk (Kd.R_below (by (with_reducible repeat (first | apply Kd.R_alloc | apply Kd.R_drewN | apply Kd.R_drew)); exact HO_12.out) hb); have n3_ := Aside0.mk (Kd.R_below (by (with_reducible repeat (first | apply Kd.R_alloc | apply Kd.R_drewN | apply Kd.R_drew)); exact HO_13.out) hb); have n4_ := Aside0.mk (below_step (by repeat (first | (with_reducible first | exact HB.out | apply below_alloc | apply pw_below_drewN | apply below_drew1) | exact HB.out)) hb); clear HO_0; clear HO_1; clear HO_12; clear HO_13; clear HB; have HO_0 := n0_; have HO_1 := n1_; have HO_12 := n2_; have HO_13 := n3_; have HB := n4_; clear n0_ n1_ n2_ n3_ n4_; (try clear hb); (try clear hb2); (try clear hk); (try clear hi)))
                                go_ret
                                exact ⟨by first | rfl | (simp [errW_none, errW_some] <;> rfl) | (simp only [← hji12, ← hji13]; first | rfl | (simp [errW_none, errW_some] <;> rfl)) | (simp [*, errW_none, errW_some] <;> rfl), by repeat (first | (with_reducible first | exact HB.out | apply below_alloc | apply pw_below_drewN | apply below_drew1) | exact HB.out)⟩
                              · rw [if_neg c81] at H
                                have c81b0 : (t187 == (-1)) = false := beq_eq_false_iff_ne.mpr c81
                                have c81b1 : (t187 != (-1)) = true := bne_iff_ne.mpr c81
                                obtain rfl := Option.some.inj H
                                obtain ⟨Ao87, co87, eo87⟩ := Kd.R_slice HO_0.out
                                subst eo87
                                obtain ⟨Ao88, co88, eo88⟩ := Kd.R_slice HO_1.out
                                subst eo88
                                go_wp2_with (first | ((with_reducible refine gate_callee (f := 22) rfl ?_); refine goesL_ (some 105) rfl rfl Try.func22 (by kernel_rfl) rfl #[.slice Ao87 t158.length co87, .slice Ao88 t162.length co88, .slice A2 (l2.take ((ji13) : Int).toNat).length c2] rfl (by (try simp only [List.map_toArray, List.map_cons, List.map_nil]); first | done | (rw [TL2.out] <;> rfl) | (simp only [hji13]; rfl) | rfl | (simp only [List.length_drop, List.length_take]; rfl)) ?_; (with_reducible refine (victim_Pick.calls kj48 _ _ t158 _ _ t162 _ _ (l2.take ((ji13) : Int).toNat) t187 _ ?side1 ?side2 ?side3 ?side4 ?side5 ?side6 A80.out).mono ?_); (case side1 => repeat (first | exact (Kd.R_reads' HO_0.out).2.2 | (with_reducible refine Kd.C_alloc ?_ _) | (with_reducible refine Kd.C_drewN ?_ _) | (with_reducible refine Kd.C_drew ?_))); (case side2 => exact (Kd.R_reads' HO_0.out).2.1); (case side3 => repeat (first | exact (Kd.R_reads' HO_1.out).2.2 | (with_reducible refine Kd.C_alloc ?_ _) | (with_reducible refine Kd.C_drewN ?_ _) | (with_reducible refine Kd.C_drew ?_))); (case side4 => exact (Kd.R_reads' HO_1.out).2.1); (case side5 => repeat (first | exact (Kd.C_below HR166.out HB.out) | (with_reducible refine Kd.C_alloc ?_ _) | (with_reducible refine Kd.C_drewN ?_ _) | (with_reducible refine Kd.C_drew ?_))); (case side6 => exact HC166.out); rintro e w89 ⟨rfl, hb⟩; refine ⟨_, rfl, ?_⟩; have n0_ := Aside0.mk (Kd.R_below (by (with_reducible repeat (first | apply Kd.R_alloc | apply Kd.R_drewN | apply Kd.R_drew)); exact HO_0.out) hb); have n1_ := Aside0.mk (Kd.R_below (by (with_reducible repeat (first | apply Kd.R_alloc | apply Kd.R_drewN | apply Kd.R_drew)); exact HO_1.out) hb); have n2_ := Aside0.mk (Kd.R_below (by (with_reducible repeat (first | apply Kd.R_alloc | apply Kd.R_drewN | apply Kd.R_drew)); exact HO_12.out) hb); have n3_ := Aside0.mk (Kd.R_below (by (with_reducible repeat (first | apply Kd.R_alloc | apply Kd.R_drewN | apply Kd.R_drew)); exact HO_13.out) hb); have n4_ := Aside0.mk (below_step (by repeat (first | (with_reducible first | exact HB.out | apply below_alloc | apply pw_below_drewN | apply below_drew1) | exact HB.out)) hb); clear HO_0; clear HO_1; clear HO_12; clear HO_13; clear HB; have HO_0 := n0_; have HO_1 := n1_; have HO_12 := n2_; have HO_13 := n3_; have HB := n4_; clear n0_ n1_ n2_ n3_ n4_; (try clear hb); (try clear hb2); (try clear hk); (try clear hi)))
                                go_ret
                                exact ⟨by first | rfl | (simp [errW_none, errW_some] <;> rfl) | (simp only [← hji12, ← hji13]; first | rfl | (simp [errW_none, errW_some] <;> rfl)) | (simp [*, errW_none, errW_some] <;> rfl), by repeat (first | (with_reducible first | exact HB.out | apply below_alloc | apply pw_below_drewN | apply below_drew1) | exact HB.out)⟩
                            · rw [if_neg c79] at H
                              have c79b0 : (ji13 == 0) = false := beq_eq_false_iff_ne.mpr c79
                              have c79b1 : (ji13 != 0) = true := bne_iff_ne.mpr c79
                              replace H := Option.bind_eq_some_iff.mp H
                              obtain ⟨t189, A900, H⟩ := H
                              replace H : (if 0 ≤ t189 then (if t189 < (x12_2.length : Int) then ((some (x12_2.set (t189 : Int).toNat 0 : List Int)).bind fun y190 => (if t189 < ((l2.take ((ji13) : Int).toNat).length : Int) then (if rdOf false (l2.take ((ji13) : Int).toNat) t189 = true then ((victim_Pick.f kj48 y190 x13_2 (l2.take ((ji13) : Int).toNat)).bind fun t192 => (if t192 = t189 then ((jotterlaw12_awake.f kj48).bind fun t194 => (some t194)) else (some false))) else ((victim_Pick.f kj48 y190 x13_2 (l2.take ((ji13) : Int).toNat)).bind fun t196 => (if t196 = t189 then (some false) else ((jotterlaw12_awake.f kj48).bind fun t197 => (some t197))))) else (none))) else (none)) else (none)) = some r := H
                              have A90 := Aside0.mk A900
                              clear A900
                              by_cases c91 : 0 ≤ t189
                              · rw [if_pos c91] at H
                                have c91b0 : decide (0 ≤ t189) = true := decide_eq_true c91
                                clear c91
                                by_cases c92 : t189 < (x12_2.length : Int)
                                · rw [if_pos c92] at H
                                  have c92b0 : decide (t189 < (x12_2.length : Int)) = true := decide_eq_true c92
                                  clear c92
                                  obtain ⟨y190, hy190⟩ : ∃ y_ : List Int, y_ = (x12_2.set (t189 : Int).toNat 0) := ⟨_, rfl⟩
                                  replace H : (if t189 < ((l2.take ((ji13) : Int).toNat).length : Int) then (if rdOf false (l2.take ((ji13) : Int).toNat) t189 = true then ((victim_Pick.f kj48 y190 x13_2 (l2.take ((ji13) : Int).toNat)).bind fun t192 => (if t192 = t189 then ((jotterlaw12_awake.f kj48).bind fun t194 => (some t194)) else (some false))) else ((victim_Pick.f kj48 y190 x13_2 (l2.take ((ji13) : Int).toNat)).bind fun t196 => (if t196 = t189 then (some false) else ((jotterlaw12_awake.f kj48).bind fun t197 => (some t197))))) else (none)) = some r := by first | (rw [hy190]; with_reducible exact H) | (have H2_ := (Option.bind_some _ _).symm.trans H; rw [hy190]; with_reducible exact H2_) | (have H2_ := (Option.bind_some _ _).symm.trans H; with_reducible exact H2_) | with_reducible exact H | (rw [hy190]; exact H) | exact H
                                  have Ny190 := Aside0.mk hy190
                                  clear hy190
                                  by_cases c94 : t189 < ((l2.take ((ji13) : Int).toNat).length : Int)
                                  · rw [if_pos c94] at H
                                    have c94b0 : decide (t189 < ((l2.take ((ji13) : Int).toNat).length : Int)) = true := decide_eq_true c94
                                    clear c94
                                    obtain ⟨bq95, hbq95⟩ : ∃ b_ : Bool, b_ = (rdOf false (l2.take ((ji13) : Int).toNat) t189) := ⟨_, rfl⟩
                                    replace H : (if bq95 = true then ((victim_Pick.f kj48 y190 x13_2 (l2.take ((ji13) : Int).toNat)).bind fun t192 => (if t192 = t189 then ((jotterlaw12_awake.f kj48).bind fun t194 => (some t194)) else (some false))) else ((victim_Pick.f kj48 y190 x13_2 (l2.take ((ji13) : Int).toNat)).bind fun t196 => (if t196 = t189 then (some false) else ((jotterlaw12_awake.f kj48).bind fun t197 => (some t197))))) = some r := by rw [← hbq95] at H; exact H
                                    have Nbq95 := Aside0.mk hbq95
                                    clear hbq95
                                    by_cases c96 : bq95 = true
                                    · subst c96
                                      have H1 : ((victim_Pick.f kj48 y190 x13_2 (l2.take ((ji13) : Int).toNat)).bind fun t192 => (if t192 = t189 then ((jotterlaw12_awake.f kj48).bind fun t194 => (some t194)) else (some false))) = some r := by rw [if_pos rfl] at H; exact H
                                      clear H
                                      have H := H1
                                      clear H1
                                      replace H := Option.bind_eq_some_iff.mp H
                                      obtain ⟨t192, A970, H⟩ := H
                                      replace H : (if t192 = t189 then ((jotterlaw12_awake.f kj48).bind fun t194 => (some t194)) else (some false)) = some r := H
                                      have A97 := Aside0.mk A970
                                      clear A970
                                      by_cases c98 : t192 = t189
                                      · rw [if_pos c98] at H
                                        have c98b0 : (t192 == t189) = true := beq_iff_eq.mpr c98
                                        have c98b1 : (t192 != t189) = false := bne_eq_false_iff_eq.mpr c98
                                        clear c98
                                        replace H := Option.bind_eq_some_iff.mp H
                                        obtain ⟨t194, A990, H⟩ := H
                                        replace H : (some t194) = some r := H
                                        have A99 := Aside0.mk A990
                                        clear A990
                                        obtain rfl := Option.some.inj H
                                        go_wp2_with (first | ((with_reducible refine gate_callee (f := 19) rfl ?_); refine goesL_ (some 112) rfl rfl Try.func19 (by kernel_rfl) rfl #[.int .i64 a4, .int .i64 ji13] rfl (by (try simp only [List.map_toArray, List.map_cons, List.map_nil]); first | done | (simp only [hji13]; rfl) | rfl | (simp only [List.length_drop, List.length_take]; rfl)) ?_; (with_reducible refine (jotterlaw0_Low.calls a4 ji13 t189 _ A90.out).mono ?_); rintro e w' ⟨rfl, ⟨nd, rfl⟩⟩; refine ⟨_, rfl, ?_⟩; (try (rw [drewN_self wc]; generalize hq_ : World.drewN wc _ = wc; have n0_ : Aside0 (Kd.R (Kd.int .i64) 3 wc w.heap.size (fun k_ => some k_ ≠ (v163 : Value).ownBlock ∧ some k_ ≠ (u12 : Value).ownBlock ∧ some k_ ≠ (u13 : Value).ownBlock) v159 t158) := ⟨by rw [← hq_]; exact (by (with_reducible repeat (first | apply Kd.R_alloc | apply Kd.R_drewN | apply Kd.R_drew)); exact HO_0.out)⟩; have n1_ : Aside0 (Kd.R (Kd.int .i64) 3 wc w.heap.size (fun k_ => some k_ ≠ (v159 : Value).ownBlock ∧ some k_ ≠ (u12 : Value).ownBlock ∧ some k_ ≠ (u13 : Value).ownBlock) v163 t162) := ⟨by rw [← hq_]; exact (by (with_reducible repeat (first | apply Kd.R_alloc | apply Kd.R_drewN | apply Kd.R_drew)); exact HO_1.out)⟩; have n2_ : Aside0 (Kd.R (Kd.int .i64) 3 wc w.heap.size (fun k_ => some k_ ≠ (v159 : Value).ownBlock ∧ some k_ ≠ (v163 : Value).ownBlock ∧ some k_ ≠ (u13 : Value).ownBlock) u12 x12_2) := ⟨by rw [← hq_]; exact (by (with_reducible repeat (first | apply Kd.R_alloc | apply Kd.R_drewN | apply Kd.R_drew)); exact HO_12.out)⟩; have n3_ : Aside0 (Kd.R (Kd.int .i64) 3 wc w.heap.size (fun k_ => some k_ ≠ (v159 : Value).ownBlock ∧ some k_ ≠ (v163 : Value).ownBlock ∧ some k_ ≠ (u12 : Value).ownBlock) u13 x13_2) := ⟨by rw [← hq_]; exact (by (with_reducible repeat (first | apply Kd.R_alloc | apply Kd.R_drewN | apply Kd.R_drew)); exact HO_13.out)⟩; have n4_ : Aside0 (Below w.heap.size w wc) := ⟨by rw [← hq_]; exact (by repeat (first | (with_reducible first | exact HB.out | apply below_alloc | apply pw_below_drewN | apply below_drew1) | exact HB.out))⟩; clear HO_0 HO_1 HO_12 HO_13 HB hq_; have HO_0 := n0_; have HO_1 := n1_; have HO_12 := n2_; have HO_13 := n3_; have HB := n4_; clear n0_ n1_ n2_ n3_ n4_)); have p93 : 0 ≤ (t189 : Int) := of_decide_eq_true (by first | (with_reducible assumption) | assumption); have q93 : (t189 : Int) < ((x12_2.length : Int) : Int) := of_decide_eq_true (by first | (with_reducible assumption) | assumption); obtain ⟨go93, co93, eo93, gb93, gl93, cl93, HG93⟩ := Kd.R_form HO_12.out (by omega); (first | cases eo93 | (injection eo93 with ea_ en_ ec_; (first | subst ea_ | (injection ea_ with ea_; subst ea_)); subst ec_; clear en_)); have GB93 := Aside0.mk gb93; have GG93 := Aside0.mk HG93; clear gb93 gl93 HG93; obtain ⟨hx93_0, hf93_0⟩ := Kd.R_celln 0 HO_12.out (t189 : Int) p93 q93; replace p93 := eq_true p93; replace q93 := eq_true q93; obtain ⟨hy100_, hz100_⟩ := Kd.R_celln 0 HO_12.out (t189 : Int) (of_decide_eq_true (by first | (with_reducible assumption) | assumption)) (of_decide_eq_true (by first | (with_reducible assumption) | assumption)); have HP100 := Kd.R_putg HO_12.out (t189 : Int) 0) | ((with_reducible refine gate_store (t := 3) (p := 115) rfl ?_); refine store_event (t := 3) (p := 115) (v := ?vo_w101) (w1 := (wc.setCell ⟨go93, (t189 : Int).toNat, none⟩ (.int .i64 0))) ?hg ?ho ?hn ?hr ?_; (case ho => rfl); (case hg => rfl); (case hn => rfl); (case hr => first | (go_simp; done) | (go_simp; rfl)); intro w101 hw; have hg : wc.grownBy w101 (some go93) := (by rw [hw]; exact HP100.2); have hp_ : Kd.R (Kd.int .i64) 3 w101 w.heap.size (fun k_ => some k_ ≠ (v159 : Value).ownBlock ∧ some k_ ≠ (v163 : Value).ownBlock ∧ some k_ ≠ (u13 : Value).ownBlock) (.slice (some ⟨go93, 0, none⟩) x12_2.length co93) y190 := (by rw [hw, Ny190.out]; exact HP100.1); clear HP100; have n0_ := Aside0.mk (Kd.R_after (v := (.slice (some ⟨go93, 0, none⟩) x12_2.length co93)) (v1 := (.slice (some ⟨go93, 0, none⟩) x12_2.length co93)) (ok := (fun k_ => some k_ ≠ (v163 : Value).ownBlock ∧ some k_ ≠ (u13 : Value).ownBlock)) (by (with_reducible repeat (first | apply Kd.R_alloc | apply Kd.R_drewN | apply Kd.R_drew)); exact Kd.R_mono HO_0.out (fun _ hk => ⟨⟨hk.1, hk.2.2⟩, hk.2.1⟩)) hg (.inl rfl)); have n1_ := Aside0.mk (Kd.R_after (v := (.slice (some ⟨go93, 0, none⟩) x12_2.length co93)) (v1 := (.slice (some ⟨go93, 0, none⟩) x12_2.length co93)) (ok := (fun k_ => some k_ ≠ (v159 : Value).ownBlock ∧ some k_ ≠ (u13 : Value).ownBlock)) (by (with_reducible repeat (first | apply Kd.R_alloc | apply Kd.R_drewN | apply Kd.R_drew)); exact Kd.R_mono HO_1.out (fun _ hk => ⟨⟨hk.1, hk.2.2⟩, hk.2.1⟩)) hg (.inl rfl)); have n2_ := Aside0.mk (hp_); have n3_ := Aside0.mk (Kd.R_after (v := (.slice (some ⟨go93, 0, none⟩) x12_2.length co93)) (v1 := (.slice (some ⟨go93, 0, none⟩) x12_2.length co93)) (ok := (fun k_ => some k_ ≠ (v159 : Value).ownBlock ∧ some k_ ≠ (v163 : Value).ownBlock)) (by (with_reducible repeat (first | apply Kd.R_alloc | apply Kd.R_drewN | apply Kd.R_drew)); exact Kd.R_mono HO_13.out (fun _ hk => ⟨⟨hk.1, hk.2.1⟩, hk.2.2⟩)) hg (.inl rfl)); have n4_ := Aside0.mk ((by rw [hw]; exact below_set (HB.out) GB93.out : Below w.heap.size w w101)); clear HO_0; clear HO_1; clear HO_12; clear HO_13; clear HB; have HO_0 := n0_; have HO_1 := n1_; have HO_12 := n2_; have HO_13 := n3_; have HB := n4_; clear n0_ n1_ n2_ n3_ n4_; clear hg hw hp_; have p191 : 0 ≤ (t189 : Int) := of_decide_eq_true (by first | (with_reducible assumption) | assumption); have q191 : t189 < ((l2.take ((ji13) : Int).toNat).length : Int) := of_decide_eq_true (by first | (with_reducible assumption) | assumption); have qm191 : (t189 < max ji13 0) = True := eq_true (by have h_ := q191; rw [TL2.out] at h_; omega); obtain ⟨ad191, e191, hx191_0⟩ := Kd.at_bool HR166.out t189 p191 q191; (try rw [← Nbq95.out] at hx191_0); cases e191; replace hx191_0 := (HB.out.cell (World.block_lt_of_cell? w _ hx191_0)).trans hx191_0; replace p191 := eq_true p191; replace q191 := eq_true q191; obtain ⟨Ao102, co102, eo102⟩ := Kd.R_slice HO_13.out; subst eo102) | (go_at_call 22; refine calls_of_args (args' := #[.slice (some ⟨go93, 0, none⟩) y190.length co93, .slice Ao102 x13_2.length co102, .slice (some ad191) (l2.take ((ji13) : Int).toNat).length c2]) (by first | (rw [show y190.length = x12_2.length from (Kd.R_reads' HO_12.out).1.symm, TL2.out] <;> rfl) | (rw [show y190.length = x12_2.length from (Kd.R_reads' HO_12.out).1.symm] <;> rfl) | rfl) ?_; (with_reducible refine (victim_Pick.calls kj48 _ _ y190 _ _ x13_2 _ _ (l2.take ((ji13) : Int).toNat) t192 _ ?side1 ?side2 ?side3 ?side4 ?side5 ?side6 A97.out).mono ?_); (case side1 => repeat (first | exact (Kd.R_reads' HO_12.out).2.2 | (with_reducible refine Kd.C_alloc ?_ _) | (with_reducible refine Kd.C_drewN ?_ _) | (with_reducible refine Kd.C_drew ?_))); (case side2 => rw [show y190.length = x12_2.length from (Kd.R_reads' HO_12.out).1.symm]; exact (Kd.R_reads' HO_12.out).2.1); (case side3 => repeat (first | exact (Kd.R_reads' HO_13.out).2.2 | (with_reducible refine Kd.C_alloc ?_ _) | (with_reducible refine Kd.C_drewN ?_ _) | (with_reducible refine Kd.C_drew ?_))); (case side4 => exact (Kd.R_reads' HO_13.out).2.1); (case side5 => repeat (first | exact (Kd.C_below HR166.out HB.out) | (with_reducible refine Kd.C_alloc ?_ _) | (with_reducible refine Kd.C_drewN ?_ _) | (with_reducible refine Kd.C_drew ?_))); (case side6 => exact HC166.out); rintro e w103 ⟨rfl, hb⟩; have n0_ := Aside0.mk (Kd.R_below (by (with_reducible repeat (first | apply Kd.R_alloc | apply Kd.R_drewN | apply Kd.R_drew)); exact HO_0.out) hb); have n1_ := Aside0.mk (Kd.R_below (by (with_reducible repeat (first | apply Kd.R_alloc | apply Kd.R_drewN | apply Kd.R_drew)); exact HO_1.out) hb); have n2_ := Aside0.mk (Kd.R_below (by (with_reducible repeat (first | apply Kd.R_alloc | apply Kd.R_drewN | apply Kd.R_drew)); exact HO_12.out) hb); have n3_ := Aside0.mk (Kd.R_below (by (with_reducible repeat (first | apply Kd.R_alloc | apply Kd.R_drewN | apply Kd.R_drew)); exact HO_13.out) hb); have n4_ := Aside0.mk (below_step (by repeat (first | (with_reducible first | exact HB.out | apply below_alloc | apply pw_below_drewN | apply below_drew1) | exact HB.out)) hb); clear HO_0; clear HO_1; clear HO_12; clear HO_13; clear HB; have HO_0 := n0_; have HO_1 := n1_; have HO_12 := n2_; have HO_13 := n3_; have HB := n4_; clear n0_ n1_ n2_ n3_ n4_; (try clear hb); (try clear hb2); (try clear hk); (try clear hi); have p193 : 0 ≤ (t189 : Int) := of_decide_eq_true (by first | (with_reducible assumption) | assumption); have q193 : t189 < ((l2.take ((ji13) : Int).toNat).length : Int) := of_decide_eq_true (by first | (with_reducible assumption) | assumption); have qm193 : (t189 < max ji13 0) = True := eq_true (by have h_ := q193; rw [TL2.out] at h_; omega); obtain ⟨ad193, e193, hx193_0⟩ := Kd.at_bool HR166.out t189 p193 q193; (try rw [← Nbq95.out] at hx193_0); obtain rfl : ad191 = ad193 := (by injection e193); replace hx193_0 := (HB.out.cell (World.block_lt_of_cell? w _ hx193_0)).trans hx193_0; replace p193 := eq_true p193; replace q193 := eq_true q193) | (go_at_call 20; (with_reducible refine (jotterlaw12_awake.calls kj48  t194 _ A99.out).mono ?_); rintro e w104 ⟨rfl, hb⟩; have n0_ := Aside0.mk (Kd.R_below (by (with_reducible repeat (first | apply Kd.R_alloc | apply Kd.R_drewN | apply Kd.R_drew)); exact HO_0.out) hb); have n1_ := Aside0.mk (Kd.R_below (by (with_reducible repeat (first | apply Kd.R_alloc | apply Kd.R_drewN | apply Kd.R_drew)); exact HO_1.out) hb); have n2_ := Aside0.mk (Kd.R_below (by (with_reducible repeat (first | apply Kd.R_alloc | apply Kd.R_drewN | apply Kd.R_drew)); exact HO_12.out) hb); have n3_ := Aside0.mk (Kd.R_below (by (with_reducible repeat (first | apply Kd.R_alloc | apply Kd.R_drewN | apply Kd.R_drew)); exact HO_13.out) hb); have n4_ := Aside0.mk (below_step (by repeat (first | (with_reducible first | exact HB.out | apply below_alloc | apply pw_below_drewN | apply below_drew1) | exact HB.out)) hb); clear HO_0; clear HO_1; clear HO_12; clear HO_13; clear HB; have HO_0 := n0_; have HO_1 := n1_; have HO_12 := n2_; have HO_13 := n3_; have HB := n4_; clear n0_ n1_ n2_ n3_ n4_; (try clear hb); (try clear hb2); (try clear hk); (try clear hi)))
                                        go_ret
                                        exact ⟨by first | rfl | (simp [errW_none, errW_some] <;> rfl) | (simp only [← hji12, ← hji13]; first | rfl | (simp [errW_none, errW_some] <;> rfl)) | (simp [*, errW_none, errW_some] <;> rfl), by repeat (first | (with_reducible first | exact HB.out | apply below_alloc | apply pw_below_drewN | apply below_drew1) | exact HB.out)⟩
                                      · rw [if_neg c98] at H
                                        have c98b0 : (t192 == t189) = false := beq_eq_false_iff_ne.mpr c98
                                        have c98b1 : (t192 != t189) = true := bne_iff_ne.mpr c98
                                        obtain rfl := Option.some.inj H
                                        go_wp2_with (first | ((with_reducible refine gate_callee (f := 19) rfl ?_); refine goesL_ (some 112) rfl rfl Try.func19 (by kernel_rfl) rfl #[.int .i64 a4, .int .i64 ji13] rfl (by (try simp only [List.map_toArray, List.map_cons, List.map_nil]); first | done | (simp only [hji13]; rfl) | rfl | (simp only [List.length_drop, List.length_take]; rfl)) ?_; (with_reducible refine (jotterlaw0_Low.calls a4 ji13 t189 _ A90.out).mono ?_); rintro e w' ⟨rfl, ⟨nd, rfl⟩⟩; refine ⟨_, rfl, ?_⟩; (try (rw [drewN_self wc]; generalize hq_ : World.drewN wc _ = wc; have n0_ : Aside0 (Kd.R (Kd.int .i64) 3 wc w.heap.size (fun k_ => some k_ ≠ (v163 : Value).ownBlock ∧ some k_ ≠ (u12 : Value).ownBlock ∧ some k_ ≠ (u13 : Value).ownBlock) v159 t158) := ⟨by rw [← hq_]; exact (by (with_reducible repeat (first | apply Kd.R_alloc | apply Kd.R_drewN | apply Kd.R_drew)); exact HO_0.out)⟩; have n1_ : Aside0 (Kd.R (Kd.int .i64) 3 wc w.heap.size (fun k_ => some k_ ≠ (v159 : Value).ownBlock ∧ some k_ ≠ (u12 : Value).ownBlock ∧ some k_ ≠ (u13 : Value).ownBlock) v163 t162) := ⟨by rw [← hq_]; exact (by (with_reducible repeat (first | apply Kd.R_alloc | apply Kd.R_drewN | apply Kd.R_drew)); exact HO_1.out)⟩; have n2_ : Aside0 (Kd.R (Kd.int .i64) 3 wc w.heap.size (fun k_ => some k_ ≠ (v159 : Value).ownBlock ∧ some k_ ≠ (v163 : Value).ownBlock ∧ some k_ ≠ (u13 : Value).ownBlock) u12 x12_2) := ⟨by rw [← hq_]; exact (by (with_reducible repeat (first | apply Kd.R_alloc | apply Kd.R_drewN | apply Kd.R_drew)); exact HO_12.out)⟩; have n3_ : Aside0 (Kd.R (Kd.int .i64) 3 wc w.heap.size (fun k_ => some k_ ≠ (v159 : Value).ownBlock ∧ some k_ ≠ (v163 : Value).ownBlock ∧ some k_ ≠ (u12 : Value).ownBlock) u13 x13_2) := ⟨by rw [← hq_]; exact (by (with_reducible repeat (first | apply Kd.R_alloc | apply Kd.R_drewN | apply Kd.R_drew)); exact HO_13.out)⟩; have n4_ : Aside0 (Below w.heap.size w wc) := ⟨by rw [← hq_]; exact (by repeat (first | (with_reducible first | exact HB.out | apply below_alloc | apply pw_below_drewN | apply below_drew1) | exact HB.out))⟩; clear HO_0 HO_1 HO_12 HO_13 HB hq_; have HO_0 := n0_; have HO_1 := n1_; have HO_12 := n2_; have HO_13 := n3_; have HB := n4_; clear n0_ n1_ n2_ n3_ n4_)); have p93 : 0 ≤ (t189 : Int) := of_decide_eq_true (by first | (with_reducible assumption) | assumption); have q93 : (t189 : Int) < ((x12_2.length : Int) : Int) := of_decide_eq_true (by first | (with_reducible assumption) | assumption); obtain ⟨go93, co93, eo93, gb93, gl93, cl93, HG93⟩ := Kd.R_form HO_12.out (by omega); (first | cases eo93 | (injection eo93 with ea_ en_ ec_; (first | subst ea_ | (injection ea_ with ea_; subst ea_)); subst ec_; clear en_)); have GB93 := Aside0.mk gb93; have GG93 := Aside0.mk HG93; clear gb93 gl93 HG93; obtain ⟨hx93_0, hf93_0⟩ := Kd.R_celln 0 HO_12.out (t189 : Int) p93 q93; replace p93 := eq_true p93; replace q93 := eq_true q93; obtain ⟨hy105_, hz105_⟩ := Kd.R_celln 0 HO_12.out (t189 : Int) (of_decide_eq_true (by first | (with_reducible assumption) | assumption)) (of_decide_eq_true (by first | (with_reducible assumption) | assumption)); have HP105 := Kd.R_putg HO_12.out (t189 : Int) 0) | ((with_reducible refine gate_store (t := 3) (p := 115) rfl ?_); refine store_event (t := 3) (p := 115) (v := ?vo_w106) (w1 := (wc.setCell ⟨go93, (t189 : Int).toNat, none⟩ (.int .i64 0))) ?hg ?ho ?hn ?hr ?_; (case ho => rfl); (case hg => rfl); (case hn => rfl); (case hr => first | (go_simp; done) | (go_simp; rfl)); intro w106 hw; have hg : wc.grownBy w106 (some go93) := (by rw [hw]; exact HP105.2); have hp_ : Kd.R (Kd.int .i64) 3 w106 w.heap.size (fun k_ => some k_ ≠ (v159 : Value).ownBlock ∧ some k_ ≠ (v163 : Value).ownBlock ∧ some k_ ≠ (u13 : Value).ownBlock) (.slice (some ⟨go93, 0, none⟩) x12_2.length co93) y190 := (by rw [hw, Ny190.out]; exact HP105.1); clear HP105; have n0_ := Aside0.mk (Kd.R_after (v := (.slice (some ⟨go93, 0, none⟩) x12_2.length co93)) (v1 := (.slice (some ⟨go93, 0, none⟩) x12_2.length co93)) (ok := (fun k_ => some k_ ≠ (v163 : Value).ownBlock ∧ some k_ ≠ (u13 : Value).ownBlock)) (by (with_reducible repeat (first | apply Kd.R_alloc | apply Kd.R_drewN | apply Kd.R_drew)); exact Kd.R_mono HO_0.out (fun _ hk => ⟨⟨hk.1, hk.2.2⟩, hk.2.1⟩)) hg (.inl rfl)); have n1_ := Aside0.mk (Kd.R_after (v := (.slice (some ⟨go93, 0, none⟩) x12_2.length co93)) (v1 := (.slice (some ⟨go93, 0, none⟩) x12_2.length co93)) (ok := (fun k_ => some k_ ≠ (v159 : Value).ownBlock ∧ some k_ ≠ (u13 : Value).ownBlock)) (by (with_reducible repeat (first | apply Kd.R_alloc | apply Kd.R_drewN | apply Kd.R_drew)); exact Kd.R_mono HO_1.out (fun _ hk => ⟨⟨hk.1, hk.2.2⟩, hk.2.1⟩)) hg (.inl rfl)); have n2_ := Aside0.mk (hp_); have n3_ := Aside0.mk (Kd.R_after (v := (.slice (some ⟨go93, 0, none⟩) x12_2.length co93)) (v1 := (.slice (some ⟨go93, 0, none⟩) x12_2.length co93)) (ok := (fun k_ => some k_ ≠ (v159 : Value).ownBlock ∧ some k_ ≠ (v163 : Value).ownBlock)) (by (with_reducible repeat (first | apply Kd.R_alloc | apply Kd.R_drewN | apply Kd.R_drew)); exact Kd.R_mono HO_13.out (fun _ hk => ⟨⟨hk.1, hk.2.1⟩, hk.2.2⟩)) hg (.inl rfl)); have n4_ := Aside0.mk ((by rw [hw]; exact below_set (HB.out) GB93.out : Below w.heap.size w w106)); clear HO_0; clear HO_1; clear HO_12; clear HO_13; clear HB; have HO_0 := n0_; have HO_1 := n1_; have HO_12 := n2_; have HO_13 := n3_; have HB := n4_; clear n0_ n1_ n2_ n3_ n4_; clear hg hw hp_; have p191 : 0 ≤ (t189 : Int) := of_decide_eq_true (by first | (with_reducible assumption) | assumption); have q191 : t189 < ((l2.take ((ji13) : Int).toNat).length : Int) := of_decide_eq_true (by first | (with_reducible assumption) | assumption); have qm191 : (t189 < max ji13 0) = True := eq_true (by have h_ := q191; rw [TL2.out] at h_; omega); obtain ⟨ad191, e191, hx191_0⟩ := Kd.at_bool HR166.out t189 p191 q191; (try rw [← Nbq95.out] at hx191_0); cases e191; replace hx191_0 := (HB.out.cell (World.block_lt_of_cell? w _ hx191_0)).trans hx191_0; replace p191 := eq_true p191; replace q191 := eq_true q191; obtain ⟨Ao107, co107, eo107⟩ := Kd.R_slice HO_13.out; subst eo107) | (go_at_call 22; refine calls_of_args (args' := #[.slice (some ⟨go93, 0, none⟩) y190.length co93, .slice Ao107 x13_2.length co107, .slice (some ad191) (l2.take ((ji13) : Int).toNat).length c2]) (by first | (rw [show y190.length = x12_2.length from (Kd.R_reads' HO_12.out).1.symm, TL2.out] <;> rfl) | (rw [show y190.length = x12_2.length from (Kd.R_reads' HO_12.out).1.symm] <;> rfl) | rfl) ?_; (with_reducible refine (victim_Pick.calls kj48 _ _ y190 _ _ x13_2 _ _ (l2.take ((ji13) : Int).toNat) t192 _ ?side1 ?side2 ?side3 ?side4 ?side5 ?side6 A97.out).mono ?_); (case side1 => repeat (first | exact (Kd.R_reads' HO_12.out).2.2 | (with_reducible refine Kd.C_alloc ?_ _) | (with_reducible refine Kd.C_drewN ?_ _) | (with_reducible refine Kd.C_drew ?_))); (case side2 => rw [show y190.length = x12_2.length from (Kd.R_reads' HO_12.out).1.symm]; exact (Kd.R_reads' HO_12.out).2.1); (case side3 => repeat (first | exact (Kd.R_reads' HO_13.out).2.2 | (with_reducible refine Kd.C_alloc ?_ _) | (with_reducible refine Kd.C_drewN ?_ _) | (with_reducible refine Kd.C_drew ?_))); (case side4 => exact (Kd.R_reads' HO_13.out).2.1); (case side5 => repeat (first | exact (Kd.C_below HR166.out HB.out) | (with_reducible refine Kd.C_alloc ?_ _) | (with_reducible refine Kd.C_drewN ?_ _) | (with_reducible refine Kd.C_drew ?_))); (case side6 => exact HC166.out); rintro e w108 ⟨rfl, hb⟩; have n0_ := Aside0.mk (Kd.R_below (by (with_reducible repeat (first | apply Kd.R_alloc | apply Kd.R_drewN | apply Kd.R_drew)); exact HO_0.out) hb); have n1_ := Aside0.mk (Kd.R_below (by (with_reducible repeat (first | apply Kd.R_alloc | apply Kd.R_drewN | apply Kd.R_drew)); exact HO_1.out) hb); have n2_ := Aside0.mk (Kd.R_below (by (with_reducible repeat (first | apply Kd.R_alloc | apply Kd.R_drewN | apply Kd.R_drew)); exact HO_12.out) hb); have n3_ := Aside0.mk (Kd.R_below (by (with_reducible repeat (first | apply Kd.R_alloc | apply Kd.R_drewN | apply Kd.R_drew)); exact HO_13.out) hb); have n4_ := Aside0.mk (below_step (by repeat (first | (with_reducible first | exact HB.out | apply below_alloc | apply pw_below_drewN | apply below_drew1) | exact HB.out)) hb); clear HO_0; clear HO_1; clear HO_12; clear HO_13; clear HB; have HO_0 := n0_; have HO_1 := n1_; have HO_12 := n2_; have HO_13 := n3_; have HB := n4_; clear n0_ n1_ n2_ n3_ n4_; (try clear hb); (try clear hb2); (try clear hk); (try clear hi)))
                                        go_ret
                                        exact ⟨by first | rfl | (simp [errW_none, errW_some] <;> rfl) | (simp only [← hji12, ← hji13]; first | rfl | (simp [errW_none, errW_some] <;> rfl)) | (simp [*, errW_none, errW_some] <;> rfl), by repeat (first | (with_reducible first | exact HB.out | apply below_alloc | apply pw_below_drewN | apply below_drew1) | exact HB.out)⟩
                                    · replace c96 := Bool.eq_false_iff.mpr c96
                                      subst c96
                                      have H1 : ((victim_Pick.f kj48 y190 x13_2 (l2.take ((ji13) : Int).toNat)).bind fun t196 => (if t196 = t189 then (some false) else ((jotterlaw12_awake.f kj48).bind fun t197 => (some t197)))) = some r := by rw [if_neg (show ¬ (false = true) by decide)] at H; exact H
                                      clear H
                                      have H := H1
                                      clear H1
                                      replace H := Option.bind_eq_some_iff.mp H
                                      obtain ⟨t196, A1090, H⟩ := H
                                      replace H : (if t196 = t189 then (some false) else ((jotterlaw12_awake.f kj48).bind fun t197 => (some t197))) = some r := H
                                      have A109 := Aside0.mk A1090
                                      clear A1090
                                      by_cases c110 : t196 = t189
                                      · rw [if_pos c110] at H
                                        have c110b0 : (t196 == t189) = true := beq_iff_eq.mpr c110
                                        have c110b1 : (t196 != t189) = false := bne_eq_false_iff_eq.mpr c110
                                        clear c110
                                        obtain rfl := Option.some.inj H
                                        go_wp2_with (first | ((with_reducible refine gate_callee (f := 19) rfl ?_); refine goesL_ (some 112) rfl rfl Try.func19 (by kernel_rfl) rfl #[.int .i64 a4, .int .i64 ji13] rfl (by (try simp only [List.map_toArray, List.map_cons, List.map_nil]); first | done | (simp only [hji13]; rfl) | rfl | (simp only [List.length_drop, List.length_take]; rfl)) ?_; (with_reducible refine (jotterlaw0_Low.calls a4 ji13 t189 _ A90.out).mono ?_); rintro e w' ⟨rfl, ⟨nd, rfl⟩⟩; refine ⟨_, rfl, ?_⟩; (try (rw [drewN_self wc]; generalize hq_ : World.drewN wc _ = wc; have n0_ : Aside0 (Kd.R (Kd.int .i64) 3 wc w.heap.size (fun k_ => some k_ ≠ (v163 : Value).ownBlock ∧ some k_ ≠ (u12 : Value).ownBlock ∧ some k_ ≠ (u13 : Value).ownBlock) v159 t158) := ⟨by rw [← hq_]; exact (by (with_reducible repeat (first | apply Kd.R_alloc | apply Kd.R_drewN | apply Kd.R_drew)); exact HO_0.out)⟩; have n1_ : Aside0 (Kd.R (Kd.int .i64) 3 wc w.heap.size (fun k_ => some k_ ≠ (v159 : Value).ownBlock ∧ some k_ ≠ (u12 : Value).ownBlock ∧ some k_ ≠ (u13 : Value).ownBlock) v163 t162) := ⟨by rw [← hq_]; exact (by (with_reducible repeat (first | apply Kd.R_alloc | apply Kd.R_drewN | apply Kd.R_drew)); exact HO_1.out)⟩; have n2_ : Aside0 (Kd.R (Kd.int .i64) 3 wc w.heap.size (fun k_ => some k_ ≠ (v159 : Value).ownBlock ∧ some k_ ≠ (v163 : Value).ownBlock ∧ some k_ ≠ (u13 : Value).ownBlock) u12 x12_2) := ⟨by rw [← hq_]; exact (by (with_reducible repeat (first | apply Kd.R_alloc | apply Kd.R_drewN | apply Kd.R_drew)); exact HO_12.out)⟩; have n3_ : Aside0 (Kd.R (Kd.int .i64) 3 wc w.heap.size (fun k_ => some k_ ≠ (v159 : Value).ownBlock ∧ some k_ ≠ (v163 : Value).ownBlock ∧ some k_ ≠ (u12 : Value).ownBlock) u13 x13_2) := ⟨by rw [← hq_]; exact (by (with_reducible repeat (first | apply Kd.R_alloc | apply Kd.R_drewN | apply Kd.R_drew)); exact HO_13.out)⟩; have n4_ : Aside0 (Below w.heap.size w wc) := ⟨by rw [← hq_]; exact (by repeat (first | (with_reducible first | exact HB.out | apply below_alloc | apply pw_below_drewN | apply below_drew1) | exact HB.out))⟩; clear HO_0 HO_1 HO_12 HO_13 HB hq_; have HO_0 := n0_; have HO_1 := n1_; have HO_12 := n2_; have HO_13 := n3_; have HB := n4_; clear n0_ n1_ n2_ n3_ n4_)); have p93 : 0 ≤ (t189 : Int) := of_decide_eq_true (by first | (with_reducible assumption) | assumption); have q93 : (t189 : Int) < ((x12_2.length : Int) : Int) := of_decide_eq_true (by first | (with_reducible assumption) | assumption); obtain ⟨go93, co93, eo93, gb93, gl93, cl93, HG93⟩ := Kd.R_form HO_12.out (by omega); (first | cases eo93 | (injection eo93 with ea_ en_ ec_; (first | subst ea_ | (injection ea_ with ea_; subst ea_)); subst ec_; clear en_)); have GB93 := Aside0.mk gb93; have GG93 := Aside0.mk HG93; clear gb93 gl93 HG93; obtain ⟨hx93_0, hf93_0⟩ := Kd.R_celln 0 HO_12.out (t189 : Int) p93 q93; replace p93 := eq_true p93; replace q93 := eq_true q93; obtain ⟨hy111_, hz111_⟩ := Kd.R_celln 0 HO_12.out (t189 : Int) (of_decide_eq_true (by first | (with_reducible assumption) | assumption)) (of_decide_eq_true (by first | (with_reducible assumption) | assumption)); have HP111 := Kd.R_putg HO_12.out (t189 : Int) 0) | ((with_reducible refine gate_store (t := 3) (p := 115) rfl ?_); refine store_event (t := 3) (p := 115) (v := ?vo_w112) (w1 := (wc.setCell ⟨go93, (t189 : Int).toNat, none⟩ (.int .i64 0))) ?hg ?ho ?hn ?hr ?_; (case ho => rfl); (case hg => rfl); (case hn => rfl); (case hr => first | (go_simp; done) | (go_simp; rfl)); intro w112 hw; have hg : wc.grownBy w112 (some go93) := (by rw [hw]; exact HP111.2); have hp_ : Kd.R (Kd.int .i64) 3 w112 w.heap.size (fun k_ => some k_ ≠ (v159 : Value).ownBlock ∧ some k_ ≠ (v163 : Value).ownBlock ∧ some k_ ≠ (u13 : Value).ownBlock) (.slice (some ⟨go93, 0, none⟩) x12_2.length co93) y190 := (by rw [hw, Ny190.out]; exact HP111.1); clear HP111; have n0_ := Aside0.mk (Kd.R_after (v := (.slice (some ⟨go93, 0, none⟩) x12_2.length co93)) (v1 := (.slice (some ⟨go93, 0, none⟩) x12_2.length co93)) (ok := (fun k_ => some k_ ≠ (v163 : Value).ownBlock ∧ some k_ ≠ (u13 : Value).ownBlock)) (by (with_reducible repeat (first | apply Kd.R_alloc | apply Kd.R_drewN | apply Kd.R_drew)); exact Kd.R_mono HO_0.out (fun _ hk => ⟨⟨hk.1, hk.2.2⟩, hk.2.1⟩)) hg (.inl rfl)); have n1_ := Aside0.mk (Kd.R_after (v := (.slice (some ⟨go93, 0, none⟩) x12_2.length co93)) (v1 := (.slice (some ⟨go93, 0, none⟩) x12_2.length co93)) (ok := (fun k_ => some k_ ≠ (v159 : Value).ownBlock ∧ some k_ ≠ (u13 : Value).ownBlock)) (by (with_reducible repeat (first | apply Kd.R_alloc | apply Kd.R_drewN | apply Kd.R_drew)); exact Kd.R_mono HO_1.out (fun _ hk => ⟨⟨hk.1, hk.2.2⟩, hk.2.1⟩)) hg (.inl rfl)); have n2_ := Aside0.mk (hp_); have n3_ := Aside0.mk (Kd.R_after (v := (.slice (some ⟨go93, 0, none⟩) x12_2.length co93)) (v1 := (.slice (some ⟨go93, 0, none⟩) x12_2.length co93)) (ok := (fun k_ => some k_ ≠ (v159 : Value).ownBlock ∧ some k_ ≠ (v163 : Value).ownBlock)) (by (with_reducible repeat (first | apply Kd.R_alloc | apply Kd.R_drewN | apply Kd.R_drew)); exact Kd.R_mono HO_13.out (fun _ hk => ⟨⟨hk.1, hk.2.1⟩, hk.2.2⟩)) hg (.inl rfl)); have n4_ := Aside0.mk ((by rw [hw]; exact below_set (HB.out) GB93.out : Below w.heap.size w w112)); clear HO_0; clear HO_1; clear HO_12; clear HO_13; clear HB; have HO_0 := n0_; have HO_1 := n1_; have HO_12 := n2_; have HO_13 := n3_; have HB := n4_; clear n0_ n1_ n2_ n3_ n4_; clear hg hw hp_; have p191 : 0 ≤ (t189 : Int) := of_decide_eq_true (by first | (with_reducible assumption) | assumption); have q191 : t189 < ((l2.take ((ji13) : Int).toNat).length : Int) := of_decide_eq_true (by first | (with_reducible assumption) | assumption); have qm191 : (t189 < max ji13 0) = True := eq_true (by have h_ := q191; rw [TL2.out] at h_; omega); obtain ⟨ad191, e191, hx191_0⟩ := Kd.at_bool HR166.out t189 p191 q191; (try rw [← Nbq95.out] at hx191_0); cases e191; replace hx191_0 := (HB.out.cell (World.block_lt_of_cell? w _ hx191_0)).trans hx191_0; replace p191 := eq_true p191; replace q191 := eq_true q191; have p195 : 0 ≤ (t189 : Int) := of_decide_eq_true (by first | (with_reducible assumption) | assumption); have q195 : t189 < ((l2.take ((ji13) : Int).toNat).length : Int) := of_decide_eq_true (by first | (with_reducible assumption) | assumption); have qm195 : (t189 < max ji13 0) = True := eq_true (by have h_ := q195; rw [TL2.out] at h_; omega); obtain ⟨ad195, e195, hx195_0⟩ := Kd.at_bool HR166.out t189 p195 q195; (try rw [← Nbq95.out] at hx195_0); obtain rfl : ad191 = ad195 := (by injection e195); replace hx195_0 := (HB.out.cell (World.block_lt_of_cell? w _ hx195_0)).trans hx195_0; replace p195 := eq_true p195; replace q195 := eq_true q195; obtain ⟨Ao113, co113, eo113⟩ := Kd.R_slice HO_13.out; subst eo113) | (go_at_call 22; refine calls_of_args (args' := #[.slice (some ⟨go93, 0, none⟩) y190.length co93, .slice Ao113 x13_2.length co113, .slice (some ad191) (l2.take ((ji13) : Int).toNat).length c2]) (by first | (rw [show y190.length = x12_2.length from (Kd.R_reads' HO_12.out).1.symm, TL2.out] <;> rfl) | (rw [show y190.length = x12_2.length from (Kd.R_reads' HO_12.out).1.symm] <;> rfl) | rfl) ?_; (with_reducible refine (victim_Pick.calls kj48 _ _ y190 _ _ x13_2 _ _ (l2.take ((ji13) : Int).toNat) t196 _ ?side1 ?side2 ?side3 ?side4 ?side5 ?side6 A109.out).mono ?_); (case side1 => repeat (first | exact (Kd.R_reads' HO_12.out).2.2 | (with_reducible refine Kd.C_alloc ?_ _) | (with_reducible refine Kd.C_drewN ?_ _) | (with_reducible refine Kd.C_drew ?_))); (case side2 => rw [show y190.length = x12_2.length from (Kd.R_reads' HO_12.out).1.symm]; exact (Kd.R_reads' HO_12.out).2.1); (case side3 => repeat (first | exact (Kd.R_reads' HO_13.out).2.2 | (with_reducible refine Kd.C_alloc ?_ _) | (with_reducible refine Kd.C_drewN ?_ _) | (with_reducible refine Kd.C_drew ?_))); (case side4 => exact (Kd.R_reads' HO_13.out).2.1); (case side5 => repeat (first | exact (Kd.C_below HR166.out HB.out) | (with_reducible refine Kd.C_alloc ?_ _) | (with_reducible refine Kd.C_drewN ?_ _) | (with_reducible refine Kd.C_drew ?_))); (case side6 => exact HC166.out); rintro e w114 ⟨rfl, hb⟩; have n0_ := Aside0.mk (Kd.R_below (by (with_reducible repeat (first | apply Kd.R_alloc | apply Kd.R_drewN | apply Kd.R_drew)); exact HO_0.out) hb); have n1_ := Aside0.mk (Kd.R_below (by (with_reducible repeat (first | apply Kd.R_alloc | apply Kd.R_drewN | apply Kd.R_drew)); exact HO_1.out) hb); have n2_ := Aside0.mk (Kd.R_below (by (with_reducible repeat (first | apply Kd.R_alloc | apply Kd.R_drewN | apply Kd.R_drew)); exact HO_12.out) hb); have n3_ := Aside0.mk (Kd.R_below (by (with_reducible repeat (first | apply Kd.R_alloc | apply Kd.R_drewN | apply Kd.R_drew)); exact HO_13.out) hb); have n4_ := Aside0.mk (below_step (by repeat (first | (with_reducible first | exact HB.out | apply below_alloc | apply pw_below_drewN | apply below_drew1) | exact HB.out)) hb); clear HO_0; clear HO_1; clear HO_12; clear HO_13; clear HB; have HO_0 := n0_; have HO_1 := n1_; have HO_12 := n2_; have HO_13 := n3_; have HB := n4_; clear n0_ n1_ n2_ n3_ n4_; (try clear hb); (try clear hb2); (try clear hk); (try clear hi)))
                                        go_ret
                                        exact ⟨by first | rfl | (simp [errW_none, errW_some] <;> rfl) | (simp only [← hji12, ← hji13]; first | rfl | (simp [errW_none, errW_some] <;> rfl)) | (simp [*, errW_none, errW_some] <;> rfl), by repeat (first | (with_reducible first | exact HB.out | apply below_alloc | apply pw_below_drewN | apply below_drew1) | exact HB.out)⟩
                                      · rw [if_neg c110] at H
                                        have c110b0 : (t196 == t189) = false := beq_eq_false_iff_ne.mpr c110
                                        have c110b1 : (t196 != t189) = true := bne_iff_ne.mpr c110
                                        replace H := Option.bind_eq_some_iff.mp H
                                        obtain ⟨t197, A1150, H⟩ := H
                                        replace H : (some t197) = some r := H
                                        have A115 := Aside0.mk A1150
                                        clear A1150
                                        obtain rfl := Option.some.inj H
                                        go_wp2_with (first | ((with_reducible refine gate_callee (f := 19) rfl ?_); refine goesL_ (some 112) rfl rfl Try.func19 (by kernel_rfl) rfl #[.int .i64 a4, .int .i64 ji13] rfl (by (try simp only [List.map_toArray, List.map_cons, List.map_nil]); first | done | (simp only [hji13]; rfl) | rfl | (simp only [List.length_drop, List.length_take]; rfl)) ?_; (with_reducible refine (jotterlaw0_Low.calls a4 ji13 t189 _ A90.out).mono ?_); rintro e w' ⟨rfl, ⟨nd, rfl⟩⟩; refine ⟨_, rfl, ?_⟩; (try (rw [drewN_self wc]; generalize hq_ : World.drewN wc _ = wc; have n0_ : Aside0 (Kd.R (Kd.int .i64) 3 wc w.heap.size (fun k_ => some k_ ≠ (v163 : Value).ownBlock ∧ some k_ ≠ (u12 : Value).ownBlock ∧ some k_ ≠ (u13 : Value).ownBlock) v159 t158) := ⟨by rw [← hq_]; exact (by (with_reducible repeat (first | apply Kd.R_alloc | apply Kd.R_drewN | apply Kd.R_drew)); exact HO_0.out)⟩; have n1_ : Aside0 (Kd.R (Kd.int .i64) 3 wc w.heap.size (fun k_ => some k_ ≠ (v159 : Value).ownBlock ∧ some k_ ≠ (u12 : Value).ownBlock ∧ some k_ ≠ (u13 : Value).ownBlock) v163 t162) := ⟨by rw [← hq_]; exact (by (with_reducible repeat (first | apply Kd.R_alloc | apply Kd.R_drewN | apply Kd.R_drew)); exact HO_1.out)⟩; have n2_ : Aside0 (Kd.R (Kd.int .i64) 3 wc w.heap.size (fun k_ => some k_ ≠ (v159 : Value).ownBlock ∧ some k_ ≠ (v163 : Value).ownBlock ∧ some k_ ≠ (u13 : Value).ownBlock) u12 x12_2) := ⟨by rw [← hq_]; exact (by (with_reducible repeat (first | apply Kd.R_alloc | apply Kd.R_drewN | apply Kd.R_drew)); exact HO_12.out)⟩; have n3_ : Aside0 (Kd.R (Kd.int .i64) 3 wc w.heap.size (fun k_ => some k_ ≠ (v159 : Value).ownBlock ∧ some k_ ≠ (v163 : Value).ownBlock ∧ some k_ ≠ (u12 : Value).ownBlock) u13 x13_2) := ⟨by rw [← hq_]; exact (by (with_reducible repeat (first | apply Kd.R_alloc | apply Kd.R_drewN | apply Kd.R_drew)); exact HO_13.out)⟩; have n4_ : Aside0 (Below w.heap.size w wc) := ⟨by rw [← hq_]; exact (by repeat (first | (with_reducible first | exact HB.out | apply below_alloc | apply pw_below_drewN | apply below_drew1) | exact HB.out))⟩; clear HO_0 HO_1 HO_12 HO_13 HB hq_; have HO_0 := n0_; have HO_1 := n1_; have HO_12 := n2_; have HO_13 := n3_; have HB := n4_; clear n0_ n1_ n2_ n3_ n4_)); have p93 : 0 ≤ (t189 : Int) := of_decide_eq_true (by first | (with_reducible assumption) | assumption); have q93 : (t189 : Int) < ((x12_2.length : Int) : Int) := of_decide_eq_true (by first | (with_reducible assumption) | assumption); obtain ⟨go93, co93, eo93, gb93, gl93, cl93, HG93⟩ := Kd.R_form HO_12.out (by omega); (first | cases eo93 | (injection eo93 with ea_ en_ ec_; (first | subst ea_ | (injection ea_ with ea_; subst ea_)); subst ec_; clear en_)); have GB93 := Aside0.mk gb93; have GG93 := Aside0.mk HG93; clear gb93 gl93 HG93; obtain ⟨hx93_0, hf93_0⟩ := Kd.R_celln 0 HO_12.out (t189 : Int) p93 q93; replace p93 := eq_true p93; replace q93 := eq_true q93; obtain ⟨hy116_, hz116_⟩ := Kd.R_celln 0 HO_12.out (t189 : Int) (of_decide_eq_true (by first | (with_reducible assumption) | assumption)) (of_decide_eq_true (by first | (with_reducible assumption) | assumption)); have HP116 := Kd.R_putg HO_12.out (t189 : Int) 0) | ((with_reducible refine gate_store (t := 3) (p := 115) rfl ?_); refine store_event (t := 3) (p := 115) (v := ?vo_w117) (w1 := (wc.setCell ⟨go93, (t189 : Int).toNat, none⟩ (.int .i64 0))) ?hg ?ho ?hn ?hr ?_; (case ho => rfl); (case hg => rfl); (case hn => rfl); (case hr => first | (go_simp; done) | (go_simp; rfl)); intro w117 hw; have hg : wc.grownBy w117 (some go93) := (by rw [hw]; exact HP116.2); have hp_ : Kd.R (Kd.int .i64) 3 w117 w.heap.size (fun k_ => some k_ ≠ (v159 : Value).ownBlock ∧ some k_ ≠ (v163 : Value).ownBlock ∧ some k_ ≠ (u13 : Value).ownBlock) (.slice (some ⟨go93, 0, none⟩) x12_2.length co93) y190 := (by rw [hw, Ny190.out]; exact HP116.1); clear HP116; have n0_ := Aside0.mk (Kd.R_after (v := (.slice (some ⟨go93, 0, none⟩) x12_2.length co93)) (v1 := (.slice (some ⟨go93, 0, none⟩) x12_2.length co93)) (ok := (fun k_ => some k_ ≠ (v163 : Value).ownBlock ∧ some k_ ≠ (u13 : Value).ownBlock)) (by (with_reducible repeat (first | apply Kd.R_alloc | apply Kd.R_drewN | apply Kd.R_drew)); exact Kd.R_mono HO_0.out (fun _ hk => ⟨⟨hk.1, hk.2.2⟩, hk.2.1⟩)) hg (.inl rfl)); have n1_ := Aside0.mk (Kd.R_after (v := (.slice (some ⟨go93, 0, none⟩) x12_2.length co93)) (v1 := (.slice (some ⟨go93, 0, none⟩) x12_2.length co93)) (ok := (fun k_ => some k_ ≠ (v159 : Value).ownBlock ∧ some k_ ≠ (u13 : Value).ownBlock)) (by (with_reducible repeat (first | apply Kd.R_alloc | apply Kd.R_drewN | apply Kd.R_drew)); exact Kd.R_mono HO_1.out (fun _ hk => ⟨⟨hk.1, hk.2.2⟩, hk.2.1⟩)) hg (.inl rfl)); have n2_ := Aside0.mk (hp_); have n3_ := Aside0.mk (Kd.R_after (v := (.slice (some ⟨go93, 0, none⟩) x12_2.length co93)) (v1 := (.slice (some ⟨go93, 0, none⟩) x12_2.length co93)) (ok := (fun k_ => some k_ ≠ (v159 : Value).ownBlock ∧ some k_ ≠ (v163 : Value).ownBlock)) (by (with_reducible repeat (first | apply Kd.R_alloc | apply Kd.R_drewN | apply Kd.R_drew)); exact Kd.R_mono HO_13.out (fun _ hk => ⟨⟨hk.1, hk.2.1⟩, hk.2.2⟩)) hg (.inl rfl)); have n4_ := Aside0.mk ((by rw [hw]; exact below_set (HB.out) GB93.out : Below w.heap.size w w117)); clear HO_0; clear HO_1; clear HO_12; clear HO_13; clear HB; have HO_0 := n0_; have HO_1 := n1_; have HO_12 := n2_; have HO_13 := n3_; have HB := n4_; clear n0_ n1_ n2_ n3_ n4_; clear hg hw hp_; have p191 : 0 ≤ (t189 : Int) := of_decide_eq_true (by first | (with_reducible assumption) | assumption); have q191 : t189 < ((l2.take ((ji13) : Int).toNat).length : Int) := of_decide_eq_true (by first | (with_reducible assumption) | assumption); have qm191 : (t189 < max ji13 0) = True := eq_true (by have h_ := q191; rw [TL2.out] at h_; omega); obtain ⟨ad191, e191, hx191_0⟩ := Kd.at_bool HR166.out t189 p191 q191; (try rw [← Nbq95.out] at hx191_0); cases e191; replace hx191_0 := (HB.out.cell (World.block_lt_of_cell? w _ hx191_0)).trans hx191_0; replace p191 := eq_true p191; replace q191 := eq_true q191; have p195 : 0 ≤ (t189 : Int) := of_decide_eq_true (by first | (with_reducible assumption) | assumption); have q195 : t189 < ((l2.take ((ji13) : Int).toNat).length : Int) := of_decide_eq_true (by first | (with_reducible assumption) | assumption); have qm195 : (t189 < max ji13 0) = True := eq_true (by have h_ := q195; rw [TL2.out] at h_; omega); obtain ⟨ad195, e195, hx195_0⟩ := Kd.at_bool HR166.out t189 p195 q195; (try rw [← Nbq95.out] at hx195_0); obtain rfl : ad191 = ad195 := (by injection e195); replace hx195_0 := (HB.out.cell (World.block_lt_of_cell? w _ hx195_0)).trans hx195_0; replace p195 := eq_true p195; replace q195 := eq_true q195; obtain ⟨Ao118, co118, eo118⟩ := Kd.R_slice HO_13.out; subst eo118) | (go_at_call 22; refine calls_of_args (args' := #[.slice (some ⟨go93, 0, none⟩) y190.length co93, .slice Ao118 x13_2.length co118, .slice (some ad191) (l2.take ((ji13) : Int).toNat).length c2]) (by first | (rw [show y190.length = x12_2.length from (Kd.R_reads' HO_12.out).1.symm, TL2.out] <;> rfl) | (rw [show y190.length = x12_2.length from (Kd.R_reads' HO_12.out).1.symm] <;> rfl) | rfl) ?_; (with_reducible refine (victim_Pick.calls kj48 _ _ y190 _ _ x13_2 _ _ (l2.take ((ji13) : Int).toNat) t196 _ ?side1 ?side2 ?side3 ?side4 ?side5 ?side6 A109.out).mono ?_); (case side1 => repeat (first | exact (Kd.R_reads' HO_12.out).2.2 | (with_reducible refine Kd.C_alloc ?_ _) | (with_reducible refine Kd.C_drewN ?_ _) | (with_reducible refine Kd.C_drew ?_))); (case side2 => rw [show y190.length = x12_2.length from (Kd.R_reads' HO_12.out).1.symm]; exact (Kd.R_reads' HO_12.out).2.1); (case side3 => repeat (first | exact (Kd.R_reads' HO_13.out).2.2 | (with_reducible refine Kd.C_alloc ?_ _) | (with_reducible refine Kd.C_drewN ?_ _) | (with_reducible refine Kd.C_drew ?_))); (case side4 => exact (Kd.R_reads' HO_13.out).2.1); (case side5 => repeat (first | exact (Kd.C_below HR166.out HB.out) | (with_reducible refine Kd.C_alloc ?_ _) | (with_reducible refine Kd.C_drewN ?_ _) | (with_reducible refine Kd.C_drew ?_))); (case side6 => exact HC166.out); rintro e w119 ⟨rfl, hb⟩; have n0_ := Aside0.mk (Kd.R_below (by (with_reducible repeat (first | apply Kd.R_alloc | apply Kd.R_drewN | apply Kd.R_drew)); exact HO_0.out) hb); have n1_ := Aside0.mk (Kd.R_below (by (with_reducible repeat (first | apply Kd.R_alloc | apply Kd.R_drewN | apply Kd.R_drew)); exact HO_1.out) hb); have n2_ := Aside0.mk (Kd.R_below (by (with_reducible repeat (first | apply Kd.R_alloc | apply Kd.R_drewN | apply Kd.R_drew)); exact HO_12.out) hb); have n3_ := Aside0.mk (Kd.R_below (by (with_reducible repeat (first | apply Kd.R_alloc | apply Kd.R_drewN | apply Kd.R_drew)); exact HO_13.out) hb); have n4_ := Aside0.mk (below_step (by repeat (first | (with_reducible first | exact HB.out | apply below_alloc | apply pw_below_drewN | apply below_drew1) | exact HB.out)) hb); clear HO_0; clear HO_1; clear HO_12; clear HO_13; clear HB; have HO_0 := n0_; have HO_1 := n1_; have HO_12 := n2_; have HO_13 := n3_; have HB := n4_; clear n0_ n1_ n2_ n3_ n4_; (try clear hb); (try clear hb2); (try clear hk); (try clear hi)) | (go_at_call 20; (with_reducible refine (jotterlaw12_awake.calls kj48  t197 _ A115.out).mono ?_); rintro e w120 ⟨rfl, hb⟩; have n0_ := Aside0.mk (Kd.R_below (by (with_reducible repeat (first | apply Kd.R_alloc | apply Kd.R_drewN | apply Kd.R_drew)); exact HO_0.out) hb); have n1_ := Aside0.mk (Kd.R_below (by (with_reducible repeat (first | apply Kd.R_alloc | apply Kd.R_drewN | apply Kd.R_drew)); exact HO_1.out) hb); have n2_ := Aside0.mk (Kd.R_below (by (with_reducible repeat (first | apply Kd.R_alloc | apply Kd.R_drewN | apply Kd.R_drew)); exact HO_12.out) hb); have n3_ := Aside0.mk (Kd.R_below (by (with_reducible repeat (first | apply Kd.R_alloc | apply Kd.R_drewN | apply Kd.R_drew)); exact HO_13.out) hb); have n4_ := Aside0.mk (below_step (by repeat (first | (with_reducible first | exact HB.out | apply below_alloc | apply pw_below_drewN | apply below_drew1) | exact HB.out)) hb); clear HO_0; clear HO_1; clear HO_12; clear HO_13; clear HB; have HO_0 := n0_; have HO_1 := n1_; have HO_12 := n2_; have HO_13 := n3_; have HB := n4_; clear n0_ n1_ n2_ n3_ n4_; (try clear hb); (try clear hb2); (try clear hk); (try clear hi)))
                                        go_ret
                                        exact ⟨by first | rfl | (simp [errW_none, errW_some] <;> rfl) | (simp only [← hji12, ← hji13]; first | rfl | (simp [errW_none, errW_some] <;> rfl)) | (simp [*, errW_none, errW_some] <;> rfl), by repeat (first | (with_reducible first | exact HB.out | apply below_alloc | apply pw_below_drewN | apply below_drew1) | exact HB.out)⟩
                                  · rw [if_neg c94] at H
                                    exact absurd H (by simp)
                                · rw [if_neg c92] at H
                                  exact absurd H (by simp)
                              · rw [if_neg c91] at H
                                exact absurd H (by simp)
              · rw [if_neg c22] at H
                exact absurd H (by simp)
            · rw [if_neg c18] at H
              exact absurd H (by simp)
          · rw [if_neg c15] at H
            exact absurd H (by simp)
        · rw [if_neg c14] at H
          exact absurd H (by simp)

end Go.Proofs.Ytjagkehablfmkaa.PVictimShifts
