/-
  The walks of raster's place and Dots on whole numbers. No condition beyond the numbers' bounds.
-/
import Derived.Test.YthhhcfipmeganaaDoorRd
namespace Go.Proofs.YthhhcfipmeganaaDoor.Rd
open Go.RowKit Go.Proofs.YthhhcfipmeganaaDoorW.PrintWords Go.Proofs.YthhhcfipmeganaaDoorW.PrintLast Go.Proofs.YthhhcfipmeganaaDoorW.PrintMore
open Fl Ra
set_option linter.unusedSimpArgs false
set_option linter.unusedVariables false

theorem info35 : (Tryd.prog.info? 35).map (fun i => (i.zero, i.size, i.bytes)) = some (some (.complex .f64 0 0), 1, 16) := by kernel_rfl
abbrev CP (p : P2) : Value := C p.1 p.2

theorem csub (a b c d : Int) (ha : a.natAbs < 2 ^ 50) (hb : b.natAbs < 2 ^ 50) (hc : c.natAbs < 2 ^ 50) (hd : d.natAbs < 2 ^ 50) (t : TypeId) (w : World) :
    (binOp .sub t (.complex .f64 (I a) (I b)) (.complex .f64 (I c) (I d))).run Tryd.prog w = .ok (.complex .f64 (I (a - c)) (I (b - d))) w := by
  have f1 : floatBits .sub .f64 (I a) (I c) = some (I (a - c)) := sub_I (by omega) (by omega) (by omega)
  have f2 : floatBits .sub .f64 (I b) (I d) = some (I (b - d)) := sub_I (by omega) (by omega) (by omega)
  have h : cSumBits .sub .f64 (I a) (I b) (I c) (I d) = some (I (a - c), I (b - d)) := by
    unfold cSumBits; simp only [f1, f2, Option.bind_some]
  exact run_complex_sum w .sub (Or.inr rfl) t .f64 _ _ _ _ _ _ h
theorem cadd (a b c d : Int) (ha : a.natAbs < 2 ^ 50) (hb : b.natAbs < 2 ^ 50) (hc : c.natAbs < 2 ^ 50) (hd : d.natAbs < 2 ^ 50) (t : TypeId) (w : World) :
    (binOp .add t (.complex .f64 (I a) (I b)) (.complex .f64 (I c) (I d))).run Tryd.prog w = .ok (.complex .f64 (I (a + c)) (I (b + d))) w := by
  have f1 : floatBits .add .f64 (I a) (I c) = some (I (a + c)) := add_I (by omega) (by omega) (by omega)
  have f2 : floatBits .add .f64 (I b) (I d) = some (I (b + d)) := add_I (by omega) (by omega) (by omega)
  have h : cSumBits .add .f64 (I a) (I b) (I c) (I d) = some (I (a + c), I (b + d)) := by
    unfold cSumBits; simp only [f1, f2, Option.bind_some]
  exact run_complex_sum w .add (Or.inl rfl) t .f64 _ _ _ _ _ _ h
theorem add0 (a : Int) (ha : a.natAbs < 2 ^ 50) (t : TypeId) (w : World) : (binOp .add t (.float .f64 (I a)) (.float .f64 0)).run Tryd.prog w = .ok (.float .f64 (I a)) w :=
  run_float_arith w .add t .f64 _ _ _ (add_zero (.I a) (by omega))
theorem toInt_I (n : Int) (hn : n.natAbs < 2 ^ 50) : floatToIntVal .f64 (I n) .i64 = some n := by
  obtain ⟨p, hr⟩ := rep_I n (by omega)
  have h1 : (FloatKind.f64.decode (I n)).toInt .zero = some n := by
    show (Ieee.double.read (I n)).toInt .zero = some n
    rw [hr.read]
    have e1 : (-(p : Int)).toNat = 0 := by omega
    have e2 : (- -(p : Int)).toNat = p := by omega
    simp only [Ieee.Datum.toInt, Ieee.Datum.integral, e1, e2, Nat.shiftLeft_zero, cut_zero_exact]
    have := signed_of (n := n) (p := 0) hr.neg hr.pos 0
    simpa using this
  unfold floatToIntVal
  rw [h1]
  have h2 : IntKind.i64.min ≤ n ∧ n ≤ IntKind.i64.max := by
    have e1 : IntKind.i64.min = -9223372036854775808 := by decide
    have e2 : IntKind.i64.max = 9223372036854775807 := by decide
    omega
  simp only [h2, and_self, if_true]

theorem place_walk (a b c d sc : Int) (ha : In a) (hb : In b) (hc : In c) (hd : In d) (h1 : 1 ≤ sc) (h2 : sc ≤ 64) (w : World) :
    Calls Tryd.prog 28 #[C a b, C c d, .int .i64 sc] w fun e w' => e = .returned (C ((a - c) / sc) ((b - d) / sc)) ∧ w' = w := by
  unfold In at ha hb hc hd
  have o1 := csub a b c d (by omega) (by omega) (by omega) (by omega)
  obtain ⟨x, q1, f1⟩ := quo_floor (a - c) sc (by omega) (by omega) (by omega)
  obtain ⟨y, q2, f2⟩ := quo_floor (b - d) sc (by omega) (by omega) (by omega)
  have o2 : ∀ t w, (binOp .quo t (.float .f64 (I (a - c))) (.float .f64 (floatOfInt .f64 sc))).run Tryd.prog w = .ok (.float .f64 x) w := fun t w => run_float_arith w .quo t .f64 _ _ _ q1
  have o3 : ∀ t w, (binOp .quo t (.float .f64 (I (b - d))) (.float .f64 (floatOfInt .f64 sc))).run Tryd.prog w = .ok (.float .f64 y) w := fun t w => run_float_arith w .quo t .f64 _ _ _ q2
  have e1 : ((a - c) / sc).natAbs ≤ (a - c).natAbs := Int.natAbs_ediv_le_natAbs _ _
  have e2 : ((b - d) / sc).natAbs ≤ (b - d).natAbs := Int.natAbs_ediv_le_natAbs _ _
  have o4 := add0 ((a - c) / sc) (by omega)
  have o5 := add0 ((b - d) / sc) (by omega)
  have f1K := Kept.mk f1
  have f2K := Kept.mk f2
  clear q1 q2 f1 f2 e1 e2
  generalize (a - c) / sc = u at *
  generalize (b - d) / sc = v at *
  go_enter Tryd.func28, Tryd.ntmps28
  go_wp2_with (first
    | simp only [o1] | simp only [o2] | simp only [o3] | simp only [o4] | simp only [o5]
    | (go_at_call 34; (with_reducible refine (f1K.out _).mono ?_); rintro e w' ⟨rfl, rfl⟩)
    | (go_at_call 34; (with_reducible refine (f2K.out _).mono ?_); rintro e w' ⟨rfl, rfl⟩))
  all_goals (go_ret; exact ⟨rfl, rfl⟩)

theorem way_small (d k n : Int) (hd : d.natAbs ≤ n.natAbs) (hk : 1 ≤ k) (hkn : k ≤ n) (hn : n ≤ 900) : 2 * d * k + n ≤ 2000000 ∧ -2000000 ≤ 2 * d * k + n ∧ (2 * d * k).natAbs ≤ 2000000 := by
  have h1 : (2 * d * k).natAbs ≤ 1800 * 900 := prod_abs (by omega) (by omega)
  omega

set_option maxRecDepth 100000 in
set_option maxHeartbeats 4000000 in
theorem Dots_walk (a b : P2) (ha : InP a) (hb : InP b) (hn : dn a b ≤ 900) (w : World) :
    Calls Tryd.prog 14 #[CP a, CP b] w fun e w' => ∃ v, e = .returned (.tuple #[v, .bool true]) ∧ w'.ownsRow w.heap.size 35 1 v (dn a b + 1) ((path a b).map CP) ∧ Below w.heap.size w w' := by
  obtain ⟨a1, a2⟩ := a
  obtain ⟨b1, b2⟩ := b
  obtain ⟨ha1, ha2⟩ := ha
  obtain ⟨hb1, hb2⟩ := hb
  simp only at ha1 ha2 hb1 hb2
  obtain ⟨i0, hi, hz0, hz1, hz2⟩ := info_parts info35
  have u25 := Tryd.underlying32
  have o1 := csub b1 b2 a1 a2 (by unfold In at hb1; omega) (by unfold In at hb2; omega) (by unfold In at ha1; omega) (by unfold In at ha2; omega)
  have hM1 := Kept.mk (May_in a1 a2 ha1 ha2)
  have hM2 := Kept.mk (May_in b1 b2 hb1 hb2)
  obtain ⟨n, hne⟩ : ∃ n, n = dn (a1, a2) (b1, b2) := ⟨_, rfl⟩
  have hd1 : (b1 - a1).natAbs ≤ n := by rw [hne]; unfold dn; simp only; omega
  have hd2 : (b2 - a2).natAbs ≤ n := by rw [hne]; unfold dn; simp only; omega
  have hmx : max (((b1 - a1).natAbs : Nat) : Int) (((b2 - a2).natAbs : Nat) : Int) = (n : Int) := by rw [hne]; unfold dn; simp only; omega
  rw [← hne] at hn ⊢
  have hA1 := Kept.mk (Abs_I (b1 - a1) (by omega))
  have hA2 := Kept.mk (Abs_I (b2 - a2) (by omega))
  have o2 : ∀ ts t w, (Builtin.max_ ts t #[.float .f64 (I ((b1 - a1).natAbs : Int)), .float .f64 (I ((b2 - a2).natAbs : Int))]).run Tryd.prog w = .ok (.float .f64 (I (n : Int))) w := by
    intro ts t w
    rw [run_max_I ts t _ _ (by omega) (by omega) w, hmx]
  have o3 : ∀ w, (convert 49 3 (.float .f64 (I (n : Int)))).run Tryd.prog w = .ok (.int .i64 (n : Int)) w := fun w => run_convert_float_int w 49 3 .f64 .i64 _ _ (by rw [Tryd.underlying49]; rfl) Tryd.underlying3 (toInt_I n (by omega))
  have hneK := Kept.mk hne
  clear hmx hne
  go_enter Tryd.func14, Tryd.ntmps14
  go_wp2_with (first
    | simp only [o1] | simp only [o2] | simp only [o3]
    | (go_at_call 24; (with_reducible refine (hM1.out _).mono ?_); rintro e w' ⟨rfl, hw⟩; have hw := hw.symm; subst hw)
    | (go_at_call 24; (with_reducible refine (hM2.out _).mono ?_); rintro e w' ⟨rfl, hw⟩; have hw := hw.symm; subst hw)
    | (go_at_call 25; (with_reducible refine (hA1.out _).mono ?_); rintro e w' ⟨rfl, hw⟩; have hw := hw.symm; subst hw)
    | (go_at_call 25; (with_reducible refine (hA2.out _).mono ?_); rintro e w' ⟨rfl, hw⟩; have hw := hw.symm; subst hw))
  go_loopw [8, 9] (fun v i wr => ∃ j : Nat, j ≤ n ∧ i = .int .i64 ((j : Int) + 1) ∧ wr.ownsRow w.heap.size 35 1 v (j + 1) (((path (a1, a2) (b1, b2)).take (j + 1)).map CP) ∧ Below w.heap.size w wr) (fun _ i _ => n + 1 - (intOf i).toNat)
  case atStart =>
    refine ⟨0, Nat.zero_le _, rfl, ?_, below_alloc (Below.refl _ _) _⟩
    have h := World.ownsRow_lit (base := w.heap.size) (e := 35) (size := 1) w #[C a1 a2] 1 (Nat.le_refl _) (by unfold maxLen; omega) rfl
    rw [path_take _ _ _ (by omega), step_zero]
    exact h
  case round =>
    obtain ⟨j, hj, rfl, hown, hbel⟩ := hrel
    have hO := Kept.mk hown
    have hB := Kept.mk hbel
    clear hown hbel
    by_cases hlt : j < n
    · have hst := Kept.mk (path_take (a1, a2) (b1, b2) (j + 1) (by rw [← hneK.out]; omega))
      have hS : Kept (stepV (a1, a2) (b1, b2) (j + 1) = (a1 + wayV (b1 - a1) ((j : Int) + 1) n, a2 + wayV (b2 - a2) ((j : Int) + 1) n)) := ⟨by unfold stepV; rw [← hneK.out]; rfl⟩
      have q1 := way_small (b1 - a1) ((j : Int) + 1) n (by omega) (by omega) (by omega) (by omega)
      have q2 := way_small (b2 - a2) ((j : Int) + 1) n (by omega) (by omega) (by omega) (by omega)
      have q1K := Kept.mk q1
      have q2K := Kept.mk q2
      have hW1 := Kept.mk (fun w => way_walk (b1 - a1) ((j : Int) + 1) n (by omega) (by omega) (by omega) (by omega) w q1K)
      have hW2 := Kept.mk (fun w => way_walk (b2 - a2) ((j : Int) + 1) n (by omega) (by omega) (by omega) (by omega) w q2K)
      have l1 := way_bound (b1 - a1) ((j : Int) + 1) n n (by omega) (by omega) (by omega) (by omega)
      have l2 := way_bound (b2 - a2) ((j : Int) + 1) n n (by omega) (by omega) (by omega) (by omega)
      unfold wayV at l1 l2 hS
      clear q1 q2 q1K q2K
      generalize (2 * (b1 - a1) * ((j : Int) + 1) + n) / (2 * n) = x1 at *
      generalize (2 * (b2 - a2) * ((j : Int) + 1) + n) / (2 * n) = x2 at *
      unfold In at ha1 ha2 hb1 hb2
      have o4 := cadd a1 a2 x1 x2 (by omega) (by omega) (by omega) (by omega)
      have o5 := add0 (a1 + x1) (by omega)
      have o6 := add0 (a2 + x2) (by omega)
      go_wp2_with (first
        | simp only [o4] | simp only [o5] | simp only [o6]
        | (go_at_call 26; (with_reducible refine (hW1.out _).mono ?_); rintro e w' ⟨rfl, hw⟩; have hw := hw.symm; subst hw)
        | (go_at_call 26; (with_reducible refine (hW2.out _).mono ?_); rintro e w' ⟨rfl, hw⟩; have hw := hw.symm; subst hw)
        | ((with_reducible refine gate_dst (N := 61) rfl ?_); go_loud (refine wpList_append_own _ rfl (.tmp 52) (.tmp 60) 32 rfl w.heap.size 35 i0 (.complex .f64 0 0) 1 16 u25 hi hz0 hz1 hz2 rfl (by decide) _ (j + 1) _ rfl (hO.out.alloc _) ⟨wr.heap.size, 0, none⟩ 1 1 [C (a1 + x1) (a2 + x2)] rfl rfl ?c1 (by intro u hu; simp at hu; subst hu; rfl) (by unfold maxLen; omega) (by omega) (by have := hB.out.size; simp; omega) ?_)))
      intro v' w2 hown' hgrow _
      have hO3 := Kept.mk hown'
      have hB3 : Kept (Below w.heap.size w w2) := ⟨(hB.out.alloc hB.out.size _).grown hgrow (by have := hB.out.size; simp; omega) (fun g hg => (hO.out.lt g hg).1)⟩
      clear hown' hgrow
      go_wp2
      go_roundw
      case rel => exact ⟨j + 1, by omega, by go_num, by rw [hst.out, List.map_append, List.map_cons, List.map_nil, hS.out, List.map_take]; exact hO3.out, hB3.out⟩
      case measure => simp [intOf]; omega
    · have hje : n = j := by omega
      subst hje
      have hall : (path (a1, a2) (b1, b2)).take (n + 1) = path (a1, a2) (b1, b2) := List.take_of_length_le (by rw [path_len, ← hneK.out]; omega)
      rw [hall] at hO
      clear hlt hj hall
      go_wp2
      all_goals (go_ret2; exact ⟨_, rfl, hO.out, hB.out⟩)
end Go.Proofs.YthhhcfipmeganaaDoor.Rd
