/-
  The walk of Box on a list of whole points, and of awake. No condition beyond the numbers' bounds.
-/
import Derived.Test.YtlffbdfkanibcaaPu
import Derived.LoopTactic
import Derived.RegionTactic
import Derived.ChangeAlike
import Derived.Deep.QuietTactic
import Derived.BigQuiet
import Derived.Below
namespace Go.Proofs.Ytlffbdfkanibcaa.Pt
open Fl Go.RowKit
set_option linter.unusedSimpArgs false
set_option linter.unusedVariables false

theorem run_min_I (ts : Array TypeId) (t : TypeId) (a b : Int) (ha : a.natAbs < 2 ^ 53) (hb : b.natAbs < 2 ^ 53) (w : World) :
    (Builtin.min_ ts t #[.float .f64 (I a), .float .f64 (I b)]).run Try.prog w = .ok (.float .f64 (I (min a b))) w := by
  have ho := ord a b ha hb
  rcases Int.lt_trichotomy a b with c | c | c
  · rw [cmp_lt c] at ho
    rw [Int.min_eq_left (by omega)]
    simp [Builtin.min_, Builtin.min2, ho]
  · subst c
    rw [cmp_eq] at ho
    rw [Int.min_self]
    simp [Builtin.min_, Builtin.min2, ho]
  · rw [cmp_gt c] at ho
    rw [Int.min_eq_right (by omega)]
    simp [Builtin.min_, Builtin.min2, ho]

theorem run_max_I (ts : Array TypeId) (t : TypeId) (a b : Int) (ha : a.natAbs < 2 ^ 53) (hb : b.natAbs < 2 ^ 53) (w : World) :
    (Builtin.max_ ts t #[.float .f64 (I a), .float .f64 (I b)]).run Try.prog w = .ok (.float .f64 (I (max a b))) w := by
  have ho := ord a b ha hb
  rcases Int.lt_trichotomy a b with c | c | c
  · rw [cmp_lt c] at ho
    rw [Int.max_eq_right (by omega)]
    simp [Builtin.max_, Builtin.max2, ho]
  · subst c
    rw [cmp_eq] at ho
    rw [Int.max_self]
    simp [Builtin.max_, Builtin.max2, ho]
  · rw [cmp_gt c] at ho
    rw [Int.max_eq_left (by omega)]
    simp [Builtin.max_, Builtin.max2, ho]

theorem bel_step {w W w2 : World} (h : Below w.heap.size w W) (k : Below W.heap.size W w2) : Below w.heap.size w w2 :=
  h.trans ⟨k.os, k.tape, k.output, k.size, fun i hi => k.block i (Nat.lt_of_lt_of_le hi h.size)⟩
theorem bel_alloc {w W : World} (h : Below w.heap.size w W) (o : Obj) : Below w.heap.size w (W.alloc o) := h.alloc h.size o

/-- A fact laid aside. -/
structure Kept (p : Prop) : Prop where
  out : p

/-- The low and the high corner of points. -/
def lo (p : Int × Int) (ps : List (Int × Int)) : Int × Int := ps.foldl (fun a q => (min a.1 q.1, min a.2 q.2)) p
def hi (p : Int × Int) (ps : List (Int × Int)) : Int × Int := ps.foldl (fun a q => (max a.1 q.1, max a.2 q.2)) p
abbrev InP (p : Int × Int) : Prop := In p.1 ∧ In p.2
abbrev CP (p : Int × Int) : Value := C p.1 p.2

theorem lo_step (p : Int × Int) (ps : List (Int × Int)) (k : Nat) (hk : k < ps.length) : lo p (ps.take (k + 1)) = (min (lo p (ps.take k)).1 (ps.getD k p).1, min (lo p (ps.take k)).2 (ps.getD k p).2) := by
  unfold lo
  rw [List.take_add_one, List.foldl_append]
  simp [List.getD, List.getElem?_eq_getElem hk]
theorem hi_step (p : Int × Int) (ps : List (Int × Int)) (k : Nat) (hk : k < ps.length) : hi p (ps.take (k + 1)) = (max (hi p (ps.take k)).1 (ps.getD k p).1, max (hi p (ps.take k)).2 (ps.getD k p).2) := by
  unfold hi
  rw [List.take_add_one, List.foldl_append]
  simp [List.getD, List.getElem?_eq_getElem hk]
theorem lo_in (p : Int × Int) (ps : List (Int × Int)) (hp : InP p) (h : ∀ q ∈ ps, InP q) : InP (lo p ps) := by
  unfold lo
  induction ps generalizing p with
  | nil => exact hp
  | cons q ps ih =>
    have hq := h q (by simp)
    refine ih _ ?_ (fun r hr => h r (by simp [hr]))
    have h1 := hp.1; have h2 := hp.2; have h3 := hq.1; have h4 := hq.2
    unfold In at *
    refine ⟨?_, ?_⟩ <;> simp only [In] <;> omega
theorem hi_in (p : Int × Int) (ps : List (Int × Int)) (hp : InP p) (h : ∀ q ∈ ps, InP q) : InP (hi p ps) := by
  unfold hi
  induction ps generalizing p with
  | nil => exact hp
  | cons q ps ih =>
    have hq := h q (by simp)
    refine ih _ ?_ (fun r hr => h r (by simp [hr]))
    have h1 := hp.1; have h2 := hp.2; have h3 := hq.1; have h4 := hq.2
    unfold In at *
    refine ⟨?_, ?_⟩ <;> simp only [In] <;> omega

theorem Box_walk (b off len cap : Nat) (ps : List (Int × Int)) (p0 : Int × Int) (w : World) (hlen : ps.length = len) (hpos : 0 < len) (hbig : len ≤ 9223372036854775807) (h0 : ps.getD 0 p0 = p0) (hin : ∀ q ∈ ps, InP q)
    (hc : ∀ j, j < len → w.cell? ⟨b, off + j, none⟩ = some (CP (ps.getD j p0))) :
    Calls Try.prog 14 #[.slice (some ⟨b, off, none⟩) len cap] w fun e w' => e = .returned (.tuple #[CP (lo p0 ps), CP (hi p0 ps), .bool true]) ∧ Below w.heap.size w w' := by
  have hc0 : w.cell? ⟨b, off + 0, none⟩ = some (CP p0) := by rw [hc 0 hpos, h0]
  have hc0' : w.cell? ⟨b, off, none⟩ = some (CP p0) := hc0
  have hp0 : InP p0 := by
    rw [← h0, List.getD_eq_getElem?_getD, List.getElem?_eq_getElem (by omega)]
    exact hin _ (List.getElem_mem _)
  go_enter Try.func14, Try.ntmps14
  go_wp2
  go_quiet (fail)
  have hB : Below w.heap.size w (w.drewN nq) := by
    first | exact (Below.refl w.heap.size w).drewN _ | exact below_drewN (Below.refl w.heap.size w) _
  have hcw : ∀ j, j < len → (w.drewN nq).cell? ⟨b, off + j, none⟩ = some (CP (ps.getD j p0)) := fun j hj => by
    have := hc j hj
    rw [← this]; first | exact World.drewN_cell? _ _ _ | simp | rfl
  generalize w.drewN nq = w1 at *
  clear hc hc0 hc0'
  have hBA := Kept.mk hB
  clear hB
  go_wp2
  go_loop [5, 6, 20] (fun l h i => ∃ k : Nat, k ≤ len ∧ i = .int .i64 k ∧ l = CP (lo p0 (ps.take k)) ∧ h = CP (hi p0 (ps.take k))) (fun _ _ i => len - (intOf i).toNat)
  case atStart => exact ⟨0, Nat.zero_le _, rfl, rfl, rfl⟩
  case round =>
    obtain ⟨k, hk, rfl, rfl, rfl⟩ := hrel
    by_cases hlt : k < len
    · have hq : InP (ps.getD k p0) := by
        rw [List.getD_eq_getElem?_getD, List.getElem?_eq_getElem (by omega)]
        exact hin _ (List.getElem_mem _)
      have hcell := hcw k hlt
      have hl := lo_in p0 (ps.take k) hp0 (fun q hq => hin q (List.mem_of_mem_take hq))
      have hh := hi_in p0 (ps.take k) hp0 (fun q hq => hin q (List.mem_of_mem_take hq))
      have sl := lo_step p0 ps k (by omega)
      have sh := hi_step p0 ps k (by omega)
      have hKs := Kept.mk sl
      have hKh := Kept.mk sh
      have rmin := fun ts t w => run_min_I ts t (lo p0 (ps.take k)).1 (ps.getD k p0).1 hl.1.abs hq.1.abs w
      have rmin2 := fun ts t w => run_min_I ts t (lo p0 (ps.take k)).2 (ps.getD k p0).2 hl.2.abs hq.2.abs w
      have rmax := fun ts t w => run_max_I ts t (hi p0 (ps.take k)).1 (ps.getD k p0).1 hh.1.abs hq.1.abs w
      have rmax2 := fun ts t w => run_max_I ts t (hi p0 (ps.take k)).2 (ps.getD k p0).2 hh.2.abs hq.2.abs w
      clear sl sh hcw hin h0 hp0
      generalize ps.getD k p0 = q at *
      generalize hlk : lo p0 (ps.take k) = l at *
      generalize hhk : hi p0 (ps.take k) = h at *
      have hKl := Kept.mk hlk
      have hKk := Kept.mk hhk
      clear hlk hhk
      obtain ⟨q1, q2⟩ := q
      obtain ⟨l1, l2⟩ := l
      obtain ⟨h1, h2⟩ := h
      simp only at rmin rmin2 rmax rmax2 hq hl hh hcell
      go_wp2_with (first
        | (simp only [rmin]) | (simp only [rmin2]) | (simp only [rmax]) | (simp only [rmax2])
        | (go_at_call 27; (with_reducible refine (May_in q1 q2 hq.1 hq.2 _).mono ?_); rintro e w' ⟨rfl, rfl⟩))
      go_round
      case rel => exact ⟨k + 1, by omega, by go_num, by rw [hKs.out], by rw [hKh.out]⟩
      case measure => simp [intOf]; omega
    · have hke : k = len := by omega
      subst hke
      have e1 : ps.take k = ps := List.take_of_length_le (by omega)
      rw [e1]
      clear hcw hin h0 e1
      go_wp2
      all_goals (go_ret3; exact ⟨rfl, hBA.out⟩)

theorem c3 : (4613937818241073152 : Nat) = I 3 := by decide +kernel
theorem c4 : (4616189618054758400 : Nat) = I 4 := by decide +kernel
theorem c1 : (4607182418800017408 : Nat) = I 1 := by decide +kernel
theorem c40000 : (4675730371722084352 : Nat) = I 40000 := by decide +kernel
theorem cm4 : (13839561654909534208 : Nat) = I (-4) := by decide +kernel
theorem cm1 : (13830554455654793216 : Nat) = I (-1) := by decide +kernel
theorem c2 : (4611686018427387904 : Nat) = I 2 := by decide +kernel
theorem sqrt25 : Ieee.double.sqrt (I ((0 - 3) * (0 - 3) + (0 - 4) * (0 - 4))) = some 4617315517961601024 := by decide +kernel

theorem awake_walk (w : World) : Calls Try.prog 13 #[] w fun e w' => e = .returned (.bool true) ∧ Below w.heap.size w w' := by
  have t1 : ∀ w, Calls Try.prog 10 #[.complex .f64 4613937818241073152 4616189618054758400, .complex .f64 0 4607182418800017408] w fun r w' => r = .returned (.tuple #[.complex .f64 13839561654909534208 4613937818241073152, .bool true]) ∧ w' = w := by
    intro w
    rw [c3, c4, cm4, c1]
    exact Turn_in 3 4 0 1 (by decide) (by decide) (by decide) (by decide) (-4) 3 (by decide) (by decide) (by decide) (by decide) w
  have t2 : ∀ w, Calls Try.prog 10 #[.complex .f64 4675730371722084352 0, .complex .f64 4607182418800017408 0] w fun r w' => r = .returned (.tuple #[.complex .f64 0 0, .bool false]) ∧ w' = w := by
    intro w
    rw [c40000, c1]
    exact Turn_out w
  have t3 : ∀ w, Calls Try.prog 27 #[.complex .f64 4613937818241073152 0] w fun r w' => r = .returned (.bool true) ∧ w' = w := by
    intro w
    rw [c3]
    exact May_in 3 0 (by decide) (by decide) w
  have t4 : ∀ w, Calls Try.prog 11 #[.complex .f64 0 0, .complex .f64 4613937818241073152 4616189618054758400] w fun r w' => r = .returned (.float .f64 4617315517961601024) ∧ w' = w := by
    intro w
    rw [c3, c4]
    exact Len_in 0 0 3 4 (by decide) (by decide) (by decide) (by decide) _ sqrt25 w
  have t5 : ∀ (w : World) (b : Nat), w.cell? ⟨b, 0, none⟩ = some (.complex .f64 4613937818241073152 13839561654909534208) → w.cell? ⟨b, 1, none⟩ = some (.complex .f64 13830554455654793216 4611686018427387904) →
      Calls Try.prog 14 #[.slice (some ⟨b, 0, none⟩) 2 2] w fun r w' => r = .returned (.tuple #[.complex .f64 13830554455654793216 13839561654909534208, .complex .f64 4613937818241073152 4611686018427387904, .bool true]) ∧ Below w.heap.size w w' := by
    intro w b h1 h2
    rw [c3, cm4, cm1, c2] at *
    refine Box_walk b 0 2 2 [(3, -4), (-1, 2)] (3, -4) w rfl (by decide) (by decide) rfl (by decide) ?_
    intro j hj
    rw [Nat.zero_add]
    match j, hj with
    | 0, _ => exact h1
    | 1, _ => exact h2
  go_enter Try.func13, Try.ntmps13
  go_wp2_with (first
    | (go_at_call 10; (with_reducible refine (t1 _).mono ?_); rintro e w' ⟨rfl, rfl⟩)
    | (go_at_call 10; (with_reducible refine (t2 _).mono ?_); rintro e w' ⟨rfl, rfl⟩)
    | (go_at_call 27; (with_reducible refine (t3 _).mono ?_); rintro e w' ⟨rfl, rfl⟩)
    | (go_at_call 11; (with_reducible refine (t4 _).mono ?_); rintro e w' ⟨rfl, rfl⟩)
    | (go_at_call 14; refine (t5 _ _ (World.cell?_alloc_new _ _ _ _) (World.cell?_alloc_new _ _ _ _)).mono ?_; rintro e w2 ⟨rfl, hb⟩; have hB := Kept.mk (bel_step (bel_alloc (Below.refl _ _) _) hb); clear hb))
  all_goals (go_ret; exact ⟨rfl, hB.out⟩)
end Go.Proofs.Ytlffbdfkanibcaa.Pt
