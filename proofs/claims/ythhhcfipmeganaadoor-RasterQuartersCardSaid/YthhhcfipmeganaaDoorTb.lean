/-
  The walks of both Turns, both Counts, and sameRows, over rows wherever they lie. No condition beyond the numbers' bounds.
-/
import Derived.Test.YthhhcfipmeganaaDoorTa
namespace Go.Proofs.YthhhcfipmeganaaDoor.Rd
open Go.RowKit Go.Proofs.YthhhcfipmeganaaDoorW.PrintWords Go.Proofs.YthhhcfipmeganaaDoorW.PrintLast Go.Proofs.YthhhcfipmeganaaDoorW.PrintMore
open Fl Ra
set_option linter.unusedSimpArgs false
set_option linter.unusedVariables false

set_option maxRecDepth 100000 in
theorem same_walk (A B : Option Addr) (n c c2 : Nat) (p : Pic) (hh : n ≤ 1000) (w : World) (hA : Arr w A n p) (hB : Arr w B n p) :
    Calls Tryd.prog 9 #[.slice A n c, .slice B n c2] w fun e w' => e = .returned (.bool true) ∧ Below w.heap.size w w' := by
  have H := Kept.mk hA
  have H2 := Kept.mk hB
  clear hA hB
  go_enter Tryd.func9, Tryd.ntmps9
  go_wp2
  go_loopw [5] (fun i wr => ∃ k : Nat, k ≤ n ∧ i = .int .i64 k ∧ Kept (Below w.heap.size w wr)) (fun i _ => n - (intOf i).toNat)
  case atStart => exact ⟨0, Nat.zero_le _, rfl, ⟨Below.refl _ _⟩⟩
  case round =>
    obtain ⟨k, hk, rfl, hB⟩ := hrel
    by_cases hlt : k < n
    · obtain ⟨ad, rfl, _, hc1⟩ := (H.out.below hB.out).ex (by omega)
      obtain ⟨bd, rfl, _, hc2⟩ := (H2.out.below hB.out).ex (by omega)
      have e1 := hc1 k hlt
      have e2 := hc2 k hlt
      clear hc1 hc2
      rw [rowV] at e1 e2
      generalize num (p k) 64 = q at *
      go_wp2
      go_quiet (fail)
      have hB2 : Kept (Below w.heap.size w (wr.drewN nq)) := ⟨below_drewN hB.out nq⟩
      generalize wr.drewN nq = w2 at *
      go_wp2
      go_roundw
      case rel => exact ⟨k + 1, by omega, by go_num, hB2⟩
      case measure => simp [intOf]; omega
    · have hke : n = k := by omega
      subst hke
      clear hlt hk
      go_wp2
      all_goals (go_ret; exact ⟨rfl, hB.out⟩)

theorem ones_num (f : Nat → Bool) (w : World) : Calls Tryd.prog 23 #[.int .u64 ((num f 64 : Nat) : Int)] w fun e w' => e = .returned (.int .i64 (cnt f 64 : Nat)) ∧ w = w' :=
  ones_walk f (num f 64) (num_lt f 64) (fun i hi => by rw [num_bit]; simp [hi]) w
/-- How many dots the first k rows have. -/
def cntP (p : Pic) : Nat → Nat
  | 0 => 0
  | k + 1 => cntP p k + cnt (p k) 64
theorem cntP_le (p : Pic) (k : Nat) : cntP p k ≤ 64 * k := by
  induction k with
  | zero => exact Nat.le_refl _
  | succ k ih => unfold cntP; have := cnt_le (p k) 64; omega

set_option maxRecDepth 100000 in
theorem count_walk (A : Option Addr) (n c : Nat) (p : Pic) (hh : n ≤ 1000) (w : World) (hA : Arr w A n p) :
    Calls Tryd.prog 11 #[.slice A n c] w fun e w' => e = .returned (.int .i64 (cntP p n : Nat)) ∧ w = w' := by
  have H := Kept.mk hA
  clear hA
  go_enter Tryd.func11, Tryd.ntmps11
  go_wp2
  go_loop [3, 8] (fun s i => ∃ k : Nat, k ≤ n ∧ s = .int .i64 (cntP p k : Nat) ∧ i = .int .i64 k) (fun _ i => n - (intOf i).toNat)
  case atStart => exact ⟨0, Nat.zero_le _, rfl, rfl⟩
  case round =>
    obtain ⟨k, hk, rfl, rfl⟩ := hrel
    by_cases hlt : k < n
    · obtain ⟨ad, rfl, _, hc1⟩ := H.out.ex (by omega)
      have hc := hc1 k hlt
      rw [rowV] at hc
      have hs := Kept.mk (show cntP p (k + 1) = cntP p k + cnt (p k) 64 from rfl)
      have b1 := cntP_le p k
      have b2 := cnt_le (p k) 64
      have hO := Kept.mk (ones_num (p k))
      clear hc1
      generalize num (p k) 64 = v at *
      generalize cntP p k = s at *
      generalize cnt (p k) 64 = q at *
      go_wp2_with (go_at_call 23; (with_reducible refine (hO.out _).mono ?_); rintro e w' ⟨rfl, rfl⟩)
      go_round
      case rel => exact ⟨k + 1, by omega, by rw [hs.out]; congr 1, by go_num⟩
      case measure => simp [intOf]; omega
    · have hke : n = k := by omega
      subst hke
      clear hlt hk
      go_wp2
      all_goals (go_ret; exact ⟨rfl, rfl⟩)

set_option maxRecDepth 100000 in
theorem refcount_walk (A : Option Addr) (n c : Nat) (p : Pic) (hh : n ≤ 1000) (w : World) (hA : Arr w A n p) :
    Calls Tryd.prog 12 #[.slice A n c] w fun e w' => e = .returned (.int .i64 (cntP p n : Nat)) ∧ w = w' := by
  have H := Kept.mk hA
  have hb := Kept.mk (fun x y (hx : x < 64) (hy : y < n) => bit_walk A n c p x y hx hy hh w hA)
  clear hA
  go_enter Tryd.func12, Tryd.ntmps12
  go_wp2
  go_loop [3, 4] (fun s i => ∃ k : Nat, k ≤ n ∧ s = .int .i64 (cntP p k : Nat) ∧ i = .int .i64 k) (fun _ i => n - (intOf i).toNat)
  case atStart => exact ⟨0, Nat.zero_le _, rfl, rfl⟩
  case round =>
    obtain ⟨k, hk, rfl, rfl⟩ := hrel
    have b1 := cntP_le p k
    by_cases hlt : k < n
    · have hs := Kept.mk (show cntP p (k + 1) = cntP p k + cnt (p k) 64 from rfl)
      go_wp2
      go_loop [3, 5] (fun s i => ∃ x : Nat, x ≤ 64 ∧ s = .int .i64 (cntP p k + cnt (p k) x : Nat) ∧ i = .int .i64 x) (fun _ i => 64 - (intOf i).toNat)
      case atStart => exact ⟨0, Nat.zero_le _, rfl, rfl⟩
      case round =>
        obtain ⟨x, hx, rfl, rfl⟩ := hrel
        have b2 := cnt_le (p k) x
        by_cases hlt2 : x < 64
        · have hO := Kept.mk (hb.out x k hlt2 hlt)
          have hs2 := Kept.mk (show cnt (p k) (x + 1) = cnt (p k) x + (p k x).toNat from rfl)
          cases hpx : p k x
          · rw [hpx] at hO hs2
            go_wp2_with (go_at_call 21; (with_reducible refine hO.out.mono ?_); rintro e w' ⟨rfl, rfl⟩)
            go_round
            case rel => exact ⟨x + 1, by omega, by rw [hs2.out]; rfl, by go_num⟩
            case measure => simp [intOf]; omega
          · rw [hpx] at hO hs2
            go_wp2_with (go_at_call 21; (with_reducible refine hO.out.mono ?_); rintro e w' ⟨rfl, rfl⟩)
            go_round
            case rel => exact ⟨x + 1, by omega, by rw [hs2.out]; rfl, by go_num⟩
            case measure => simp [intOf]; omega
        · have hxe : x = 64 := by omega
          subst hxe
          clear hlt2 hx
          go_wp2
          go_round
          case rel => exact ⟨k + 1, by omega, by rw [hs.out], by go_num⟩
          case measure => simp [intOf]; omega
    · have hke : n = k := by omega
      subst hke
      clear hlt hk
      go_wp2
      all_goals (go_ret; exact ⟨rfl, rfl⟩)

theorem rows_arr {w : World} {g n : Nat} {p : Pic} (h : Rows w g n p) : Arr w (some ⟨g, 0, none⟩) n p :=
  ⟨fun _ => ⟨_, rfl, blk_lt h, fun j hj => by
    have e : (⟨g, 0, none⟩ : Addr).add j = ⟨g, j, none⟩ := by unfold Addr.add; split <;> simp_all
    rw [e, blk_cell h j, rowsC_get _ _ _ hj]⟩⟩
theorem Rows.congr' {w : World} {g n : Nat} {p q : Pic} (h : Rows w g n p) (e : ∀ j i, j < n → i < 64 → p j i = q j i) : Rows w g n q := by
  unfold Rows at *
  rw [← rowsC_congr n p q e]; exact h

theorem wrap_bit (b : Bool) (s : Nat) (hs : s < 64) : IntKind.u64.wrap (((b.toNat : Nat) : Int) * 2 ^ s) = ((b.toNat * 2 ^ s : Nat) : Int) := by
  have hp : (2 : Nat) ^ s < 2 ^ 64 := Nat.pow_lt_pow_right (by decide) hs
  have e : ((b.toNat : Nat) : Int) * 2 ^ s = ((b.toNat * 2 ^ s : Nat) : Int) := by rw [Int.natCast_mul, Int.natCast_pow]; rfl
  have hb : b.toNat * 2 ^ s ≤ 1 * 2 ^ s := Nat.mul_le_mul_right _ (by cases b <;> decide)
  rw [e, wrap_nat _ (by omega)]
theorem rows_put {w : World} {g n : Nat} {p q : Pic} (h : Rows w g n p) (j : Nat) (hj : j < n) (f : Nat → Bool) (v : Value) (hv : v = rowV f) (e : ∀ j' i, (if j' = j then f else p j') i = q j' i) : Rows (w.setCell ⟨g, j, none⟩ v) g n q := by
  subst hv
  refine blk_put h j _ ?_
  rw [rowsC_set n p j hj]
  exact rowsC_congr n _ _ (fun j' i _ _ => e j' i)

set_option maxRecDepth 100000 in
set_option maxHeartbeats 4000000 in
theorem turn_walk (A : Option Addr) (h c n : Nat) (p : Pic) (hh : h ≤ 64) (hn1 : 1 ≤ n) (hn2 : n ≤ 64) (w : World) (hA : Arr w A h p) :
    Calls Tryd.prog 6 #[.slice A h c, .int .i64 (n : Int)] w fun e w' => ∃ gt, e = .returned (.slice (some ⟨gt, 0, none⟩) n n) ∧ w.heap.size ≤ gt ∧ Rows w' gt n (tp h p) ∧ Below w.heap.size w w' := by
  have hu := Tryd.underlying22
  have o1 : ∀ W : World, (Instr.makeSlice 22 (.int .i64 (n : Int)) (.int .i64 (n : Int))).run Tryd.prog W = .ok (.slice (some ⟨W.heap.size, 0, none⟩) n n) (W.alloc (.cells (madeCells #[.int .u64 0] n) 29)) := by
    intro W
    have e := print_make_int (P := Tryd.prog) 22 29 (.int .u64 0) 8 hu info29 rfl (by decide) (n : Int) (by omega) (by omega) W
    rw [Int.toNat_natCast] at e
    exact e
  have hI := Kept.mk (in_any (n : Int) 64)
  rw [decide_eq_true (show 1 ≤ (n : Int) ∧ (n : Int) ≤ 64 by omega)] at hI
  have H := Kept.mk hA
  clear hA
  go_enter Tryd.func6, Tryd.ntmps6
  go_wp2_with (first
    | simp only [o1]
    | (go_at_call 18; (with_reducible refine (hI.out _).mono ?_); rintro e w' ⟨rfl, rfl⟩))
  have hN0 : Kept (Rows (w.alloc (.cells (madeCells #[.int .u64 0] n) 29)) w.heap.size n (tpT h p 0 0)) := by
    have h0 := blk_new w (.cells (madeCells #[.int .u64 0] n) 29)
    rw [rowsC_zero] at h0
    rw [rowsC_zero]
    exact ⟨Rows.congr' h0 (fun j i _ _ => (tpT_zero h p j i).symm)⟩
  have hB0 : Kept (Below w.heap.size w (w.alloc (.cells (madeCells #[.int .u64 0] n) 29))) := ⟨below_alloc (Below.refl _ _) _⟩
  go_loopw [21] (fun i wr => ∃ k : Nat, k ≤ h ∧ i = .int .i64 k ∧ Kept (Rows wr w.heap.size n (tpT h p k 0)) ∧ Kept (Below w.heap.size w wr)) (fun i _ => h - (intOf i).toNat)
  case atStart => exact ⟨0, Nat.zero_le _, rfl, hN0, hB0⟩
  case round =>
    obtain ⟨k, hk, rfl, hN1, hB1⟩ := hrel
    clear hN0 hB0
    by_cases hlt : k < h
    · obtain ⟨ad, rfl, _, hc1⟩ := (H.out.below hB1.out).ex (by omega)
      have hc := hc1 k hlt
      clear hc1
      rw [rowV] at hc
      have hbit := Kept.mk (fun x (hx : x < 64) => bit_at (p k) x hx)
      generalize hvk : num (p k) 64 = r at *
      go_wp2
      go_loopw [28] (fun i wq => ∃ x : Nat, x ≤ n ∧ i = .int .i64 x ∧ Kept (Rows wq w.heap.size n (tpT h p k x)) ∧ Kept (Below w.heap.size w wq)) (fun i _ => n - (intOf i).toNat)
      case atStart => exact ⟨0, Nat.zero_le _, rfl, hN1, hB1⟩
      case round =>
        obtain ⟨x, hx, rfl, hN2, hB2⟩ := hrel
        clear hN1 hB1 hc
        by_cases hlt2 : x < n
        · have hu : wr.cell? ⟨w.heap.size, x, none⟩ = some (.int .u64 ((num (tpT h p k x x) 64 : Nat) : Int)) := by
            rw [blk_cell hN2.out x, rowsC_get _ _ _ hlt2]
          have hf := blk_frozen hN2.out x
          obtain ⟨sh, hsh⟩ : ∃ sh : Nat, (h : Int) - 1 - (k : Int) = (sh : Int) := ⟨h - 1 - k, by omega⟩
          have hshe : sh = h - 1 - k := by omega
          have v1 : IntKind.i64.wrap ((h : Int) - 1) = (h : Int) - 1 := i64_id _ (by omega) (by omega)
          have v2 : IntKind.i64.wrap ((h : Int) - 1 - (k : Int)) = (sh : Int) := by rw [← hsh]; exact i64_id _ (by omega) (by omega)
          have hb := hbit.out x (by omega)
          have hs := Kept.mk (tpT_set h p k x hlt)
          have hor := Kept.mk (num_bitor (tpT h p k x x) (p k x) sh (by omega))
          rw [hshe] at hor
          rw [← hshe] at hor
          clear hsh
          generalize num (tpT h p k x x) 64 = u at *
          go_wp2
          go_still_tail 16, (by kernel_rfl)
          change wpList _ _ _ _ _ wr.drew
          have hN3 : Kept (Rows wr.drew w.heap.size n (tpT h p k x)) := hN2
          have hB3 : Kept (Below w.heap.size w wr.drew) := ⟨hB2.out.drew⟩
          have hud : wr.drew.cell? ⟨w.heap.size, x, none⟩ = some (.int .u64 u) := hu
          have hfd : wr.drew.frozen? ⟨w.heap.size, x, none⟩ = false := hf
          clear hu hf hN2 hB2
          generalize wr.drew = w5 at *
          go_wp2
          go_roundw
          case rel =>
            refine ⟨x + 1, by omega, by go_num, ⟨?_⟩, ⟨below_set hB3.out (Nat.le_refl _)⟩⟩
            exact rows_put hN3.out x hlt2 (fun i => tpT h p k x x i || (p k x && i == h - 1 - k)) _ (by rw [← hshe, wrap_bit _ sh (by omega), hor.out]) hs.out
          case measure => simp [intOf]; omega
        · have hxe : n = x := by omega
          subst hxe
          clear hlt2 hx
          go_wp2
          go_roundw
          case rel => exact ⟨k + 1, by omega, by go_num, ⟨Rows.congr' hN2.out (fun j i hj _ => tpT_next h p k n j i hj)⟩, hB2⟩
          case measure => simp [intOf]; omega
    · have hke : h = k := by omega
      subst hke
      clear hlt hk
      go_wp2
      all_goals (go_ret; exact ⟨_, rfl, Nat.le_refl _, Rows.congr' hN1.out (fun j i _ _ => tpT_full h p j i), hB1.out⟩)

theorem turn_bad (A : Option Addr) (h c : Nat) (n : Int) (hb : ¬ (1 ≤ n ∧ n ≤ 64) ∨ 64 < h) (hh : h ≤ 1000) (w : World) :
    Calls Tryd.prog 6 #[.slice A h c, .int .i64 n] w fun e w' => e = .returned (.slice none 0 0) ∧ w = w' := by
  have hI := Kept.mk (in_any n 64)
  by_cases h1 : 1 ≤ n ∧ n ≤ 64
  · rw [decide_eq_true h1] at hI
    have h2 : 64 < h := by omega
    clear hb h1
    go_enter Tryd.func6, Tryd.ntmps6
    go_wp2_with (go_at_call 18; (with_reducible refine (hI.out _).mono ?_); rintro e w' ⟨rfl, rfl⟩)
    all_goals (go_ret; exact ⟨rfl, rfl⟩)
  · rw [decide_eq_false h1] at hI
    clear hb h1
    go_enter Tryd.func6, Tryd.ntmps6
    go_wp2_with (go_at_call 18; (with_reducible refine (hI.out _).mono ?_); rintro e w' ⟨rfl, rfl⟩)
    all_goals (go_ret; exact ⟨rfl, rfl⟩)
theorem refturn_bad (A : Option Addr) (h c : Nat) (n : Int) (hb : ¬ (1 ≤ n ∧ n ≤ 64) ∨ 64 < h) (hh : h ≤ 1000) (w : World) :
    Calls Tryd.prog 10 #[.slice A h c, .int .i64 n] w fun e w' => e = .returned (.slice none 0 0) ∧ w = w' := by
  have hI := Kept.mk (within_walk n 1 64)
  by_cases h1 : 1 ≤ n ∧ n ≤ 64
  · rw [decide_eq_true h1] at hI
    have h2 : 64 < h := by omega
    clear hb h1
    go_enter Tryd.func10, Tryd.ntmps10
    go_wp2_with (go_at_call 22; (with_reducible refine (hI.out _).mono ?_); rintro e w' ⟨rfl, rfl⟩)
    all_goals (go_ret; exact ⟨rfl, rfl⟩)
  · rw [decide_eq_false h1] at hI
    clear hb h1
    go_enter Tryd.func10, Tryd.ntmps10
    go_wp2_with (go_at_call 22; (with_reducible refine (hI.out _).mono ?_); rintro e w' ⟨rfl, rfl⟩)
    all_goals (go_ret; exact ⟨rfl, rfl⟩)

set_option maxRecDepth 100000 in
set_option maxHeartbeats 4000000 in
theorem refturn_walk (A : Option Addr) (h c n : Nat) (p : Pic) (hh : h ≤ 64) (hn1 : 1 ≤ n) (hn2 : n ≤ 64) (w : World) (hA : Arr w A h p) :
    Calls Tryd.prog 10 #[.slice A h c, .int .i64 (n : Int)] w fun e w' => ∃ gt, e = .returned (.slice (some ⟨gt, 0, none⟩) n n) ∧ w.heap.size ≤ gt ∧ Rows w' gt n (tp h p) ∧ Below w.heap.size w w' := by
  have hu := Tryd.underlying22
  have o1 : ∀ W : World, (Instr.makeSlice 22 (.int .i64 (n : Int)) (.int .i64 (n : Int))).run Tryd.prog W = .ok (.slice (some ⟨W.heap.size, 0, none⟩) n n) (W.alloc (.cells (madeCells #[.int .u64 0] n) 29)) := by
    intro W
    have e := print_make_int (P := Tryd.prog) 22 29 (.int .u64 0) 8 hu info29 rfl (by decide) (n : Int) (by omega) (by omega) W
    rw [Int.toNat_natCast] at e
    exact e
  have hI := Kept.mk (within_walk (n : Int) 1 64)
  rw [decide_eq_true (show 1 ≤ (n : Int) ∧ (n : Int) ≤ 64 by omega)] at hI
  have H := Kept.mk hA
  clear hA
  go_enter Tryd.func10, Tryd.ntmps10
  go_wp2_with (first
    | simp only [o1]
    | (go_at_call 22; (with_reducible refine (hI.out _).mono ?_); rintro e w' ⟨rfl, rfl⟩))
  have hN0 : Kept (Rows (w.alloc (.cells (madeCells #[.int .u64 0] n) 29)) w.heap.size n (tpR h p 0 0)) := by
    have h0 := blk_new w (.cells (madeCells #[.int .u64 0] n) 29)
    rw [rowsC_zero] at h0
    rw [rowsC_zero]
    exact ⟨Rows.congr' h0 (fun j i _ _ => (tpR_zero h p j i).symm)⟩
  have hB0 : Kept (Below w.heap.size w (w.alloc (.cells (madeCells #[.int .u64 0] n) 29))) := ⟨below_alloc (Below.refl _ _) _⟩
  go_loopw [7] (fun i wr => ∃ x : Nat, x ≤ n ∧ i = .int .i64 x ∧ Kept (Rows wr w.heap.size n (tpR h p x 0)) ∧ Kept (Below w.heap.size w wr)) (fun i _ => n - (intOf i).toNat)
  case atStart => exact ⟨0, Nat.zero_le _, rfl, hN0, hB0⟩
  case round =>
    obtain ⟨x, hx, rfl, hN1, hB1⟩ := hrel
    clear hN0 hB0
    by_cases hlt : x < n
    · go_wp2
      go_loopw [8] (fun i wq => ∃ y : Nat, y ≤ h ∧ i = .int .i64 y ∧ Kept (Rows wq w.heap.size n (tpR h p x y)) ∧ Kept (Below w.heap.size w wq)) (fun i _ => h - (intOf i).toNat)
      case atStart => exact ⟨0, Nat.zero_le _, rfl, hN1, hB1⟩
      case round =>
        obtain ⟨y, hy, rfl, hN2, hB2⟩ := hrel
        clear hN1 hB1
        by_cases hlt2 : y < h
        · have hO := Kept.mk (bit_walk A h c p x y (by omega) hlt2 (by omega) wr (H.out.below hB2.out))
          have hs := Kept.mk (tpR_set h p x y hlt2)
          obtain ⟨sh, hsh⟩ : ∃ sh : Nat, (h : Int) - 1 - (y : Int) = (sh : Int) := ⟨h - 1 - y, by omega⟩
          have hshe : sh = h - 1 - y := by omega
          have hor := Kept.mk (num_bitor (tpR h p x y x) (p y x) sh (by omega))
          cases hpx : p y x
          · rw [hpx] at hO hs
            go_wp2_with (go_at_call 21; (with_reducible refine hO.out.mono ?_); rintro e w' ⟨rfl, rfl⟩)
            go_roundw
            case rel => exact ⟨y + 1, by omega, by go_num, ⟨Rows.congr' hN2.out (fun j i _ _ => by
              rw [← hs.out j i]
              by_cases c : j = x
              · subst c; simp
              · rw [if_neg c])⟩, hB2⟩
            case measure => simp [intOf]; omega
          · rw [hpx] at hO hs hor
            have hu : wr.cell? ⟨w.heap.size, x, none⟩ = some (.int .u64 ((num (tpR h p x y x) 64 : Nat) : Int)) := by
              rw [blk_cell hN2.out x, rowsC_get _ _ _ hlt]
            have hf := blk_frozen hN2.out x
            have v1 : IntKind.i64.wrap ((h : Int) - 1) = (h : Int) - 1 := i64_id _ (by omega) (by omega)
            have v2 : IntKind.i64.wrap ((h : Int) - 1 - (y : Int)) = (sh : Int) := by rw [← hsh]; exact i64_id _ (by omega) (by omega)
            clear hsh
            generalize num (tpR h p x y x) 64 = u at *
            go_wp2_with (go_at_call 21; (with_reducible refine hO.out.mono ?_); rintro e w' ⟨rfl, rfl⟩)
            go_still_tail 13, (by kernel_rfl)
            change wpList _ _ _ _ _ wr.drew
            have hN3 : Kept (Rows wr.drew w.heap.size n (tpR h p x y)) := hN2
            have hB3 : Kept (Below w.heap.size w wr.drew) := ⟨hB2.out.drew⟩
            have hud : wr.drew.cell? ⟨w.heap.size, x, none⟩ = some (.int .u64 u) := hu
            have hfd : wr.drew.frozen? ⟨w.heap.size, x, none⟩ = false := hf
            clear hu hf hN2 hB2 hO
            generalize wr.drew = w5 at *
            go_wp2
            go_roundw
            case rel =>
              refine ⟨y + 1, by omega, by go_num, ⟨?_⟩, ⟨below_set hB3.out (Nat.le_refl _)⟩⟩
              have hw1 := wrap_bit true sh (by omega)
              simp only [Bool.toNat_true, Nat.one_mul, Int.natCast_one, Int.one_mul] at hw1 hor
              exact rows_put hN3.out x hlt (fun i => tpR h p x y x i || (true && i == h - 1 - y)) _ (by rw [← hshe, hw1, hor.out]) hs.out
            case measure => simp [intOf]; omega
        · have hye : h = y := by omega
          subst hye
          clear hlt2 hy
          go_wp2
          go_roundw
          case rel => exact ⟨x + 1, by omega, by go_num, ⟨Rows.congr' hN2.out (fun j i _ _ => tpR_next h p x j i)⟩, hB2⟩
          case measure => simp [intOf]; omega
    · have hxe : n = x := by omega
      subst hxe
      clear hlt hx
      go_wp2
      all_goals (go_ret; exact ⟨_, rfl, Nat.le_refl _, Rows.congr' hN1.out (fun j i hj _ => tpR_full h p n j i hj), hB1.out⟩)
end Go.Proofs.YthhhcfipmeganaaDoor.Rd
