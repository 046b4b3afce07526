/-
  Rows of numbers wherever they lie; the walks of within, in, bit. No condition beyond the numbers' bounds.
-/
import Derived.Test.YthhhcfipmeganaaDoorRt
import Derived.Test.YthhhcfipmeganaaDoorPo
namespace Go.Proofs.YthhhcfipmeganaaDoor.Rd
open Go.RowKit Go.Proofs.YthhhcfipmeganaaDoorW.PrintWords Go.Proofs.YthhhcfipmeganaaDoorW.PrintLast Go.Proofs.YthhhcfipmeganaaDoorW.PrintMore
open Fl Ra
set_option linter.unusedSimpArgs false
set_option linter.unusedVariables false

/-- Rows of dots as numbers, wherever they lie. -/
structure Arr (w : World) (A : Option Addr) (n : Nat) (p : Pic) : Prop where
  ex : 0 < n → ∃ ad, A = some ad ∧ ad.block < w.heap.size ∧ ∀ j, j < n → w.cell? (ad.add j) = some (rowV (p j))
theorem add_in {ad : Addr} {B : Nat} (h : ad.block < B) (j : Nat) : (ad.add j).block < B := by unfold Addr.add; split <;> exact h
theorem Arr.below {w w1 : World} {A : Option Addr} {n : Nat} {p : Pic} (h : Arr w A n p) (hb : Below w.heap.size w w1) : Arr w1 A n p :=
  ⟨fun hn => by
    obtain ⟨ad, e, hl, hc⟩ := h.ex hn
    exact ⟨ad, e, Nat.lt_of_lt_of_le hl hb.size, fun j hj => (hb.cell (p := ad.add j) (add_in hl j)).trans (hc j hj)⟩⟩
theorem Arr.congr {w : World} {A : Option Addr} {n : Nat} {p q : Pic} (h : Arr w A n p) (e : ∀ j i, j < n → i < 64 → p j i = q j i) : Arr w A n q :=
  ⟨fun hn => by
    obtain ⟨ad, e1, hl, hc⟩ := h.ex hn
    refine ⟨ad, e1, hl, fun j hj => ?_⟩
    rw [hc j hj, rowV, rowV, num_congr (p j) (q j) 64 (fun i hi => e j i hj hi)]⟩
theorem within_walk (n a b : Int) (w : World) : Calls Tryd.prog 22 #[.int .i64 n, .int .i64 a, .int .i64 b] w fun e w' => e = .returned (.bool (decide (a ≤ n ∧ n ≤ b))) ∧ w = w' := by
  by_cases h1 : a ≤ n
  · by_cases h2 : n ≤ b
    · go_enter Tryd.func22, Tryd.ntmps22
      go_wp2
      all_goals (go_ret; refine ⟨?_, rfl⟩; simp [h1, h2])
    · go_enter Tryd.func22, Tryd.ntmps22
      go_wp2
      all_goals (go_ret; refine ⟨?_, rfl⟩; simp [h1, h2])
  · go_enter Tryd.func22, Tryd.ntmps22
    go_wp2
    all_goals (go_ret; refine ⟨?_, rfl⟩; rw [decide_eq_false (by omega)]; rfl)
theorem in_any (n b : Int) (w : World) : Calls Tryd.prog 18 #[.int .i64 n, .int .i64 b] w fun e w' => e = .returned (.bool (decide (1 ≤ n ∧ n ≤ b))) ∧ w = w' := by
  by_cases h1 : 1 ≤ n
  · by_cases h2 : n ≤ b
    · go_enter Tryd.func18, Tryd.ntmps18
      go_wp2
      all_goals (go_ret; refine ⟨?_, rfl⟩; simp [h1, h2])
    · go_enter Tryd.func18, Tryd.ntmps18
      go_wp2
      all_goals (go_ret; refine ⟨?_, rfl⟩; simp [h1, h2])
  · go_enter Tryd.func18, Tryd.ntmps18
    go_wp2
    all_goals (go_ret; refine ⟨?_, rfl⟩; rw [decide_eq_false (by omega)]; rfl)

theorem bit_at (f : Nat → Bool) (x : Nat) (hx : x < 64) : bits BinOp.and IntKind.u64 (((num f 64 : Nat) : Int) / 2 ^ x) 1 = ((f x).toNat : Int) := by
  have hl := num_lt f 64
  have hd : num f 64 / 2 ^ x ≤ num f 64 := Nat.div_le_self _ _
  have e : ((num f 64 : Nat) : Int) / 2 ^ x = ((num f 64 / 2 ^ x : Nat) : Int) := by
    rw [Int.natCast_ediv, Int.natCast_pow]; rfl
  rw [e, show (1 : Int) = ((1 : Nat) : Int) from rfl, u64_and _ 1 (by omega) (by decide), Nat.and_one_is_mod, ← Nat.toNat_testBit, num_bit]
  simp [hx]
theorem bit_walk (A : Option Addr) (n c : Nat) (p : Pic) (x y : Nat) (hx : x < 64) (hy : y < n) (hn : n ≤ 1000) (w : World) (hA : Arr w A n p) :
    Calls Tryd.prog 21 #[.slice A n c, .int .i64 (x : Int), .int .i64 (y : Int)] w fun e w' => e = .returned (.bool (p y x)) ∧ w = w' := by
  obtain ⟨ad, rfl, hl, hc⟩ := hA.ex (by omega)
  have h := hc y hy
  have hb := bit_at (p y) x hx
  clear hc hA
  go_enter Tryd.func21, Tryd.ntmps21
  go_wp2
  all_goals (go_ret; refine ⟨?_, rfl⟩)
  cases p y x <;> rfl

/-- A picture of h rows, turned. -/
def tp (h : Nat) (p : Pic) : Pic := fun x j => decide (j < h) && p (h - 1 - j) x
/-- As far as row x, and y of the rows that make it. -/
def tpR (h : Nat) (p : Pic) (x y : Nat) : Pic := fun x' j => (decide (x' < x) || (decide (x' = x) && decide (h - 1 - j < y))) && tp h p x' j
/-- As far as k of the rows that make it, and x of its own in the next one. -/
def tpT (h : Nat) (p : Pic) (k x : Nat) : Pic := fun x' j => (decide (h - 1 - j < k) || (decide (h - 1 - j = k) && decide (x' < x))) && tp h p x' j
theorem tpR_zero (h : Nat) (p : Pic) (x' j : Nat) : tpR h p 0 0 x' j = false := by simp [tpR]
theorem tpT_zero (h : Nat) (p : Pic) (x' j : Nat) : tpT h p 0 0 x' j = false := by simp [tpT]
theorem tpR_next (h : Nat) (p : Pic) (x x' j : Nat) : tpR h p x h x' j = tpR h p (x + 1) 0 x' j := by
  unfold tpR tp
  by_cases hj : j < h
  · have e : h - 1 - j < h := by omega
    have e2 : (x' < x + 1) ↔ (x' < x ∨ x' = x) := by omega
    by_cases c1 : x' < x <;> by_cases c2 : x' = x <;> simp [hj, e, e2, c1, c2]
  · simp [hj]
theorem tpT_next (h : Nat) (p : Pic) (k n x' j : Nat) (hx : x' < n) : tpT h p k n x' j = tpT h p (k + 1) 0 x' j := by
  unfold tpT
  have e2 : (h - 1 - j < k + 1) ↔ (h - 1 - j < k ∨ h - 1 - j = k) := by omega
  by_cases c1 : h - 1 - j < k <;> by_cases c2 : h - 1 - j = k <;> simp [hx, e2, c1, c2]
theorem tpR_full (h : Nat) (p : Pic) (n x' j : Nat) (hx : x' < n) : tpR h p n 0 x' j = tp h p x' j := by simp [tpR, hx]
theorem tpT_full (h : Nat) (p : Pic) (x' j : Nat) : tpT h p h 0 x' j = tp h p x' j := by
  unfold tpT tp
  by_cases hj : j < h
  · have e : h - 1 - j < h := by omega
    simp [hj, e]
  · simp [hj]
theorem tpR_set (h : Nat) (p : Pic) (x y : Nat) (hy : y < h) (x' j : Nat) :
    (if x' = x then fun i => tpR h p x y x i || (p y x && i == h - 1 - y) else tpR h p x y x') j = tpR h p x (y + 1) x' j := by
  by_cases c : x' = x
  · subst c
    rw [if_pos rfl]
    unfold tpR tp
    by_cases hj : j < h
    · by_cases c2 : h - 1 - j = y
      · subst c2
        have e : h - 1 - (h - 1 - j) = j := by omega
        simp [hj, e]
      · have e1 : (h - 1 - j < y + 1) ↔ (h - 1 - j < y) := by omega
        have e2 : ¬ j = h - 1 - y := by omega
        simp [hj, e1, e2]
    · have e2 : ¬ j = h - 1 - y := by omega
      simp [hj, e2]
  · rw [if_neg c]
    simp [tpR, c]
theorem tpT_set (h : Nat) (p : Pic) (k x : Nat) (hk : k < h) (x' j : Nat) :
    (if x' = x then fun i => tpT h p k x x i || (p k x && i == h - 1 - k) else tpT h p k x x') j = tpT h p k (x + 1) x' j := by
  by_cases c : x' = x
  · subst c
    rw [if_pos rfl]
    unfold tpT tp
    by_cases hj : j < h
    · by_cases c2 : h - 1 - j = k
      · subst c2
        have e : h - 1 - (h - 1 - j) = j := by omega
        simp [hj, e]
      · have e2 : ¬ j = h - 1 - k := by omega
        simp [hj, c2, e2]
    · have e2 : ¬ j = h - 1 - k := by omega
      simp [hj, e2]
  · rw [if_neg c]
    unfold tpT
    have e : (x' < x + 1) ↔ (x' < x) := by omega
    simp [e]
/-- One bit more, or none. -/
theorem num_bitor (f : Nat → Bool) (b : Bool) (i : Nat) (hi : i < 64) : bits BinOp.or IntKind.u64 ((num f 64 : Nat) : Int) ((b.toNat * 2 ^ i : Nat) : Int) = ((num (fun k => f k || (b && k == i)) 64 : Nat) : Int) := by
  have hl := num_lt f 64
  have hp : (2 : Nat) ^ i < 2 ^ 64 := Nat.pow_lt_pow_right (by decide) hi
  cases b with
  | true =>
    rw [show (true.toNat * 2 ^ i : Nat) = 2 ^ i from by simp, u64_or _ _ hl hp, num_or _ _ _ hi]
    simp
  | false =>
    rw [show (false.toNat * 2 ^ i : Nat) = 0 from by simp, u64_or _ _ hl (by decide), Nat.or_zero]
    simp
end Go.Proofs.YthhhcfipmeganaaDoor.Rd
