/-
  Rows of dots as numbers, and the walk of the pen's dot. No condition beyond the numbers' bounds.
-/
import Derived.Test.YthhhcfipmeganaaDoorRw
namespace Go.Proofs.YthhhcfipmeganaaDoor.Rd
open Go.RowKit Go.Proofs.YthhhcfipmeganaaDoorW.PrintWords Go.Proofs.YthhhcfipmeganaaDoorW.PrintLast Go.Proofs.YthhhcfipmeganaaDoorW.PrintMore
open Fl Ra
set_option linter.unusedSimpArgs false
set_option linter.unusedVariables false

/-! ### Bits as a number -/
def num (f : Nat → Bool) : Nat → Nat
  | 0 => 0
  | n + 1 => num f n + if f n then 2 ^ n else 0
theorem num_lt (f : Nat → Bool) (n : Nat) : num f n < 2 ^ n := by
  induction n with
  | zero => show 0 < 2 ^ 0; decide
  | succ n ih => unfold num; rw [Nat.pow_succ]; split <;> omega
theorem num_bit (f : Nat → Bool) (n i : Nat) : (num f n).testBit i = (decide (i < n) && f i) := by
  induction n with
  | zero => simp [num]
  | succ n ih =>
    unfold num
    have hl := num_lt f n
    by_cases hf : f n = true
    · rw [if_pos hf, Nat.add_comm]
      by_cases hi : i = n
      · subst hi
        rw [Nat.testBit_two_pow_add_eq, ih]; simp [hf]
      · by_cases hlt : i < n
        · rw [Nat.testBit_two_pow_add_gt hlt, ih]
          simp [hlt]; omega
        · have h1 : 2 ^ n + num f n < 2 ^ i := by
            have : 2 ^ (n + 1) ≤ 2 ^ i := Nat.pow_le_pow_right (by decide) (by omega)
            rw [Nat.pow_succ] at this; omega
          rw [Nat.testBit_lt_two_pow h1]
          have h2 : ¬ i < n + 1 := by omega
          simp [h2]
    · rw [if_neg hf, Nat.add_zero, ih]
      by_cases hi : i = n
      · subst hi; simp at hf; simp [hf]
      · have : (i < n + 1) ↔ (i < n) := by omega
        simp [this]
theorem num_congr (f g : Nat → Bool) (n : Nat) (h : ∀ i, i < n → f i = g i) : num f n = num g n := by
  induction n with
  | zero => rfl
  | succ n ih => unfold num; rw [ih (fun i hi => h i (by omega)), h n (by omega)]
theorem num_or (f : Nat → Bool) (n i : Nat) (hi : i < n) : num f n ||| 2 ^ i = num (fun k => f k || k == i) n := by
  apply Nat.eq_of_testBit_eq
  intro k
  rw [Nat.testBit_or, num_bit, num_bit, Nat.testBit_two_pow]
  by_cases hk : k = i
  · subst hk; simp [hi]
  · have h1 : ¬ i = k := fun h => hk h.symm
    have h2 : (k == i) = false := by simp [hk]
    simp [h1, h2]
theorem num_zero (n : Nat) : num (fun _ => false) n = 0 := by
  induction n with
  | zero => rfl
  | succ n ih => unfold num; rw [ih]; rfl
/-- The model's own or. -/
theorem u64_or (x y : Nat) (hx : x < 2 ^ 64) (hy : y < 2 ^ 64) : bits BinOp.or IntKind.u64 (x : Int) (y : Int) = ((x ||| y : Nat) : Int) := by
  have h2 : bits BinOp.or IntKind.u64 (x : Int) (y : Int) = IntKind.u64.wrap ((BitVec.ofInt 64 (x : Int) ||| BitVec.ofInt 64 (y : Int)).toNat : Int) := rfl
  have h1 : (BitVec.ofInt 64 (x : Int) ||| BitVec.ofInt 64 (y : Int)).toNat = x ||| y := by
    rw [BitVec.toNat_or, BitVec.ofInt_natCast, BitVec.ofInt_natCast, BitVec.toNat_ofNat, BitVec.toNat_ofNat, Nat.mod_eq_of_lt hx, Nat.mod_eq_of_lt hy]
  have h3 : x ||| y < 2 ^ 64 := Nat.or_lt_two_pow hx hy
  rw [h2, h1]
  simp only [IntKind.wrap, IntKind.signed, IntKind.bits]
  simp
  omega

theorem gb_trans {w w1 w2 : World} {row : Option Nat} (h : w.grownBy w1 row) (k : w1.grownBy w2 row) : w.grownBy w2 row :=
  ⟨k.os.trans h.os, k.tape.trans h.tape, k.output.trans h.output, Nat.le_trans h.size k.size, fun i hi hr => (k.block i (Nat.lt_of_lt_of_le hi h.size) hr).trans (h.block i hi hr)⟩
theorem gb_drewN {w w1 : World} {row : Option Nat} (h : w.grownBy w1 row) (n : Nat) : w.grownBy (w1.drewN n) row := ⟨h.os, h.tape, h.output, h.size, h.block⟩
theorem gb_drew {w w1 : World} {row : Option Nat} (h : w.grownBy w1 row) : w.grownBy w1.drew row := ⟨h.os, h.tape, h.output, h.size, h.block⟩
theorem gb_set {w w1 : World} {g : Nat} (h : w.grownBy w1 (some g)) (j : Nat) (v : Value) : w.grownBy (w1.setCell ⟨g, j, none⟩ v) (some g) :=
  ⟨h.os, h.tape, h.output, by simpa [World.setCell] using h.size, fun i hi hr => (Below.heap_setCell w1 ⟨g, j, none⟩ v i (fun e => hr (by rw [e]))).trans (h.block i hi hr)⟩

/-- A picture: is there a dot in row j, column i? -/
abbrev Pic := Nat → Nat → Bool
abbrev rowV (f : Nat → Bool) : Value := .int .u64 ((num f 64 : Nat) : Int)
def rowsC (h : Nat) (pic : Pic) : Array Value := ((List.range h).map (fun j => rowV (pic j))).toArray
theorem rowsC_get (h : Nat) (pic : Pic) (j : Nat) (hj : j < h) : (rowsC h pic)[j]? = some (rowV (pic j)) := by
  unfold rowsC
  rw [List.getElem?_toArray, List.getElem?_map, List.getElem?_range hj]; rfl
theorem rowsC_congr (h : Nat) (p q : Pic) (e : ∀ j i, j < h → i < 64 → p j i = q j i) : rowsC h p = rowsC h q := by
  unfold rowsC
  congr 1
  apply List.map_congr_left
  intro j hj
  rw [rowV, rowV, num_congr (p j) (q j) 64 (fun i hi => e j i (List.mem_range.1 hj) hi)]
theorem rowsC_set (h : Nat) (pic : Pic) (j : Nat) (hj : j < h) (f : Nat → Bool) : (rowsC h pic).setIfInBounds j (rowV f) = rowsC h (fun k => if k = j then f else pic k) := by
  apply Array.ext
  · simp [rowsC]
  · intro k h1 h2
    have hk : k < h := by simpa [rowsC] using h2
    have e1 : (rowsC h (fun k => if k = j then f else pic k))[k]? = some (rowV (if k = j then f else pic k)) := rowsC_get h _ k hk
    have e2 : (rowsC h pic)[k]? = some (rowV (pic k)) := rowsC_get h pic k hk
    have f1 : (rowsC h (fun k => if k = j then f else pic k))[k] = rowV (if k = j then f else pic k) := by
      rw [Array.getElem?_eq_getElem h2] at e1; exact Option.some.inj e1
    have hk2 : k < (rowsC h pic).size := by simpa [rowsC] using hk
    have f2 : (rowsC h pic)[k] = rowV (pic k) := by
      rw [Array.getElem?_eq_getElem hk2] at e2; exact Option.some.inj e2
    rw [f1, Array.getElem_setIfInBounds (by simpa using hk2)]
    by_cases c : k = j
    · subst c; simp
    · rw [if_neg (fun e => c e.symm), f2, if_neg c]

abbrev Rows (w : World) (g h : Nat) (pic : Pic) : Prop := w.heap[g]? = some (.cells (rowsC h pic) 29 (0, 0))
abbrev Pen (w : World) (p g h : Nat) (ww wd : Int) : Prop := w.heap[p]? = some (.cells #[.slice (some ⟨g, 0, none⟩) h h, .int .i64 ww, .int .i64 (h : Int), .int .i64 wd] 55 (0, 0))
/-- What a dot inks. -/
def ink (wd ww : Int) (d : P2) (j i : Nat) : Bool := decide (d.2 - (wd - 1) / 2 ≤ j ∧ (j : Int) ≤ d.2 + wd / 2 ∧ d.1 - (wd - 1) / 2 ≤ i ∧ (i : Int) ≤ d.1 + wd / 2 ∧ (i : Int) < ww)
/-- As far as row jn, column k. -/
def part (pic : Pic) (wd ww : Int) (d : P2) (jn k : Nat) : Pic := fun j i => pic j i || (ink wd ww d j i && (decide (j < jn) || (decide (j = jn) && decide (i < k))))
theorem part_set (pic : Pic) (wd ww : Int) (d : P2) (jn k : Nat) (h : ink wd ww d jn k = true) (j i : Nat) :
    (if j = jn then fun i => part pic wd ww d jn k jn i || i == k else part pic wd ww d jn k j) i = part pic wd ww d jn (k + 1) j i := by
  by_cases c : j = jn
  · subst c
    simp only [if_true, part]
    by_cases e : i = k
    · subst e
      have h1 : decide (i < i + 1) = true := by simp
      simp [h]
    · have h1 : (i == k) = false := by simp [e]
      have h2 : (i < k + 1) ↔ (i < k) := by omega
      simp [h1, h2]
  · rw [if_neg c]
    simp [part, c]
theorem bool_ext {a b : Bool} (h : a = true ↔ b = true) : a = b := by cases a <;> cases b <;> simp_all
theorem part_first (pic : Pic) (wd ww : Int) (d : P2) (j0 : Nat) (h : d.2 - (wd - 1) / 2 ≤ j0 ∧ ((j0 : Int) = 0 ∨ (j0 : Int) = d.2 - (wd - 1) / 2)) (j i : Nat) : part pic wd ww d j0 0 j i = pic j i := by
  apply bool_ext
  simp only [part, ink, Bool.or_eq_true, Bool.and_eq_true, decide_eq_true_eq]
  constructor
  · rintro (h1 | ⟨h1, h2⟩)
    · exact h1
    · exfalso; omega
  · exact .inl
theorem part_row (pic : Pic) (wd ww : Int) (d : P2) (jn i0 : Nat) (h : (i0 : Int) = 0 ∨ (i0 : Int) = d.1 - (wd - 1) / 2) (j i : Nat) : part pic wd ww d jn i0 j i = part pic wd ww d jn 0 j i := by
  apply bool_ext
  simp only [part, ink, Bool.or_eq_true, Bool.and_eq_true, decide_eq_true_eq]
  constructor
  · rintro (h1 | ⟨h1, h2⟩)
    · exact .inl h1
    · exact .inr ⟨h1, by omega⟩
  · rintro (h1 | ⟨h1, h2⟩)
    · exact .inl h1
    · exact .inr ⟨h1, by omega⟩
theorem part_next (pic : Pic) (wd ww : Int) (d : P2) (jn k : Nat) (i1 : Int) (h : (i1 = d.1 + wd / 2 ∨ i1 = ww - 1)) (hk : i1 < k) (j i : Nat) : part pic wd ww d jn k j i = part pic wd ww d (jn + 1) 0 j i := by
  apply bool_ext
  simp only [part, ink, Bool.or_eq_true, Bool.and_eq_true, decide_eq_true_eq]
  constructor
  · rintro (h1 | ⟨h1, h2⟩)
    · exact .inl h1
    · exact .inr ⟨h1, by omega⟩
  · rintro (h1 | ⟨h1, h2⟩)
    · exact .inl h1
    · exact .inr ⟨h1, by omega⟩
theorem part_last (pic : Pic) (wd ww : Int) (d : P2) (jn h : Nat) (j1 : Int) (e : (j1 = d.2 + wd / 2 ∨ j1 = (h : Int) - 1)) (hk : j1 < jn) (j i : Nat) (hj : j < h) : part pic wd ww d jn 0 j i = (pic j i || ink wd ww d j i) := by
  apply bool_ext
  simp only [part, ink, Bool.or_eq_true, Bool.and_eq_true, decide_eq_true_eq]
  constructor
  · rintro (h1 | ⟨h1, h2⟩)
    · exact .inl h1
    · exact .inr h1
  · rintro (h1 | h1)
    · exact .inl h1
    · exact .inr ⟨h1, by omega⟩
theorem ink_true (wd ww : Int) (d : P2) (j k : Nat) (i1 j1 : Int) (h1 : d.2 - (wd - 1) / 2 ≤ j) (h2 : (j : Int) ≤ j1) (h3 : j1 ≤ d.2 + wd / 2) (h4 : d.1 - (wd - 1) / 2 ≤ k) (h5 : (k : Int) ≤ i1) (h6 : i1 ≤ d.1 + wd / 2) (h7 : i1 ≤ ww - 1) : ink wd ww d j k = true := by
  unfold ink
  exact decide_eq_true ⟨h1, by omega, h4, by omega, by omega⟩
end Go.Proofs.YthhhcfipmeganaaDoor.Rd
