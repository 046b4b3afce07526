/-
  Counting bits as math/bits does it, and the walk of OnesCount64. Condition: the number is below 2^64.
-/
import Derived.Test.YthhhcfipmeganaaDoorRp
namespace Go.Proofs.YthhhcfipmeganaaDoor.Rd
open Go.RowKit Go.Proofs.YthhhcfipmeganaaDoorW.PrintWords Go.Proofs.YthhhcfipmeganaaDoorW.PrintLast Go.Proofs.YthhhcfipmeganaaDoorW.PrintMore
open Fl Ra
set_option linter.unusedSimpArgs false
set_option linter.unusedVariables false

/-! ### Counting bits as math/bits does it -/
theorem and_peel (a p y M : Nat) (ha : a < 256) (hp : p < 256) : (a + 256 * y) &&& (p + 256 * M) = (a &&& p) + 256 * (y &&& M) := by
  apply Nat.eq_of_testBit_eq
  intro i
  have e1 : a + 256 * y = 2 ^ 8 * y + a := by omega
  have e2 : p + 256 * M = 2 ^ 8 * M + p := by omega
  have e3 : (a &&& p) + 256 * (y &&& M) = 2 ^ 8 * (y &&& M) + (a &&& p) := by omega
  rw [e1, e2, e3, Nat.testBit_and, Nat.testBit_two_pow_mul_add y ha, Nat.testBit_two_pow_mul_add M hp, Nat.testBit_two_pow_mul_add (y &&& M) (i := 8) (Nat.lt_of_le_of_lt Nat.and_le_left ha)]
  split <;> simp [Nat.testBit_and]

def s1 (M x : Nat) : Nat := (x / 2 &&& M) + (x &&& M)
def s2 (M x : Nat) : Nat := (x / 4 &&& M) + (x &&& M)
def s3 (M x : Nat) : Nat := (x / 16 + x) &&& M
theorem s1_low : ∀ a : Fin 256, ∀ b : Fin 2, ((a.val / 2 + 128 * b.val) &&& 0x55) = (a.val / 2 &&& 0x55) := by decide +kernel
theorem s2_low : ∀ a : Fin 256, ∀ b : Fin 4, ((a.val / 4 + 64 * b.val) &&& 0x33) = (a.val / 4 &&& 0x33) := by decide +kernel
theorem s3_low : ∀ a : Fin 69, ∀ b : Fin 5, ((a.val / 16 + a.val + 16 * b.val) &&& 0x0f) = ((a.val / 16 + a.val) &&& 0x0f) := by decide +kernel
theorem s1_peel (M a y : Nat) (ha : a < 256) : s1 (0x55 + 256 * M) (a + 256 * y) = s1 0x55 a + 256 * s1 M y := by
  have e : (a + 256 * y) / 2 = (a / 2 + 128 * (y % 2)) + 256 * (y / 2) := by omega
  have h := s1_low ⟨a, ha⟩ ⟨y % 2, by omega⟩
  simp only at h
  unfold s1
  rw [e, and_peel _ _ _ _ (by omega) (by decide), and_peel _ _ _ _ ha (by decide), h]
  omega
theorem s2_peel (M a y : Nat) (ha : a < 256) : s2 (0x33 + 256 * M) (a + 256 * y) = s2 0x33 a + 256 * s2 M y := by
  have e : (a + 256 * y) / 4 = (a / 4 + 64 * (y % 4)) + 256 * (y / 4) := by omega
  have h := s2_low ⟨a, ha⟩ ⟨y % 4, by omega⟩
  simp only at h
  unfold s2
  rw [e, and_peel _ _ _ _ (by omega) (by decide), and_peel _ _ _ _ ha (by decide), h]
  omega
theorem s3_peel (M a y : Nat) (ha : a < 69) (hy : y % 16 < 5) : s3 (0x0f + 256 * M) (a + 256 * y) = s3 0x0f a + 256 * s3 M y := by
  have e : (a + 256 * y) / 16 + (a + 256 * y) = (a / 16 + a + 16 * (y % 16)) + 256 * (y / 16 + y) := by omega
  have h := s3_low ⟨a, ha⟩ ⟨y % 16, hy⟩
  simp only at h
  unfold s3
  rw [e, and_peel _ _ _ _ (by omega) (by decide), h]
def p8 (a : Nat) : Nat := s3 0x0f (s2 0x33 (s1 0x55 a))
theorem s1_small : ∀ a : Fin 256, s1 0x55 a.val < 256 := by decide +kernel
theorem s2_small : ∀ a : Fin 256, s2 0x33 (s1 0x55 a.val) < 69 ∧ s2 0x33 (s1 0x55 a.val) % 16 < 5 := by decide +kernel
theorem p8_small : ∀ a : Fin 256, p8 a.val ≤ 8 := by decide +kernel
theorem p8_bits : ∀ a : Fin 256, p8 a.val = (a.val.testBit 0).toNat + (a.val.testBit 1).toNat + (a.val.testBit 2).toNat + (a.val.testBit 3).toNat + (a.val.testBit 4).toNat + (a.val.testBit 5).toNat + (a.val.testBit 6).toNat + (a.val.testBit 7).toNat := by decide +kernel
/-- The three steps, byte by byte. -/
def step (M1 M2 M3 x : Nat) : Nat := s3 M3 (s2 M2 (s1 M1 x))
theorem step_peel (M1 M2 M3 a y : Nat) (ha : a < 256) (hy : s2 M2 (s1 M1 y) % 16 < 5) : step (0x55 + 256 * M1) (0x33 + 256 * M2) (0x0f + 256 * M3) (a + 256 * y) = p8 a + 256 * step M1 M2 M3 y := by
  have h1 := s1_small ⟨a, ha⟩
  have h2 := s2_small ⟨a, ha⟩
  unfold step p8
  rw [s1_peel _ _ _ ha, s2_peel _ _ _ h1, s3_peel _ _ _ h2.1 hy]
theorem s12_low (M1 M2 a y : Nat) (ha : a < 256) : s2 (0x33 + 256 * M2) (s1 (0x55 + 256 * M1) (a + 256 * y)) % 16 < 5 := by
  have h1 := s1_small ⟨a, ha⟩
  have h2 := (s2_small ⟨a, ha⟩).2
  rw [s1_peel _ _ _ ha, s2_peel _ _ _ h1]
  omega
def m1 : Nat → Nat
  | 0 => 0
  | k + 1 => 0x55 + 256 * m1 k
def m2 : Nat → Nat
  | 0 => 0
  | k + 1 => 0x33 + 256 * m2 k
def m3 : Nat → Nat
  | 0 => 0
  | k + 1 => 0x0f + 256 * m3 k
theorem low_ok (k : Nat) (x : Nat) : s2 (m2 k) (s1 (m1 k) x) % 16 < 5 := by
  cases k with
  | zero => simp [m1, m2, s1, s2]
  | succ k =>
    have e : x = x % 256 + 256 * (x / 256) := by omega
    rw [e]
    exact s12_low _ _ _ _ (by omega)
/-- The bytes' counts, byte by byte. -/
def spread : Nat → Nat → Nat
  | 0, _ => 0
  | k + 1, x => p8 (x % 256) + 256 * spread k (x / 256)
theorem step_spread (k x : Nat) : step (m1 k) (m2 k) (m3 k) x = spread k x := by
  induction k generalizing x with
  | zero => simp [step, m1, m2, m3, s1, s2, s3, spread]
  | succ k ih =>
    have e : x = x % 256 + 256 * (x / 256) := by omega
    show step (0x55 + 256 * m1 k) (0x33 + 256 * m2 k) (0x0f + 256 * m3 k) x = p8 (x % 256) + 256 * spread k (x / 256)
    rw [← ih (x / 256)]
    conv => lhs; rw [e]
    exact step_peel _ _ _ _ _ (by omega) (low_ok k _)
/-- How many of the first n are. -/
def cnt (f : Nat → Bool) : Nat → Nat
  | 0 => 0
  | n + 1 => cnt f n + (f n).toNat
theorem cnt_le (f : Nat → Bool) (n : Nat) : cnt f n ≤ n := by
  induction n with
  | zero => exact Nat.le_refl _
  | succ n ih => unfold cnt; have : (f n).toNat ≤ 1 := by cases f n <;> decide
                 omega
def byteOf (f : Nat → Bool) (b : Nat) : Nat := (f b).toNat + (f (b + 1)).toNat + (f (b + 2)).toNat + (f (b + 3)).toNat + (f (b + 4)).toNat + (f (b + 5)).toNat + (f (b + 6)).toNat + (f (b + 7)).toNat
theorem cnt_byte (f : Nat → Bool) (n : Nat) : cnt f (n + 8) = cnt f n + byteOf f n := by
  simp only [cnt, byteOf]; omega
theorem p8_at (f : Nat → Bool) (x k : Nat) (hk : k < 8) (hx : ∀ i, i < 64 → x.testBit i = f i) : p8 (x / 256 ^ k % 256) = byteOf f (8 * k) := by
  have h := p8_bits ⟨x / 256 ^ k % 256, by omega⟩
  simp only at h
  have e : ∀ j, j < 8 → (x / 256 ^ k % 256).testBit j = f (8 * k + j) := by
    intro j hj
    rw [show (256 : Nat) = 2 ^ 8 from rfl, ← Nat.pow_mul, Nat.testBit_mod_two_pow, Nat.testBit_div_two_pow]
    rw [hx _ (by omega)]
    have : j + 8 * k = 8 * k + j := by omega
    simp [hj, this]
  rw [h, e 0 (by omega), e 1 (by omega), e 2 (by omega), e 3 (by omega), e 4 (by omega), e 5 (by omega), e 6 (by omega), e 7 (by omega)]
  rfl
theorem spread8 (x : Nat) : spread 8 x = p8 (x % 256) + 256 * p8 (x / 256 % 256) + 256 ^ 2 * p8 (x / 256 ^ 2 % 256) + 256 ^ 3 * p8 (x / 256 ^ 3 % 256) + 256 ^ 4 * p8 (x / 256 ^ 4 % 256) + 256 ^ 5 * p8 (x / 256 ^ 5 % 256) + 256 ^ 6 * p8 (x / 256 ^ 6 % 256) + 256 ^ 7 * p8 (x / 256 ^ 7 % 256) := by
  simp only [spread, Nat.div_div_eq_div_mul]
  simp only [show (256 * 256 : Nat) = 256 ^ 2 from rfl, show (256 ^ 2 * 256 : Nat) = 256 ^ 3 from rfl, show (256 ^ 3 * 256 : Nat) = 256 ^ 4 from rfl, show (256 ^ 4 * 256 : Nat) = 256 ^ 5 from rfl, show (256 ^ 5 * 256 : Nat) = 256 ^ 6 from rfl, show (256 ^ 6 * 256 : Nat) = 256 ^ 7 from rfl]
  omega
/-- What is behind the three steps. -/
def fold3 (x : Nat) : Nat := (x + x / 256 + (x + x / 256) / 65536 + (x + x / 256 + (x + x / 256) / 65536) / 4294967296) % 128
theorem fold3_sum (a b c d e f g h : Nat) (h0 : a ≤ 8) (h1 : b ≤ 8) (h2 : c ≤ 8) (h3 : d ≤ 8) (h4 : e ≤ 8) (h5 : f ≤ 8) (h6 : g ≤ 8) (h7 : h ≤ 8) :
    fold3 (a + 256 * b + 256 ^ 2 * c + 256 ^ 3 * d + 256 ^ 4 * e + 256 ^ 5 * f + 256 ^ 6 * g + 256 ^ 7 * h) = a + b + c + d + e + f + g + h := by
  have e1 : (a + 256 * b + 256 ^ 2 * c + 256 ^ 3 * d + 256 ^ 4 * e + 256 ^ 5 * f + 256 ^ 6 * g + 256 ^ 7 * h) + (a + 256 * b + 256 ^ 2 * c + 256 ^ 3 * d + 256 ^ 4 * e + 256 ^ 5 * f + 256 ^ 6 * g + 256 ^ 7 * h) / 256
    = (a + b) + 256 * (b + c) + 256 ^ 2 * (c + d) + 256 ^ 3 * (d + e) + 256 ^ 4 * (e + f) + 256 ^ 5 * (f + g) + 256 ^ 6 * (g + h) + 256 ^ 7 * h := by omega
  unfold fold3
  rw [e1]
  clear e1
  have e2 : ((a + b) + 256 * (b + c) + 256 ^ 2 * (c + d) + 256 ^ 3 * (d + e) + 256 ^ 4 * (e + f) + 256 ^ 5 * (f + g) + 256 ^ 6 * (g + h) + 256 ^ 7 * h) / 65536
    = (c + d) + 256 * (d + e) + 256 ^ 2 * (e + f) + 256 ^ 3 * (f + g) + 256 ^ 4 * (g + h) + 256 ^ 5 * h := by omega
  rw [e2]
  clear e2
  have e3 : ((a + b) + 256 * (b + c) + 256 ^ 2 * (c + d) + 256 ^ 3 * (d + e) + 256 ^ 4 * (e + f) + 256 ^ 5 * (f + g) + 256 ^ 6 * (g + h) + 256 ^ 7 * h) + ((c + d) + 256 * (d + e) + 256 ^ 2 * (e + f) + 256 ^ 3 * (f + g) + 256 ^ 4 * (g + h) + 256 ^ 5 * h)
    = (a + b + c + d) + 256 * (b + c + d + e) + 256 ^ 2 * (c + d + e + f) + 256 ^ 3 * (d + e + f + g) + 256 ^ 4 * (e + f + g + h) + 256 ^ 5 * (f + g + h) + 256 ^ 6 * (g + h) + 256 ^ 7 * h := by omega
  rw [e3]
  clear e3
  have e4 : ((a + b + c + d) + 256 * (b + c + d + e) + 256 ^ 2 * (c + d + e + f) + 256 ^ 3 * (d + e + f + g) + 256 ^ 4 * (e + f + g + h) + 256 ^ 5 * (f + g + h) + 256 ^ 6 * (g + h) + 256 ^ 7 * h) / 4294967296
    = (e + f + g + h) + 256 * (f + g + h) + 256 ^ 2 * (g + h) + 256 ^ 3 * h := by omega
  rw [e4]
  clear e4
  omega
theorem pop_cnt (f : Nat → Bool) (x : Nat) (hx : ∀ i, i < 64 → x.testBit i = f i) : fold3 (spread 8 x) = cnt f 64 := by
  have q := fun k (hk : k < 8) => p8_at f x k hk hx
  have l := fun n : Nat => p8_small ⟨n % 256, by omega⟩
  simp only at l
  rw [spread8, fold3_sum _ _ _ _ _ _ _ _ (l _) (l _) (l _) (l _) (l _) (l _) (l _) (l _)]
  have q0 := q 0 (by decide)
  have q1 := q 1 (by decide)
  simp only [Nat.pow_zero, Nat.div_one, Nat.pow_one] at q0 q1
  rw [q0, q1, q 2 (by decide), q 3 (by decide), q 4 (by decide), q 5 (by decide), q 6 (by decide), q 7 (by decide)]
  have c : cnt f 64 = cnt f 0 + byteOf f 0 + byteOf f 8 + byteOf f 16 + byteOf f 24 + byteOf f 32 + byteOf f 40 + byteOf f 48 + byteOf f 56 := by
    rw [cnt_byte f 56, cnt_byte f 48, cnt_byte f 40, cnt_byte f 32, cnt_byte f 24, cnt_byte f 16, cnt_byte f 8, cnt_byte f 0]
  rw [c]
  simp [cnt]

theorem wrap_nat (x : Nat) (h : x < 2 ^ 64) : IntKind.u64.wrap (x : Int) = x := by
  simp only [IntKind.wrap, IntKind.signed, IntKind.bits]
  simp
  omega
theorem u64_and (x y : Nat) (hx : x < 2 ^ 64) (hy : y < 2 ^ 64) : bits BinOp.and IntKind.u64 (x : Int) (y : Int) = ((x &&& y : Nat) : Int) := by
  have h2 : bits BinOp.and IntKind.u64 (x : Int) (y : Int) = IntKind.u64.wrap ((BitVec.ofInt 64 (x : Int) &&& BitVec.ofInt 64 (y : Int)).toNat : Int) := rfl
  have h1 : (BitVec.ofInt 64 (x : Int) &&& BitVec.ofInt 64 (y : Int)).toNat = x &&& y := by
    rw [BitVec.toNat_and, BitVec.ofInt_natCast, BitVec.ofInt_natCast, BitVec.toNat_ofNat, BitVec.toNat_ofNat, Nat.mod_eq_of_lt hx, Nat.mod_eq_of_lt hy]
  rw [h2, h1, wrap_nat _ (Nat.lt_of_le_of_lt Nat.and_le_left hx)]
theorem i64_and (x y : Nat) (hx : x < 2 ^ 63) (hy : y < 2 ^ 63) : bits BinOp.and IntKind.i64 (x : Int) (y : Int) = ((x &&& y : Nat) : Int) := by
  have h2 : bits BinOp.and IntKind.i64 (x : Int) (y : Int) = IntKind.i64.wrap ((BitVec.ofInt 64 (x : Int) &&& BitVec.ofInt 64 (y : Int)).toNat : Int) := rfl
  have h1 : (BitVec.ofInt 64 (x : Int) &&& BitVec.ofInt 64 (y : Int)).toNat = x &&& y := by
    rw [BitVec.toNat_and, BitVec.ofInt_natCast, BitVec.ofInt_natCast, BitVec.toNat_ofNat, BitVec.toNat_ofNat, Nat.mod_eq_of_lt (by omega), Nat.mod_eq_of_lt (by omega)]
  have h3 : x &&& y ≤ x := Nat.and_le_left
  rw [h2, h1]
  simp only [IntKind.wrap, IntKind.signed, IntKind.bits]
  simp
  omega
theorem spread_lt (x : Nat) : spread 8 x ≤ 0x0808080808080808 := by
  have l := fun n : Nat => p8_small ⟨n % 256, by omega⟩
  simp only at l
  rw [spread8]
  have l0 := l x
  have l1 := l (x / 256)
  have l2 := l (x / 256 ^ 2)
  have l3 := l (x / 256 ^ 3)
  have l4 := l (x / 256 ^ 4)
  have l5 := l (x / 256 ^ 5)
  have l6 := l (x / 256 ^ 6)
  have l7 := l (x / 256 ^ 7)
  omega
theorem step_lt (x : Nat) (h : x < 2 ^ 64) : s1 (m1 8) x < 2 ^ 64 ∧ s2 (m2 8) (s1 (m1 8) x) < 2 ^ 63 := by
  have a1 : x / 2 &&& m1 8 ≤ m1 8 := Nat.and_le_right
  have a2 : x &&& m1 8 ≤ m1 8 := Nat.and_le_right
  have e1 : m1 8 = 6148914691236517205 := by decide
  have e2 : m2 8 = 3689348814741910323 := by decide
  have b1 : s1 (m1 8) x / 4 &&& m2 8 ≤ m2 8 := Nat.and_le_right
  have b2 : s1 (m1 8) x &&& m2 8 ≤ m2 8 := Nat.and_le_right
  constructor
  · unfold s1; omega
  · unfold s2; omega
set_option maxRecDepth 100000 in
set_option maxHeartbeats 4000000 in
theorem ones_walk (f : Nat → Bool) (x : Nat) (hx : x < 2 ^ 64) (hb : ∀ i, i < 64 → x.testBit i = f i) (w : World) : Calls Tryd.prog 23 #[.int .u64 (x : Int)] w fun e w' => e = .returned (.int .i64 (cnt f 64 : Nat)) ∧ w = w' := by
  have H := pop_cnt f x hb
  have L := cnt_le f 64
  clear hb
  generalize cnt f 64 = c at *
  rw [← step_spread] at H
  have hs := spread_lt x
  rw [← step_spread] at hs
  obtain ⟨q1, q2⟩ := step_lt x hx
  have e1 : m1 8 = 6148914691236517205 := by decide
  have e2 : m2 8 = 3689348814741910323 := by decide
  have e3 : m3 8 = 1085102592571150095 := by decide
  unfold step at H hs
  obtain ⟨X1, hX1⟩ : ∃ X1, X1 = s1 (m1 8) x := ⟨_, rfl⟩
  rw [← hX1] at H hs q1 q2
  obtain ⟨X2, hX2⟩ : ∃ X2, X2 = s2 (m2 8) X1 := ⟨_, rfl⟩
  rw [← hX2] at H hs q2
  obtain ⟨X3, hX3⟩ : ∃ X3, X3 = s3 (m3 8) X2 := ⟨_, rfl⟩
  rw [← hX3] at H hs
  unfold s1 at hX1
  unfold s2 at hX2
  unfold s3 at hX3
  rw [e1] at hX1
  rw [e2] at hX2
  rw [e3] at hX3
  clear e1 e2 e3
  have f1 : bits .and .u64 ((x : Int) / 2) 6148914691236517205 = ((x / 2 &&& 6148914691236517205 : Nat) : Int) := u64_and (x / 2) 6148914691236517205 (by omega) (by decide)
  have f2 : bits .and .u64 (x : Int) 6148914691236517205 = ((x &&& 6148914691236517205 : Nat) : Int) := u64_and x 6148914691236517205 hx (by decide)
  have f3 : IntKind.u64.wrap (((x / 2 &&& 6148914691236517205 : Nat) : Int) + ((x &&& 6148914691236517205 : Nat) : Int)) = (X1 : Int) := by
    rw [← Int.natCast_add, ← hX1, wrap_nat _ q1]
  have f4 : bits .and .u64 ((X1 : Int) / 4) 3689348814741910323 = ((X1 / 4 &&& 3689348814741910323 : Nat) : Int) := u64_and (X1 / 4) 3689348814741910323 (by omega) (by decide)
  have f5 : bits .and .u64 (X1 : Int) 3689348814741910323 = ((X1 &&& 3689348814741910323 : Nat) : Int) := u64_and X1 3689348814741910323 q1 (by decide)
  have f6 : IntKind.u64.wrap (((X1 / 4 &&& 3689348814741910323 : Nat) : Int) + ((X1 &&& 3689348814741910323 : Nat) : Int)) = (X2 : Int) := by
    rw [← Int.natCast_add, ← hX2, wrap_nat _ (by omega)]
  obtain ⟨Y, hY⟩ : ∃ Y, Y = X2 / 16 + X2 := ⟨_, rfl⟩
  rw [← hY] at hX3
  have f7 : IntKind.u64.wrap ((X2 : Int) / 16 + (X2 : Int)) = (Y : Int) := by
    have : (X2 : Int) / 16 + (X2 : Int) = (Y : Int) := by omega
    rw [this, wrap_nat _ (by omega)]
  have f8 : bits .and .u64 (Y : Int) 1085102592571150095 = (X3 : Int) := by
    rw [hX3]; exact u64_and Y 1085102592571150095 (by omega) (by decide)
  obtain ⟨X4, hX4⟩ : ∃ X4, X4 = X3 + X3 / 256 := ⟨_, rfl⟩
  obtain ⟨X5, hX5⟩ : ∃ X5, X5 = X4 + X4 / 65536 := ⟨_, rfl⟩
  obtain ⟨X6, hX6⟩ : ∃ X6, X6 = X5 + X5 / 4294967296 := ⟨_, rfl⟩
  have f9 : IntKind.u64.wrap ((X3 : Int) + (X3 : Int) / 256) = (X4 : Int) := by
    have : (X3 : Int) + (X3 : Int) / 256 = (X4 : Int) := by omega
    rw [this, wrap_nat _ (by omega)]
  have f10 : IntKind.u64.wrap ((X4 : Int) + (X4 : Int) / 65536) = (X5 : Int) := by
    have : (X4 : Int) + (X4 : Int) / 65536 = (X5 : Int) := by omega
    rw [this, wrap_nat _ (by omega)]
  have f11 : IntKind.u64.wrap ((X5 : Int) + (X5 : Int) / 4294967296) = (X6 : Int) := by
    have : (X5 : Int) + (X5 : Int) / 4294967296 = (X6 : Int) := by omega
    rw [this, wrap_nat _ (by omega)]
  have f12 : bits .and .i64 (X6 : Int) 127 = (c : Int) := by
    rw [show (127 : Int) = ((127 : Nat) : Int) from rfl, i64_and X6 127 (by omega) (by decide)]
    congr 1
    rw [show (127 : Nat) = 2 ^ 7 - 1 from rfl, Nat.and_two_pow_sub_one_eq_mod, ← H]
    unfold fold3
    rw [← hX4, ← hX5, ← hX6]
  have f13 : wrap64 (X6 : Int) = X6 := by unfold wrap64; omega
  clear H hs hX1 hX2 hX3 hX4 hX5 hX6 hY q1 q2 L hx
  go_enter Tryd.func23, Tryd.ntmps23
  go_wp2_with (first | simp only [f1] | simp only [f2] | simp only [f3] | simp only [f4] | simp only [f5] | simp only [f6] | simp only [f7] | simp only [f8] | simp only [f9] | simp only [f10] | simp only [f11] | simp only [f12] | simp only [f13])
  all_goals (go_ret; exact ⟨rfl, rfl⟩)
end Go.Proofs.YthhhcfipmeganaaDoor.Rd
