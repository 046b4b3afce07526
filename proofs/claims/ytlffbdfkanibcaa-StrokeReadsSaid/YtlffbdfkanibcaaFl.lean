/-
  Whole numbers as floats: what the model's double format gives on whole numbers below 2^53. Plain laws. No condition.
-/
import Derived.WalkLawsBesides
namespace Go.Proofs.Ytlffbdfkanibcaa.Fl
open Ieee

/-- The word of a whole number. -/
def I (n : Int) : Nat := double.nearest (decide (n < 0)) n.natAbs 0

theorem I_def (n : Int) : I n = FloatKind.f64.nearest n := rfl
theorem leastPlace_d : double.leastPlace = -1074 := by decide
theorem binade_d : double.binade = 2 ^ 52 := by decide
theorem infRung_d : double.infRung = 2047 * 2 ^ 52 := by decide
theorem sign_d : double.signWeight = 2 ^ 63 := by decide

theorem log2_shift (k j : Nat) (hk : 0 < k) : (k * 2 ^ j).log2 = k.log2 + j := by
  have h0 : k * 2 ^ j ≠ 0 := Nat.mul_ne_zero (by omega) (Nat.pos_iff_ne_zero.1 (Nat.two_pow_pos j))
  refine (Nat.log2_eq_iff h0).2 ⟨?_, ?_⟩
  · rw [Nat.pow_add]
    exact Nat.mul_le_mul_right _ (Nat.log2_self_le (by omega))
  · have : k < 2 ^ (k.log2 + 1) := Nat.lt_log2_self
    calc k * 2 ^ j < 2 ^ (k.log2 + 1) * 2 ^ j := Nat.mul_lt_mul_of_pos_right this (Nat.two_pow_pos j)
      _ = 2 ^ (k.log2 + j + 1) := by rw [← Nat.pow_add]; congr 1; omega

theorem cut_even_exact (s : Bool) (k d : Nat) (hk : 0 < k) : Toward.even.cut s (k * 2 ^ d) d = k := by
  have hl := log2_shift k d hk
  have hm : min d ((k * 2 ^ d).log2 + 2) = d := by rw [hl]; omega
  have hp : 0 < 2 ^ d := Nat.two_pow_pos d
  unfold Toward.cut
  simp only [hm, Nat.one_shiftLeft, Nat.mul_mod_left, Nat.mul_div_cancel _ hp]
  have h1 : (decide (2 ^ d < 2 * 0) || ((2 ^ d) == 2 * 0 && k % 2 == 1)) = false := by
    have : ¬ (2 ^ d < 2 * 0) := by omega
    have h3 : ((2 ^ d) == 2 * 0) = false := by rw [beq_eq_false_iff_ne]; omega
    simp only [this, decide_false, h3, Bool.false_and, Bool.or_false]
  rw [h1]; rfl

theorem log2_le52 (k : Nat) (hk : k < 2 ^ 53) : k.log2 ≤ 52 := by
  by_cases h : k = 0
  · subst h; decide
  · have := (Nat.log2_lt h).2 hk; omega

theorem big_of (k : Nat) (hk0 : 0 < k) (hk : k < 2 ^ 53) : 2 ^ 52 ≤ k * 2 ^ (52 - k.log2) ∧ k * 2 ^ (52 - k.log2) < 2 ^ 53 := by
  have hL := log2_le52 k hk
  constructor
  · calc 2 ^ 52 = 2 ^ k.log2 * 2 ^ (52 - k.log2) := by rw [← Nat.pow_add]; congr 1; omega
      _ ≤ _ := Nat.mul_le_mul_right _ (Nat.log2_self_le (by omega))
  · calc k * 2 ^ (52 - k.log2) < 2 ^ (k.log2 + 1) * 2 ^ (52 - k.log2) := Nat.mul_lt_mul_of_pos_right Nat.lt_log2_self (Nat.two_pow_pos _)
      _ = 2 ^ 53 := by rw [← Nat.pow_add]; congr 1; omega

theorem nearest_whole (s : Bool) (k j : Nat) (hk0 : 0 < k) (hk : k < 2 ^ 53) :
    double.nearest s (k * 2 ^ j) (-(j : Int)) = double.word s ((k.log2 + 1022) * 2 ^ 52 + k * 2 ^ (52 - k.log2)) := by
  have hL := log2_le52 k hk
  have hl := log2_shift k j hk0
  have hb := big_of k hk0 hk
  have h0 : k * 2 ^ j ≠ 0 := Nat.mul_ne_zero (by omega) (Nat.pos_iff_ne_zero.1 (Nat.two_pow_pos j))
  unfold Format.nearest
  rw [if_neg h0]
  have hf : double.fractionBits = 52 := rfl
  have hlast : max (-(j : Int) + ((k * 2 ^ j).log2 : Nat) - (double.fractionBits : Nat)) double.leastPlace = (k.log2 : Int) - 52 := by
    rw [hl, leastPlace_d, hf]; omega
  simp only [hlast]
  have hcut : Toward.even.cut s ((k * 2 ^ j) <<< (-(j : Int) - ((k.log2 : Int) - 52)).toNat) (((k.log2 : Int) - 52) - -(j : Int)).toNat = k * 2 ^ (52 - k.log2) := by
    rw [Nat.shiftLeft_eq]
    by_cases hj : j ≤ 52 - k.log2
    · have e1 : (-(j : Int) - ((k.log2 : Int) - 52)).toNat = 52 - k.log2 - j := by omega
      have e2 : (((k.log2 : Int) - 52) - -(j : Int)).toNat = 0 := by omega
      rw [e1, e2, Nat.mul_assoc, ← Nat.pow_add]
      have e3 : j + (52 - k.log2 - j) = 52 - k.log2 := by omega
      rw [e3]
      have := cut_even_exact s (k * 2 ^ (52 - k.log2)) 0 (by omega)
      simpa using this
    · have e1 : (-(j : Int) - ((k.log2 : Int) - 52)).toNat = 0 := by omega
      have e2 : (((k.log2 : Int) - 52) - -(j : Int)).toNat = j - (52 - k.log2) := by omega
      rw [e1, e2]
      have e3 : k * 2 ^ j * 2 ^ 0 = (k * 2 ^ (52 - k.log2)) * 2 ^ (j - (52 - k.log2)) := by
        rw [Nat.mul_assoc, Nat.mul_assoc, ← Nat.pow_add, ← Nat.pow_add]; congr 2; omega
      rw [e3]
      exact cut_even_exact s _ _ (by omega)
  rw [hcut]
  have e4 : ((k.log2 : Int) - 52 - double.leastPlace).toNat = k.log2 + 1022 := by rw [leastPlace_d]; omega
  rw [e4, binade_d, infRung_d]
  congr 1
  have : (k.log2 + 1022) * 2 ^ 52 ≤ 1074 * 2 ^ 52 := Nat.mul_le_mul_right _ (by omega)
  omega

theorem read_word (s : Bool) (L M : Nat) (hL : L ≤ 52) (h1 : 2 ^ 52 ≤ M) (h2 : M < 2 ^ 53) :
    double.read (double.word s ((L + 1022) * 2 ^ 52 + M)) = .number s M (-((52 - L : Nat) : Int)) := by
  have hR : (L + 1022) * 2 ^ 52 + M < 2047 * 2 ^ 52 := by
    have : (L + 1022) * 2 ^ 52 ≤ 1074 * 2 ^ 52 := Nat.mul_le_mul_right _ (by omega)
    omega
  have hmod : ∀ s, double.word s ((L + 1022) * 2 ^ 52 + M) % 2 ^ 63 = (L + 1022) * 2 ^ 52 + M := by
    intro s; unfold Format.word; rw [sign_d]; cases s <;> simp <;> omega
  have hdiv : ∀ s, (double.word s ((L + 1022) * 2 ^ 52 + M) / 2 ^ 63 % 2 == 1) = s := by
    intro s; unfold Format.word; rw [sign_d]; cases s
    · simp only [Bool.false_eq_true, if_false, beq_eq_false_iff_ne]; omega
    · simp only [if_true, beq_iff_eq]; omega
  unfold Format.read
  simp only [sign_d, hmod, hdiv, binade_d, infRung_d, leastPlace_d]
  have hge : ¬ ((L + 1022) * 2 ^ 52 + M < 2 ^ 52) := by omega
  rw [if_neg hge, if_pos hR]
  have e1 : ((L + 1022) * 2 ^ 52 + M) % 2 ^ 52 = M - 2 ^ 52 := by omega
  have e2 : ((L + 1022) * 2 ^ 52 + M) / 2 ^ 52 = L + 1023 := by omega
  rw [e1, e2]
  have e3 : 2 ^ 52 + (M - 2 ^ 52) = M := by omega
  have e4 : (-1074 : Int) + ((L + 1023 - 1 : Nat) : Int) = -((52 - L : Nat) : Int) := by omega
  rw [e3, e4]

/-- What a word stands for: a whole number. -/
structure Rep (x : Nat) (n : Int) (s : Bool) (p : Nat) : Prop where
  read : double.read x = .number s (n.natAbs * 2 ^ p) (-(p : Int))
  neg : n < 0 → s = true
  pos : 0 < n → s = false

theorem read_I (n : Int) (hn : n ≠ 0) (h : n.natAbs < 2 ^ 53) : Rep (I n) n (decide (n < 0)) (52 - n.natAbs.log2) := by
  have h0 : 0 < n.natAbs := by omega
  have hb := big_of _ h0 h
  have hL := log2_le52 _ h
  refine ⟨?_, by intro h; simp [h], by intro h; simp; omega⟩
  have := nearest_whole (decide (n < 0)) n.natAbs 0 h0 h
  simp only [Nat.pow_zero, Nat.mul_one, Int.natCast_zero, Int.neg_zero] at this
  unfold I
  rw [this, read_word _ _ _ hL hb.1 hb.2]

theorem I_zero : I 0 = 0 := by decide
theorem read_zero (s : Bool) : Rep (if s then 2 ^ 63 else 0) 0 s 1074 := by
  cases s
  · exact ⟨by decide +kernel, by intro h; exact absurd h (by decide), by intro h; exact absurd h (by decide)⟩
  · exact ⟨by decide +kernel, by intro h; exact absurd h (by decide), by intro h; exact absurd h (by decide)⟩

/-- x stands for n; a nought may bear a sign. -/
def Is (x : Nat) (n : Int) : Prop := x = I n ∨ (n = 0 ∧ x = 2 ^ 63)

theorem Is.I (n : Int) : Is (I n) n := .inl rfl

theorem Is.rep {x : Nat} {n : Int} (h : Is x n) (hn : n.natAbs < 2 ^ 53) : ∃ s p, Rep x n s p := by
  rcases h with rfl | ⟨rfl, rfl⟩
  · by_cases h0 : n = 0
    · subst h0
      rw [I_zero]
      exact ⟨_, _, read_zero false⟩
    · exact ⟨_, _, read_I n h0 hn⟩
  · exact ⟨_, _, read_zero true⟩

/-- The same, with the sign of a nought: +0 where it is the number's own word. -/
theorem rep_I (n : Int) (hn : n.natAbs < 2 ^ 53) : ∃ p, Rep (I n) n (decide (n < 0)) p := by
  by_cases h0 : n = 0
  · subst h0
    rw [I_zero]
    exact ⟨_, read_zero false⟩
  · exact ⟨_, read_I n h0 hn⟩

theorem write_whole (s : Bool) (n : Int) (p : Nat) (hn : n.natAbs < 2 ^ 53) (hneg : n < 0 → s = true) (hpos : 0 < n → s = false) :
    double.write (.number s (n.natAbs * 2 ^ p) (-(p : Int))) = if n = 0 then (if s then 2 ^ 63 else 0) else I n := by
  by_cases h0 : n = 0
  · subst h0
    simp only [if_true]
    show double.nearest s (0 * 2 ^ p) _ = _
    rw [Nat.zero_mul]
    unfold Format.nearest Format.word
    rw [if_pos rfl, sign_d]
  · rw [if_neg h0]
    show double.nearest s _ _ = _
    rw [nearest_whole s _ p (by omega) hn]
    have h1 := nearest_whole s n.natAbs 0 (by omega) hn
    have hs : s = decide (n < 0) := by
      rcases Int.lt_or_gt_of_ne h0 with h | h
      · rw [hneg h]; simp [h]
      · rw [hpos h]; have : ¬ n < 0 := by omega
        simp [this]
    rw [← h1, hs]
    simp [I]

theorem write_is (s : Bool) (n : Int) (p : Nat) (hn : n.natAbs < 2 ^ 53) (hneg : n < 0 → s = true) (hpos : 0 < n → s = false) :
    Is (double.write (.number s (n.natAbs * 2 ^ p) (-(p : Int)))) n := by
  rw [write_whole s n p hn hneg hpos]
  split
  · rename_i h
    subst h
    cases s
    · exact .inl I_zero.symm
    · exact .inr ⟨rfl, rfl⟩
  · exact .inl rfl

theorem signed_of {n : Int} {s : Bool} {p : Nat} (hneg : n < 0 → s = true) (hpos : 0 < n → s = false) (u : Nat) : signed s (n.natAbs * 2 ^ p) u = n * 2 ^ (p + u) := by
  unfold signed
  rw [Nat.shiftLeft_eq, Nat.mul_assoc, ← Nat.pow_add]
  have hc : ((2 ^ (p + u) : Nat) : Int) = 2 ^ (p + u) := by norm_cast
  by_cases h0 : n = 0
  · subst h0; cases s <;> simp
  · rcases Int.lt_or_gt_of_ne h0 with h | h
    · rw [hneg h, if_pos rfl, Int.natCast_mul, hc, show ((n.natAbs : Nat) : Int) = -n by omega, Int.neg_mul, Int.neg_neg]
    · rw [hpos h]
      simp only [Bool.false_eq_true, if_false]
      rw [Int.natCast_mul, hc, show ((n.natAbs : Nat) : Int) = n by omega]

theorem natAbs_scale (n : Int) (m : Nat) : (n * 2 ^ m).natAbs = n.natAbs * 2 ^ m := by
  rw [Int.natAbs_mul, Int.natAbs_pow]; rfl

theorem scale_eq_zero (n : Int) (m : Nat) : n * 2 ^ m = 0 ↔ n = 0 := by
  constructor
  · intro h
    rcases Int.mul_eq_zero.1 h with h | h
    · exact h
    · exact absurd h (Int.ne_of_gt (Int.pow_pos (by decide)))
  · rintro rfl; simp

theorem scale_neg (n : Int) (m : Nat) : n * 2 ^ m < 0 ↔ n < 0 := by
  have hp : (0 : Int) < 2 ^ m := Int.pow_pos (by decide)
  constructor
  · intro h
    by_cases c : n < 0
    · exact c
    · exact absurd (Int.mul_nonneg (by omega : (0:Int) ≤ n) (Int.le_of_lt hp)) (by omega)
  · intro h
    exact Int.mul_neg_of_neg_of_pos h hp

/-- The sum of what two words stand for, ahead of the writing. -/
theorem sum_rep {a b : Int} {s t : Bool} {p q : Nat} (ha : a < 0 → s = true) (ha' : 0 < a → s = false) (hb : b < 0 → t = true) (hb' : 0 < b → t = false) :
    ∃ u : Bool, Datum.sum (.number s (a.natAbs * 2 ^ p) (-(p : Int))) (.number t (b.natAbs * 2 ^ q) (-(q : Int))) = some (.number u ((a + b).natAbs * 2 ^ (max p q)) (-((max p q : Nat) : Int)))
      ∧ (a + b < 0 → u = true) ∧ (0 < a + b → u = false) ∧ (a + b = 0 → u = (s && t)) := by
  have hbase : min (-(p : Int)) (-(q : Int)) = -((max p q : Nat) : Int) := by omega
  have e1 : (-(p : Int) - -((max p q : Nat) : Int)).toNat = max p q - p := by omega
  have e2 : (-(q : Int) - -((max p q : Nat) : Int)).toNat = max p q - q := by omega
  have htot : signed s (a.natAbs * 2 ^ p) (max p q - p) + signed t (b.natAbs * 2 ^ q) (max p q - q) = (a + b) * 2 ^ (max p q) := by
    rw [signed_of ha ha', signed_of hb hb', show p + (max p q - p) = max p q by omega, show q + (max p q - q) = max p q by omega, Int.add_mul]
  refine ⟨if (a + b) * 2 ^ (max p q) = 0 then s && t else decide ((a + b) * 2 ^ (max p q) < 0), ?_, ?_, ?_, ?_⟩
  · simp only [Datum.sum, hbase, e1, e2, htot, natAbs_scale]
  · intro h
    have h1 : ¬ ((a + b) * 2 ^ (max p q) = 0) := by rw [scale_eq_zero]; omega
    rw [if_neg h1]
    simpa [scale_neg] using h
  · intro h
    have h1 : ¬ ((a + b) * 2 ^ (max p q) = 0) := by rw [scale_eq_zero]; omega
    rw [if_neg h1]
    simp only [decide_eq_false_iff_not, scale_neg]; omega
  · intro h
    rw [if_pos (by rw [scale_eq_zero]; exact h)]

theorem add_is {x y : Nat} {a b : Int} (hx : Is x a) (hy : Is y b) (ha : a.natAbs < 2 ^ 53) (hb : b.natAbs < 2 ^ 53) (hab : (a + b).natAbs < 2 ^ 53) :
    ∃ r, double.add x y = some r ∧ Is r (a + b) := by
  obtain ⟨s, p, hr⟩ := hx.rep ha
  obtain ⟨t, q, hq⟩ := hy.rep hb
  obtain ⟨u, e, h1, h2, _⟩ := sum_rep (p := p) (q := q) hr.neg hr.pos hq.neg hq.pos
  refine ⟨_, ?_, write_is u (a + b) (max p q) hab h1 h2⟩
  unfold Format.add
  rw [hr.read, hq.read, e]; rfl

/-- With a nought that bears no sign: the number's own word. -/
theorem add_zero {x : Nat} {a : Int} (hx : Is x a) (ha : a.natAbs < 2 ^ 53) : double.add x 0 = some (I a) := by
  obtain ⟨s, p, hr⟩ := hx.rep ha
  have hq := read_zero false
  obtain ⟨u, e, h1, h2, h3⟩ := sum_rep (p := p) (q := 1074) hr.neg hr.pos hq.neg hq.pos
  unfold Format.add
  rw [hr.read, show (0 : Nat) = (if false = true then 2 ^ 63 else 0) from rfl, hq.read, e]
  show some (double.write _) = _
  rw [write_whole u (a + 0) _ (by simpa using ha) h1 h2]
  simp only [Int.add_zero] at h3 ⊢
  split
  · rename_i h
    rw [h3 h]
    subst h
    simp [I_zero]
  · rfl

theorem add_I {a b : Int} (ha : a.natAbs < 2 ^ 53) (hb : b.natAbs < 2 ^ 53) (hab : (a + b).natAbs < 2 ^ 53) : double.add (I a) (I b) = some (I (a + b)) := by
  obtain ⟨p, hr⟩ := rep_I a ha
  obtain ⟨q, hq⟩ := rep_I b hb
  obtain ⟨u, e, h1, h2, h3⟩ := sum_rep (p := p) (q := q) hr.neg hr.pos hq.neg hq.pos
  unfold Format.add
  rw [hr.read, hq.read, e]
  show some (double.write _) = _
  rw [write_whole u (a + b) _ hab h1 h2]
  split
  · rename_i h
    rw [h3 h, h]
    have : ¬ (a < 0 ∧ b < 0) := by omega
    by_cases c : a < 0
    · have : ¬ b < 0 := by omega
      simp [this, I_zero]
    · simp [c, I_zero]
  · rfl

theorem sub_I {a b : Int} (ha : a.natAbs < 2 ^ 53) (hb : b.natAbs < 2 ^ 53) (hab : (a - b).natAbs < 2 ^ 53) : double.sub (I a) (I b) = some (I (a - b)) := by
  obtain ⟨p, hr⟩ := rep_I a ha
  obtain ⟨q, hq⟩ := rep_I b hb
  by_cases hb0 : b = 0
  · subst hb0
    have e0 : Datum.opposite (.number (decide ((0 : Int) < 0)) ((0 : Int).natAbs * 2 ^ q) (-(q : Int))) = .number true ((0 : Int).natAbs * 2 ^ q) (-(q : Int)) := rfl
    obtain ⟨u, e, h1, h2, h3⟩ := sum_rep (b := 0) (t := true) (p := p) (q := q) hr.neg hr.pos (by intro h; rfl) (by intro h; exact absurd h (by decide))
    unfold Format.sub
    rw [hr.read, hq.read, e0, e]
    show some (double.write _) = _
    rw [write_whole u (a + 0) _ (by simpa using ha) h1 h2]
    simp only [Int.add_zero, Int.sub_zero] at h3 ⊢
    split
    · rename_i h
      rw [h3 h]
      subst h
      simp [I_zero]
    · rfl
  · have e0 : Datum.opposite (.number (decide (b < 0)) (b.natAbs * 2 ^ q) (-(q : Int))) = .number (!decide (b < 0)) ((-b).natAbs * 2 ^ q) (-(q : Int)) := by
      simp [Datum.opposite, Int.natAbs_neg]
    obtain ⟨u, e, h1, h2, h3⟩ := sum_rep (b := -b) (t := !decide (b < 0)) (p := p) (q := q) hr.neg hr.pos (by intro h; have c : ¬ b < 0 := (by omega); simp [c]) (by intro h; have c : b < 0 := (by omega); simp [c])
    unfold Format.sub
    rw [hr.read, hq.read, e0, e]
    show some (double.write _) = _
    rw [write_whole u (a + -b) _ (by simpa [Int.sub_eq_add_neg] using hab) h1 h2]
    rw [← Int.sub_eq_add_neg] at h3 ⊢
    split
    · rename_i h
      rw [h3 h, h]
      by_cases c : a < 0
      · have : b < 0 := by omega
        simp [this, I_zero]
      · simp [c, I_zero]
    · rfl

theorem sub_is {x y : Nat} {a b : Int} (hx : Is x a) (hy : Is y b) (ha : a.natAbs < 2 ^ 53) (hb : b.natAbs < 2 ^ 53) (hab : (a - b).natAbs < 2 ^ 53) :
    ∃ r, double.sub x y = some r ∧ Is r (a - b) := by
  obtain ⟨s, p, hr⟩ := hx.rep ha
  obtain ⟨t, q, hq⟩ := hy.rep hb
  have e0 : Datum.opposite (.number t (b.natAbs * 2 ^ q) (-(q : Int))) = .number (!t) ((-b).natAbs * 2 ^ q) (-(q : Int)) := by
    simp [Datum.opposite, Int.natAbs_neg]
  obtain ⟨u, e, h1, h2, h3⟩ := sum_rep (b := -b) (t := !t) (p := p) (q := q) hr.neg hr.pos (by intro h; rw [hq.pos (by omega)]; rfl) (by intro h; rw [hq.neg (by omega)]; rfl)
  rw [← Int.sub_eq_add_neg] at e h1 h2
  refine ⟨_, ?_, write_is u (a - b) (max p q) hab h1 h2⟩
  unfold Format.sub
  rw [hr.read, hq.read, e0, e]; rfl

theorem mul_is {x y : Nat} {a b : Int} (hx : Is x a) (hy : Is y b) (ha : a.natAbs < 2 ^ 53) (hb : b.natAbs < 2 ^ 53) (hab : (a * b).natAbs < 2 ^ 53) :
    ∃ r, double.mul x y = some r ∧ Is r (a * b) := by
  obtain ⟨s, p, hr⟩ := hx.rep ha
  obtain ⟨t, q, hq⟩ := hy.rep hb
  have e : Datum.product (.number s (a.natAbs * 2 ^ p) (-(p : Int))) (.number t (b.natAbs * 2 ^ q) (-(q : Int))) = some (.number (s ^^ t) ((a * b).natAbs * 2 ^ (p + q)) (-((p + q : Nat) : Int))) := by
    simp only [Datum.product, Int.natAbs_mul]
    congr 2
    · rw [Nat.pow_add]; ac_rfl
    · omega
  refine ⟨_, ?_, write_is (s ^^ t) (a * b) (p + q) hab ?_ ?_⟩
  · unfold Format.mul
    rw [hr.read, hq.read, e]; rfl
  · intro h
    rcases Int.lt_trichotomy a 0 with h1 | h1 | h1
    · have h2 : 0 < b := by
        by_cases c : 0 < b
        · exact c
        · exact absurd (Int.mul_nonneg_of_nonpos_of_nonpos (by omega : a ≤ 0) (by omega : b ≤ 0)) (by omega)
      rw [hr.neg h1, hq.pos h2]; rfl
    · subst h1; simp at h
    · have h2 : b < 0 := by
        by_cases c : b < 0
        · exact c
        · exact absurd (Int.mul_nonneg (by omega : 0 ≤ a) (by omega : 0 ≤ b)) (by omega)
      rw [hr.pos h1, hq.neg h2]; rfl
  · intro h
    rcases Int.lt_trichotomy a 0 with h1 | h1 | h1
    · have h2 : b < 0 := by
        by_cases c : b < 0
        · exact c
        · exact absurd (Int.mul_nonpos_of_nonpos_of_nonneg (by omega : a ≤ 0) (by omega : 0 ≤ b)) (by omega)
      rw [hr.neg h1, hq.neg h2]; rfl
    · subst h1; simp at h
    · have h2 : 0 < b := by
        by_cases c : 0 < b
        · exact c
        · exact absurd (Int.mul_nonpos_of_nonneg_of_nonpos (by omega : 0 ≤ a) (by omega : b ≤ 0)) (by omega)
      rw [hr.pos h1, hq.pos h2]; rfl

theorem compare_scale (a b : Int) (m : Nat) : compare (a * 2 ^ m) (b * 2 ^ m) = compare a b := by
  have hp : (0 : Int) < 2 ^ m := Int.pow_pos (by decide)
  have h1 : a * 2 ^ m < b * 2 ^ m ↔ a < b := by
    constructor
    · intro h; exact Int.lt_of_mul_lt_mul_right h (Int.le_of_lt hp)
    · intro h; exact Int.mul_lt_mul_of_pos_right h hp
  have h2 : a * 2 ^ m = b * 2 ^ m ↔ a = b := by
    constructor
    · intro h; exact Int.eq_of_mul_eq_mul_right (Int.ne_of_gt hp) h
    · rintro rfl; rfl
  simp only [compare, compareOfLessAndEq, h1, h2]

theorem order_is {x y : Nat} {a b : Int} (hx : Is x a) (hy : Is y b) (ha : a.natAbs < 2 ^ 53) (hb : b.natAbs < 2 ^ 53) : double.order x y = some (compare a b) := by
  obtain ⟨s, p, hr⟩ := hx.rep ha
  obtain ⟨t, q, hq⟩ := hy.rep hb
  have hbase : min (-(p : Int)) (-(q : Int)) = -((max p q : Nat) : Int) := by omega
  have e1 : (-(p : Int) - -((max p q : Nat) : Int)).toNat = max p q - p := by omega
  have e2 : (-(q : Int) - -((max p q : Nat) : Int)).toNat = max p q - q := by omega
  unfold Format.order
  rw [hr.read, hq.read]
  simp only [Datum.order, hbase, e1, e2]
  rw [signed_of hr.neg hr.pos, signed_of hq.neg hq.pos, show p + (max p q - p) = max p q by omega, show q + (max p q - q) = max p q by omega, compare_scale]

theorem cut_zero_exact (s : Bool) (k d : Nat) : Toward.zero.cut s (k * 2 ^ d) d = k := by
  have hp : 0 < 2 ^ d := Nat.two_pow_pos d
  unfold Toward.cut
  by_cases h : k = 0
  · subst h; simp
  · have hl := log2_shift k d (by omega)
    have hm : min d ((k * 2 ^ d).log2 + 2) = d := by rw [hl]; omega
    simp only [hm, Nat.one_shiftLeft, Nat.mul_div_cancel _ hp]
    rfl

/-- Cut towards nought a whole number is itself. -/
theorem trunc_is {x : Nat} {n : Int} (hx : Is x n) (hn : n.natAbs < 2 ^ 53) : ∃ s m p, double.read x = .number s m p ∧ Is (double.write (Datum.integral .zero (.number s m p))) n := by
  obtain ⟨s, p, hr⟩ := hx.rep hn
  refine ⟨_, _, _, hr.read, ?_⟩
  have e1 : (-(p : Int)).toNat = 0 := by omega
  have e2 : (- -(p : Int)).toNat = p := by omega
  simp only [Datum.integral, e1, e2, Nat.shiftLeft_zero, cut_zero_exact]
  have := write_is s n 0 hn hr.neg hr.pos
  simpa using this

theorem I_lt (n : Int) : I n < 2 ^ 64 := double.nearest_lt _ _ _

end Go.Proofs.Ytlffbdfkanibcaa.Fl
