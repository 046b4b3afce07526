/-
  The double operations over rational numbers: sum, difference, product, root, order. Plain laws. No condition.
-/
import Derived.Test.YthhhcfipmeganaaDoorFr
namespace Go.Proofs.YthhhcfipmeganaaDoor.Fr
open Ieee Fl
set_option linter.unusedSimpArgs false
set_option linter.unusedVariables false

theorem abs_vl (s : Bool) (m : Nat) (p : Int) : (vl s m p).abs = vl false m p := by
  cases s
  · exact Rat.abs_of_nonneg (vl_nonneg m p)
  · rw [vl_true, Rat.abs_neg]; exact Rat.abs_of_nonneg (vl_nonneg m p)

theorem vl_low (m : Nat) (p : Int) (hm : 0 < m) : tw (p + m.log2) ≤ vl false m p := by
  rw [vl_false, Int.add_comm, tw_add, tw_nat]
  exact Rat.mul_le_mul_of_nonneg_right (Rat.natCast_le_natCast.2 (Nat.log2_self_le (by omega))) (Rat.le_of_lt (tw_pos p))
theorem vl_high (m : Nat) (p : Int) : vl false m p < tw (p + m.log2 + 1) := by
  rw [vl_false, Int.add_assoc, Int.add_comm, tw_add, show ((m.log2 : Int) + 1) = ((m.log2 + 1 : Nat) : Int) by omega, tw_nat]
  exact Rat.mul_lt_mul_of_pos_right (Rat.natCast_lt_natCast.2 Nat.lt_log2_self) (tw_pos p)

/-- A number written. -/
theorem round_val (s : Bool) (m : Nat) (p : Int) (h : m = 0 ∨ ((-1074 ≤ p ∨ tw (-1000) ≤ vl false m p) ∧ vl false m p ≤ tw 800)) :
    ∃ w, Val (double.write (.number s m p)) w ∧ (w - vl s m p).abs ≤ vl false m p * eps := by
  by_cases h0 : m = 0
  · subst h0
    refine ⟨vl s 0 (-1074), ?_, ?_⟩
    · show Val (double.nearest s 0 p) _
      unfold Format.nearest
      rw [if_pos rfl]
      have := rung_val s 0 0 (by decide) (by decide) (.inl rfl)
      simpa using this
    · have e1 : vl s 0 (-1074) = 0 := by unfold vl; cases s <;> simp <;> grind
      have e2 : vl s 0 p = 0 := by unfold vl; cases s <;> simp <;> grind
      have e3 : vl false 0 p = 0 := by unfold vl; simp
      rw [e1, e2, e3, show (0 : Rat) - 0 = 0 by grind, Rat.abs_zero]
      grind
  · rcases h with h | ⟨h1, h2⟩
    · exact absurd h h0
    · have a1 := vl_low m p (by omega)
      have a2 := vl_high m p
      refine nearest_val s m p (by omega) ?_ ?_
      · rcases h1 with h1 | h1
        · exact .inl h1
        · right
          have := tw_lt (show tw (-1000) < tw (p + m.log2 + 1) by grind)
          omega
      · have := tw_lt (show tw (p + m.log2) < tw 801 by
          have := tw_add 800 1
          rw [tw_one] at this
          have h8 := tw_pos 800
          have e : tw 801 = tw 800 * 2 := this
          grind)
        omega

theorem mul_val {x y : Nat} {u v : Rat} (hx : Val x u) (hy : Val y v) (h : u * v = 0 ∨ tw (-1000) ≤ (u * v).abs) (h2 : (u * v).abs ≤ tw 800) :
    ∃ z w, double.mul x y = some z ∧ Val z w ∧ (w - u * v).abs ≤ (u * v).abs * eps := by
  obtain ⟨s, m, i, r1, b1, rfl⟩ := hx.out
  obtain ⟨t, n, j, r2, b2, rfl⟩ := hy.out
  have huv : vl s m i * vl t n j = vl (s ^^ t) (m * n) (i + j) := by
    unfold vl
    rw [tw_add, Rat.natCast_mul]
    cases s <;> cases t <;> simp <;> grind
  rw [huv] at h h2 ⊢
  rw [abs_vl] at h h2 ⊢
  obtain ⟨w, hw, he⟩ := round_val (s ^^ t) (m * n) (i + j) (by
    by_cases c : m * n = 0
    · exact .inl c
    · right
      refine ⟨.inr ?_, h2⟩
      rcases h with h | h
      · exfalso
        have := vl_low (m * n) (i + j) (by omega)
        have h3 := tw_pos (i + j + (m * n).log2)
        have h4 := abs_vl (s ^^ t) (m * n) (i + j)
        rw [h, Rat.abs_zero] at h4
        grind
      · exact h)
  refine ⟨_, w, ?_, hw, he⟩
  unfold Format.mul
  rw [r1, r2]; rfl

theorem signed_vl (s : Bool) (m : Nat) (i base : Int) (h : base ≤ i) : ((signed s m (i - base).toNat : Int) : Rat) * tw base = vl s m i := by
  have e : tw i = tw ((i - base).toNat : Int) * tw base := by rw [← tw_add]; congr 1; omega
  unfold signed vl
  rw [e, tw_nat, Nat.shiftLeft_eq]
  cases s
  · simp only [Bool.false_eq_true, if_false]
    rw [Rat.intCast_natCast, Rat.natCast_mul]; grind
  · simp only [if_true]
    rw [Rat.intCast_neg, Rat.intCast_natCast, Rat.natCast_mul]; grind

theorem total_vl (b : Bool) (total : Int) (base : Int) : vl (if total = 0 then b else decide (total < 0)) total.natAbs base = (total : Rat) * tw base := by
  unfold vl
  by_cases h : total = 0
  · subst h; cases b <;> simp <;> grind
  · rw [if_neg h]
    by_cases c : total < 0
    · have e : ((total.natAbs : Nat) : Rat) = -(total : Rat) := by
        rw [← Rat.intCast_natCast, show ((total.natAbs : Nat) : Int) = -total by omega, Rat.intCast_neg]
      rw [e]; simp only [c, decide_true, if_true]; grind
    · have e : ((total.natAbs : Nat) : Rat) = (total : Rat) := by
        rw [← Rat.intCast_natCast, show ((total.natAbs : Nat) : Int) = total by omega]
      rw [e]; simp only [c, decide_false, Bool.false_eq_true, if_false]

theorem sum_val {s t : Bool} {m n : Nat} {i j : Int} (b1 : -1074 ≤ i) (b2 : -1074 ≤ j) (h2 : (vl s m i + vl t n j).abs ≤ tw 800) :
    ∃ d w, Datum.sum (.number s m i) (.number t n j) = some d ∧ Val (double.write d) w ∧ (w - (vl s m i + vl t n j)).abs ≤ (vl s m i + vl t n j).abs * eps := by
  obtain ⟨base, hb⟩ : ∃ base, base = min i j := ⟨_, rfl⟩
  obtain ⟨total, ht⟩ : ∃ total, total = signed s m (i - base).toNat + signed t n (j - base).toNat := ⟨_, rfl⟩
  have hv : vl s m i + vl t n j = (total : Rat) * tw base := by
    rw [ht, Rat.intCast_add, ← signed_vl s m i base (by omega), ← signed_vl t n j base (by omega)]; grind
  have hd : Datum.sum (.number s m i) (.number t n j) = some (.number (if total = 0 then s && t else total < 0) total.natAbs base) := by
    simp only [Datum.sum, ← hb, ← ht]
  have hvl := total_vl (s && t) total base
  rw [hv, ← hvl] at h2 ⊢
  rw [abs_vl] at h2 ⊢
  obtain ⟨w, hw, he⟩ := round_val (if total = 0 then s && t else decide (total < 0)) total.natAbs base (.inr ⟨.inl (by omega), h2⟩)
  exact ⟨_, w, hd, hw, he⟩

theorem add_val {x y : Nat} {u v : Rat} (hx : Val x u) (hy : Val y v) (h2 : (u + v).abs ≤ tw 800) :
    ∃ z w, double.add x y = some z ∧ Val z w ∧ (w - (u + v)).abs ≤ (u + v).abs * eps := by
  obtain ⟨s, m, i, r1, b1, rfl⟩ := hx.out
  obtain ⟨t, n, j, r2, b2, rfl⟩ := hy.out
  obtain ⟨d, w, e, hw, he⟩ := sum_val b1 b2 h2
  refine ⟨_, w, ?_, hw, he⟩
  unfold Format.add
  rw [r1, r2, e]; rfl

theorem sub_val {x y : Nat} {u v : Rat} (hx : Val x u) (hy : Val y v) (h2 : (u - v).abs ≤ tw 800) :
    ∃ z w, double.sub x y = some z ∧ Val z w ∧ (w - (u - v)).abs ≤ (u - v).abs * eps := by
  obtain ⟨s, m, i, r1, b1, rfl⟩ := hx.out
  obtain ⟨t, n, j, r2, b2, rfl⟩ := hy.out
  have ho : vl s m i - vl t n j = vl s m i + vl (!t) n j := by
    unfold vl; cases t <;> simp <;> grind
  rw [ho] at h2 ⊢
  obtain ⟨d, w, e, hw, he⟩ := sum_val b1 b2 h2
  refine ⟨_, w, ?_, hw, he⟩
  unfold Format.sub
  rw [r1, r2]
  show Option.map _ (Datum.sum _ (.number (!t) n j)) = _
  rw [e]; rfl

theorem order_val {x y : Nat} {u v : Rat} (hx : Val x u) (hy : Val y v) : ∃ a b : Int, ∃ g : Rat, 0 < g ∧ u = a * g ∧ v = b * g ∧ double.order x y = some (compare a b) := by
  obtain ⟨s, m, i, r1, b1, rfl⟩ := hx.out
  obtain ⟨t, n, j, r2, b2, rfl⟩ := hy.out
  refine ⟨signed s m (i - min i j).toNat, signed t n (j - min i j).toNat, tw (min i j), tw_pos _, (signed_vl s m i _ (by omega)).symm, (signed_vl t n j _ (by omega)).symm, ?_⟩
  unfold Format.order
  rw [r1, r2]; rfl

theorem lt_val {x y : Nat} {u v : Rat} (hx : Val x u) (hy : Val y v) (h : u < v) : double.order x y = some .lt := by
  obtain ⟨a, b, g, hg, rfl, rfl, e⟩ := order_val hx hy
  have : (a : Rat) < b := (Rat.mul_lt_mul_right hg).1 h
  have : a < b := Rat.intCast_lt_intCast.1 this
  rw [e]; simp [compare, compareOfLessAndEq, this]
theorem gt_val {x y : Nat} {u v : Rat} (hx : Val x u) (hy : Val y v) (h : v < u) : double.order x y = some .gt := by
  obtain ⟨a, b, g, hg, rfl, rfl, e⟩ := order_val hx hy
  have : (b : Rat) < a := (Rat.mul_lt_mul_right hg).1 h
  have : b < a := Rat.intCast_lt_intCast.1 this
  have h1 : ¬ a < b := by omega
  have h2 : ¬ a = b := by omega
  rw [e]; simp [compare, compareOfLessAndEq, h1, h2]

theorem I_val (n : Int) (h : n.natAbs < 2 ^ 53) : Val (I n) n := by
  obtain ⟨p, hr⟩ := rep_I n h
  by_cases h0 : n = 0
  · subst h0
    rw [I_zero]
    have hz : double.read 0 = .number false 0 (-1074) := by decide +kernel
    refine ⟨_, _, _, hz, by omega, ?_⟩
    unfold vl; simp
  · have hr := read_I n h0 h
    refine ⟨_, _, _, hr.read, by omega, ?_⟩
    unfold vl
    rw [Rat.natCast_mul, ← tw_nat]
    have e : tw ((52 - n.natAbs.log2 : Nat) : Int) * tw (-((52 - n.natAbs.log2 : Nat) : Int)) = 1 := by rw [← tw_add, Int.add_right_neg, tw_zero]
    by_cases c : n < 0
    · have e2 : ((n.natAbs : Nat) : Rat) = -(n : Rat) := by
        rw [← Rat.intCast_natCast, show ((n.natAbs : Nat) : Int) = -n by omega, Rat.intCast_neg]
      rw [e2]; simp only [c, decide_true, if_true]; grind
    · have e2 : ((n.natAbs : Nat) : Rat) = (n : Rat) := by
        rw [← Rat.intCast_natCast, show ((n.natAbs : Nat) : Int) = n by omega]
      rw [e2]; simp only [c, decide_false, Bool.false_eq_true, if_false]; grind

/-! ### The root -/
theorem rootFrom_spec (n : Nat) : ∀ todo root, root * root ≤ n → n < (root + 2 ^ todo) * (root + 2 ^ todo) → Datum.rootFrom n todo root * Datum.rootFrom n todo root ≤ n ∧ n < (Datum.rootFrom n todo root + 1) * (Datum.rootFrom n todo root + 1) := by
  intro todo
  induction todo with
  | zero => intro root h1 h2; exact ⟨h1, by simpa [Datum.rootFrom] using h2⟩
  | succ todo ih =>
    intro root h1 h2
    rw [Datum.rootFrom]
    simp only [Nat.one_shiftLeft]
    have e : root + 2 ^ (todo + 1) = root + 2 ^ todo + 2 ^ todo := by rw [Nat.pow_succ]; omega
    rw [e] at h2
    split
    · rename_i c
      exact ih _ c h2
    · rename_i c
      exact ih _ h1 (by omega)

theorem root_spec (n : Nat) : ∃ w, Datum.rootFrom n (n.log2 / 2 + 1) 0 = w ∧ w * w ≤ n ∧ n < (w + 1) * (w + 1) := by
  refine ⟨_, rfl, rootFrom_spec n _ 0 (Nat.zero_le _) ?_⟩
  rw [Nat.zero_add, ← Nat.pow_add]
  have : n < 2 ^ (n.log2 + 1) := Nat.lt_log2_self
  exact Nat.lt_of_lt_of_le this (Nat.pow_le_pow_right (by decide) (by omega))

theorem read_lt (x : Nat) (s : Bool) (m : Nat) (p : Int) (h : double.read x = .number s m p) : m < 2 ^ 53 := by
  unfold Format.read at h
  simp only [sign_d, binade_d, infRung_d, leastPlace_d] at h
  split at h
  · injection h with h1 h2 h3; omega
  · split at h
    · injection h with h1 h2 h3
      have : x % 2 ^ 63 % 2 ^ 52 < 2 ^ 52 := Nat.mod_lt _ (by decide)
      omega
    · split at h
      · cases h
      · cases h

theorem lt_le {a b c : Rat} (h1 : a < b) (h2 : b ≤ c) : a < c := by grind
theorem le_lt {a b c : Rat} (h1 : a ≤ b) (h2 : b < c) : a < c := by grind
theorem mul_mono {a b c d : Rat} (h0 : 0 ≤ a) (h1 : a ≤ b) (h2 : 0 ≤ c) (h3 : c ≤ d) : a * c ≤ b * d := by
  have e1 := Rat.mul_le_mul_of_nonneg_right h1 h2
  have e2 := Rat.mul_le_mul_of_nonneg_left h3 (show 0 ≤ b by grind)
  grind

theorem eps_pos : 0 < eps := tw_pos _
theorem eps_le : eps ≤ 1 / 8 := by
  have h1 : eps ≤ tw (-3) := tw_mono (by decide)
  have h2 : tw (-3) * 8 = 1 := by
    have : (8 : Rat) = tw ((3 : Nat) : Int) := by rw [tw_nat]; rfl
    rw [this, ← tw_add]; exact tw_zero
  grind

theorem close (D u z e : Rat) (he0 : 0 < e) (he : e ≤ 1 / 8) (hD : 0 ≤ D) (hu : 0 ≤ u) (h1 : (D * D - u).abs ≤ u * e) (h2 : (z - D).abs ≤ D * e) : (z * z - u).abs ≤ u * (8 * e) ∧ 0 ≤ z := by
  have a1 := le_abs (D * D - u)
  have a2 := le_abs (z - D)
  generalize (D * D - u).abs = A at *
  generalize (z - D).abs = B at *
  obtain ⟨t, rfl⟩ : ∃ t, z = D + t := ⟨z - D, by grind⟩
  have t1 : t ≤ D * e := by grind
  have t2 : -(D * e) ≤ t := by grind
  have p1 : 0 ≤ (D * e - t) * (D * e + t) := Rat.mul_nonneg (by grind) (by grind)
  have p2 : 0 ≤ D * (D * e - t) := Rat.mul_nonneg hD (by grind)
  have p3 : 0 ≤ D * (D * e + t) := Rat.mul_nonneg hD (by grind)
  have p4 : 0 ≤ (D * D * e) * (1 / 8 - e) := Rat.mul_nonneg (Rat.mul_nonneg (Rat.mul_nonneg hD hD) (Rat.le_of_lt he0)) (by grind)
  have p5 : 0 ≤ (u * e) * (1 / 8 - e) := Rat.mul_nonneg (Rat.mul_nonneg hu (Rat.le_of_lt he0)) (by grind)
  have p6 : 0 ≤ (u + u * e - D * D) * e := Rat.mul_nonneg (by grind) (Rat.le_of_lt he0)
  have p7 : 0 ≤ u * e := Rat.mul_nonneg hu (Rat.le_of_lt he0)
  have p8 : 0 ≤ t * t := by
    rcases (Rat.le_total : (0 : Rat) ≤ t ∨ t ≤ 0) with c | c
    · exact Rat.mul_nonneg c c
    · have := Rat.mul_nonneg (show 0 ≤ -t by grind) (show 0 ≤ -t by grind); grind
  have p9 : 0 ≤ D * (1 / 8 - e) := Rat.mul_nonneg hD (by grind)
  refine ⟨abs_le ?_ ?_, ?_⟩
  · grind
  · grind
  · grind

theorem big_root (n w : Nat) (h : 2 ^ 108 ≤ n) (h2 : n < (w + 1) * (w + 1)) : 2 ^ 54 ≤ w := by
  rcases Nat.lt_or_ge w (2 ^ 54) with c | c
  · exfalso
    have e1 : (w + 1) * (w + 1) ≤ 2 ^ 54 * 2 ^ 54 := Nat.mul_le_mul c c
    have e2 : (2 : Nat) ^ 54 * 2 ^ 54 = 2 ^ 108 := by decide
    rw [e2] at e1
    exact absurd h2 (Nat.not_lt.2 (Nat.le_trans e1 h))
  · exact c

theorem root_close (w n : Nat) (g : Rat) (hg : 0 < g) (h1 : w * w ≤ n) (h2 : n < (w + 1) * (w + 1)) (hw : 2 ^ 54 ≤ w) :
    ((((2 * w + (w * w != n).toNat : Nat) : Rat) * g) * (((2 * w + (w * w != n).toNat : Nat) : Rat) * g) - (n : Rat) * (4 * (g * g))).abs ≤ (n : Rat) * (4 * (g * g)) * eps := by
  have hE := eps_pos
  have hgg : 0 ≤ g * g := Rat.mul_nonneg (Rat.le_of_lt hg) (Rat.le_of_lt hg)
  have hW0 : (0 : Rat) ≤ (w : Rat) := Rat.natCast_nonneg
  have hWn : (w : Rat) ≤ (n : Rat) * eps := by
    have h53 : (2 : Nat) ^ 53 ≤ w := Nat.le_trans (by decide) hw
    have e1 : w * 2 ^ 53 ≤ n := Nat.le_trans (Nat.mul_le_mul_left w h53) h1
    have e2 := Rat.natCast_le_natCast.2 e1
    rw [Rat.natCast_mul, ← tw_nat] at e2
    have e3 := Rat.mul_le_mul_of_nonneg_right e2 (Rat.le_of_lt hE)
    have e4 : tw ((53 : Nat) : Int) * eps = 1 := by unfold eps; rw [← tw_add]; exact tw_zero
    rw [Rat.mul_assoc, e4, Rat.mul_one] at e3
    exact e3
  by_cases c : w * w = n
  · have e0 : (w * w != n).toNat = 0 := by simp [c]
    rw [e0, Nat.add_zero, Rat.natCast_mul, ← c, Rat.natCast_mul]
    have e1 : ((2 : Nat) : Rat) * (w : Rat) * g * (((2 : Nat) : Rat) * (w : Rat) * g) - (w : Rat) * (w : Rat) * (4 * (g * g)) = 0 := by
      have : ((2 : Nat) : Rat) = 2 := rfl
      rw [this]; grind
    rw [e1, Rat.abs_zero]
    exact Rat.mul_nonneg (Rat.mul_nonneg (Rat.mul_nonneg hW0 hW0) (by grind)) (Rat.le_of_lt hE)
  · have e0 : (w * w != n).toNat = 1 := by
      have : (w * w != n) = true := by simp [c]
      rw [this]; rfl
    have l1 : w * w + 1 ≤ n := by omega
    have l2 : n ≤ w * w + 2 * w := by
      have : (w + 1) * (w + 1) = w * w + 2 * w + 1 := by grind
      omega
    have r1 := Rat.natCast_le_natCast.2 l1
    have r2 := Rat.natCast_le_natCast.2 l2
    rw [e0]
    simp only [Rat.natCast_add, Rat.natCast_mul] at r1 r2 ⊢
    have two : ((2 : Nat) : Rat) = 2 := rfl
    have one : ((1 : Nat) : Rat) = 1 := rfl
    rw [two] at r2 ⊢
    rw [one] at r1 ⊢
    clear l1 l2 e0 c h1 h2 hw two one
    generalize (w : Rat) = W at *
    generalize (n : Rat) = N at *
    have f1 : 0 ≤ (N - (W * W + 1)) * (g * g) := Rat.mul_nonneg (by grind) hgg
    have f2 : 0 ≤ (W * W + 2 * W - N) * (g * g) := Rat.mul_nonneg (by grind) hgg
    have f3 : 0 ≤ (N * eps - W) * (g * g) := Rat.mul_nonneg (by grind) hgg
    refine abs_le ?_ ?_
    · grind
    · grind

theorem sqrt_val {x : Nat} {u : Rat} (hx : Val x u) (h1 : tw (-500) ≤ u) (h2 : u ≤ tw 500) :
    ∃ z w, double.sqrt x = some z ∧ Val z w ∧ 0 ≤ w ∧ (w * w - u).abs ≤ u * tw (-50) := by
  obtain ⟨s, m, i, r1, b1, rfl⟩ := hx.out
  have hu : 0 < vl s m i := lt_le (tw_pos _) h1
  have hs : s = false := by
    cases s
    · rfl
    · rw [vl_true] at hu
      have := vl_nonneg m i
      rw [vl_false] at this
      grind
  subst hs
  have hm : 0 < m := by
    rcases Nat.eq_zero_or_pos m with c | c
    · subst c
      rw [vl_false] at hu
      simp at hu
    · exact c
  have hmlt := read_lt x _ _ _ r1
  obtain ⟨more, hmore, heven, hbig⟩ : ∃ more : Nat, more = (2 * (double.fractionBits + 2) - m.log2) + ((i - ((2 * (double.fractionBits + 2) - m.log2 : Nat) : Int)) % 2).toNat ∧ (∃ h : Int, i - more = 2 * h) ∧ 108 ≤ m.log2 + more := by
    refine ⟨_, rfl, ?_, ?_⟩
    · refine ⟨(i - ((2 * (double.fractionBits + 2) - m.log2 : Nat) : Int)) / 2, ?_⟩
      omega
    · have hf : double.fractionBits = 52 := rfl
      rw [hf]
      have := log2_le52 m hmlt
      omega
  obtain ⟨h, hh⟩ := heven
  obtain ⟨n, hn⟩ : ∃ n, n = m <<< more := ⟨_, rfl⟩
  obtain ⟨w, hw, hw1, hw2⟩ := root_spec n
  have hroot : double.sqrt x = some (double.write (.number false (2 * w + (w * w != n).toNat) (h - 1))) := by
    unfold Format.sqrt
    rw [r1]
    unfold Datum.root
    simp only [← hmore, ← hn, hw]
    rw [if_neg (by omega), if_neg (by decide), hh, show 2 * h / 2 - 1 = h - 1 by omega]
    rfl
  have hn' : (n : Rat) * tw (2 * h) = vl false m i := by
    rw [hn, Nat.shiftLeft_eq, Rat.natCast_mul, ← tw_nat, vl_false, Rat.mul_assoc, ← tw_add, show (more : Int) + 2 * h = i by omega]
  have hnbig : 2 ^ 108 ≤ n := by
    rw [hn, Nat.shiftLeft_eq]
    calc 2 ^ 108 ≤ 2 ^ (m.log2 + more) := Nat.pow_le_pow_right (by decide) hbig
      _ = 2 ^ m.log2 * 2 ^ more := Nat.pow_add _ _ _
      _ ≤ m * 2 ^ more := Nat.mul_le_mul_right _ (Nat.log2_self_le (by omega))
  have hwbig : 2 ^ 54 ≤ w := big_root n w hnbig hw2
  obtain ⟨g, hg⟩ : ∃ g, g = tw (h - 1) := ⟨_, rfl⟩
  have hg0 : 0 < g := by rw [hg]; exact tw_pos _
  have h2h : tw (2 * h) = 4 * (g * g) := by
    have e : tw (2 * h) = tw 1 * tw 1 * (tw (h - 1) * tw (h - 1)) := by
      rw [← tw_add, ← tw_add, ← tw_add, show (1 : Int) + 1 + (h - 1 + (h - 1)) = 2 * h by clear hnbig hwbig hmlt hw1 hw2; omega]
    rw [e, ← hg, tw_one]; grind
  have hW0 : (0 : Rat) ≤ (w : Rat) := Rat.natCast_nonneg
  have hgg : 0 ≤ g * g := Rat.mul_nonneg (Rat.le_of_lt hg0) (Rat.le_of_lt hg0)
  -- the root's number, squared
  have hD : ∃ D, D = vl false (2 * w + (w * w != n).toNat) (h - 1) ∧ 0 ≤ D ∧ (D * D - vl false m i).abs ≤ vl false m i * eps := by
    refine ⟨_, rfl, vl_nonneg _ _, ?_⟩
    rw [← hn', h2h, vl_false, ← hg]
    exact root_close w n g hg0 hw1 hw2 hwbig
  obtain ⟨D, hDe, hD0, hDu⟩ := hD
  rw [← hn] at *
  have hE := eps_pos
  have hE8 := eps_le
  have ab := le_abs (D * D - vl false m i)
  have hDD : D * D ≤ vl false m i * 2 := by
    have : 0 ≤ vl false m i * (1 - eps) := Rat.mul_nonneg (Rat.le_of_lt hu) (by grind)
    grind
  have hDD2 : vl false m i ≤ 2 * (D * D) := by
    have : 0 ≤ vl false m i * (1 / 8 - eps) := Rat.mul_nonneg (Rat.le_of_lt hu) (by grind)
    grind
  have hup : D ≤ tw 300 := by
    rcases Rat.le_total (a := D) (b := tw 300) with c | c
    · exact c
    · exfalso
      have e1 := mul_mono (Rat.le_of_lt (tw_pos 300)) c (Rat.le_of_lt (tw_pos 300)) c
      rw [← tw_add] at e1
      have e2 : tw (1 + 1 + 500) ≤ tw (300 + 300) := tw_mono (by decide)
      rw [tw_add, tw_add, tw_one] at e2
      have e3 := tw_pos 500
      generalize tw 500 = q at *
      generalize tw (300 + 300) = q2 at *
      grind
  have hlow : tw (-1000) ≤ D := by
    rcases Rat.le_total (a := tw (-1000)) (b := D) with c | c
    · exact c
    · exfalso
      have e1 := mul_mono hD0 c hD0 c
      rw [← tw_add] at e1
      have e2 : tw (1 + 1 + (-1000 + -1000)) ≤ tw (-500) := tw_mono (by decide)
      rw [tw_add, tw_add, tw_one] at e2
      have e3 := tw_pos (-1000 + -1000)
      generalize tw (-500) = q at *
      generalize tw (-1000 + -1000) = q2 at *
      grind
  have h38 : tw 300 ≤ tw 800 := tw_mono (by decide)
  obtain ⟨z, hz, hzD⟩ := round_val false (2 * w + (w * w != n).toNat) (h - 1) (.inr ⟨.inr (by rw [← hDe]; exact hlow), by rw [← hDe]; generalize tw 300 = q at *; generalize tw 800 = q2 at *; grind⟩)
  rw [← hDe] at hzD
  obtain ⟨c1, c2⟩ := close D (vl false m i) z eps hE hE8 hD0 (Rat.le_of_lt hu) hDu hzD
  refine ⟨_, z, hroot, hz, c2, ?_⟩
  have e50 : tw (-50) = 8 * eps := by
    have : (8 : Rat) = tw ((3 : Nat) : Int) := by rw [tw_nat]; rfl
    unfold eps
    rw [this, ← tw_add]; congr 1
  rw [e50]; exact c1

end Go.Proofs.YthhhcfipmeganaaDoor.Fr
