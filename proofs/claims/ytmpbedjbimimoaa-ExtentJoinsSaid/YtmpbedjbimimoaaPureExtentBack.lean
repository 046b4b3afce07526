/-
  The plain law of ExtentBack: what the Lean functions compute, and that the law answers true at every input. No condition.
-/
import Derived.Test.YtmpbedjbimimoaaPExtentBackx
namespace Go.Proofs.Ytmpbedjbimimoaa.PExtentBack
open Go.RowKit Go.Proofs.YtmpbedjbimimoaaW.PrintWords Go.Proofs.YtmpbedjbimimoaaW.PrintLast Go.Proofs.YtmpbedjbimimoaaW.PrintMore
set_option linter.unusedVariables false

-- plain facts on the printed functions of geom
def mayP (b p y s t : Int) : Prop := 8 ≤ b ∧ b ≤ 20 ∧ 4 ≤ p ∧ p ≤ 8 ∧ 24 ≤ y ∧ y ≤ 64 ∧ 0 ≤ s ∧ s ≤ 4 ∧ 2 ≤ t ∧ t ≤ 20 ∧ 12 ≤ (b - s - 3) * p
instance (b p y s t : Int) : Decidable (mayP b p y s t) := by unfold mayP; infer_instance

theorem p_cases {p : Int} (h : 4 ≤ p) (h' : p ≤ 8) : p = 4 ∨ p = 5 ∨ p = 6 ∨ p = 7 ∨ p = 8 := by omega
theorem wid (x : Int) (h : -9223372036854775808 ≤ x ∧ x ≤ 9223372036854775807) : wrap64 x = x := by unfold wrap64; omega

theorem in_f (a b c : Int) : geom_in.f a b c = some (decide (b ≤ a ∧ a ≤ c)) := by
  unfold geom_in.f
  by_cases h : b ≤ a
  · simp [h]
  · simp [h]

theorem half_f (b p y s t : Int) (h1 : 8 ≤ b) (h2 : b ≤ 20) (h3 : 4 ≤ p) (h4 : p ≤ 8) (h5 : 0 ≤ s) (h6 : s ≤ 4) : geom_half.f b p y s t = some (((b - s - 3) * p - 4) / 2) := by
  unfold geom_half.f
  rw [wid (b - s) (by omega), wid (b - s - 3) (by omega)]
  rcases p_cases h3 h4 with rfl | rfl | rfl | rfl | rfl
  all_goals
    rw [wid ((b - s - 3) * _) (by omega), wid (_ - 4) (by omega), Int.tdiv_eq_ediv_of_nonneg (by omega), wid _ (by omega)]

theorem may_f (b p y s t : Int) : geom_May.f b p y s t = some (decide (mayP b p y s t)) := by
  unfold geom_May.f
  simp only [in_f, Option.bind_some]
  by_cases c1 : 8 ≤ b ∧ b ≤ 20
  · by_cases c2 : 4 ≤ p ∧ p ≤ 8
    · by_cases c3 : 24 ≤ y ∧ y ≤ 64
      · by_cases c4 : 0 ≤ s ∧ s ≤ 4
        · by_cases c5 : 2 ≤ t ∧ t ≤ 20
          · rw [half_f b p y s t c1.1 c1.2 c2.1 c2.2 c4.1 c4.2]
            simp only [decide_eq_true c1, decide_eq_true c2, decide_eq_true c3, decide_eq_true c4, decide_eq_true c5, if_true, Option.bind_some]
            refine congrArg some ?_
            rw [decide_eq_decide]
            unfold mayP
            omega
          · simp only [decide_eq_true c1, decide_eq_true c2, decide_eq_true c3, decide_eq_true c4, decide_eq_false c5, if_true]
            exact congrArg some (decide_eq_false (fun h => c5 (by unfold mayP at h; omega))).symm
        · simp only [decide_eq_true c1, decide_eq_true c2, decide_eq_true c3, decide_eq_false c4, if_true]
          exact congrArg some (decide_eq_false (fun h => c4 (by unfold mayP at h; omega))).symm
      · simp only [decide_eq_true c1, decide_eq_true c2, decide_eq_false c3, if_true]
        exact congrArg some (decide_eq_false (fun h => c3 (by unfold mayP at h; omega))).symm
    · simp only [decide_eq_true c1, decide_eq_false c2, if_true]
      exact congrArg some (decide_eq_false (fun h => c2 (by unfold mayP at h; omega))).symm
  · simp only [decide_eq_false c1]
    exact congrArg some (decide_eq_false (fun h => c1 (by unfold mayP at h; omega))).symm




theorem rin_f (a b c : Int) : jotterref5_in.f a b c = some (decide (b ≤ a ∧ a ≤ c)) := by
  unfold jotterref5_in.f
  by_cases h : b ≤ a
  · simp [h]
  · simp [h]

theorem rhalf_f (b p y s t : Int) (h1 : 8 ≤ b) (h2 : b ≤ 20) (h3 : 4 ≤ p) (h4 : p ≤ 8) (h5 : 0 ≤ s) (h6 : s ≤ 4) : jotterref5_half.f b p y s t = some (((b - s - 3) * p - 4) / 2) := by
  unfold jotterref5_half.f
  rw [wid (b - s) (by omega), wid (b - s - 3) (by omega)]
  rcases p_cases h3 h4 with rfl | rfl | rfl | rfl | rfl
  all_goals
    rw [wid ((b - s - 3) * _) (by omega), wid (_ - 4) (by omega)]
    unfold mx
    rw [if_neg (by omega), wid _ (by omega)]

theorem rmay_f (b p y s t : Int) : jotterref5_May.f b p y s t = some (decide (mayP b p y s t)) := by
  unfold jotterref5_May.f
  simp only [rin_f, Option.bind_some]
  by_cases c1 : 8 ≤ b ∧ b ≤ 20
  · by_cases c2 : 4 ≤ p ∧ p ≤ 8
    · by_cases c3 : 24 ≤ y ∧ y ≤ 64
      · by_cases c4 : 0 ≤ s ∧ s ≤ 4
        · by_cases c5 : 2 ≤ t ∧ t ≤ 20
          · rw [rhalf_f b p y s t c1.1 c1.2 c2.1 c2.2 c4.1 c4.2]
            simp only [decide_eq_true c1, decide_eq_true c2, decide_eq_true c3, decide_eq_true c4, decide_eq_true c5, if_true, Option.bind_some]
            refine congrArg some ?_
            rw [decide_eq_decide]
            unfold mayP
            omega
          · simp only [decide_eq_true c1, decide_eq_true c2, decide_eq_true c3, decide_eq_true c4, decide_eq_false c5, if_true]
            exact congrArg some (decide_eq_false (fun h => c5 (by unfold mayP at h; omega))).symm
        · simp only [decide_eq_true c1, decide_eq_true c2, decide_eq_true c3, decide_eq_false c4, if_true]
          exact congrArg some (decide_eq_false (fun h => c4 (by unfold mayP at h; omega))).symm
      · simp only [decide_eq_true c1, decide_eq_true c2, decide_eq_false c3, if_true]
        exact congrArg some (decide_eq_false (fun h => c3 (by unfold mayP at h; omega))).symm
    · simp only [decide_eq_true c1, decide_eq_false c2, if_true]
      exact congrArg some (decide_eq_false (fun h => c2 (by unfold mayP at h; omega))).symm
  · simp only [decide_eq_false c1]
    exact congrArg some (decide_eq_false (fun h => c1 (by unfold mayP at h; omega))).symm



def partsV (B x : Int) : Int := mx ((x + B - 1) / B) 1
theorem parts_one (B x : Int) : 1 ≤ partsV B x := by unfold partsV mx; split <;> omega
theorem parts_mono (B x x' : Int) (hB : 0 < B) (h : x ≤ x') : partsV B x ≤ partsV B x' := by
  have := Int.ediv_le_ediv hB (show x + B - 1 ≤ x' + B - 1 by omega)
  unfold partsV mx
  split <;> split <;> omega
theorem parts_most (B x : Int) (hB : 0 < B) (hx : 0 ≤ x) : partsV B x ≤ x + B := by
  have := Int.ediv_le_self B (show 0 ≤ x + B - 1 by omega)
  unfold partsV mx
  split <;> omega
theorem parts_f (B x : Int) (hB : 0 < B) (hB' : B ≤ 64) (hx : 0 ≤ x) (hx' : x ≤ 2000000) : extent_parts.f B x = some (partsV B x) := by
  have h0 := Int.ediv_nonneg (show 0 ≤ x + B - 1 by omega) (show 0 ≤ B by omega)
  have h1 := Int.ediv_le_self B (show 0 ≤ x + B - 1 by omega)
  unfold extent_parts.f partsV
  rw [if_neg (by omega), wid (x + B) (by omega), wid (x + B - 1) (by omega), Int.tdiv_eq_ediv_of_nonneg (by omega), wid _ (by omega)]

theorem pages_f (b p y s t x : Int) (h : mayP b p y s t) (hx : 0 ≤ x) (hx' : x ≤ 1048576) : extent_Pages.f b p y s t x = some (partsV y x) := by
  have h' := h
  unfold mayP at h'
  unfold extent_Pages.f
  rw [may_f, Option.bind_some, decide_eq_true h, if_pos rfl, if_neg (by omega), if_neg (by omega), parts_f y x (by omega) (by omega) hx (by omega)]
  rfl

def sp (y : Int) : List Int → Int
  | [] => 0
  | x :: xs => partsV y x + sp y xs
theorem sp_append (y : Int) (xs ys : List Int) : sp y (xs ++ ys) = sp y xs + sp y ys := by
  induction xs with
  | nil => simp only [List.nil_append, sp]; omega
  | cons x xs ih => simp only [List.cons_append, sp, ih]; omega
theorem sp_reverse (y : Int) (xs : List Int) : sp y xs.reverse = sp y xs := by
  induction xs with
  | nil => rfl
  | cons x xs ih => rw [List.reverse_cons, sp_append, ih]; simp only [sp]; omega
def Okay (ns : List Int) : Prop := ∀ x, x ∈ ns → 0 ≤ x ∧ x ≤ 2000
theorem sp_bound (y : Int) (hy : 24 ≤ y) (hy' : y ≤ 64) (ns : List Int) (h : Okay ns) : 0 ≤ sp y ns ∧ sp y ns ≤ 2100 * ns.length := by
  induction ns with
  | nil => simp only [sp, List.length_nil]; omega
  | cons x xs ih =>
    have := ih (fun z hz => h z (List.mem_cons_of_mem _ hz))
    have hx := h x (List.mem_cons_self ..)
    have a := parts_one y x
    have b := parts_most y x (by omega) hx.1
    simp only [sp, List.length_cons]
    omega
theorem sp_set (y : Int) (hy : 0 < y) (ns : List Int) (i : Nat) (v : Int) (hi : i < ns.length) (hv : ns[i] ≤ v) : sp y ns ≤ sp y (ns.set i v) := by
  induction ns generalizing i with
  | nil => exact absurd hi (Nat.not_lt_zero _)
  | cons x xs ih =>
    cases i with
    | zero =>
      have := parts_mono y x v hy hv
      simp only [List.set_cons_zero, sp]
      omega
    | succ i =>
      have := ih i (Nat.lt_of_succ_lt_succ hi) hv
      simp only [List.set_cons_succ, sp]
      omega

theorem rd_get (ns : List Int) (i : Nat) (h : i < ns.length) : rd ns (i : Int) = ns[i] := by
  unfold rd
  rw [Int.toNat_natCast, List.getD_eq_getElem?_getD, List.getElem?_eq_getElem h]
  rfl

theorem has_from (ns : List Int) (hn : ns.length ≤ 1000) (ho : Okay ns) (d : Nat) : ∀ (k i : Nat), i + d = ns.length → d < k → ext_has_idx.l0 k ns i = some (-1) := by
  induction d with
  | zero =>
    intro k i hi hk
    obtain ⟨k, rfl⟩ : ∃ m, k = m + 1 := ⟨k - 1, by omega⟩
    simp only [ext_has_idx.l0]
    rw [if_neg (by omega)]
  | succ d ih =>
    intro k i hi hk
    obtain ⟨k, rfl⟩ : ∃ m, k = m + 1 := ⟨k - 1, by omega⟩
    have nx := ih k (i + 1) (by omega) (by omega)
    rw [show ((i + 1 : Nat) : Int) = (i : Int) + 1 by omega] at nx
    have hx := ho ns[i] (List.getElem_mem (by omega))
    simp only [ext_has_idx.l0]
    rw [if_pos (by omega), if_pos (by omega), rd_get ns i (by omega), decide_eq_false (by omega), decide_eq_false (by omega), if_neg (by decide), wid ((i : Int) + 1) (by omega)]
    exact nx

theorem has_f (k : Nat) (ns : List Int) (hn : ns.length ≤ 1000) (ho : Okay ns) (hk : ns.length < k) : ext_has.f k ns = some false := by
  unfold ext_has.f
  rw [show (0 : Int) = ((0 : Nat) : Int) from rfl, has_from ns hn ho ns.length k 0 (Nat.zero_add _) hk]
  rfl

def idxV (y : Int) (ns : List Int) : Int := partsV (y - 2) (2 + 4 * ns.length + 2 * sp y ns)
def needV (y : Int) (ns : List Int) : Int := idxV y ns + sp y ns

section
variable (b p y s t : Int) (hm : mayP b p y s t)
include hm

theorem sp_drop (ns : List Int) (i : Nat) (h : i < ns.length) : sp y (ns.drop i) = partsV y ns[i] + sp y (ns.drop (i + 1)) := by
  have := hm
  rw [List.drop_eq_getElem_cons h]
  rfl

theorem idx_from (ns : List Int) (hn : ns.length ≤ 100) (ho : Okay ns) (d : Nat) : ∀ (k i : Nat) (n : Int), i + d = ns.length → d < k → 0 ≤ n → n ≤ 10000 * i + 10000 → extent_Index.l0 k n ns ns.length i b p y s t = some (partsV (y - 2) (n + 4 * d + 2 * sp y (ns.drop i))) := by
  have hm' := hm
  unfold mayP at hm'
  induction d with
  | zero =>
    intro k i n hi hk h0 h1
    obtain ⟨k, rfl⟩ : ∃ m, k = m + 1 := ⟨k - 1, by omega⟩
    simp only [extent_Index.l0]
    rw [if_neg (by omega), wid (y - 2) (by omega), List.drop_of_length_le (by omega), parts_f (y - 2) n (by omega) (by omega) h0 (by omega), Option.bind_some]
    simp only [sp]
    rw [show n + 4 * ((0 : Nat) : Int) + 2 * 0 = n by omega]
  | succ d ih =>
    intro k i n hi hk h0 h1
    obtain ⟨k, rfl⟩ : ∃ m, k = m + 1 := ⟨k - 1, by omega⟩
    have hx := ho ns[i] (List.getElem_mem (by omega))
    have q1 := parts_one y ns[i]
    have q2 := parts_most y ns[i] (by omega) hx.1
    have nx := ih k (i + 1) (n + (4 + 2 * partsV y ns[i])) (by omega) (by omega) (by omega) (by omega)
    rw [show ((i + 1 : Nat) : Int) = (i : Int) + 1 by omega] at nx
    simp only [extent_Index.l0]
    rw [if_pos (by omega), if_pos (by omega), if_pos (by omega), rd_get ns i (by omega), pages_f b p y s t _ hm hx.1 (by omega), Option.bind_some, wid (2 * partsV y ns[i]) (by omega), wid (4 + 2 * partsV y ns[i]) (by omega), wid (n + (4 + 2 * partsV y ns[i])) (by omega), wid ((i : Int) + 1) (by omega), nx, sp_drop b p y s t hm ns i (by omega)]
    refine congrArg some (congrArg (partsV (y - 2)) ?_)
    omega

theorem index_f (k : Nat) (ns : List Int) (hn : ns.length ≤ 100) (ho : Okay ns) (hk : 200 ≤ k) : extent_Index.f k b p y s t ns = some (idxV y ns) := by
  obtain ⟨k, rfl⟩ : ∃ m, k = m + 1 := ⟨k - 1, by omega⟩
  unfold extent_Index.f
  rw [may_f, Option.bind_some, decide_eq_true hm, if_pos rfl, has_f (k + 1) ns (by omega) ho (by omega), Option.bind_some]
  simp only [extent_Index.j0]
  rw [if_neg (by decide), show (0 : Int) = ((0 : Nat) : Int) from rfl, idx_from b p y s t hm ns hn ho ns.length k 0 2 (Nat.zero_add _) (by omega) (by omega) (by omega)]
  unfold idxV
  rfl

theorem need_from (ns : List Int) (hn : ns.length ≤ 100) (ho : Okay ns) (d : Nat) : ∀ (k i : Nat) (n : Int), i + d = ns.length → d < k → 0 ≤ n → n ≤ 10000 * i + 1000000 → extent_Need.l0 k n ns ns.length i b p y s t = some (n + sp y (ns.drop i)) := by
  have hm' := hm
  unfold mayP at hm'
  induction d with
  | zero =>
    intro k i n hi hk h0 h1
    obtain ⟨k, rfl⟩ : ∃ m, k = m + 1 := ⟨k - 1, by omega⟩
    simp only [extent_Need.l0]
    rw [if_neg (by omega), List.drop_of_length_le (by omega)]
    simp only [sp]
    rw [show n + 0 = n by omega]
  | succ d ih =>
    intro k i n hi hk h0 h1
    obtain ⟨k, rfl⟩ : ∃ m, k = m + 1 := ⟨k - 1, by omega⟩
    have hx := ho ns[i] (List.getElem_mem (by omega))
    have q1 := parts_one y ns[i]
    have q2 := parts_most y ns[i] (by omega) hx.1
    have nx := ih k (i + 1) (n + partsV y ns[i]) (by omega) (by omega) (by omega) (by omega)
    rw [show ((i + 1 : Nat) : Int) = (i : Int) + 1 by omega] at nx
    simp only [extent_Need.l0]
    rw [if_pos (by omega), if_pos (by omega), if_pos (by omega), rd_get ns i (by omega), pages_f b p y s t _ hm hx.1 (by omega), Option.bind_some, wid (n + partsV y ns[i]) (by omega), wid ((i : Int) + 1) (by omega), nx, sp_drop b p y s t hm ns i (by omega)]
    refine congrArg some ?_
    omega

theorem idx_range (ns : List Int) (hn : ns.length ≤ 100) (ho : Okay ns) : 1 ≤ idxV y ns ∧ idxV y ns ≤ 1000000 := by
  have hm' := hm
  unfold mayP at hm'
  have a := sp_bound y (by omega) (by omega) ns ho
  have b1 := parts_one (y - 2) (2 + 4 * ns.length + 2 * sp y ns)
  have b2 := parts_most (y - 2) (2 + 4 * ns.length + 2 * sp y ns) (by omega) (by omega)
  unfold idxV
  omega

theorem need_f (k : Nat) (ns : List Int) (hn : ns.length ≤ 100) (ho : Okay ns) (hk : 200 ≤ k) : extent_Need.f k b p y s t ns = some (needV y ns) := by
  have r := idx_range b p y s t hm ns hn ho
  unfold extent_Need.f
  rw [index_f b p y s t hm k ns hn ho hk, Option.bind_some, if_neg (by omega), show (0 : Int) = ((0 : Nat) : Int) from rfl, need_from b p y s t hm ns hn ho ns.length k 0 (idxV y ns) (Nat.zero_add _) (by omega) (by omega) (by omega)]
  rfl
end


theorem awake_f (k : Nat) (hk : 60 ≤ k) : jotterlaw15_awake.f k = some true :=
  at_rounds (g := jotterlaw15_awake.f) jotterlaw15_awake.mono hk (by decide +kernel)

set_option linter.unusedSimpArgs false

/-! ### The parts of bytes -/
/-- Part i: so many bytes from there on, and noughts behind them. -/
def pad (y n : Nat) (b : List Int) : List Int := b ++ List.replicate (n * y - b.length) 0
def chunk (y n : Nat) (b : List Int) (i : Nat) : List Int := ((pad y n b).drop (i * y)).take y
def cutV (y n : Nat) (b : List Int) : List (List Int) := (List.range n).map (chunk y n b)
theorem pad_len (y n : Nat) (b : List Int) (h : b.length ≤ n * y) : (pad y n b).length = n * y := by simp [pad]; omega
theorem chunk_len (y n : Nat) (b : List Int) (i : Nat) (h : b.length ≤ n * y) (hi : i < n) : (chunk y n b i).length = y := by
  have h1 : (i + 1) * y ≤ n * y := Nat.mul_le_mul_right y hi
  rw [Nat.add_mul, Nat.one_mul] at h1
  simp only [chunk, List.length_take, List.length_drop, pad_len y n b h]
  omega
theorem cutV_len (y n : Nat) (b : List Int) : (cutV y n b).length = n := by simp [cutV]
theorem chunk_is (y n : Nat) (b : List Int) (i : Nat) (h : b.length ≤ n * y) (hi : i < n) :
    ((b.drop (min (i * y) b.length)).take (min (b.drop (min (i * y) b.length)).length (List.replicate y (0 : Int)).length) ++ (List.replicate y (0 : Int)).drop (min (b.drop (min (i * y) b.length)).length (List.replicate y (0 : Int)).length)) = chunk y n b i := by
  have h1 : (i + 1) * y ≤ n * y := Nat.mul_le_mul_right y hi
  rw [Nat.add_mul, Nat.one_mul] at h1
  have hlen : (List.replicate y (0 : Int)).length = y := by simp
  rw [hlen]
  generalize hm : i * y = m at *
  generalize hN : n * y = N at *
  apply List.ext_getElem?
  intro j
  simp only [chunk, pad, hN, hm, List.getElem?_append, List.getElem?_take, List.getElem?_drop, List.getElem?_replicate, List.length_take, List.length_drop, List.drop_replicate]
  by_cases c1 : m ≤ b.length
  · have e1 : min m b.length = m := by omega
    rw [e1]
    by_cases c2 : j < y
    · by_cases c3 : m + j < b.length
      · have a1 : j < min (min (b.length - m) y) (b.length - m) := by omega
        have a2 : j < min (b.length - m) y := by omega
        simp [c2, c3, a1, a2]
      · have a1 : ¬ j < min (min (b.length - m) y) (b.length - m) := by omega
        have a2 : j - min (min (b.length - m) y) (b.length - m) < y - min (b.length - m) y := by omega
        have a3 : m + j - b.length < N - b.length := by omega
        simp [c2, c3, a1, a2, a3]
        omega
    · have a1 : ¬ j < min (b.length - m) y := by omega
      have a2 : ¬ j - min (b.length - m) y < y - min (b.length - m) y := by omega
      simp [c2, a1, a2]
  · have e1 : min m b.length = b.length := by omega
    rw [e1]
    by_cases c2 : j < y
    · have c3 : ¬ m + j < b.length := by omega
      have a3 : m + j - b.length < N - b.length := by omega
      simp [c2, c3, a3]
    · simp [c2]
theorem flat_upto (y n : Nat) (b : List Int) (h : b.length ≤ n * y) (k : Nat) (hk : k ≤ n) : ((List.range k).map (chunk y n b)).flatten = (pad y n b).take (k * y) := by
  induction k with
  | zero => simp
  | succ k ih =>
    rw [List.range_succ, List.map_append, List.flatten_append, ih (by omega)]
    simp only [List.map_cons, List.map_nil, List.flatten_cons, List.flatten_nil, List.append_nil, chunk]
    rw [Nat.add_mul, Nat.one_mul, List.take_add]
theorem flat_cut (y n : Nat) (b : List Int) (h : b.length ≤ n * y) : (cutV y n b).flatten = pad y n b := by
  unfold cutV
  rw [flat_upto y n b h n (Nat.le_refl _)]
  exact List.take_of_length_le (by rw [pad_len y n b h]; exact Nat.le_refl _)
theorem pad_take (y n : Nat) (b : List Int) : (pad y n b).take b.length = b := by simp [pad]

theorem mn_nat (a b : Nat) : mn (a : Int) (b : Int) = ((min a b : Nat) : Int) := by
  unfold mn; split <;> omega

theorem lt_big (i n : Nat) (hi : i < n) (hn : n ≤ 1000) : i < 5864062014805 := by omega

theorem cut_from (y n : Nat) (hy : 24 ≤ y) (hy' : y ≤ 64) (hn : n ≤ 1000) (xs : List Int) (h : xs.length ≤ n * y) (b p s t : Int) (d : Nat) : ∀ (k i : Nat), i + d = n → d < k →
    extent_Cut.l0 k xs ((List.range i).map (chunk y n xs)) (n : Int) (i : Int) b p (y : Int) s t = some (cutV y n xs) := by
  induction d with
  | zero =>
    intro k i hi hk
    match k, hk with
    | k + 1, _ =>
      have : i = n := by omega
      subst this
      unfold extent_Cut.l0
      rw [if_neg (by omega)]; rfl
  | succ d ih =>
    intro k i hi hk
    match k, hk with
    | k + 1, hk =>
      have hiy : i * y ≤ 1000 * 64 := Nat.mul_le_mul (by omega) hy'
      have hw : wrap64 ((i : Int) * (y : Int)) = ((i * y : Nat) : Int) := by
        rw [← Int.natCast_mul]; exact wid _ (by omega)
      have hw1 : wrap64 ((i : Int) + 1) = ((i + 1 : Nat) : Int) := by
        rw [show (i : Int) + 1 = ((i + 1 : Nat) : Int) by omega]; exact wid _ (by omega)
      unfold extent_Cut.l0
      rw [if_pos (by omega), if_pos (by omega), if_pos (by omega)]
      simp only [Option.bind_some, hw, hw1, mn_nat, Int.toNat_natCast]
      have g1 : (0 : Int) ≤ ((min (i * y) xs.length : Nat) : Int) := by omega
      have g2 : ((min (i * y) xs.length : Nat) : Int) ≤ (xs.length : Int) := by omega
      have hl : ((List.range i).map (chunk y n xs)).length = i := by rw [List.length_map, List.length_range]
      have hin : i < n := by omega
      have g3 := lt_big i n hin hn
      rw [if_pos g1, if_pos g2, hl, if_pos g3]
      have e1 := chunk_is y n xs i h (by omega)
      have e2 := ih k (i + 1) (by omega) (by omega)
      rw [List.range_succ, List.map_append, List.map_cons, List.map_nil, ← e1] at e2
      exact e2

theorem parts_cover (y x : Int) (hy : 0 < y) (hx : 0 ≤ x) : x ≤ partsV y x * y := by
  unfold partsV mx
  have h1 := Int.mul_ediv_add_emod (x + y - 1) y
  have h2 := Int.emod_lt_of_pos (x + y - 1) hy
  have h3 := Int.emod_nonneg (x + y - 1) (Int.ne_of_gt hy)
  generalize (x + y - 1) / y = q at *
  generalize (x + y - 1) % y = r at *
  have hc : y * q = q * y := Int.mul_comm _ _
  split
  · have : q ≤ 0 := by omega
    have h4 : q * y ≤ 0 := Int.mul_nonpos_of_nonpos_of_nonneg this (by omega)
    omega
  · omega

theorem cut_f (k : Nat) (xs : List Int) (b p s t : Int) (y n : Nat) (hm : mayP b p (y : Int) s t) (hx : xs.length ≤ 100000) (hn : (n : Int) = partsV y xs.length) (hn' : n ≤ 1000) (hk : 1001 ≤ k) :
    extent_Cut.f k b p (y : Int) s t xs = some (cutV y n xs) ∧ xs.length ≤ n * y := by
  have hc := parts_cover (y : Int) (xs.length : Int) (by unfold mayP at hm; omega) (by omega)
  rw [← hn] at hc
  have hcov : xs.length ≤ n * y := by
    rw [← Int.natCast_mul] at hc; omega
  refine ⟨?_, hcov⟩
  unfold extent_Cut.f
  rw [pages_f _ _ _ _ _ _ hm (by omega) (by omega), ← hn]
  exact cut_from y n (by unfold mayP at hm; omega) (by unfold mayP at hm; omega) hn' xs hcov b p s t n k 0 (by omega) (by omega)

/-! ### Bytes are the same -/
theorem same_from (xs : List Int) (hx : xs.length ≤ 1000000) (d : Nat) : ∀ (k i : Nat), i + d = xs.length → d < k → jotterlaw0_SameBytes.l0 k xs xs (i : Int) = some true := by
  induction d with
  | zero =>
    intro k i hi hk
    match k, hk with
    | k + 1, _ =>
      unfold jotterlaw0_SameBytes.l0
      rw [if_neg (by omega)]
  | succ d ih =>
    intro k i hi hk
    match k, hk with
    | k + 1, hk =>
      unfold jotterlaw0_SameBytes.l0
      rw [if_pos (by omega), if_pos (by omega), if_pos (by omega), if_pos rfl, wid _ (by omega)]
      exact ih k (i + 1) (by omega) (by omega)
theorem same_f (k : Nat) (xs : List Int) (hx : xs.length ≤ 1000000) (hk : xs.length < k) : jotterlaw0_SameBytes.f k xs xs = some true := by
  unfold jotterlaw0_SameBytes.f
  rw [if_pos rfl]
  exact same_from xs hx xs.length k 0 (by omega) hk

theorem parts_next (y x : Int) (hy : 0 < y) (hx : 0 ≤ x) : partsV y (x + 1) = partsV y x ∨ (partsV y (x + 1) = partsV y x + 1 ∧ x % y = 0) := by
  unfold partsV mx
  have e : x + 1 + y - 1 = x + y := by omega
  rw [e]
  have d1 := Int.mul_ediv_add_emod (x + y) y
  have d2 := Int.emod_lt_of_pos (x + y) hy
  have d3 := Int.emod_nonneg (x + y) (Int.ne_of_gt hy)
  have f1 := Int.mul_ediv_add_emod (x + y - 1) y
  have f2 := Int.emod_lt_of_pos (x + y - 1) hy
  have f3 := Int.emod_nonneg (x + y - 1) (Int.ne_of_gt hy)
  have hmod : (x + y) % y = x % y := by rw [Int.add_emod_right]
  rw [hmod] at d1 d2 d3
  generalize (x + y) / y = q at *
  generalize (x + y - 1) / y = q2 at *
  generalize x % y = r at *
  generalize (x + y - 1) % y = r2 at *
  have hq : q = q2 ∨ (q = q2 + 1 ∧ r = 0) := by
    by_cases c : r = 0
    · right
      refine ⟨?_, c⟩
      have h1 : y * (q - q2) = 1 + r2 := by rw [Int.mul_sub]; omega
      have h2 : q - q2 = 1 := by
        rcases Int.lt_trichotomy (q - q2) 1 with h | h | h
        · exfalso
          have : y * (q - q2) ≤ 0 := Int.mul_nonpos_of_nonneg_of_nonpos (by omega) (by omega)
          omega
        · exact h
        · exfalso
          have : y * 2 ≤ y * (q - q2) := Int.mul_le_mul_of_nonneg_left (by omega) (by omega)
          omega
      omega
    · left
      have h1 : y * (q - q2) = 1 + r2 - r := by rw [Int.mul_sub]; omega
      have h2 : q - q2 = 0 := by
        rcases Int.lt_trichotomy (q - q2) 0 with h | h | h
        · exfalso
          have : y * (q - q2) ≤ y * (-1) := Int.mul_le_mul_of_nonneg_left (by omega) (by omega)
          omega
        · exact h
        · exfalso
          have : y * 1 ≤ y * (q - q2) := Int.mul_le_mul_of_nonneg_left (by omega) (by omega)
          omega
      omega
  rcases hq with h | ⟨h, hr⟩
  · left; rw [h]
  · by_cases c : q2 < 1
    · left
      rw [h]
      first | omega | (split <;> first | omega | (split <;> omega))
    · right
      refine ⟨?_, hr⟩
      rw [h]
      first | omega | (split <;> first | omega | (split <;> omega))

end Go.Proofs.Ytmpbedjbimimoaa.PExtentBack
