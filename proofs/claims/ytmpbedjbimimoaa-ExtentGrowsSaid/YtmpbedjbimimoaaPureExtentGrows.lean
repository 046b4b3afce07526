/-
  The plain law of ExtentGrows: what the Lean functions compute, and that the law answers true at every input. No condition.
-/
import Derived.Test.YtmpbedjbimimoaaPExtentGrowsx
namespace Go.Proofs.Ytmpbedjbimimoaa.PExtentGrows
open Go.RowKit Go.Proofs.YtmpbedjbimimoaaW.PrintWords Go.Proofs.YtmpbedjbimimoaaW.PrintLast Go.Proofs.YtmpbedjbimimoaaW.PrintMore
set_option linter.unusedVariables false

-- plain facts on the printed functions of geom
def mayP (b p y s t : Int) : Prop := 8 ≤ b ∧ b ≤ 20 ∧ 4 ≤ p ∧ p ≤ 8 ∧ 24 ≤ y ∧ y ≤ 64 ∧ 0 ≤ s ∧ s ≤ 4 ∧ 2 ≤ t ∧ t ≤ 20 ∧ 12 ≤ (b - s - 3) * p
instance (b p y s t : Int) : Decidable (mayP b p y s t) := by unfold mayP; infer_instance

theorem p_cases {p : Int} (h : 4 ≤ p) (h' : p ≤ 8) : p = 4 ∨ p = 5 ∨ p = 6 ∨ p = 7 ∨ p = 8 := by omega
theorem wid (x : Int) (h : -9223372036854775808 ≤ x ∧ x ≤ 9223372036854775807) : wrap64 x = x := by unfold wrap64; omega

theorem in_f (a b c : Int) : geom_in.f a b c = some (decide (b ≤ a ∧ a ≤ c)) := by
  unfold geom_in.f
  by_cases h : b ≤ a
  · simp [h]
  · simp [h]

theorem half_f (b p y s t : Int) (h1 : 8 ≤ b) (h2 : b ≤ 20) (h3 : 4 ≤ p) (h4 : p ≤ 8) (h5 : 0 ≤ s) (h6 : s ≤ 4) : geom_half.f b p y s t = some (((b - s - 3) * p - 4) / 2) := by
  unfold geom_half.f
  rw [wid (b - s) (by omega), wid (b - s - 3) (by omega)]
  rcases p_cases h3 h4 with rfl | rfl | rfl | rfl | rfl
  all_goals
    rw [wid ((b - s - 3) * _) (by omega), wid (_ - 4) (by omega), Int.tdiv_eq_ediv_of_nonneg (by omega), wid _ (by omega)]

theorem may_f (b p y s t : Int) : geom_May.f b p y s t = some (decide (mayP b p y s t)) := by
  unfold geom_May.f
  simp only [in_f, Option.bind_some]
  by_cases c1 : 8 ≤ b ∧ b ≤ 20
  · by_cases c2 : 4 ≤ p ∧ p ≤ 8
    · by_cases c3 : 24 ≤ y ∧ y ≤ 64
      · by_cases c4 : 0 ≤ s ∧ s ≤ 4
        · by_cases c5 : 2 ≤ t ∧ t ≤ 20
          · rw [half_f b p y s t c1.1 c1.2 c2.1 c2.2 c4.1 c4.2]
            simp only [decide_eq_true c1, decide_eq_true c2, decide_eq_true c3, decide_eq_true c4, decide_eq_true c5, if_true, Option.bind_some]
            refine congrArg some ?_
            rw [decide_eq_decide]
            unfold mayP
            omega
          · simp only [decide_eq_true c1, decide_eq_true c2, decide_eq_true c3, decide_eq_true c4, decide_eq_false c5, if_true]
            exact congrArg some (decide_eq_false (fun h => c5 (by unfold mayP at h; omega))).symm
        · simp only [decide_eq_true c1, decide_eq_true c2, decide_eq_true c3, decide_eq_false c4, if_true]
          exact congrArg some (decide_eq_false (fun h => c4 (by unfold mayP at h; omega))).symm
      · simp only [decide_eq_true c1, decide_eq_true c2, decide_eq_false c3, if_true]
        exact congrArg some (decide_eq_false (fun h => c3 (by unfold mayP at h; omega))).symm
    · simp only [decide_eq_true c1, decide_eq_false c2, if_true]
      exact congrArg some (decide_eq_false (fun h => c2 (by unfold mayP at h; omega))).symm
  · simp only [decide_eq_false c1]
    exact congrArg some (decide_eq_false (fun h => c1 (by unfold mayP at h; omega))).symm




theorem rin_f (a b c : Int) : jotterref5_in.f a b c = some (decide (b ≤ a ∧ a ≤ c)) := by
  unfold jotterref5_in.f
  by_cases h : b ≤ a
  · simp [h]
  · simp [h]

theorem rhalf_f (b p y s t : Int) (h1 : 8 ≤ b) (h2 : b ≤ 20) (h3 : 4 ≤ p) (h4 : p ≤ 8) (h5 : 0 ≤ s) (h6 : s ≤ 4) : jotterref5_half.f b p y s t = some (((b - s - 3) * p - 4) / 2) := by
  unfold jotterref5_half.f
  rw [wid (b - s) (by omega), wid (b - s - 3) (by omega)]
  rcases p_cases h3 h4 with rfl | rfl | rfl | rfl | rfl
  all_goals
    rw [wid ((b - s - 3) * _) (by omega), wid (_ - 4) (by omega)]
    unfold mx
    rw [if_neg (by omega), wid _ (by omega)]

theorem rmay_f (b p y s t : Int) : jotterref5_May.f b p y s t = some (decide (mayP b p y s t)) := by
  unfold jotterref5_May.f
  simp only [rin_f, Option.bind_some]
  by_cases c1 : 8 ≤ b ∧ b ≤ 20
  · by_cases c2 : 4 ≤ p ∧ p ≤ 8
    · by_cases c3 : 24 ≤ y ∧ y ≤ 64
      · by_cases c4 : 0 ≤ s ∧ s ≤ 4
        · by_cases c5 : 2 ≤ t ∧ t ≤ 20
          · rw [rhalf_f b p y s t c1.1 c1.2 c2.1 c2.2 c4.1 c4.2]
            simp only [decide_eq_true c1, decide_eq_true c2, decide_eq_true c3, decide_eq_true c4, decide_eq_true c5, if_true, Option.bind_some]
            refine congrArg some ?_
            rw [decide_eq_decide]
            unfold mayP
            omega
          · simp only [decide_eq_true c1, decide_eq_true c2, decide_eq_true c3, decide_eq_true c4, decide_eq_false c5, if_true]
            exact congrArg some (decide_eq_false (fun h => c5 (by unfold mayP at h; omega))).symm
        · simp only [decide_eq_true c1, decide_eq_true c2, decide_eq_true c3, decide_eq_false c4, if_true]
          exact congrArg some (decide_eq_false (fun h => c4 (by unfold mayP at h; omega))).symm
      · simp only [decide_eq_true c1, decide_eq_true c2, decide_eq_false c3, if_true]
        exact congrArg some (decide_eq_false (fun h => c3 (by unfold mayP at h; omega))).symm
    · simp only [decide_eq_true c1, decide_eq_false c2, if_true]
      exact congrArg some (decide_eq_false (fun h => c2 (by unfold mayP at h; omega))).symm
  · simp only [decide_eq_false c1]
    exact congrArg some (decide_eq_false (fun h => c1 (by unfold mayP at h; omega))).symm



def partsV (B x : Int) : Int := mx ((x + B - 1) / B) 1
theorem parts_one (B x : Int) : 1 ≤ partsV B x := by unfold partsV mx; split <;> omega
theorem parts_mono (B x x' : Int) (hB : 0 < B) (h : x ≤ x') : partsV B x ≤ partsV B x' := by
  have := Int.ediv_le_ediv hB (show x + B - 1 ≤ x' + B - 1 by omega)
  unfold partsV mx
  split <;> split <;> omega
theorem parts_most (B x : Int) (hB : 0 < B) (hx : 0 ≤ x) : partsV B x ≤ x + B := by
  have := Int.ediv_le_self B (show 0 ≤ x + B - 1 by omega)
  unfold partsV mx
  split <;> omega
theorem parts_f (B x : Int) (hB : 0 < B) (hB' : B ≤ 64) (hx : 0 ≤ x) (hx' : x ≤ 2000000) : extent_parts.f B x = some (partsV B x) := by
  have h0 := Int.ediv_nonneg (show 0 ≤ x + B - 1 by omega) (show 0 ≤ B by omega)
  have h1 := Int.ediv_le_self B (show 0 ≤ x + B - 1 by omega)
  unfold extent_parts.f partsV
  rw [if_neg (by omega), wid (x + B) (by omega), wid (x + B - 1) (by omega), Int.tdiv_eq_ediv_of_nonneg (by omega), wid _ (by omega)]

theorem pages_f (b p y s t x : Int) (h : mayP b p y s t) (hx : 0 ≤ x) (hx' : x ≤ 1048576) : extent_Pages.f b p y s t x = some (partsV y x) := by
  have h' := h
  unfold mayP at h'
  unfold extent_Pages.f
  rw [may_f, Option.bind_some, decide_eq_true h, if_pos rfl, if_neg (by omega), if_neg (by omega), parts_f y x (by omega) (by omega) hx (by omega)]
  rfl

def sp (y : Int) : List Int → Int
  | [] => 0
  | x :: xs => partsV y x + sp y xs
theorem sp_append (y : Int) (xs ys : List Int) : sp y (xs ++ ys) = sp y xs + sp y ys := by
  induction xs with
  | nil => simp only [List.nil_append, sp]; omega
  | cons x xs ih => simp only [List.cons_append, sp, ih]; omega
theorem sp_reverse (y : Int) (xs : List Int) : sp y xs.reverse = sp y xs := by
  induction xs with
  | nil => rfl
  | cons x xs ih => rw [List.reverse_cons, sp_append, ih]; simp only [sp]; omega
def Okay (ns : List Int) : Prop := ∀ x, x ∈ ns → 0 ≤ x ∧ x ≤ 2000
theorem sp_bound (y : Int) (hy : 24 ≤ y) (hy' : y ≤ 64) (ns : List Int) (h : Okay ns) : 0 ≤ sp y ns ∧ sp y ns ≤ 2100 * ns.length := by
  induction ns with
  | nil => simp only [sp, List.length_nil]; omega
  | cons x xs ih =>
    have := ih (fun z hz => h z (List.mem_cons_of_mem _ hz))
    have hx := h x (List.mem_cons_self ..)
    have a := parts_one y x
    have b := parts_most y x (by omega) hx.1
    simp only [sp, List.length_cons]
    omega
theorem sp_set (y : Int) (hy : 0 < y) (ns : List Int) (i : Nat) (v : Int) (hi : i < ns.length) (hv : ns[i] ≤ v) : sp y ns ≤ sp y (ns.set i v) := by
  induction ns generalizing i with
  | nil => exact absurd hi (Nat.not_lt_zero _)
  | cons x xs ih =>
    cases i with
    | zero =>
      have := parts_mono y x v hy hv
      simp only [List.set_cons_zero, sp]
      omega
    | succ i =>
      have := ih i (Nat.lt_of_succ_lt_succ hi) hv
      simp only [List.set_cons_succ, sp]
      omega

theorem rd_get (ns : List Int) (i : Nat) (h : i < ns.length) : rd ns (i : Int) = ns[i] := by
  unfold rd
  rw [Int.toNat_natCast, List.getD_eq_getElem?_getD, List.getElem?_eq_getElem h]
  rfl

theorem has_from (ns : List Int) (hn : ns.length ≤ 1000) (ho : Okay ns) (d : Nat) : ∀ (k i : Nat), i + d = ns.length → d < k → ext_has_idx.l0 k ns i = some (-1) := by
  induction d with
  | zero =>
    intro k i hi hk
    obtain ⟨k, rfl⟩ : ∃ m, k = m + 1 := ⟨k - 1, by omega⟩
    simp only [ext_has_idx.l0]
    rw [if_neg (by omega)]
  | succ d ih =>
    intro k i hi hk
    obtain ⟨k, rfl⟩ : ∃ m, k = m + 1 := ⟨k - 1, by omega⟩
    have nx := ih k (i + 1) (by omega) (by omega)
    rw [show ((i + 1 : Nat) : Int) = (i : Int) + 1 by omega] at nx
    have hx := ho ns[i] (List.getElem_mem (by omega))
    simp only [ext_has_idx.l0]
    rw [if_pos (by omega), if_pos (by omega), rd_get ns i (by omega), decide_eq_false (by omega), decide_eq_false (by omega), if_neg (by decide), wid ((i : Int) + 1) (by omega)]
    exact nx

theorem has_f (k : Nat) (ns : List Int) (hn : ns.length ≤ 1000) (ho : Okay ns) (hk : ns.length < k) : ext_has.f k ns = some false := by
  unfold ext_has.f
  rw [show (0 : Int) = ((0 : Nat) : Int) from rfl, has_from ns hn ho ns.length k 0 (Nat.zero_add _) hk]
  rfl

def idxV (y : Int) (ns : List Int) : Int := partsV (y - 2) (2 + 4 * ns.length + 2 * sp y ns)
def needV (y : Int) (ns : List Int) : Int := idxV y ns + sp y ns

section
variable (b p y s t : Int) (hm : mayP b p y s t)
include hm

theorem sp_drop (ns : List Int) (i : Nat) (h : i < ns.length) : sp y (ns.drop i) = partsV y ns[i] + sp y (ns.drop (i + 1)) := by
  have := hm
  rw [List.drop_eq_getElem_cons h]
  rfl

theorem idx_from (ns : List Int) (hn : ns.length ≤ 100) (ho : Okay ns) (d : Nat) : ∀ (k i : Nat) (n : Int), i + d = ns.length → d < k → 0 ≤ n → n ≤ 10000 * i + 10000 → extent_Index.l0 k n ns ns.length i b p y s t = some (partsV (y - 2) (n + 4 * d + 2 * sp y (ns.drop i))) := by
  have hm' := hm
  unfold mayP at hm'
  induction d with
  | zero =>
    intro k i n hi hk h0 h1
    obtain ⟨k, rfl⟩ : ∃ m, k = m + 1 := ⟨k - 1, by omega⟩
    simp only [extent_Index.l0]
    rw [if_neg (by omega), wid (y - 2) (by omega), List.drop_of_length_le (by omega), parts_f (y - 2) n (by omega) (by omega) h0 (by omega), Option.bind_some]
    simp only [sp]
    rw [show n + 4 * ((0 : Nat) : Int) + 2 * 0 = n by omega]
  | succ d ih =>
    intro k i n hi hk h0 h1
    obtain ⟨k, rfl⟩ : ∃ m, k = m + 1 := ⟨k - 1, by omega⟩
    have hx := ho ns[i] (List.getElem_mem (by omega))
    have q1 := parts_one y ns[i]
    have q2 := parts_most y ns[i] (by omega) hx.1
    have nx := ih k (i + 1) (n + (4 + 2 * partsV y ns[i])) (by omega) (by omega) (by omega) (by omega)
    rw [show ((i + 1 : Nat) : Int) = (i : Int) + 1 by omega] at nx
    simp only [extent_Index.l0]
    rw [if_pos (by omega), if_pos (by omega), if_pos (by omega), rd_get ns i (by omega), pages_f b p y s t _ hm hx.1 (by omega), Option.bind_some, wid (2 * partsV y ns[i]) (by omega), wid (4 + 2 * partsV y ns[i]) (by omega), wid (n + (4 + 2 * partsV y ns[i])) (by omega), wid ((i : Int) + 1) (by omega), nx, sp_drop b p y s t hm ns i (by omega)]
    refine congrArg some (congrArg (partsV (y - 2)) ?_)
    omega

theorem index_f (k : Nat) (ns : List Int) (hn : ns.length ≤ 100) (ho : Okay ns) (hk : 200 ≤ k) : extent_Index.f k b p y s t ns = some (idxV y ns) := by
  obtain ⟨k, rfl⟩ : ∃ m, k = m + 1 := ⟨k - 1, by omega⟩
  unfold extent_Index.f
  rw [may_f, Option.bind_some, decide_eq_true hm, if_pos rfl, has_f (k + 1) ns (by omega) ho (by omega), Option.bind_some]
  simp only [extent_Index.j0]
  rw [if_neg (by decide), show (0 : Int) = ((0 : Nat) : Int) from rfl, idx_from b p y s t hm ns hn ho ns.length k 0 2 (Nat.zero_add _) (by omega) (by omega) (by omega)]
  unfold idxV
  rfl

theorem need_from (ns : List Int) (hn : ns.length ≤ 100) (ho : Okay ns) (d : Nat) : ∀ (k i : Nat) (n : Int), i + d = ns.length → d < k → 0 ≤ n → n ≤ 10000 * i + 1000000 → extent_Need.l0 k n ns ns.length i b p y s t = some (n + sp y (ns.drop i)) := by
  have hm' := hm
  unfold mayP at hm'
  induction d with
  | zero =>
    intro k i n hi hk h0 h1
    obtain ⟨k, rfl⟩ : ∃ m, k = m + 1 := ⟨k - 1, by omega⟩
    simp only [extent_Need.l0]
    rw [if_neg (by omega), List.drop_of_length_le (by omega)]
    simp only [sp]
    rw [show n + 0 = n by omega]
  | succ d ih =>
    intro k i n hi hk h0 h1
    obtain ⟨k, rfl⟩ : ∃ m, k = m + 1 := ⟨k - 1, by omega⟩
    have hx := ho ns[i] (List.getElem_mem (by omega))
    have q1 := parts_one y ns[i]
    have q2 := parts_most y ns[i] (by omega) hx.1
    have nx := ih k (i + 1) (n + partsV y ns[i]) (by omega) (by omega) (by omega) (by omega)
    rw [show ((i + 1 : Nat) : Int) = (i : Int) + 1 by omega] at nx
    simp only [extent_Need.l0]
    rw [if_pos (by omega), if_pos (by omega), if_pos (by omega), rd_get ns i (by omega), pages_f b p y s t _ hm hx.1 (by omega), Option.bind_some, wid (n + partsV y ns[i]) (by omega), wid ((i : Int) + 1) (by omega), nx, sp_drop b p y s t hm ns i (by omega)]
    refine congrArg some ?_
    omega

theorem idx_range (ns : List Int) (hn : ns.length ≤ 100) (ho : Okay ns) : 1 ≤ idxV y ns ∧ idxV y ns ≤ 1000000 := by
  have hm' := hm
  unfold mayP at hm'
  have a := sp_bound y (by omega) (by omega) ns ho
  have b1 := parts_one (y - 2) (2 + 4 * ns.length + 2 * sp y ns)
  have b2 := parts_most (y - 2) (2 + 4 * ns.length + 2 * sp y ns) (by omega) (by omega)
  unfold idxV
  omega

theorem need_f (k : Nat) (ns : List Int) (hn : ns.length ≤ 100) (ho : Okay ns) (hk : 200 ≤ k) : extent_Need.f k b p y s t ns = some (needV y ns) := by
  have r := idx_range b p y s t hm ns hn ho
  unfold extent_Need.f
  rw [index_f b p y s t hm k ns hn ho hk, Option.bind_some, if_neg (by omega), show (0 : Int) = ((0 : Nat) : Int) from rfl, need_from b p y s t hm ns hn ho ns.length k 0 (idxV y ns) (Nat.zero_add _) (by omega) (by omega) (by omega)]
  rfl
end


def lowI (n x : Int) : Int := IntKind.u64.wrap x % n
theorem lowI_range (n x : Int) (h : 1 ≤ n) : 0 ≤ lowI n x ∧ lowI n x < n := ⟨Int.emod_nonneg _ (by omega), Int.emod_lt_of_pos _ (by omega)⟩

theorem awake_f (k : Nat) (hk : 60 ≤ k) : jotterlaw15_awake.f k = some true :=
  at_rounds (g := jotterlaw15_awake.f) jotterlaw15_awake.mono hk (by decide +kernel)
theorem low_one (x n : Int) (h0 : 1 ≤ n) (h1 : n ≤ 4294967296) : jotterlaw0_Low.f x n = some (lowI n x) := by
  unfold jotterlaw0_Low.f
  have e : IntKind.u64.wrap n = n := by
    show n % 18446744073709551616 = n
    omega
  have hx : 0 ≤ IntKind.u64.wrap x := by
    show 0 ≤ x % 18446744073709551616
    omega
  rw [e, if_neg (by omega), Int.tmod_eq_emod_of_nonneg hx]
  have := lowI_range n x h0
  unfold lowI at this ⊢
  rw [wid _ (by omega)]


def lows (xs : List Int) : List Int := xs.map (lowI 1000)
theorem lows_okay (xs : List Int) : Okay (lows xs) := fun x hx => by
  obtain ⟨z, _, rfl⟩ := List.mem_map.1 hx
  have := lowI_range 1000 z (by omega)
  omega
theorem okay_rev {xs : List Int} (h : Okay xs) : Okay xs.reverse := fun x hx => h x (List.mem_reverse.1 hx)
theorem okay_snoc {xs : List Int} (h : Okay xs) (v : Int) (hv : 0 ≤ v ∧ v ≤ 2000) : Okay (xs ++ [v]) := fun x hx => by
  rcases List.mem_append.1 hx with h1 | h1
  · exact h x h1
  · rw [List.mem_singleton.1 h1]; exact hv
theorem okay_set {xs : List Int} (h : Okay xs) (i : Nat) (v : Int) (hv : 0 ≤ v ∧ v ≤ 2000) : Okay (xs.set i v) := fun x hx => by
  rcases List.mem_or_eq_of_mem_set hx with h1 | h1
  · exact h x h1
  · rw [h1]; exact hv

section
variable (b p y s t : Int) (hm : mayP b p y s t)
include hm

theorem fin (k : Nat) (xs : List Int) (more which : Int) (hn : xs.length ≤ 30) (hk : 1000 ≤ k) : jotterlaw15_ExtentGrows.l0 (k + 1) xs more which (lows xs) (lows xs).reverse xs.length b p y s t = some true := by
  have hm' := hm
  unfold mayP at hm'
  have hl : (lows xs).length = xs.length := List.length_map ..
  have ho := lows_okay xs
  have r := lowI_range 1000 more (by omega)
  have hb := sp_bound y (by omega) (by omega) (lows xs) ho
  have i0 := idx_range b p y s t hm (lows xs) (by omega) ho
  simp only [jotterlaw15_ExtentGrows.l0]
  rw [if_neg (by omega), need_f b p y s t hm k (lows xs) (by omega) ho (by omega), Option.bind_some, low_one more 1000 (by omega) (by omega), Option.bind_some, if_pos (by rw [List.length_nil]; omega), List.nil_append, Option.bind_some, Option.bind_some, if_pos (by rw [List.length_singleton]; omega)]
  generalize lowI 1000 more = m at r
  have q1 := parts_one y m
  have q2 := parts_most y m (by omega) r.1
  have ho1 := okay_snoc ho m (by omega)
  rw [need_f b p y s t hm k (lows xs ++ [m]) (by rw [List.length_append, List.length_singleton]; omega) ho1 (by omega), Option.bind_some]
  have s1 : sp y (lows xs ++ [m]) = sp y (lows xs) + partsV y m := by rw [sp_append]; simp only [sp]; omega
  have e1 : idxV y (lows xs) ≤ idxV y (lows xs ++ [m]) := by
    unfold idxV
    rw [s1]
    exact parts_mono _ _ _ (by omega) (by rw [List.length_append, List.length_singleton]; omega)
  by_cases z : xs.length = 0
  · have hz : lows xs = [] := List.length_eq_zero_iff.1 (by omega)
    rw [if_pos (by omega), hz]
    have n1 : needV y [] = 1 := by
      have : (2 + 4 * (([] : List Int).length : Int) + 2 * sp y [] + (y - 2) - 1) / (y - 2) = 1 := by
        simp only [sp, List.length_nil]
        rw [show (2 + 4 * ((0 : Nat) : Int) + 2 * 0 + (y - 2) - 1) = 1 + 1 * (y - 2) by omega, Int.add_mul_ediv_right _ _ (by omega), Int.ediv_eq_zero_of_lt (by omega) (by omega)]
        rfl
      unfold needV idxV partsV
      rw [this]
      rfl
    rw [if_pos n1, pages_f b p y s t m hm r.1 (by omega), Option.bind_some, index_f b p y s t hm k [m] (by rw [List.length_singleton]; omega) (fun x hx => by rw [List.mem_singleton.1 hx]; omega) (by omega), Option.bind_some, n1]
    have i1 := idx_range b p y s t hm [m] (by rw [List.length_singleton]; omega) (fun x hx => by rw [List.mem_singleton.1 hx]; omega)
    rw [wid (1 + partsV y m) (by omega), wid (1 + partsV y m + idxV y [m]) (by omega), wid _ (by omega), if_pos (by rw [List.nil_append]; unfold needV; simp only [sp]; omega), awake_f k (by omega)]
    rfl
  · have rw_ := lowI_range ((lows xs).length : Int) which (by omega)
    rw [if_neg (by omega), low_one which ((lows xs).length : Int) (by omega) (by omega), Option.bind_some]
    obtain ⟨i, hi⟩ : ∃ i : Nat, lowI ((lows xs).length : Int) which = (i : Int) := ⟨(lowI ((lows xs).length : Int) which).toNat, by omega⟩
    rw [hi] at rw_ ⊢
    have hx := ho (lows xs)[i] (List.getElem_mem (by omega))
    have hx2 : (lows xs)[i]'(by omega) < 1000 := by
      have : (lows xs)[i]'(by omega) = lowI 1000 (xs[i]'(by omega)) := by unfold lows; rw [List.getElem_map]
      rw [this]
      exact (lowI_range 1000 _ (by omega)).2
    rw [if_pos (by omega), if_pos (by omega), Int.toNat_natCast, rd_get (lows xs) i (by omega), wid _ (by omega)]
    have ho2 := okay_set ho i ((lows xs)[i]'(by omega) + m) (by omega)
    have s2 := sp_set y (by omega) (lows xs) i ((lows xs)[i]'(by omega) + m) (by omega) (by omega)
    have s3 := sp_reverse y (lows xs)
    rw [need_f b p y s t hm k _ (by rw [List.length_set]; omega) ho2 (by omega), Option.bind_some, need_f b p y s t hm k _ (by rw [List.length_reverse]; omega) (okay_rev ho) (by omega), Option.bind_some]
    have e2 : idxV y (lows xs) ≤ idxV y ((lows xs).set i ((lows xs)[i]'(by omega) + m)) := by
      unfold idxV
      exact parts_mono _ _ _ (by omega) (by rw [List.length_set]; omega)
    have e3 : needV y (lows xs).reverse = needV y (lows xs) := by
      unfold needV idxV
      rw [s3, List.length_reverse]
    rw [if_pos e3, if_pos (by unfold needV; omega), if_pos (by unfold needV; omega), awake_f k (by omega)]
    rfl

theorem loop (xs : List Int) (more which : Int) (hn : xs.length ≤ 30) (d : Nat) : ∀ (k i : Nat), i + d = xs.length → d + 1001 < k → jotterlaw15_ExtentGrows.l0 k xs more which ((lows xs).take i) ((lows xs).take i).reverse i b p y s t = some true := by
  have hl : (lows xs).length = xs.length := List.length_map ..
  induction d with
  | zero =>
    intro k i hi hk
    obtain ⟨k, rfl⟩ : ∃ m, k = m + 1 := ⟨k - 1, by omega⟩
    rw [show i = xs.length by omega, List.take_of_length_le (by omega)]
    exact fin b p y s t hm k xs more which hn (by omega)
  | succ d ih =>
    intro k i hi hk
    obtain ⟨k, rfl⟩ : ∃ m, k = m + 1 := ⟨k - 1, by omega⟩
    have nx := ih k (i + 1) (by omega) (by omega)
    have g : (lows xs)[i]'(by omega) = lowI 1000 (xs[i]'(by omega)) := by unfold lows; rw [List.getElem_map]
    rw [show ((i + 1 : Nat) : Int) = (i : Int) + 1 by omega, List.take_succ_eq_append_getElem (show i < (lows xs).length by omega), List.reverse_append, List.reverse_singleton, g] at nx
    simp only [jotterlaw15_ExtentGrows.l0]
    rw [if_pos (by omega), if_pos (by omega), rd_get xs i (by omega), low_one _ 1000 (by omega) (by omega), Option.bind_some, Option.bind_some, if_pos (by rw [List.length_take, List.length_singleton]; omega), Option.bind_some, Option.bind_some, if_pos (by rw [List.length_reverse, List.length_take, List.length_singleton]; omega), wid ((i : Int) + 1) (by omega)]
    exact nx
end

theorem pure (b p y s t : Int) (xs : List Int) (more which : Int) : ∃ k, jotterlaw15_ExtentGrows.f k b p y s t xs more which = some true := by
  have yes : ∀ bb : Bool, (bb = false → xs.length ≤ 30 ∧ mayP b p y s t) → jotterlaw15_ExtentGrows.j0 3000 xs more which bb b p y s t = some true := fun bb h => by
    simp only [jotterlaw15_ExtentGrows.j0]
    cases bb with
    | true => rw [if_pos rfl, awake_f _ (by omega)]; rfl
    | false =>
      obtain ⟨h1, h2⟩ := h rfl
      rw [if_neg (by decide)]
      exact loop b p y s t h2 xs more which h1 xs.length 2999 0 (Nat.zero_add _) (by omega)
  refine ⟨3000, ?_⟩
  unfold jotterlaw15_ExtentGrows.f
  by_cases c : (xs.length : Int) > 30
  · rw [if_pos c]
    exact yes true (fun h => by cases h)
  · rw [if_neg c, rmay_f, Option.bind_some]
    exact yes _ (fun h => ⟨by omega, by
      by_cases hm : mayP b p y s t
      · exact hm
      · rw [decide_eq_false hm] at h; cases h⟩)

end Go.Proofs.Ytmpbedjbimimoaa.PExtentGrows
