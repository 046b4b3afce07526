/-
  Plain facts for ExtentJoins: what is cut of bytes whose first part fills its pages; and the walk of Low. No condition beyond the numbers' bounds.
-/
import Derived.Test.YtmpbedjbimimoaaEc
import Derived.Test.YtmpbedjbimimoaaPureExtentBack
import Derived.Deep.QuietTactic
import Derived.BigQuiet
import Derived.WalkSmall
namespace Go.Proofs.Ytmpbedjbimimoaa.Eb
open Go.RowKit Go.Proofs.YtmpbedjbimimoaaW.PrintWords Go.Proofs.YtmpbedjbimimoaaW.PrintLast Go.Proofs.YtmpbedjbimimoaaW.PrintMore
open PExtentBack
set_option linter.unusedSimpArgs false
set_option linter.unusedVariables false

theorem low_fact (x n : Int) (hn : 0 < n) (hn' : n < 2 ^ 62) : 0 ≤ RowKit.wrap64 ((IntKind.u64.wrap x).tmod n) ∧ RowKit.wrap64 ((IntKind.u64.wrap x).tmod n) < n := by
  have h0 : 0 ≤ IntKind.u64.wrap x := by
    show 0 ≤ IntKind.wrap .u64 x
    simp only [IntKind.wrap, IntKind.signed, IntKind.bits]
    simp
    omega
  rw [Int.tmod_eq_emod_of_nonneg h0]
  have h1 := Int.emod_nonneg (IntKind.u64.wrap x) (Int.ne_of_gt hn)
  have h2 := Int.emod_lt_of_pos (IntKind.u64.wrap x) hn
  generalize IntKind.u64.wrap x % n = y at *
  have h3 : RowKit.wrap64 y = y := by unfold RowKit.wrap64; omega
  rw [h3]
  exact ⟨h1, h2⟩

theorem Low_walk (x n : Int) (hn : 0 < n) (hn' : n < 2 ^ 62) (w : World) :
    Calls Try.prog 27 #[.int .i64 x, .int .i64 n] w fun e w' => ∃ q : Nat, (q : Int) < n ∧ e = .returned (.int .i64 (q : Int)) ∧ w' = w := by
  obtain ⟨q, hq⟩ := Int.eq_ofNat_of_zero_le (low_fact x n hn hn').1
  have hq2 := (low_fact x n hn hn').2
  rw [hq] at hq2
  have hqK := Kept.mk hq
  clear hq
  go_enter Try.func27, Try.ntmps27
  go_wp2
  all_goals (go_ret; exact ⟨q, hq2, by rw [hqK.out]; rfl, rfl⟩)

theorem Low_one (x : Int) (w : World) :
    Calls Try.prog 27 #[.int .i64 x, .int .i64 6] w fun e w' => ∃ M : Nat, 1 ≤ M ∧ M ≤ 6 ∧ e = .returned (.int .i64 ((M : Int) - 1)) ∧ w' = w := by
  refine (Low_walk x 6 (by decide) (by decide) w).mono ?_
  rintro e w' ⟨q, hq, rfl, rfl⟩
  exact ⟨q + 1, by omega, by omega, by congr 2; omega, rfl⟩

theorem pad_join (y m n : Nat) (a b : List Int) (ha : a.length = m * y) : pad y (m + n) (a ++ b) = a ++ pad y n b := by
  unfold pad
  rw [List.append_assoc, List.length_append, ha, Nat.add_mul]
  congr 3
  omega
theorem pad_full (y m : Nat) (a : List Int) (ha : a.length = m * y) : pad y m a = a := by
  unfold pad
  rw [ha, Nat.sub_self]; simp
theorem cut_join (y m n : Nat) (a b : List Int) (ha : a.length = m * y) : cutV y (m + n) (a ++ b) = cutV y m a ++ cutV y n b := by
  unfold cutV
  rw [List.range_add, List.map_append, List.map_map]
  congr 1
  · apply List.map_congr_left
    intro i hi
    have hi := List.mem_range.1 hi
    have h1 : (i + 1) * y ≤ m * y := Nat.mul_le_mul_right y hi
    rw [Nat.add_mul, Nat.one_mul] at h1
    unfold chunk
    rw [pad_join y m n a b ha, pad_full y m a ha, List.drop_append_of_le_length (by omega), List.take_append_of_le_length (by rw [List.length_drop]; omega)]
  · apply List.map_congr_left
    intro j _
    simp only [Function.comp, chunk]
    rw [pad_join y m n a b ha, Nat.add_mul, ← ha, List.drop_append, List.drop_of_length_le (by omega), List.nil_append]
    congr 2
    omega
theorem parts_full (y m : Nat) (hy : 0 < y) (hm : 1 ≤ m) : partsV (y : Int) ((m * y : Nat) : Int) = m := by
  unfold partsV mx
  have e : ((m * y : Nat) : Int) + y - 1 = ((y : Int) - 1) + (m : Int) * y := by rw [Int.natCast_mul]; omega
  rw [e, Int.add_mul_ediv_right _ _ (by omega), Int.ediv_eq_zero_of_lt (by omega) (by omega)]
  split <;> omega
theorem parts_more (y m x : Nat) (hy : 0 < y) (hm : 1 ≤ m) (hx : 0 < x) : partsV (y : Int) ((m * y + x : Nat) : Int) = m + partsV (y : Int) (x : Int) := by
  unfold partsV mx
  have e : ((m * y + x : Nat) : Int) + y - 1 = ((x : Int) + y - 1) + (m : Int) * y := by rw [Int.natCast_add, Int.natCast_mul]; omega
  rw [e, Int.add_mul_ediv_right _ _ (by omega)]
  have h1 : 1 ≤ ((x : Int) + y - 1) / y := by
    apply (Int.le_ediv_iff_mul_le (by omega)).2
    omega
  split <;> split <;> omega

/-- What is behind the first part's pages. -/
theorem joins (k : Nat) (b p s t : Int) (Y M : Nat) (a xs : List Int) (hm : mayP b p (Y : Int) s t) (hM : 1 ≤ M) (hM' : M ≤ 6) (ha : a.length = M * Y) (hx : xs.length ≤ 300) (hk : 1001 ≤ k) :
    ∃ P Q R Z : List (List Int), extent_Cut.f k b p (Y : Int) s t a = some P ∧ extent_Cut.f k b p (Y : Int) s t xs = some Q ∧ extent_Cut.f k b p (Y : Int) s t (a ++ xs) = some Z ∧
      Z = P ++ R ∧ ((xs.length = 0 ∧ R = []) ∨ (0 < xs.length ∧ R = Q)) ∧ P.length = M ∧ Q.length ≤ 400 ∧ (∀ i : Nat, i < P.length → rd_L2 P i = rd_L2 Z i) ∧ (∀ i : Nat, i < R.length → rd_L2 R i = rd_L2 Z ((M : Int) + i)) ∧
      (∀ q ∈ Z, 0 < q.length) ∧ (∀ q : Nat, (rd_L2 Z q).length ≤ 64) ∧ (flat Z).length ≤ 1000000 ∧ 0 < (flat Z).length ∧ (a ++ xs).length ≤ (flat Z).length ∧ (flat Z).take (a ++ xs).length = a ++ xs := by
  have hY : 24 ≤ Y ∧ Y ≤ 64 := by unfold mayP at hm; omega
  have hMY : M * Y ≤ 6 * 64 := Nat.mul_le_mul hM' hY.2
  have hMY1 : 1 * 24 ≤ M * Y := Nat.mul_le_mul hM hY.1
  have q1 := parts_one (Y : Int) (xs.length : Int)
  have q2 := parts_most (Y : Int) (xs.length : Int) (by omega) (by omega)
  obtain ⟨n, hn⟩ : ∃ n : Nat, (n : Int) = partsV (Y : Int) (xs.length : Int) := ⟨(partsV (Y : Int) (xs.length : Int)).toNat, by omega⟩
  have e1 : ((M : Nat) : Int) = partsV (Y : Int) (a.length : Int) := by rw [ha, parts_full Y M (by omega) hM]
  obtain ⟨f1, c1⟩ := cut_f k a b p s t Y M hm (by omega) e1 (by omega) hk
  obtain ⟨f2, c2⟩ := cut_f k xs b p s t Y n hm (by omega) hn (by omega) hk
  have key : ∀ (r : Nat), r ≤ 400 → ((M + r : Nat) : Int) = partsV (Y : Int) ((a ++ xs).length : Int) → ((xs.length = 0 ∧ r = 0) ∨ (0 < xs.length ∧ r = n)) →
      ∃ P Q R Z : List (List Int), extent_Cut.f k b p (Y : Int) s t a = some P ∧ extent_Cut.f k b p (Y : Int) s t xs = some Q ∧ extent_Cut.f k b p (Y : Int) s t (a ++ xs) = some Z ∧
      Z = P ++ R ∧ ((xs.length = 0 ∧ R = []) ∨ (0 < xs.length ∧ R = Q)) ∧ P.length = M ∧ Q.length ≤ 400 ∧ (∀ i : Nat, i < P.length → rd_L2 P i = rd_L2 Z i) ∧ (∀ i : Nat, i < R.length → rd_L2 R i = rd_L2 Z ((M : Int) + i)) ∧
      (∀ q ∈ Z, 0 < q.length) ∧ (∀ q : Nat, (rd_L2 Z q).length ≤ 64) ∧ (flat Z).length ≤ 1000000 ∧ 0 < (flat Z).length ∧ (a ++ xs).length ≤ (flat Z).length ∧ (flat Z).take (a ++ xs).length = a ++ xs := by
    intro r hr he hcase
    have hla : (a ++ xs).length = M * Y + xs.length := by rw [List.length_append, ha]
    obtain ⟨f3, c3⟩ := cut_f k (a ++ xs) b p s t Y (M + r) hm (by omega) he (by omega) hk
    have hZ := cut_join Y M r a xs ha
    have hrY : (M + r) * Y ≤ 406 * 64 := Nat.mul_le_mul (by omega) hY.2
    have hfl : flat (cutV Y (M + r) (a ++ xs)) = pad Y (M + r) (a ++ xs) := flat_cut Y (M + r) (a ++ xs) c3
    have hpl := pad_len Y (M + r) (a ++ xs) c3
    refine ⟨_, _, cutV Y r xs, _, f1, f2, f3, hZ, ?_, cutV_len _ _ _, by rw [cutV_len]; omega, ?_, ?_, ?_, ?_, ?_, ?_, ?_, ?_⟩
    · rcases hcase with ⟨h1, rfl⟩ | ⟨h1, rfl⟩
      · exact .inl ⟨h1, by simp [cutV]⟩
      · exact .inr ⟨h1, rfl⟩
    · intro i hi
      rw [hZ]
      unfold rd_L2
      rw [Int.toNat_natCast, List.getD_eq_getElem?_getD, List.getD_eq_getElem?_getD, List.getElem?_append_left hi]
    · intro i hi
      rw [hZ]
      unfold rd_L2
      have : ((M : Int) + (i : Int)).toNat = (cutV Y M a).length + i := by rw [cutV_len]; omega
      rw [this, Int.toNat_natCast, List.getD_eq_getElem?_getD, List.getD_eq_getElem?_getD, List.getElem?_append_right (by omega)]
      congr 2
      omega
    · intro q hq
      simp only [cutV, List.mem_map, List.mem_range] at hq
      obtain ⟨i, hi, rfl⟩ := hq
      rw [chunk_len Y (M + r) (a ++ xs) i c3 hi]; omega
    · intro q
      unfold rd_L2
      rw [Int.toNat_natCast, List.getD_eq_getElem?_getD]
      by_cases hq : q < M + r
      · unfold cutV
        rw [List.getElem?_map, List.getElem?_range hq]
        show (chunk Y (M + r) (a ++ xs) q).length ≤ 64
        rw [chunk_len Y (M + r) (a ++ xs) q c3 hq]; omega
      · rw [List.getElem?_eq_none (by rw [cutV_len]; omega)]
        simp
    · rw [hfl, hpl]; omega
    · rw [hfl, hpl]; omega
    · rw [hfl, hpl]; exact c3
    · rw [hfl]; exact pad_take Y (M + r) (a ++ xs)
  by_cases h0 : xs.length = 0
  · refine key 0 (by omega) ?_ (.inl ⟨h0, rfl⟩)
    rw [List.length_append, ha, h0]
    exact (parts_full Y M (by omega) hM).symm
  · refine key n (by omega) ?_ (.inr ⟨by omega, rfl⟩)
    rw [List.length_append, ha, parts_more Y M xs.length (by omega) hM (by omega), ← hn]
    omega
end Go.Proofs.Ytmpbedjbimimoaa.Eb
