/-
  Plain facts for RasterWider: what a wider stroke inks, and how many dots one point inks. No condition beyond the numbers' bounds.
-/
import Derived.Test.YthhhcfipmeganaaRy
import Derived.Test.YthhhcfipmeganaaPo
namespace Go.Proofs.Ythhhcfipmeganaa.Rd
open Go.RowKit Go.Proofs.YthhhcfipmeganaaW.PrintWords Go.Proofs.YthhhcfipmeganaaW.PrintLast Go.Proofs.YthhhcfipmeganaaW.PrintMore
open Fl Ra
set_option linter.unusedSimpArgs false
set_option linter.unusedVariables false

theorem draw_gen (wd : Int) (g n c : Nat) (ps : List P2) (at_ : P2) (ww : Int) (hh : Nat) (qs : List P2) (hq : ps.map (pl at_ 1) = qs) (hd1 : 1 ≤ wd) (hd2 : wd ≤ 9) (hn1 : 1 ≤ n) (hn : ps.length = n) (hn2 : n ≤ 10) (hin : ∀ p ∈ ps, InP p) (hat : InP at_) (hw1 : 1 ≤ ww) (hw2 : ww ≤ 64) (hh1 : 1 ≤ hh) (hh2 : hh ≤ 64)
    (hqs : ∀ q ∈ qs, (-200 ≤ q.1 ∧ q.1 < 200) ∧ (-200 ≤ q.2 ∧ q.2 < 200)) (W : World) (hpt : PtsAt W g ps) :
    Calls Try.prog 10 #[.slice (some ⟨W.heap.size, 0, none⟩) 1 1, CP at_, .int .i64 1, .int .i64 ww, .int .i64 (hh : Int)] (W.alloc (.cells (Stk 0 wd g n c) 37)) fun e w' =>
      ∃ gr, e = .returned (.tuple #[.slice (some ⟨gr, 0, none⟩) hh hh, .int .i64 0]) ∧ gr < w'.heap.size ∧ (∀ k, k < hh → w'.cell? ⟨gr, k, none⟩ = some (.int .u64 ((num (inkD wd ww (dotsK qs n) k) 64 : Nat) : Int))) ∧ Below W.heap.size W w' := by
  have hl : qs.length = n := by rw [← hq]; simpa using hn
  have hm : ∀ k, k < n → (-200 ≤ (qs.getD k (0, 0)).1 ∧ (qs.getD k (0, 0)).1 < 200) ∧ (-200 ≤ (qs.getD k (0, 0)).2 ∧ (qs.getD k (0, 0)).2 < 200) := fun k hk => getD_in qs hqs k (by omega)
  have hdn : ∀ a b : P2, ((-200 ≤ a.1 ∧ a.1 < 200) ∧ (-200 ≤ a.2 ∧ a.2 < 200)) → ((-200 ≤ b.1 ∧ b.1 < 200) ∧ (-200 ≤ b.2 ∧ b.2 < 200)) → dn a b ≤ 900 := by intro a b ha hb; unfold dn; omega
  have h := Draw_walk W.heap.size 1 0 wd g n c ps at_ 1 ww hh (by decide) (by decide) hd1 hd2 hn1 hn hn2 hin hat (by decide) (by decide) hw1 hw2 hh1 hh2
    (by rw [hq]; intro k hk; have := hm k hk; constructor <;> (unfold In; omega)) (by rw [hq]; intro k hk; exact hdn _ _ (hm (k - 1) (by omega)) (hm k hk))
    (W.alloc (.cells (Stk 0 wd g n c) 37)) (pts_alloc hpt _) (sh_new W 0 wd g n c)
  rw [hq] at h
  refine Calls.mono h ?_
  rintro e w' ⟨gr, rfl, hgr, hR, hb⟩
  exact ⟨gr, rfl, blk_lt hR, fun k hk => by rw [blk_cell hR k, rowsC_get _ _ _ hk], bel_step (below_alloc (Below.refl _ _) _) hb⟩

def pt1 (x y : Int) : P2 := (lowV x 100, lowV y 100)
def pts1 (xs : List Int) (m : Nat) : List P2 := (List.range m).map (fun i => pt1 (xs.getD (2 * i) 0) (xs.getD (2 * i + 1) 0))
theorem pts1_len (xs : List Int) (m : Nat) : (pts1 xs m).length = m := by simp [pts1]
theorem pts1_succ (xs : List Int) (m : Nat) : pts1 xs (m + 1) = pts1 xs m ++ [pt1 (xs.getD (2 * m) 0) (xs.getD (2 * m + 1) 0)] := by
  unfold pts1
  rw [List.range_succ, List.map_append]; rfl
theorem pts1_in (xs : List Int) (m : Nat) : ∀ p ∈ pts1 xs m, (0 ≤ p.1 ∧ p.1 < 100) ∧ (0 ≤ p.2 ∧ p.2 < 100) := by
  intro p hp
  simp only [pts1, List.mem_map, List.mem_range] at hp
  obtain ⟨i, _, rfl⟩ := hp
  exact ⟨lowV_in _ 100 (by decide) (by decide), lowV_in _ 100 (by decide) (by decide)⟩

theorem cnt_mono (f g : Nat → Bool) (n : Nat) (h : ∀ i, f i = true → g i = true) : cnt f n ≤ cnt g n := by
  induction n with
  | zero => exact Nat.le_refl _
  | succ n ih =>
    unfold cnt
    have := h n
    cases hf : f n <;> cases hg : g n <;> simp_all
    omega
theorem cnt_iv (a b n : Nat) : cnt (fun i => decide (a ≤ i ∧ i < b)) n = min n b - a := by
  induction n with
  | zero => simp [cnt]
  | succ n ih =>
    unfold cnt
    rw [ih]
    by_cases h : a ≤ n ∧ n < b
    · rw [decide_eq_true h]; simp only [Bool.toNat_true]; omega
    · rw [decide_eq_false h]; simp only [Bool.toNat_false]; omega
theorem cnt_false (n : Nat) : cnt (fun _ => false) n = 0 := by
  induction n with
  | zero => rfl
  | succ n ih => unfold cnt; rw [ih]; rfl
theorem ink_wider (wd ww : Int) (d : P2) (hwd : 1 ≤ wd) (j i : Nat) (h : ink wd ww d j i = true) : ink (wd + 1) ww d j i = true := by
  unfold ink at h ⊢
  have h := of_decide_eq_true h
  exact decide_eq_true ⟨by omega, by omega, by omega, by omega, by omega⟩
theorem inkD_wider (wd ww : Int) (D : List P2) (hwd : 1 ≤ wd) (j i : Nat) (h : inkD wd ww D j i = true) : inkD (wd + 1) ww D j i = true := by
  unfold inkD at h ⊢
  rw [List.any_eq_true] at h ⊢
  obtain ⟨d, hd, h⟩ := h
  exact ⟨d, hd, ink_wider wd ww d hwd j i h⟩
theorem num_sub (f g : Nat → Bool) (n : Nat) (h : ∀ i, f i = true → g i = true) : num f n ||| num g n = num g n := by
  apply Nat.eq_of_testBit_eq
  intro i
  rw [Nat.testBit_or, num_bit, num_bit]
  have := h i
  cases hf : f i <;> cases hg : g i <;> simp_all
theorem ones_num (f : Nat → Bool) (w : World) : Calls Try.prog 24 #[.int .u64 ((num f 64 : Nat) : Int)] w fun e w' => e = .returned (.int .i64 (cnt f 64 : Nat)) ∧ w = w' :=
  ones_walk f (num f 64) (num_lt f 64) (fun i hi => by rw [num_bit]; simp [hi]) w
theorem sumTo_mono (p q : Nat → Int) (h : ∀ k, p k ≤ q k) (n : Nat) : sumTo p n ≤ sumTo q n := by
  induction n with
  | zero => exact Int.le_refl _
  | succ n ih => unfold sumTo; have := h n; omega
theorem sumTo_iv (a b : Nat) (v : Int) (p : Nat → Int) (hp : ∀ k, p k = if a ≤ k ∧ k < b then v else 0) (n : Nat) : sumTo p n = ((min n b - a : Nat) : Int) * v := by
  induction n with
  | zero => simp [sumTo]
  | succ n ih =>
    unfold sumTo
    rw [ih, hp]
    by_cases h : a ≤ n ∧ n < b
    · rw [if_pos h]
      have e : min (n + 1) b - a = (min n b - a) + 1 := by omega
      rw [e, Int.natCast_add, Int.add_mul]; simp
    · rw [if_neg h]
      have e : min (n + 1) b - a = min n b - a := by omega
      rw [e]; simp
theorem one_path (p : P2) : dotsK [p] 1 = [p] := by
  have h0 : dn p p = 0 := by unfold dn; omega
  show [] ++ path p p = [p]
  unfold path
  rw [h0]
  simp [List.range_succ, step_zero]
/-- A point that is well within draws its width, squared. -/
theorem one_count (wd x y : Int) (h1 : 1 ≤ wd) (h2 : wd ≤ 8) (hx : 10 ≤ x ∧ x < 50) (hy : y = 30) : sumTo (fun k => (cnt (inkD wd 64 [(x, y)] k) 64 : Int)) 64 = wd * wd := by
  obtain ⟨a, ha⟩ : ∃ a : Nat, (a : Int) = y - (wd - 1) / 2 := ⟨(y - (wd - 1) / 2).toNat, by omega⟩
  obtain ⟨b, hb⟩ : ∃ b : Nat, (b : Int) = y + wd / 2 + 1 := ⟨(y + wd / 2 + 1).toNat, by omega⟩
  obtain ⟨c, hc⟩ : ∃ c : Nat, (c : Int) = x - (wd - 1) / 2 := ⟨(x - (wd - 1) / 2).toNat, by omega⟩
  obtain ⟨d, hd⟩ : ∃ d : Nat, (d : Int) = x + wd / 2 + 1 := ⟨(x + wd / 2 + 1).toNat, by omega⟩
  have hw : (wd - 1) / 2 + wd / 2 + 1 = wd := by omega
  have hp : ∀ k, (fun k => (cnt (inkD wd 64 [(x, y)] k) 64 : Int)) k = if a ≤ k ∧ k < b then wd else 0 := by
    intro k
    show ((cnt (inkD wd 64 [(x, y)] k) 64 : Nat) : Int) = _
    by_cases h : a ≤ k ∧ k < b
    · rw [if_pos h]
      have e : inkD wd 64 [(x, y)] k = fun i => decide (c ≤ i ∧ i < d) := by
        funext i
        simp only [inkD, List.any_cons, List.any_nil, Bool.or_false, ink]
        apply decide_eq_decide.2
        constructor
        · rintro ⟨q1, q2, q3, q4, q5⟩; omega
        · rintro ⟨q1, q2⟩; refine ⟨?_, ?_, ?_, ?_, ?_⟩ <;> omega
      rw [e, cnt_iv]; omega
    · rw [if_neg h]
      have e : inkD wd 64 [(x, y)] k = fun _ => false := by
        funext i
        simp only [inkD, List.any_cons, List.any_nil, Bool.or_false, ink]
        apply decide_eq_false
        rintro ⟨q1, q2, q3, q4, q5⟩
        exact h ⟨by omega, by omega⟩
      rw [e, cnt_false]; rfl
  rw [sumTo_iv a b wd _ hp 64]
  have e : ((min 64 b - a : Nat) : Int) = wd := by omega
  rw [e]
theorem pl_at (at_ : P2) (ps : List P2) : ps.map (pl at_ 1) = ps.map (fun p => (p.1 - at_.1, p.2 - at_.2)) := by
  apply List.map_congr_left
  intro p _
  simp [pl]
theorem pt_new (W : World) (p : P2) : PtsAt (W.alloc (.cells #[CP p] 22)) W.heap.size [p] := by
  have h := blk_new W (Obj.cells #[CP p] 22)
  refine ⟨blk_lt h, fun j hj => ?_⟩
  rw [blk_cell h j]
  match j, hj with
  | 0, _ => rfl
end Go.Proofs.Ythhhcfipmeganaa.Rd
