/-
  Plain facts for RasterMoves, and the walk of sameRows. No condition beyond the numbers' bounds.
-/
import Derived.Test.YthhhcfipmeganaaRt
namespace Go.Proofs.Ythhhcfipmeganaa.Rd
open Go.RowKit Go.Proofs.YthhhcfipmeganaaW.PrintWords Go.Proofs.YthhhcfipmeganaaW.PrintLast Go.Proofs.YthhhcfipmeganaaW.PrintMore
open Fl Ra
set_option linter.unusedSimpArgs false
set_option linter.unusedVariables false

theorem getD_map (f : P2 → P2) (ps : List P2) (k : Nat) (h : k < ps.length) : (ps.map f).getD k (0, 0) = f (ps.getD k (0, 0)) := by
  rw [List.getD_eq_getElem?_getD, List.getElem?_map, List.getD_eq_getElem?_getD, List.getElem?_eq_getElem h]; rfl

/-- One to the left. -/
def sh (p : P2) : P2 := (p.1 - 1, p.2)
theorem path_sh (a b : P2) : path (sh a) (sh b) = (path a b).map sh := by
  have h1 : dn (sh a) (sh b) = dn a b := by unfold dn sh; simp only; omega
  unfold path
  rw [h1, List.map_map]
  apply List.map_congr_left
  intro k _
  have e : b.1 - 1 - (a.1 - 1) = b.1 - a.1 := by omega
  simp only [Function.comp, stepV, h1]
  simp only [sh, e, Prod.mk.injEq, and_true]
  omega
theorem dots_sh (ps : List P2) (k : Nat) (h : k ≤ ps.length) : dotsK (ps.map sh) k = (dotsK ps k).map sh := by
  induction k with
  | zero => rfl
  | succ k ih =>
    unfold dotsK
    rw [ih (by omega), List.map_append, getD_map sh ps _ (by omega), getD_map sh ps _ (by omega), path_sh]
theorem bool_iff {a b : Bool} (h : a = true ↔ b = true) : a = b := by cases a <;> cases b <;> simp_all
theorem inkD_sh (wd : Int) (D : List P2) (j i : Nat) : inkD wd 63 (D.map sh) j i = inkD wd 64 D j (i + 1) := by
  unfold inkD
  rw [List.any_map]
  congr 1
  funext d
  show ink wd 63 (d.1 - 1, d.2) j i = ink wd 64 d j (i + 1)
  unfold ink
  apply decide_eq_decide.2
  simp only
  constructor
  · rintro ⟨h1, h2, h3, h4, h5⟩
    exact ⟨h1, h2, by omega, by omega, by omega⟩
  · rintro ⟨h1, h2, h3, h4, h5⟩
    exact ⟨h1, h2, by omega, by omega, by omega⟩
theorem num_half (f : Nat → Bool) (h : f 64 = false) : num (fun i => f (i + 1)) 64 = num f 64 / 2 := by
  apply Nat.eq_of_testBit_eq
  intro i
  rw [← Nat.testBit_succ, num_bit, num_bit]
  by_cases c : i = 63
  · subst c; simp [h]
  · have : (i < 64) ↔ (i + 1 < 64) := by omega
    simp [this]
theorem inkD_out (wd : Int) (D : List P2) (j : Nat) : inkD wd 64 D j 64 = false := by
  unfold inkD
  rw [List.any_eq_false]
  intro d _
  simp only [ink, decide_eq_true_eq]
  omega
theorem row_half (wd : Int) (ps : List P2) (j : Nat) : ((num (inkD wd 63 (dotsK (ps.map sh) ps.length) j) 64 : Nat) : Int) = ((num (inkD wd 64 (dotsK ps ps.length) j) 64 : Nat) : Int) / 2 := by
  rw [dots_sh ps _ (Nat.le_refl _)]
  have e : inkD wd 63 ((dotsK ps ps.length).map sh) j = fun i => inkD wd 64 (dotsK ps ps.length) j (i + 1) := by
    funext i; exact inkD_sh wd _ j i
  rw [e, num_half _ (inkD_out wd _ j)]
  omega

set_option maxRecDepth 100000 in
theorem sameRows_walk (g g2 h c c2 : Nat) (vs : Nat → Int) (hh : h ≤ 1000) (w : World) (hg : g < w.heap.size) (hg2 : g2 < w.heap.size) (hR : ∀ k, k < h → w.cell? ⟨g, k, none⟩ = some (.int .u64 (vs k))) (hR2 : ∀ k, k < h → w.cell? ⟨g2, k, none⟩ = some (.int .u64 (vs k))) :
    Calls Try.prog 13 #[.slice (some ⟨g, 0, none⟩) h c, .slice (some ⟨g2, 0, none⟩) h c2] w fun e w' => e = .returned (.bool true) ∧ Below w.heap.size w w' := by
  have H := Kept.mk hR
  have H2 := Kept.mk hR2
  clear hR hR2
  go_enter Try.func13, Try.ntmps13
  go_wp2
  go_loopw [5] (fun i wr => ∃ k : Nat, k ≤ h ∧ i = .int .i64 k ∧ Kept (Below w.heap.size w wr)) (fun i _ => h - (intOf i).toNat)
  case atStart => exact ⟨0, Nat.zero_le _, rfl, ⟨Below.refl _ _⟩⟩
  case round =>
    obtain ⟨k, hk, rfl, hB⟩ := hrel
    by_cases hlt : k < h
    · have e1 : wr.cell? ⟨g, k, none⟩ = some (.int .u64 (vs k)) := rows_below H.out hg hB.out k hlt
      have e2 : wr.cell? ⟨g2, k, none⟩ = some (.int .u64 (vs k)) := rows_below H2.out hg2 hB.out k hlt
      generalize vs k = q at *
      go_wp2
      go_quiet (fail)
      have hB2 : Kept (Below w.heap.size w (wr.drewN nq)) := ⟨below_drewN hB.out nq⟩
      generalize wr.drewN nq = w2 at *
      go_wp2
      go_roundw
      case rel => exact ⟨k + 1, by omega, by go_num, hB2⟩
      case measure => simp [intOf]; omega
    · have hke : h = k := by omega
      subst hke
      clear hlt hk
      go_wp2
      all_goals (go_ret; exact ⟨rfl, hB.out⟩)

def lowV (x n : Int) : Int := RowKit.wrap64 ((IntKind.u64.wrap x).tmod n)
theorem lowV_in (x n : Int) (hn : 0 < n) (hn' : n < 2 ^ 62) : 0 ≤ lowV x n ∧ lowV x n < n := low_fact x n hn hn'
theorem Low_det (x n : Int) (hn : 0 < n) (hn' : n < 2 ^ 62) (w : World) :
    Calls Try.prog 6 #[.int .i64 x, .int .i64 n] w fun e w' => e = .returned (.int .i64 (lowV x n)) ∧ w' = w := by
  unfold lowV
  go_enter Try.func6, Try.ntmps6
  go_wp2
  all_goals (go_ret; exact ⟨rfl, rfl⟩)
def pt (x y : Int) : P2 := (lowV x 60, lowV y 60)
/-- The points of numbers, two by two. -/
def pts (xs : List Int) (m : Nat) : List P2 := (List.range m).map (fun i => pt (xs.getD (2 * i) 0) (xs.getD (2 * i + 1) 0))
theorem pts_len (xs : List Int) (m : Nat) : (pts xs m).length = m := by simp [pts]
theorem pts_succ (xs : List Int) (m : Nat) : pts xs (m + 1) = pts xs m ++ [pt (xs.getD (2 * m) 0) (xs.getD (2 * m + 1) 0)] := by
  unfold pts
  rw [List.range_succ, List.map_append]; rfl
theorem pts_in (xs : List Int) (m : Nat) : ∀ p ∈ pts xs m, (0 ≤ p.1 ∧ p.1 < 60) ∧ (0 ≤ p.2 ∧ p.2 < 60) := by
  intro p hp
  simp only [pts, List.mem_map, List.mem_range] at hp
  obtain ⟨i, _, rfl⟩ := hp
  exact ⟨lowV_in _ 60 (by decide) (by decide), lowV_in _ 60 (by decide) (by decide)⟩
theorem getD_in {Q : P2 → Prop} (ps : List P2) (h : ∀ p ∈ ps, Q p) (k : Nat) (hk : k < ps.length) : Q (ps.getD k (0, 0)) := by
  rw [List.getD_eq_getElem?_getD, List.getElem?_eq_getElem hk]
  exact h _ (List.getElem_mem _)
theorem dn_small (a b : P2) (m : Int) (hm : m ≤ 200) (ha : (-1 ≤ a.1 ∧ a.1 < m) ∧ (-1 ≤ a.2 ∧ a.2 < m)) (hb : (-1 ≤ b.1 ∧ b.1 < m) ∧ (-1 ≤ b.2 ∧ b.2 < m)) : dn a b ≤ 900 := by unfold dn; omega
end Go.Proofs.Ythhhcfipmeganaa.Rd
