/-
  The walks of SamePoints, one, Count, Turn (its length), and awake. No condition beyond the numbers' bounds.
-/
import Derived.Test.YthhhcfipmeganaaDoorRr
import Derived.StillTailTactics
namespace Go.Proofs.YthhhcfipmeganaaDoor.Rd
open Go.RowKit Go.Proofs.YthhhcfipmeganaaDoorW.PrintWords Go.Proofs.YthhhcfipmeganaaDoorW.PrintLast Go.Proofs.YthhhcfipmeganaaDoorW.PrintMore
open Fl Ra
set_option linter.unusedSimpArgs false
set_option linter.unusedVariables false

theorem SP_same (p : P2) (w : World) : Calls Tryd.prog 30 #[CP p, CP p] w fun e w' => e = .returned (.bool true) ∧ w = w' :=
  (SamePoint_same (I p.1) (I p.2) w).mono fun e w' h => ⟨h.1, h.2.symm⟩

set_option maxRecDepth 100000 in
theorem SamePoints_walk (g g2 n c c2 : Nat) (ps : List P2) (hn : ps.length = n) (hn2 : n ≤ 2000) (w : World) (h : PtsAt w g ps) (h2 : PtsAt w g2 ps) :
    Calls Tryd.prog 17 #[.slice (some ⟨g, 0, none⟩) n c, .slice (some ⟨g2, 0, none⟩) n c2] w fun e w' => e = .returned (.bool true) ∧ Below w.heap.size w w' := by
  have H := Kept.mk h
  have H2 := Kept.mk h2
  have HN := Kept.mk hn
  clear h h2 hn
  go_enter Tryd.func17, Tryd.ntmps17
  go_wp2
  go_loopw [5] (fun i wr => ∃ k : Nat, k ≤ n ∧ i = .int .i64 k ∧ Kept (Below w.heap.size w wr)) (fun i _ => n - (intOf i).toNat)
  case atStart => exact ⟨0, Nat.zero_le _, rfl, ⟨Below.refl _ _⟩⟩
  case round =>
    obtain ⟨k, hk, rfl, hB⟩ := hrel
    by_cases hlt : k < n
    · have e1 : wr.cell? ⟨g, k, none⟩ = some (CP (ps.getD k (0, 0))) := (H.out.below hB.out).cell k (by rw [HN.out]; exact hlt)
      have e2 : wr.cell? ⟨g2, k, none⟩ = some (CP (ps.getD k (0, 0))) := (H2.out.below hB.out).cell k (by rw [HN.out]; exact hlt)
      generalize ps.getD k (0, 0) = q at *
      go_wp2
      go_quiet (exact Calls.quiet_of_same (SamePoint_same (I q.1) (I q.2) _))
      have hB2 : Kept (Below w.heap.size w (wr.drewN nq)) := ⟨below_drewN hB.out nq⟩
      generalize wr.drewN nq = w2 at *
      go_wp2
      go_roundw
      case rel => exact ⟨k + 1, by omega, by go_num, hB2⟩
      case measure => simp [intOf]; omega
    · have hke : n = k := by omega
      subst hke
      clear hlt hk
      go_wp2
      all_goals (go_ret; exact ⟨rfl, hB.out⟩)

/-- The sum of what rows count. -/
def sumTo (pc : Nat → Int) : Nat → Int
  | 0 => 0
  | k + 1 => sumTo pc k + pc k
theorem sumTo_bound (pc : Nat → Int) (h : ∀ k, 0 ≤ pc k ∧ pc k ≤ 64) (k : Nat) : 0 ≤ sumTo pc k ∧ sumTo pc k ≤ 64 * k := by
  induction k with
  | zero => unfold sumTo; omega
  | succ k ih => unfold sumTo; have := h k; omega

set_option maxRecDepth 100000 in
theorem Count_walk (g h c : Nat) (vs : Nat → Int) (pc : Nat → Int) (hb : ∀ k, 0 ≤ pc k ∧ pc k ≤ 64) (hh : h ≤ 1000) (hp : ∀ k, k < h → ∀ w, Calls Tryd.prog 23 #[.int .u64 (vs k)] w fun e w' => e = .returned (.int .i64 (pc k)) ∧ w = w') (w : World) (hR : ∀ k, k < h → w.cell? ⟨g, k, none⟩ = some (.int .u64 (vs k))) :
    Calls Tryd.prog 11 #[.slice (some ⟨g, 0, none⟩) h c] w fun e w' => e = .returned (.int .i64 (sumTo pc h)) ∧ w = w' := by
  have HP := Kept.mk hp
  have HR := Kept.mk hR
  have HB := Kept.mk (sumTo_bound pc hb)
  have HB2 := Kept.mk hb
  clear hp hR hb
  go_enter Tryd.func11, Tryd.ntmps11
  go_wp2
  go_loop [3, 8] (fun s i => ∃ k : Nat, k ≤ h ∧ s = .int .i64 (sumTo pc k) ∧ i = .int .i64 k) (fun _ i => h - (intOf i).toNat)
  case atStart => exact ⟨0, Nat.zero_le _, rfl, rfl⟩
  case round =>
    obtain ⟨k, hk, rfl, rfl⟩ := hrel
    by_cases hlt : k < h
    · have hc := HR.out k hlt
      have hs := Kept.mk (show sumTo pc (k + 1) = sumTo pc k + pc k from rfl)
      have b1 := HB.out k
      have b2 := HB2.out k
      have hO := Kept.mk (HP.out k hlt)
      generalize vs k = v at *
      generalize sumTo pc k = s at *
      generalize pc k = p at *
      go_wp2_with (go_at_call 23; (with_reducible refine (hO.out _).mono ?_); rintro e w' ⟨rfl, rfl⟩)
      go_round
      case rel => exact ⟨k + 1, by omega, by rw [hs.out], by go_num⟩
      case measure => simp [intOf]; omega
    · have hke : h = k := by omega
      subst hke
      clear hlt hk
      go_wp2
      all_goals (go_ret; exact ⟨rfl, rfl⟩)

set_option maxRecDepth 100000 in
theorem one_walk (w : World) : Calls Tryd.prog 16 #[] w fun e w' => ∃ gs g, e = .returned (.slice (some ⟨gs, 0, none⟩) 1 1) ∧ ShAt w' gs 1 2 g 1 1 ∧ PtsAt w' g [(3, 2)] ∧ Below w.heap.size w w' := by
  have c3 : (4613937818241073152 : Nat) = I 3 := by decide +kernel
  have c2 : (4611686018427387904 : Nat) = I 2 := by decide +kernel
  go_enter Tryd.func16, Tryd.ntmps16
  go_wp2
  all_goals
    go_ret
    have h1 := blk_new w (Obj.cells #[CP (3, 2)] 35)
    have h2 := blk_new (w.alloc (Obj.cells #[CP (3, 2)] 35)) (Obj.cells (Stk 1 2 w.heap.size 1 1) 57)
    have hs : (w.alloc (Obj.cells #[CP (3, 2)] 35)).heap.size = w.heap.size + 1 := by simp
    have hb : Below (w.alloc (Obj.cells #[CP (3, 2)] 35)).heap.size (w.alloc (Obj.cells #[CP (3, 2)] 35)) ((w.alloc (Obj.cells #[CP (3, 2)] 35)).alloc (Obj.cells (Stk 1 2 w.heap.size 1 1) 57)) := below_alloc (Below.refl _ _) _
    have h3 := blk_below h1 hb
    rw [hs] at h2
    refine ⟨w.heap.size + 1, w.heap.size, rfl, ⟨blk_lt h2, (blk_cell h2 0).trans rfl, (blk_cell h2 1).trans rfl, (blk_cell h2 2).trans rfl⟩, ⟨blk_lt h3, fun j hj => ?_⟩, bel_step (below_alloc (Below.refl _ _) _) hb⟩
    match j, hj with
    | 0, _ => exact (blk_cell h3 0).trans rfl

/-- A block of so many numbers. -/
def Nums (w : World) (g n : Nat) : Prop := ∃ cs : Array Value, w.heap[g]? = some (.cells cs 29 (0, 0)) ∧ ∀ x, x < n → ∃ v : Int, cs[x]? = some (.int .u64 v)
theorem Nums.set {w : World} {g n : Nat} (h : Nums w g n) (j : Nat) (v : Int) : Nums (w.setCell ⟨g, j, none⟩ (.int .u64 v)) g n := by
  obtain ⟨cs, h1, h2⟩ := h
  refine ⟨cs.setIfInBounds j (.int .u64 v), blk_put h1 j _ rfl, fun x hx => ?_⟩
  obtain ⟨u, hu⟩ := h2 x hx
  rw [Array.getElem?_setIfInBounds]
  by_cases c : j = x
  · subst c
    have : j < cs.size := (Array.getElem?_eq_some_iff.1 hu).1
    exact ⟨v, by simp [this]⟩
  · exact ⟨u, by rw [if_neg c]; exact hu⟩
theorem Nums.cell {w : World} {g n : Nat} (h : Nums w g n) (j : Nat) (hj : j < n) : ∃ v : Int, w.cell? ⟨g, j, none⟩ = some (.int .u64 v) ∧ w.frozen? ⟨g, j, none⟩ = false := by
  obtain ⟨cs, h1, h2⟩ := h
  obtain ⟨u, hu⟩ := h2 j hj
  exact ⟨u, by rw [blk_cell h1 j, hu], blk_frozen h1 j⟩

theorem i64_id (n : Int) (h1 : -9223372036854775808 ≤ n) (h2 : n < 9223372036854775808) : IntKind.i64.wrap n = n := by
  simp only [IntKind.wrap, IntKind.signed, IntKind.bits]
  simp
  omega
set_option maxRecDepth 100000 in
set_option maxHeartbeats 4000000 in
theorem TurnLen_walk (g h c n : Nat) (vs : Nat → Int) (hh : h ≤ 64) (hn1 : 1 ≤ n) (hn2 : n ≤ 64) (w : World) (hg : g < w.heap.size) (hR : ∀ k, k < h → w.cell? ⟨g, k, none⟩ = some (.int .u64 (vs k))) :
    Calls Tryd.prog 6 #[.slice (some ⟨g, 0, none⟩) h c, .int .i64 (n : Int)] w fun e w' => ∃ gt, e = .returned (.slice (some ⟨gt, 0, none⟩) n n) ∧ Below w.heap.size w w' := by
  have hu32 := Tryd.underlying22
  have o1 : ∀ W : World, (Instr.makeSlice 22 (.int .i64 (n : Int)) (.int .i64 (n : Int))).run Tryd.prog W = .ok (.slice (some ⟨W.heap.size, 0, none⟩) n n) (W.alloc (.cells (madeCells #[.int .u64 0] n) 29)) := by
    intro W
    have e := print_make_int (P := Tryd.prog) 22 29 (.int .u64 0) 8 hu32 info29 rfl (by decide) (n : Int) (by omega) (by omega) W
    rw [Int.toNat_natCast] at e
    exact e
  have hI := Kept.mk (in_walk (n : Int) (by omega) (by omega))
  have HR := Kept.mk hR
  clear hR
  go_enter Tryd.func6, Tryd.ntmps6
  go_wp2_with (first
    | simp only [o1]
    | (go_at_call 18; (with_reducible refine (hI.out _).mono ?_); rintro e w' ⟨rfl, rfl⟩))
  have hN0 : Kept (Nums (w.alloc (.cells (madeCells #[.int .u64 0] n) 29)) w.heap.size n) := by
    refine ⟨_, blk_new w _, fun x hx => ⟨0, ?_⟩⟩
    rw [rowsC_zero, rowsC_get _ _ _ hx, rowV, num_zero]; rfl
  have hB0 : Kept (Below w.heap.size w (w.alloc (.cells (madeCells #[.int .u64 0] n) 29))) := ⟨below_alloc (Below.refl _ _) _⟩
  go_loopw [21] (fun i wr => ∃ k : Nat, k ≤ h ∧ i = .int .i64 k ∧ Kept (Nums wr w.heap.size n) ∧ Kept (Below w.heap.size w wr)) (fun i _ => h - (intOf i).toNat)
  case atStart => exact ⟨0, Nat.zero_le _, rfl, hN0, hB0⟩
  case round =>
    obtain ⟨k, hk, rfl, hN1, hB1⟩ := hrel
    clear hN0 hB0
    by_cases hlt : k < h
    · have hc : wr.cell? ⟨g, k, none⟩ = some (.int .u64 (vs k)) := (hB1.out.cell (p := ⟨g, k, none⟩) hg).trans (HR.out k hlt)
      generalize vs k = r at *
      go_wp2
      go_loopw [28] (fun i wq => ∃ x : Nat, x ≤ n ∧ i = .int .i64 x ∧ Kept (Nums wq w.heap.size n) ∧ Kept (Below w.heap.size w wq)) (fun i _ => n - (intOf i).toNat)
      case atStart => exact ⟨0, Nat.zero_le _, rfl, hN1, hB1⟩
      case round =>
        obtain ⟨x, hx, rfl, hN2, hB2⟩ := hrel
        clear hN1 hB1 hc
        by_cases hlt2 : x < n
        · obtain ⟨u, hu, hf⟩ := hN2.out.cell x hlt2
          obtain ⟨sh, hsh⟩ : ∃ sh : Nat, (h : Int) - 1 - (k : Int) = (sh : Int) := ⟨h - 1 - k, by omega⟩
          have v1 : IntKind.i64.wrap ((h : Int) - 1) = (h : Int) - 1 := i64_id _ (by omega) (by omega)
          have v2 : IntKind.i64.wrap ((h : Int) - 1 - (k : Int)) = (sh : Int) := by rw [← hsh]; exact i64_id _ (by omega) (by omega)
          clear hsh
          go_wp2
          go_still_tail 16, (by kernel_rfl)
          change wpList _ _ _ _ _ wr.drew
          have hN3 : Kept (Nums wr.drew w.heap.size n) := hN2
          have hB3 : Kept (Below w.heap.size w wr.drew) := ⟨hB2.out.drew⟩
          have hud : wr.drew.cell? ⟨w.heap.size, x, none⟩ = some (.int .u64 u) := hu
          have hfd : wr.drew.frozen? ⟨w.heap.size, x, none⟩ = false := hf
          clear hu hf hN2 hB2
          generalize wr.drew = w5 at *
          go_wp2
          go_roundw
          case rel => exact ⟨x + 1, by omega, by go_num, ⟨Nums.set hN3.out x _⟩, ⟨below_set hB3.out (Nat.le_refl _)⟩⟩
          case measure => simp [intOf]; omega
        · have hxe : n = x := by omega
          subst hxe
          clear hlt2 hx
          go_wp2
          go_roundw
          case rel => exact ⟨k + 1, by omega, by go_num, hN2, hB2⟩
          case measure => simp [intOf]; omega
    · have hke : h = k := by omega
      subst hke
      clear hlt hk
      go_wp2
      all_goals (go_ret; exact ⟨_, rfl, hB1.out⟩)

/-- A scale that is none. -/
theorem Draw_bad (gs cs : Nat) (pen wd : Int) (g n c : Nat) (ps : List P2) (at_ : P2) (ww h : Int) (hp1 : 0 ≤ pen) (hp2 : pen ≤ 7) (hd1 : 1 ≤ wd) (hd2 : wd ≤ 9) (hn1 : 1 ≤ n) (hn : ps.length = n) (hn2 : n ≤ 10) (hin : ∀ p ∈ ps, InP p)
    (hat : InP at_) (w : World) (hpt : PtsAt w g ps) (hsh : ShAt w gs pen wd g n c) :
    Calls Tryd.prog 15 #[.slice (some ⟨gs, 0, none⟩) 1 cs, CP at_, .int .i64 0, .int .i64 ww, .int .i64 h] w fun e w' => e = .returned (.tuple #[.slice none 0 0, .int .i64 2]) ∧ Below w.heap.size w w' := by
  have hMay := Kept.mk (May_walk gs cs pen wd g n c ps hp1 hp2 hd1 hd2 hn1 hn hn2 hin w hpt hsh)
  have hAt := Kept.mk (fun w => May_in at_.1 at_.2 hat.1 hat.2 w)
  clear hpt hsh hn hin hat hp1 hp2 hd1 hd2 hn1 hn2
  have hI : Kept (∀ w, Calls Tryd.prog 18 #[.int .i64 0, .int .i64 64] w fun e w' => e = .returned (.bool false) ∧ w = w') := by
    refine ⟨fun w => ?_⟩
    go_enter Tryd.func18, Tryd.ntmps18
    go_wp2
    all_goals (go_ret; exact ⟨rfl, rfl⟩)
  go_enter Tryd.func15, Tryd.ntmps15
  go_wp2_with (first
    | (go_at_call 27; (with_reducible refine hMay.out.mono ?_); rintro e w1 ⟨rfl, hb⟩; have hB1 := Kept.mk hb; clear hb)
    | (go_at_call 24; (with_reducible refine (hAt.out _).mono ?_); rintro e w' ⟨rfl, hw⟩; have hw := hw.symm; subst hw)
    | (go_at_call 18; (with_reducible refine (hI.out _).mono ?_); rintro e w' ⟨rfl, rfl⟩))
  all_goals (go_ret2; exact ⟨rfl, hB1.out⟩)

theorem ones_0 (w : World) : Calls Tryd.prog 23 #[.int .u64 0] w fun e w' => e = .returned (.int .i64 0) ∧ w = w' := by
  go_enter Tryd.func23, Tryd.ntmps23
  go_wp2
  all_goals (go_ret; exact ⟨by kernel_rfl, rfl⟩)
theorem ones_24 (w : World) : Calls Tryd.prog 23 #[.int .u64 24] w fun e w' => e = .returned (.int .i64 2) ∧ w = w' := by
  go_enter Tryd.func23, Tryd.ntmps23
  go_wp2
  all_goals (go_ret; exact ⟨by kernel_rfl, rfl⟩)
end Go.Proofs.YthhhcfipmeganaaDoor.Rd
