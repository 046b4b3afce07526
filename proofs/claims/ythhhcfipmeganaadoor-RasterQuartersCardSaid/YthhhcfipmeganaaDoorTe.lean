/-
  The walk of RasterTurns: it returns true. Condition: the table of TrailingZeros64 lies where its variable does.
-/
import Derived.Test.YthhhcfipmeganaaDoorTd
namespace Go.Proofs.YthhhcfipmeganaaDoor.Rd
open Go.RowKit Go.Proofs.YthhhcfipmeganaaDoorW.PrintWords Go.Proofs.YthhhcfipmeganaaDoorW.PrintLast Go.Proofs.YthhhcfipmeganaaDoorW.PrintMore
open Fl Ra
set_option linter.unusedSimpArgs false
set_option linter.unusedVariables false

/-- The picture that numbers make. -/
def picL (l : List Int) : Pic := fun y i => (l.getD y 0).toNat.testBit i
theorem num_test (v : Nat) (h : v < 2 ^ 64) : num (fun i => v.testBit i) 64 = v := by
  apply Nat.eq_of_testBit_eq
  intro i
  rw [num_bit]
  by_cases c : i < 64
  · simp [c]
  · have : v.testBit i = false := Nat.testBit_lt_two_pow (Nat.lt_of_lt_of_le h (Nat.pow_le_pow_right (by decide) (by omega)))
    simp [c, this]
theorem picL_row (l : List Int) (hw : ∀ x ∈ l, 0 ≤ x ∧ x < 18446744073709551616) (j : Nat) (hj : j < l.length) : rowV (picL l j) = .int .u64 (l.getD j 0) := by
  have h := hw (l.getD j 0) (by rw [List.getD_eq_getElem?_getD, List.getElem?_eq_getElem hj]; exact List.getElem_mem _)
  have e := num_test (l.getD j 0).toNat (by omega)
  show Value.int .u64 ((num (fun i => (l.getD j 0).toNat.testBit i) 64 : Nat) : Int) = _
  rw [e, Int.toNat_of_nonneg h.1]
theorem arr_of {w : World} {A : Option Addr} {n : Nat} (l : List Int) (hw : ∀ x ∈ l, 0 ≤ x ∧ x < 18446744073709551616) (hn : l.length = n)
    (hc : 0 < n → ∃ ad, A = some ad ∧ ad.block < w.heap.size ∧ ∀ j, j < n → w.cell? (ad.add j) = some (.int .u64 (l.getD j 0))) : Arr w A n (picL l) :=
  ⟨fun h => by
    obtain ⟨ad, e, hb, h2⟩ := hc h
    exact ⟨ad, e, hb, fun j hj => by rw [picL_row l hw j (by omega)]; exact h2 j hj⟩⟩
theorem own_arr {w : World} {base n : Nat} {v : Value} (l : List Int) (hw : ∀ x ∈ l, 0 ≤ x ∧ x < 18446744073709551616) (h : w.ownsRow base 29 1 v n (nums .u64 l)) (hn : l.length = n) : ∃ A c, v = .slice A n c ∧ Arr w A n (picL l) := by
  rcases h.2 with ⟨rfl, rfl⟩ | ⟨g, cap, cur, rfl, hb, hg, h1, h2, h3, h4⟩
  · exact ⟨none, 0, rfl, ⟨fun h => by omega⟩⟩
  · refine ⟨some ⟨g, 0, none⟩, cap, rfl, arr_of l hw hn (fun hp => ⟨_, rfl, blk_lt hg, fun j hj => ?_⟩)⟩
    have e := World.ownsRow.cells h (g := g) rfl j (.int .u64 (l.getD j 0)) (by
      rw [nums, List.getElem?_map, List.getElem?_eq_getElem (by omega), List.getD_eq_getElem?_getD, List.getElem?_eq_getElem (by omega)]; rfl)
    exact e

/-- Rows of one's own, from block B on; nothing is said where there are none. -/
def OwnT (w : World) (T : Option Addr) (B n : Nat) (p : Pic) : Prop := 0 < n → ∃ g, T = some ⟨g, 0, none⟩ ∧ B ≤ g ∧ Rows w g n p
theorem OwnT.arr {w : World} {T : Option Addr} {B n : Nat} {p : Pic} (h : OwnT w T B n p) : Arr w T n p :=
  ⟨fun hn => by
    obtain ⟨g, rfl, _, hR⟩ := h hn
    exact (rows_arr hR).ex hn⟩
theorem OwnT.below {w w1 : World} {T : Option Addr} {B n : Nat} {p : Pic} (h : OwnT w T B n p) (hb : Below w.heap.size w w1) : OwnT w1 T B n p := fun hn => by
  obtain ⟨g, rfl, hB, hR⟩ := h hn
  exact ⟨g, rfl, hB, blk_below hR hb⟩
/-- How many rows a turned picture has. -/
def tn (h : Nat) (n : Int) : Nat := if 1 ≤ n ∧ n ≤ 64 ∧ h ≤ 64 then n.toNat else 0
theorem tn_le (h : Nat) (n : Int) : tn h n ≤ 64 := by unfold tn; split <;> omega
theorem turn_any (A : Option Addr) (h c : Nat) (n : Int) (p : Pic) (hh : h ≤ 1000) (w : World) (hA : Arr w A h p) :
    Calls Tryd.prog 6 #[.slice A h c, .int .i64 n] w fun e w' => ∃ T ct, e = .returned (.slice T (tn h n) ct) ∧ OwnT w' T w.heap.size (tn h n) (tp h p) ∧ Below w.heap.size w w' := by
  unfold tn
  by_cases q : 1 ≤ n ∧ n ≤ 64 ∧ h ≤ 64
  · rw [if_pos q]
    have hw := turn_walk A h c n.toNat p q.2.2 (by omega) (by omega) w hA
    rw [Int.toNat_of_nonneg (by omega)] at hw
    refine hw.mono ?_
    rintro e w' ⟨gt, rfl, hg, hR, hb⟩
    exact ⟨_, _, rfl, fun _ => ⟨gt, rfl, hg, hR⟩, hb⟩
  · rw [if_neg q]
    refine (turn_bad A h c n (by omega) hh w).mono ?_
    rintro e w' ⟨rfl, rfl⟩
    exact ⟨none, 0, rfl, fun h => by omega, Below.refl _ _⟩
theorem refturn_any (A : Option Addr) (h c : Nat) (n : Int) (p : Pic) (hh : h ≤ 1000) (w : World) (hA : Arr w A h p) :
    Calls Tryd.prog 10 #[.slice A h c, .int .i64 n] w fun e w' => ∃ T ct, e = .returned (.slice T (tn h n) ct) ∧ OwnT w' T w.heap.size (tn h n) (tp h p) ∧ Below w.heap.size w w' := by
  unfold tn
  by_cases q : 1 ≤ n ∧ n ≤ 64 ∧ h ≤ 64
  · rw [if_pos q]
    have hw := refturn_walk A h c n.toNat p q.2.2 (by omega) (by omega) w hA
    rw [Int.toNat_of_nonneg (by omega)] at hw
    refine hw.mono ?_
    rintro e w' ⟨gt, rfl, hg, hR, hb⟩
    exact ⟨_, _, rfl, fun _ => ⟨gt, rfl, hg, hR⟩, hb⟩
  · rw [if_neg q]
    refine (refturn_bad A h c n (by omega) hh w).mono ?_
    rintro e w' ⟨rfl, rfl⟩
    exact ⟨none, 0, rfl, fun h => by omega, Below.refl _ _⟩

set_option maxRecDepth 100000 in
set_option maxHeartbeats 8000000 in
theorem Turns_walk (A : Option Addr) (n cap : Nat) (l : List Int) (wd : Int) (w : World) (hlen : l.length = n) (hwf : ∀ x ∈ l, 0 ≤ x ∧ x < 18446744073709551616)
    (hc : 0 < n → ∃ ad, A = some ad ∧ ad.block < w.heap.size ∧ ∀ j, j < n → w.cell? (ad.add j) = some (.int .u64 (l.getD j 0))) (hT : TabAt w) :
    Calls Tryd.prog 3 #[.slice A n cap, .int .i64 wd] w fun r w' => r = .returned (.bool true) ∧ Below w.heap.size w w' := by
  have u22 := Tryd.underlying22
  by_cases hbig : 80 < n
  · go_enter Tryd.func3, Tryd.ntmps3
    go_wp2_with (go_at_call 5; (with_reducible refine (awake_walk _).mono ?_); rintro e w' ⟨rfl, hb⟩; have hB := Kept.mk hb; clear hb)
    all_goals (go_ret; exact ⟨rfl, hB.out⟩)
  have hA := Kept.mk (arr_of l hwf hlen hc)
  have hRd : Kept (ReadsInt w .u64 A n l) := ⟨⟨hlen, by omega, fun hn => by
    obtain ⟨ad, e, _, h⟩ := hc hn
    exact ⟨ad, e, h⟩⟩⟩
  have hW := Kept.mk hwf
  have hL := Kept.mk hlen
  have hTb := Kept.mk hT
  obtain ⟨a, b, c, d, ok, hans⟩ := ans_ex n (picL l)
  have hAns := Kept.mk hans
  obtain ⟨nt, hnt⟩ : ∃ nt, nt = tn n wd := ⟨_, rfl⟩
  have hntl := tn_le n wd
  rw [← hnt] at hntl
  have hn80 : n ≤ 1000 := by omega
  have hTu := Kept.mk (fun A c w h => turn_any A n c wd (picL l) hn80 w h)
  have hRt := Kept.mk (fun A c w h => refturn_any A n c wd (picL l) hn80 w h)
  rw [← hnt] at hTu hRt
  clear hc hwf hlen hT hans hnt
  go_enter Tryd.func3, Tryd.ntmps3
  go_wp2_with (first
    | ((with_reducible refine gate_builtin (b := .append) (xs := #[.const (.slice none 0 0), .tmp 23]) rfl ?_); at_builtin
       refine print_append_row (w0 := w) w.heap.size rfl (.const (.slice none 0 0)) (.tmp 23) 22 29 .u64 8 rfl u22 info29 (by decide) (.slice none 0 0) [] l A n cap rfl rfl (World.ownsRow_nil _ _ _ _) hRd.out (Below.refl _ _) (Nat.le_refl _) (by simp; omega) ?_
       intro v1 w1 ho hb hg hat
       obtain ⟨A1, c1, rfl, hin⟩ := own_arr l hW.out (n := n) (by rw [List.nil_append] at ho; rw [hL.out] at ho; exact ho) hL.out
       have hIn1 := Kept.mk hin
       have hB1 := Kept.mk hb
       have hA1 := Kept.mk (hA.out.below hb)
       have hT1 := Kept.mk (hTb.out.below hb)
       clear ho hb hg hat hin hRd hA hTb hW hL)
    | (go_at_call 6; (with_reducible refine (hTu.out A1 c1 _ hIn1.out).mono ?_); rintro e w2 ⟨T, ct, rfl, ht, hb⟩; have hTt := Kept.mk ht; have hIn2 := Kept.mk (hIn1.out.below hb); have hA2 := Kept.mk (hA1.out.below hb); have hT2 := Kept.mk (hT1.out.below hb); have hB2 := Kept.mk hb; have hIn1b := Kept.mk hIn1.out; have hA1b := Kept.mk hA1.out; clear ht hb hIn1 hA1 hT1)
    | (go_at_call 7; (with_reducible refine (box_walk A1 n c1 (picL l) hn80 _ hIn2.out hT2.out a b c d ok hAns.out).mono ?_); rintro e w3 ⟨rfl, rfl⟩)
    | (go_at_call 8; (with_reducible refine (refbox_walk A n cap (picL l) hn80 _ hA2.out a b c d ok hAns.out).mono ?_); rintro e w4 ⟨rfl, rfl⟩)
    | (go_at_call 10; (with_reducible refine (hRt.out A cap _ hA2.out).mono ?_); rintro e w5 ⟨T2, ct2, rfl, ht, hb⟩; have hTr := Kept.mk ht; have hTt5 := Kept.mk (hTt.out.below hb); have hIn5 := Kept.mk (hIn2.out.below hb); have hA5 := Kept.mk (hA2.out.below hb); have hB5 := Kept.mk (bel_step hB2.out hb); clear ht hb hTt hIn2 hA2 hB2)
    | (go_at_call 9; (with_reducible refine (same_walk T T2 nt ct ct2 (tp n (picL l)) (by omega) _ hTt5.out.arr hTr.out.arr).mono ?_); rintro e w6 ⟨rfl, hb⟩; have hTt6 := Kept.mk (hTt5.out.below hb); have hIn6 := Kept.mk (hIn5.out.below hb); have hA6 := Kept.mk (hA5.out.below hb); have hB6 := Kept.mk (bel_step hB5.out hb); clear hb hTt5 hTr hIn5 hA5 hB5)
    | (go_at_call 11; (with_reducible refine (count_walk A1 n c1 (picL l) hn80 _ hIn6.out).mono ?_); rintro e w7 ⟨rfl, rfl⟩)
    | (go_at_call 12; (with_reducible refine (refcount_walk A n cap (picL l) hn80 _ hA6.out).mono ?_); rintro e w8 ⟨rfl, rfl⟩)
    | (go_at_call 9; (with_reducible refine (same_walk A1 A n c1 cap (picL l) hn80 _ hIn6.out hA6.out).mono ?_); rintro e w9 ⟨rfl, hb⟩; have hTt9 := Kept.mk (hTt6.out.below hb); have hIn9 := Kept.mk (hIn6.out.below hb); have hA9 := Kept.mk (hA6.out.below hb); have hB9 := Kept.mk (bel_step hB6.out hb); clear hb hTt6 hIn6 hA6 hB6))
  have hN0 : Kept (0 < nt → ∃ g, T = some ⟨g, 0, none⟩ ∧ w1.heap.size ≤ g ∧ Nums w9 g nt) := ⟨fun h => by
    obtain ⟨g, e, h1, h2⟩ := hTt9.out h
    exact ⟨g, e, h1, _, h2, fun x hx => ⟨_, rowsC_get _ _ _ hx⟩⟩⟩
  clear hTt9 hIn9 hA9 hTu hRt hAns
  go_loopw [18] (fun i wq => ∃ y : Nat, y ≤ nt ∧ i = .int .i64 (y : Int) ∧ Kept (0 < nt → ∃ g, T = some ⟨g, 0, none⟩ ∧ w1.heap.size ≤ g ∧ Nums wq g nt) ∧ Kept (Below w1.heap.size w1 wq)) (fun i _ => nt - (intOf i).toNat)
  case atStart => exact ⟨0, Nat.zero_le _, rfl, hN0, hB9⟩
  case round =>
    obtain ⟨y, hy, rfl, hN, hB⟩ := hrel
    clear hN0 hB9
    by_cases hlt : y < nt
    · obtain ⟨g, rfl, hg, hNu⟩ := hN.out (by omega)
      obtain ⟨u, hu, hf⟩ := hNu.cell y hlt
      have hN2 := Kept.mk (hNu.set y 7)
      have hB2 := Kept.mk (below_set hB.out (j := y) (v := .int .u64 7) hg)
      clear hNu hN hB
      go_wp2
      go_roundw
      case rel => exact ⟨y + 1, by omega, by go_num, ⟨fun _ => ⟨g, rfl, hg, hN2.out⟩⟩, hB2⟩
      case measure => simp [intOf]; omega
    · have hye : nt = y := by omega
      subst hye
      clear hlt hy hN
      have hInz := Kept.mk (hIn1b.out.below hB.out)
      have hAz := Kept.mk (hA1b.out.below hB.out)
      have hBz := Kept.mk (bel_step hB1.out hB.out)
      clear hB
      go_wp2_with (first
        | (go_at_call 9; (with_reducible refine (same_walk A1 A n c1 cap (picL l) hn80 _ hInz.out hAz.out).mono ?_); rintro e wa ⟨rfl, hb⟩; have hBy := Kept.mk (bel_step hBz.out hb); clear hb hInz hAz)
        | (go_at_call 5; (with_reducible refine (awake_walk _).mono ?_); rintro e wb ⟨rfl, hb⟩; have hBx := Kept.mk (bel_step hBy.out hb); clear hb))
      all_goals (go_ret; exact ⟨rfl, hBx.out⟩)
end Go.Proofs.YthhhcfipmeganaaDoor.Rd
