/-
  The walk of jotterlaw2's awake. No condition.
-/
import Derived.Test.YtlffbdfkanibcaaTr
import Derived.Test.YtlffbdfkanibcaaTm
namespace Go.Proofs.Ytlffbdfkanibcaa.Sk
open Go.RowKit Go.Proofs.YtlffbdfkanibcaaW.PrintWords Go.Proofs.YtlffbdfkanibcaaW.PrintLast Go.Proofs.YtlffbdfkanibcaaW.PrintMore
open Fl Go.Proofs.Ytlffbdfkanibcaa.Pt
set_option linter.unusedSimpArgs false
set_option linter.unusedVariables false

theorem readV_line : readV lineB = some [lineSt] := by
  simp [readV, lineB, takeSts, takePts, fin, may, mayS, lineSt, num16]
theorem line_bytes : ∀ x ∈ lineB, Byte x := by
  intro x hx
  simp [lineB] at hx
  unfold Byte
  omega
theorem own_bys {w : World} {B g n c : Nat} {b : List Int} (h : w.ownsRow B 5 1 (.slice (some ⟨g, 0, none⟩) n c) b.length (B8 b)) (hg : g < w.heap.size) : Bys w g b := ⟨hg, fun j hj => by
  have ea : (⟨g, 0, none⟩ : Addr).add j = ⟨g, j, none⟩ := by unfold Addr.add; split <;> simp_all
  rw [← ea]
  exact World.ownsRow.cells h (g := g) rfl j _ (by simp only [B8, List.getElem?_map, List.getElem?_eq_getElem hj, Option.map_some, List.getD_eq_getElem?_getD, Option.getD_some])⟩
theorem bys_bt {w : World} {g : Nat} {b : List Int} (h : Bys w g b) : Bt w (some ⟨g, 0, none⟩) b := ⟨fun _ => ⟨g, 0, rfl, h.lt, fun j hj => by rw [Nat.zero_add]; exact h.cell j hj⟩⟩
theorem ReadLine_walk (g c : Nat) (w : World) (hc : 7 ≤ c) (h : Bys w g lineB) :
    Calls Try.prog 20 #[.slice (some ⟨g, 0, none⟩) 7 c] w fun e w' => ∃ A c', e = .returned (.tuple #[.slice A 1 c', .int .i64 0]) ∧ Sh w' A [lineSt] ∧ Below w.heap.size w w' := by
  refine (Read_walk g 7 c lineB hc rfl (by decide) line_bytes w h).mono ?_
  rintro e w' ⟨v, xs, z, rfl, ho, hb, h | ⟨h, rfl⟩⟩
  · rw [readV_line] at h
    exact absurd h.1 (by simp)
  · rw [readV_line] at h
    have hx : xs.map (·.1) = [lineSt] := (Option.some.inj h).symm
    have hl : xs.length = 1 := by have := congrArg List.length hx; simpa using this
    obtain ⟨A, c', rfl, hs⟩ := own_sh ho
    rw [hx] at hs
    rw [hl]
    exact ⟨A, c', rfl, hs, hb⟩
theorem lit_bys (w : World) : Bys (w.alloc (.cells #[.int .u8 1, .int .u8 35, .int .u8 1, .int .u8 0, .int .u8 1, .int .u8 255, .int .u8 254] 5)) w.heap.size lineB := ⟨by simp, fun j hj => by
  have hj7 : j < 7 := hj
  match j, hj7 with
  | 0, _ => exact World.cell?_alloc_new _ _ _ _
  | 1, _ => exact World.cell?_alloc_new _ _ _ _
  | 2, _ => exact World.cell?_alloc_new _ _ _ _
  | 3, _ => exact World.cell?_alloc_new _ _ _ _
  | 4, _ => exact World.cell?_alloc_new _ _ _ _
  | 5, _ => exact World.cell?_alloc_new _ _ _ _
  | 6, _ => exact World.cell?_alloc_new _ _ _ _⟩
set_option maxRecDepth 100000 in
set_option maxHeartbeats 8000000 in
theorem awake2_walk (w : World) : Calls Try.prog 18 #[] w fun e w' => e = .returned (.bool true) ∧ Below w.heap.size w w' := by
  have hLine := Pt.Kept.mk line_walk
  have hLay : Pt.Kept (∀ (A : Option Addr) (cs : Nat) (W : World), Sh W A [lineSt] → Calls Try.prog 31 #[.slice A 1 cs] W fun e w' => ∃ g c, e = .returned (.tuple #[.slice (some ⟨g, 0, none⟩) 7 c, .int .i64 0]) ∧ 7 ≤ c ∧ Bys w' g lineB ∧ Below W.heap.size W w') := ⟨fun A cs W hs => (vLay_walk A cs W hs).mono (by
    rintro e w' ⟨v, rfl, ho, hb⟩
    obtain ⟨g, c, rfl, h7, _, hg⟩ := own_val ho (by decide)
    exact ⟨g, c, rfl, h7, own_bys (b := lineB) ho hg, hb⟩)⟩
  have hRead := Pt.Kept.mk ReadLine_walk
  have hTurn : Pt.Kept (∀ (A : Option Addr) (cs : Nat) (W : World), Sh W A [lineSt] → Calls Try.prog 33 #[.slice A 1 cs, .complex .f64 0 4607182418800017408] W fun e w' => ∃ g c gq cq, e = .returned (.tuple #[.slice (some ⟨g, 0, none⟩) 1 c, .int .i64 0]) ∧ Below W.heap.size W w' ∧ w'.cell? ⟨g, 2, none⟩ = some (.slice (some ⟨gq, 0, none⟩) 1 cq) ∧ w'.cell? ⟨gq, 0, none⟩ = some (.complex .f64 4611686018427387904 4607182418800017408) ∧ g < w'.heap.size ∧ gq < w'.heap.size) := ⟨fun A cs W hs => by
    have h := vTurn_walk A cs W hs
    rw [← k1] at h
    refine h.mono ?_
    rintro e w' ⟨g, c, gq, cq, rfl, hb, h1, h2, _, _⟩
    rw [k1, k2]
    exact ⟨g, c, gq, cq, rfl, hb, h1, h2, World.block_lt_of_cell? _ _ h1, World.block_lt_of_cell? _ _ h2⟩⟩
  have hNil := Pt.Kept.mk ReadNil_walk
  have hSize := Pt.Kept.mk vSize_walk
  have hSameB : Pt.Kept (∀ (g g2 c c2 : Nat) (W : World), Bys W g lineB → Bys W g2 lineB → Calls Try.prog 34 #[.slice (some ⟨g, 0, none⟩) 7 c, .slice (some ⟨g2, 0, none⟩) 7 c2] W fun e w' => e = .returned (.bool true) ∧ Below W.heap.size W w') := ⟨fun g g2 c c2 W h h2 => (SameBytes_walk (some ⟨g, 0, none⟩) (some ⟨g2, 0, none⟩) c c2 lineB (by decide) W (bys_bt h) (bys_bt h2)).mono (by
    rintro e w' ⟨rfl, m, rfl⟩
    exact ⟨rfl, below_drewN (Below.refl _ _) m⟩)⟩
  have hSameS : Pt.Kept (∀ (A B : Option Addr) (c c2 : Nat) (W : World), Sh W A [lineSt] → Sh W B [lineSt] → Calls Try.prog 24 #[.slice A 1 c, .slice B 1 c2] W fun e w' => e = .returned (.bool true) ∧ Below W.heap.size W w') := ⟨fun A B c c2 W h h2 => (SameSheet_walk A B c c2 [lineSt] (by decide) line_len W h h2).mono (by
    rintro e w' ⟨rfl, m, rfl⟩
    exact ⟨rfl, below_drewN (Below.refl _ _) m⟩)⟩
  go_enter Try.func18, Try.ntmps18
  go_upto_region 2 with (first
    | (go_at_call 32; (with_reducible refine (hLine.out _).mono ?_); rintro e w1 ⟨A1, c1, rfl, hs, hb⟩; have hS1 := Pt.Kept.mk hs; have hB1 := Pt.Kept.mk hb; clear hs hb)
    | (go_at_call 31; (with_reducible refine (hLay.out _ _ _ hS1.out).mono ?_); rintro e w2 ⟨gb, cb, rfl, h7, hs, hb⟩; have H7 := Pt.Kept.mk h7; have hY2 := Pt.Kept.mk hs; have hB2 := Pt.Kept.mk (bel_step hB1.out hb); clear hs hb h7))
  clear hS1 hB1
  go_upto_region 3 with (go_at_call 20; (with_reducible refine (hRead.out _ _ _ H7.out hY2.out).mono ?_); rintro e w3 ⟨A3, c3, rfl, hs, hb⟩; have hS3 := Pt.Kept.mk hs; have hY3 := Pt.Kept.mk (hY2.out.below hb); have hB3 := Pt.Kept.mk (bel_step hB2.out hb); clear hs hb)
  clear hB2 hY2
  go_upto_region 4 with (first
    | (go_at_call 32; (with_reducible refine (hLine.out _).mono ?_); rintro e w4 ⟨A4, c4, rfl, hs, hb⟩; have hS4 := Pt.Kept.mk hs; have hT4 := Pt.Kept.mk (hS3.out.below hb); have hY4 := Pt.Kept.mk (hY3.out.below hb); have hB4 := Pt.Kept.mk (bel_step hB3.out hb); clear hs hb)
    | (go_at_call 33; (with_reducible refine (hTurn.out _ _ _ hS4.out).mono ?_); rintro e w5 ⟨g5, c5, q5, d5, rfl, hb, e1, e2, l1, l2⟩; have hT5 := Pt.Kept.mk (hT4.out.below hb); have hY5 := Pt.Kept.mk (hY4.out.below hb); have hB5 := Pt.Kept.mk (bel_step hB4.out hb); have E1 := Pt.Kept.mk e1; have E2 := Pt.Kept.mk e2; clear hb e1 e2))
  clear hB3 hY3 hB4 hY4 hT4 hS4 hS3
  go_upto_region 5 with (go_at_call 20; (with_reducible refine (hNil.out _).mono ?_); rintro e w6 ⟨rfl, hb⟩; have hT6 := Pt.Kept.mk (hT5.out.below hb); have hY6 := Pt.Kept.mk (hY5.out.below hb); have hB6 := Pt.Kept.mk (bel_step hB5.out hb); have F1 := Pt.Kept.mk ((hb.cell (p := ⟨g5, 2, none⟩) l1).trans E1.out); have F2 := Pt.Kept.mk ((hb.cell (p := ⟨q5, 0, none⟩) l2).trans E2.out); have L1 := Pt.Kept.mk (Nat.lt_of_lt_of_le l1 hb.size); have L2 := Pt.Kept.mk (Nat.lt_of_lt_of_le l2 hb.size); clear hb)
  clear hB5 hY5 hT5 E1 E2 l1 l2
  have hBa := Pt.Kept.mk (lit_bys w6)
  have ha0 := Pt.Kept.mk (bel_alloc (Below.refl w6.heap.size w6) (.cells #[.int .u8 1, .int .u8 35, .int .u8 1, .int .u8 0, .int .u8 1, .int .u8 255, .int .u8 254] 5))
  have hYa := Pt.Kept.mk (hY6.out.below ha0.out)
  go_wp2_with (first
    | (go_at_call 34; (with_reducible refine (hSameB.out _ _ _ _ _ hYa.out hBa.out).mono ?_); rintro e w7 ⟨rfl, hb⟩; have ha7 := Pt.Kept.mk (bel_step ha0.out hb); clear hb)
    | (go_at_call 24; (with_reducible refine (hSameS.out _ _ _ _ _ hT8.out hS8.out).mono ?_); rintro e w9 ⟨rfl, hb⟩; have ha9 := Pt.Kept.mk (bel_step ha8.out hb); clear hb; have x1 := (ha9.out.cell (p := ⟨g5, 2, none⟩) L1.out).trans F1.out; have x2 := (ha9.out.cell (p := ⟨q5, 0, none⟩) L2.out).trans F2.out)
    | (go_at_call 35; (with_reducible refine (hSize.out _ _ _ hS10.out).mono ?_); rintro e w11 ⟨rfl, hb⟩; have ha11 := Pt.Kept.mk (bel_step ha10.out hb); clear hb)
    | (go_at_call 32; (with_reducible refine (hLine.out _).mono ?_); rintro e w10 ⟨A10, c10, rfl, hs, hb⟩; have hS10 := Pt.Kept.mk hs; have ha10 := Pt.Kept.mk (bel_step ha9.out hb); clear hs hb)
    | (go_at_call 32; (with_reducible refine (hLine.out _).mono ?_); rintro e w8 ⟨A8, c8, rfl, hs, hb⟩; have hS8 := Pt.Kept.mk hs; have ha8 := Pt.Kept.mk (bel_step ha7.out hb); have hT8 := Pt.Kept.mk (hT6.out.below ha8.out); clear hs hb))
  all_goals (go_ret; exact ⟨rfl, bel_step hB6.out ha11.out⟩)
end Go.Proofs.Ytlffbdfkanibcaa.Sk
