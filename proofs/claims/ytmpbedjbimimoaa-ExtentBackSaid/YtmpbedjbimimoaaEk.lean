/-
  The walk of ExtentBack: it returns true. No condition beyond the argument's reading.
-/
import Derived.Test.YtmpbedjbimimoaaEc
import Derived.Test.YtmpbedjbimimoaaPureExtentBack
import Derived.Deep.QuietTactic
import Derived.BigQuiet
import Derived.WalkSmall
namespace Go.Proofs.Ytmpbedjbimimoaa.Eb
open Go.RowKit Go.Proofs.YtmpbedjbimimoaaW.PrintWords Go.Proofs.YtmpbedjbimimoaaW.PrintLast Go.Proofs.YtmpbedjbimimoaaW.PrintMore
open PExtentBack
set_option linter.unusedSimpArgs false
set_option linter.unusedVariables false

theorem awake_c (w : World) : Calls Try.prog 38 #[] w fun e w' => e = .returned (.bool true) ∧ Below w.heap.size w w' := jotterlaw15_awake.calls 60 true w (awake_f 60 (by decide))

theorem bel_step {w W w2 : World} (h : Below w.heap.size w W) (k : Below W.heap.size W w2) : Below w.heap.size w w2 :=
  h.trans ⟨k.os, k.tape, k.output, k.size, fun i hi => k.block i (Nat.lt_of_lt_of_le hi h.size)⟩

/-- The box of a geometry. -/
abbrev Geo (b p y s t : Int) : Array Value := #[.int .i64 b, .int .i64 p, .int .i64 y, .int .i64 s, .int .i64 t]
abbrev Bx (w : World) (g : Nat) (b p y s t : Int) : Prop := w.heap[g]? = some (.cells (Geo b p y s t) 23 (0, 0))

set_option maxRecDepth 100000 in
set_option maxHeartbeats 4000000 in
theorem Back_walk (b p y s t : Int) (A : Option Addr) (c : Nat) (xs : List Int) (w : World) (hC : (Kd.int .u8).C w A xs.length xs) (hc : xs.length ≤ c) :
    Calls Try.prog 12 #[.agg (Geo b p y s t), .slice A xs.length c] w fun e w' => e = .returned (.bool true) ∧ Below w.heap.size w w' := by
  have hu23 := Try.underlying23
  have HC := Kept.mk hC
  have hcK := Kept.mk hc
  clear hC hc
  by_cases hbig : 500 < xs.length
  · go_enter Try.func12, Try.ntmps12
    go_wp2_with (first
      | ((with_reducible refine gate_dst (N := 2) rfl ?_); refine box_event ?hg (N := 2) ?hd (cs := Geo b p y s t) (t := 23) ?hr ?_; (case hd => rfl); (case hg => rfl); (case hr => first | (go_simp; done) | (go_simp; rfl)); intro gb hg w1 hbox hb; have hB1 := Kept.mk hb; clear hbox hb hg)
      | (go_at_call 38; (with_reducible refine (awake_c _).mono ?_); rintro e w2 ⟨rfl, hb⟩; have hB2 := Kept.mk (bel_step hB1.out hb); clear hb))
    all_goals (go_ret; exact ⟨rfl, hB2.out⟩)
  · by_cases hmay : mayP b p y s t
    · obtain ⟨Y, rfl⟩ : ∃ Y : Nat, y = (Y : Int) := ⟨y.toNat, by unfold mayP at hmay; omega⟩
      have hY : 24 ≤ Y ∧ Y ≤ 64 := by unfold mayP at hmay; omega
      have hp1 := parts_one (Y : Int) (xs.length : Int)
      have hpm := parts_most (Y : Int) (xs.length : Int) (by omega) (by omega)
      obtain ⟨n, hn⟩ : ∃ n : Nat, (n : Int) = partsV (Y : Int) (xs.length : Int) := ⟨(partsV (Y : Int) (xs.length : Int)).toNat, by omega⟩
      have hn1 : 1 ≤ n ∧ n ≤ 564 := by omega
      obtain ⟨hcut, hcov⟩ := cut_f 1001 xs b p s t Y n hmay (by omega) hn (by omega) (by omega)
      have hflat := flat_cut Y n xs hcov
      have hplen := cutV_len Y n xs
      have hpl := pad_len Y n xs hcov
      have hptake := pad_take Y n xs
      have hne : ∀ q ∈ cutV Y n xs, 0 < q.length := by
        intro q hq
        simp only [cutV, List.mem_map, List.mem_range] at hq
        obtain ⟨i, hi, rfl⟩ := hq
        rw [chunk_len Y n xs i hcov hi]; omega
      have hrd : ∀ i : Nat, i < n → (rd_L2 (cutV Y n xs) (i : Int)).length = Y := by
        intro i hi
        unfold rd_L2 cutV
        rw [Int.toNat_natCast, List.getD_eq_getElem?_getD, List.getElem?_map, List.getElem?_range hi]
        exact chunk_len Y n xs i hcov hi
      have hnY : n * Y ≤ 564 * 64 := Nat.mul_le_mul hn1.2 hY.2
      have hfl : (flat (cutV Y n xs)).length = n * Y := by unfold flat; rw [hflat, hpl]
      have hMK := Kept.mk (fun w => jotterref5_May.calls b p (Y : Int) s t true w (by rw [rmay_f]; simp [hmay]))
      have hCut := Kept.mk (fun w hw => extent_Cut.calls 1001 b p (Y : Int) s t A c xs (cutV Y n xs) w hw hcK.out hcut)
      have hP1 := Kept.mk (fun w => extent_Pages.calls b p (Y : Int) s t (xs.length : Int) (n : Int) w (by rw [pages_f _ _ _ _ _ _ hmay (by omega) (by omega), hn]))
      have hNe := Kept.mk hne
      have hRd := Kept.mk hrd
      have hFl := Kept.mk hfl
      have hPl := Kept.mk hplen
      have hTk : Kept ((flat (cutV Y n xs)).take xs.length = xs) := ⟨by unfold flat; rw [hflat]; exact hptake⟩
      have hnx := Kept.mk (parts_next (Y : Int) (xs.length : Int) (by omega) (by omega))
      rw [← hn] at hnx
      have hN2 := Kept.mk (fun (m : Int) w (h : partsV (Y : Int) ((xs.length : Int) + 1) = m) => extent_Pages.calls b p (Y : Int) s t ((xs.length : Int) + 1) m w (by rw [pages_f _ _ _ _ _ _ hmay (by omega) (by omega), h]))
      clear hcut hflat hplen hpl hptake hne hrd hp1 hpm hn hfl
      generalize cutV Y n xs = P at *
      obtain rfl : P.length = n := hPl.out
      clear hPl
      have hq0 : (0 : Int) ≤ (P.length : Int) * (Y : Int) := Int.mul_nonneg (by omega) (by omega)
      have hq1 : (P.length : Int) * (Y : Int) ≤ 36096 := by rw [← Int.natCast_mul]; omega
      have hq2 : (xs.length : Int) ≤ (P.length : Int) * (Y : Int) := by rw [← Int.natCast_mul]; omega
      have hpos : 0 < P.length * Y := Nat.mul_pos (by omega) (by omega)
      go_enter Try.func12, Try.ntmps12
      go_wp2_with (first
        | ((with_reducible refine gate_dst (N := 2) rfl ?_); refine box_event ?hg (N := 2) ?hd (cs := Geo b p (Y : Int) s t) (t := 23) ?hr ?_; (case hd => rfl); (case hg => rfl); (case hr => first | (go_simp; done) | (go_simp; rfl)); intro gb hg w1 hbox hb; have hB1 := Kept.mk hb; have hX1 := Kept.mk hbox; have hG : w.heap.size ≤ gb := Nat.le_of_eq hg.symm; have z0 := (blk_cell hbox 0).trans rfl; have z1 := (blk_cell hbox 1).trans rfl; have z2 := (blk_cell hbox 2).trans rfl; have z3 := (blk_cell hbox 3).trans rfl; have z4 := (blk_cell hbox 4).trans rfl; clear hbox hb hg)
        | (go_at_call 30; (with_reducible refine (hMK.out _).mono ?_); rintro e w3 ⟨rfl, hb⟩; have hB3 := Kept.mk (bel_step hB1.out hb); have hX3 := Kept.mk (blk_below hX1.out hb); have z0 := (blk_cell hX3.out 0).trans rfl; have z1 := (blk_cell hX3.out 1).trans rfl; have z2 := (blk_cell hX3.out 2).trans rfl; have z3 := (blk_cell hX3.out 3).trans rfl; have z4 := (blk_cell hX3.out 4).trans rfl; clear hb)
        | (go_at_call 42; refine (hCut.out _ (Kd.C_below HC.out hB3.out)).mono ?_; rintro e w4 ⟨v, rfl, hS, hb⟩; have hB4 := Kept.mk (bel_step hB3.out hb); have hX4 := Kept.mk (blk_below hX3.out hb); obtain ⟨A4, c4, rfl, hc4, hC4⟩ := Kd.R_reads (Kd.S_R hS); have hR4 := Kept.mk hC4; clear hb hS hC4))
      go_loopw [6] (fun i wr => ∃ k : Nat, k ≤ P.length ∧ i = .int .i64 k ∧ Kept (KB.C wr A4 P.length P) ∧ Kept (Below w.heap.size w wr) ∧ Kept (Bx wr gb b p (Y : Int) s t)) (fun i _ => P.length - (intOf i).toNat)
      case atStart => exact ⟨0, Nat.zero_le _, rfl, hR4, hB4, hX4⟩
      case round =>
        obtain ⟨k, hk, rfl, hRr, hBr, hXr⟩ := hrel
        clear hR4 hB4 hX4
        by_cases hlt : k < P.length
        · obtain ⟨ad, A0, c0, hA, hcell, _, _⟩ := at_L2 hRr.out (k : Int) (by omega) (by omega)
          rw [hRd.out k hlt, Int.toNat_natCast] at hcell
          subst hA
          have zz : wr.cell? ⟨gb, 2, none⟩ = some (.int .i64 (Y : Int)) := (blk_cell hXr.out 2).trans rfl
          go_wp2
          go_quiet (fail)
          have hB6 : Kept (Below w.heap.size w (wr.drewN nq)) := ⟨below_drewN hBr.out nq⟩
          have hR6 : Kept (KB.C (wr.drewN nq) (some ad) P.length P) := ⟨Kd.C_below hRr.out (below_drewN (Below.refl _ _) nq)⟩
          have hX6 : Kept (Bx (wr.drewN nq) gb b p (Y : Int) s t) := ⟨hXr.out⟩
          generalize wr.drewN nq = w6 at *
          clear zz hcell
          go_wp2
          go_roundw
          case rel => exact ⟨k + 1, by omega, by go_num, hR6, hB6, hX6⟩
          case measure => simp [intOf]; omega
        · have hke : k = P.length := by omega
          subst hke
          have hyp0 : ¬ ((Y : Int) = 0) := by omega
          have z0 := (blk_cell hXr.out 0).trans rfl
          have z1 := (blk_cell hXr.out 1).trans rfl
          have z2 := (blk_cell hXr.out 2).trans rfl
          have z3 := (blk_cell hXr.out 3).trans rfl
          have z4 := (blk_cell hXr.out 4).trans rfl
          have hJ1 := Kept.mk (Join_in A4 c4 P xs.length wr hRr.out hNe.out (by rw [hFl.out]; omega) (by omega) (by rw [hFl.out]; exact hpos) (by rw [hFl.out]; exact hcov))
          rw [hTk.out] at hJ1
          clear z0 z1 z2 z3 z4
          go_wp2_with (first
            | (go_at_call 43; (with_reducible refine hJ1.out.mono ?_); rintro e w7 ⟨A7, c7, rfl, hc7, hC7, hb7⟩; have hB7 := Kept.mk (bel_step hBr.out hb7); have hX7 := Kept.mk (blk_below hXr.out hb7); have hR7 := Kept.mk (Kd.C_below hRr.out hb7); have hS7 := Kept.mk hC7; have y0 := (blk_cell hX7.out 0).trans rfl; have y1 := (blk_cell hX7.out 1).trans rfl; have y2 := (blk_cell hX7.out 2).trans rfl; have y3 := (blk_cell hX7.out 3).trans rfl; have y4 := (blk_cell hX7.out 4).trans rfl; clear hb7 hC7))
          have hJ2 := Kept.mk (Join_out A4 c4 P ((P.length : Int) * (Y : Int) + 1) w7 hR7.out hNe.out (by rw [hFl.out]; omega) (by omega) (by rw [hFl.out]; exact hpos) (by rw [hFl.out, Int.natCast_mul]; omega))
          have hSame := Kept.mk (fun w h1 h2 => jotterlaw0_SameBytes.calls 600 A7 c7 xs A c xs true w h1 hc7 h2 hcK.out (same_f 600 xs (by omega) (by omega)))
          obtain ⟨m, hm, hcase⟩ : ∃ m : Int, partsV (Y : Int) ((xs.length : Int) + 1) = m ∧ (m = (P.length : Int) ∨ (m = (P.length : Int) + 1 ∧ (xs.length : Int).tmod (Y : Int) = 0)) := by
            refine ⟨_, rfl, ?_⟩
            rcases hnx.out with h | ⟨h, hz⟩
            · exact .inl h
            · exact .inr ⟨h, by rw [Int.tmod_eq_emod_of_nonneg (by omega)]; exact hz⟩
          have hP2 := Kept.mk (fun w => hN2.out m w hm)
          clear hm y0 y1 y2 y3 y4 hpos hnY hcov
          have hP2c := Kept.mk hcase
          clear hcase
          go_wp2_with (first
            | (go_at_call 43; (with_reducible refine hJ2.out.mono ?_); rintro e w8 ⟨rfl, hb8⟩; have hB8 := Kept.mk (bel_step hB7.out hb8); have hX8 := Kept.mk (blk_below hX7.out hb8); have hS8 := Kept.mk (Kd.C_below hS7.out hb8); have y0 := (blk_cell hX8.out 0).trans rfl; have y1 := (blk_cell hX8.out 1).trans rfl; have y2 := (blk_cell hX8.out 2).trans rfl; have y3 := (blk_cell hX8.out 3).trans rfl; have y4 := (blk_cell hX8.out 4).trans rfl; clear hb8)
            | (go_at_call 40; (with_reducible refine (hP1.out _).mono ?_); rintro e w9 ⟨rfl, hb9⟩; have hB9 := Kept.mk (bel_step hB8.out hb9); have hX9 := Kept.mk (blk_below hX8.out hb9); have hS9 := Kept.mk (Kd.C_below hS8.out hb9); clear y0 y1 y2 y3 y4; have y0 := (blk_cell hX9.out 0).trans rfl; have y1 := (blk_cell hX9.out 1).trans rfl; have y2 := (blk_cell hX9.out 2).trans rfl; have y3 := (blk_cell hX9.out 3).trans rfl; have y4 := (blk_cell hX9.out 4).trans rfl; clear hb9)
            | (go_at_call 40; (with_reducible refine (hP2.out _).mono ?_); rintro e wa ⟨rfl, hba⟩; have hBa := Kept.mk (bel_step hB9.out hba); have hXa := Kept.mk (blk_below hX9.out hba); have hSa := Kept.mk (Kd.C_below hS9.out hba); clear y0 y1 y2 y3 y4; have y0 := (blk_cell hXa.out 0).trans rfl; have y1 := (blk_cell hXa.out 1).trans rfl; have y2 := (blk_cell hXa.out 2).trans rfl; have y3 := (blk_cell hXa.out 3).trans rfl; have y4 := (blk_cell hXa.out 4).trans rfl; clear hba)
            | (go_at_call 44; (with_reducible refine (hSame.out _ hSa.out (Kd.C_below HC.out hBa.out)).mono ?_); rintro e wb ⟨rfl, hbb⟩; have hBb := Kept.mk (bel_step hBa.out hbb.below); have hXb := Kept.mk (blk_below hXa.out hbb.below); clear y0 y1 y2 y3 y4; have y0 := (blk_cell hXb.out 0).trans rfl; have y1 := (blk_cell hXb.out 1).trans rfl; have y2 := (blk_cell hXb.out 2).trans rfl; have y3 := (blk_cell hXb.out 3).trans rfl; have y4 := (blk_cell hXb.out 4).trans rfl; clear hbb; rcases hP2c.out with rfl | ⟨rfl, htm⟩)
            | (go_at_call 38; (with_reducible refine (awake_c _).mono ?_); rintro e wc ⟨rfl, hbc⟩; have hBc := Kept.mk (bel_step hBb.out hbc); clear hbc))
          all_goals first | (go_ret; exact ⟨rfl, hBc.out⟩) | (exfalso; omega)
    · have hM := fun w => jotterref5_May.calls b p y s t false w (by rw [rmay_f]; simp [hmay])
      have hMK := Kept.mk hM
      clear hM
      go_enter Try.func12, Try.ntmps12
      go_wp2_with (first
        | ((with_reducible refine gate_dst (N := 2) rfl ?_); refine box_event ?hg (N := 2) ?hd (cs := Geo b p y s t) (t := 23) ?hr ?_; (case hd => rfl); (case hg => rfl); (case hr => first | (go_simp; done) | (go_simp; rfl)); intro gb hg w1 hbox hb; have hB1 := Kept.mk hb; have z0 := (blk_cell hbox 0).trans rfl; have z1 := (blk_cell hbox 1).trans rfl; have z2 := (blk_cell hbox 2).trans rfl; have z3 := (blk_cell hbox 3).trans rfl; have z4 := (blk_cell hbox 4).trans rfl; clear hbox hb hg)
        | (go_at_call 30; (with_reducible refine (hMK.out _).mono ?_); rintro e w3 ⟨rfl, hb⟩; have hB3 := Kept.mk (bel_step hB1.out hb); clear hb)
        | (go_at_call 38; (with_reducible refine (awake_c _).mono ?_); rintro e w2 ⟨rfl, hb⟩; have hB2 := Kept.mk (bel_step hB3.out hb); clear hb))
      all_goals (go_ret; exact ⟨rfl, hB2.out⟩)
end Go.Proofs.Ytmpbedjbimimoaa.Eb
