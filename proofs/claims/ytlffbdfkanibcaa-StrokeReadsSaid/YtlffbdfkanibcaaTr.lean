/-
  The walks of point.All and stroke.Turn at line, and of stroke.Read of no bytes. No condition.
-/
import Derived.Test.YtlffbdfkanibcaaTq
namespace Go.Proofs.Ytlffbdfkanibcaa.Sk
open Go.RowKit Go.Proofs.YtlffbdfkanibcaaW.PrintWords Go.Proofs.YtlffbdfkanibcaaW.PrintLast Go.Proofs.YtlffbdfkanibcaaW.PrintMore
open Fl Go.Proofs.Ytlffbdfkanibcaa.Pt
set_option linter.unusedSimpArgs false
set_option linter.unusedVariables false

set_option maxRecDepth 100000 in
theorem ReadNil_walk (w : World) : Calls Try.prog 20 #[.slice none 0 0] w fun e w' => e = .returned (.tuple #[.slice none 0 0, .int .i64 5]) ∧ Below w.heap.size w w' := by
  go_enter Try.func20, Try.ntmps20
  go_wp2
  refine wp_scope_four (fun a wr => (a.tmps.size = 98 ∧ a.defers = []) ∧ Pt.Kept (Below w.heap.size w wr)) (fun _ _ => False) (fun _ _ => False) (fun _ _ => False) (fun _ _ => 0) (fun _ _ => 0) (fun _ _ => 0) (fun _ _ => 0) rfl rfl rfl rfl ?p0 ?p1 ?p3 ?p2 ?first
  case p0 =>
    rintro m a wr ⟨⟨hs98, hd98⟩, hBe⟩ hm
    obtain ⟨f, rfl⟩ := frame98 a hs98 hd98
    clear hs98 hd98 hm
    go_wp2
    all_goals (rw [jumps_ret]; go_ret2; exact ⟨rfl, hBe.out⟩)
  case p1 => intro m a wr h; exact absurd h id
  case p3 => intro m a wr h; exact absurd h id
  case p2 => intro _ m a wr h; exact absurd h id
  case first =>
    intro p2'
    go_wp2
    go_step3
    exact jump_to (J := fun l a' w' => match l with | 0 => (a'.tmps.size = 98 ∧ a'.defers = []) ∧ Pt.Kept (Below w.heap.size w w') | 1 => False | 2 => False | 3 => False | _ => False) ⟨⟨rfl, rfl⟩, ⟨Below.refl _ _⟩⟩

set_option maxRecDepth 100000 in
set_option maxHeartbeats 4000000 in
theorem vAll_walk (gp c : Nat) (w : World) (h : w.cell? ⟨gp, 0, none⟩ = some (.complex .f64 (I 1) (I (-2)))) :
    Calls Try.prog 44 #[.slice (some ⟨gp, 0, none⟩) 1 c, .complex .f64 (I 0) (I 1)] w fun e w' => ∃ v, e = .returned (.tuple #[v, .bool true]) ∧ w'.ownsRow w.heap.size 22 1 v 1 [CP (2, 1)] ∧ Below w.heap.size w w' := by
  have hu32 := Try.underlying32
  obtain ⟨i2, hj, hy0', hy1', hy2'⟩ := info_parts info22
  have C3 := Pt.Kept.mk h
  have hT := Pt.Kept.mk (fun w => Turn_in 1 (-2) 0 1 (by decide) (by decide) (by decide) (by decide) 2 1 (by decide) (by decide) (by decide) (by decide) w)
  clear h
  go_enter Try.func44, Try.ntmps44
  go_wp2
  go_loopw [6, 13] (fun v i wr => (i = .int .i64 0 ∧ v = .slice none 0 0 ∧ wr = w) ∨ (i = .int .i64 1 ∧ Pt.Kept (wr.ownsRow w.heap.size 22 1 v 1 [CP (2, 1)]) ∧ Pt.Kept (Below w.heap.size w wr))) (fun _ i _ => 1 - (intOf i).toNat)
  case atStart => exact .inl ⟨rfl, rfl, rfl⟩
  case round =>
    rcases hrel with ⟨rfl, rfl, rfl⟩ | ⟨rfl, hO, hB⟩
    · have c3 := C3.out
      go_wp2_with (first
        | (go_at_call 10; (with_reducible refine (hT.out _).mono ?_); rintro e w' ⟨rfl, hw⟩; have hw := hw.symm; subst hw)
        | (at_builtin; refine of_mark ?_))
      apply to_mark
      refine wpList_append_own _ rfl (.tmp 25) (.tmp 27) 32 rfl wr.heap.size 22 i2 (.complex .f64 0 0) 1 16 hu32 hj hy0' hy1' hy2' rfl (by decide) _ 0 [] rfl (World.ownsRow_nil _ _ _ _) ⟨wr.heap.size, 0, none⟩ 1 1 [C 2 1] rfl rfl ?_ (by intro u hu; simp at hu; subst hu; rfl) (by unfold maxLen; omega) (by omega) (by simp) ?_
      · intro j u hj
        match j, hj with
        | 0, hj => cases hj; exact World.cell?_alloc_new _ _ _ _
      intro v' w2 hown' hgrow _
      have hO3 : Pt.Kept (w2.ownsRow wr.heap.size 22 1 v' 1 [CP (2, 1)]) := ⟨hown'⟩
      have hB3 : Pt.Kept (Below wr.heap.size wr w2) := ⟨((Below.refl _ _).alloc (Nat.le_refl _) _).grown hgrow (by simp) (fun g hg => by cases hg)⟩
      clear hown' hgrow hw c3
      go_wp2
      go_roundw
      case rel => exact .inr ⟨by go_num, hO3, hB3⟩
      case measure => simp [intOf]
    · go_wp2
      all_goals (go_ret2; exact ⟨_, rfl, hO.out, hB.out⟩)
set_option maxRecDepth 100000 in
set_option maxHeartbeats 8000000 in
theorem vTurn_walk (A : Option Addr) (cs : Nat) (w : World) (hs : Sh w A [lineSt]) :
    Calls Try.prog 33 #[.slice A 1 cs, .complex .f64 (I 0) (I 1)] w fun e w' => ∃ g c gq cq, e = .returned (.tuple #[.slice (some ⟨g, 0, none⟩) 1 c, .int .i64 0]) ∧ Below w.heap.size w w' ∧ w'.cell? ⟨g, 2, none⟩ = some (.slice (some ⟨gq, 0, none⟩) 1 cq) ∧ w'.cell? ⟨gq, 0, none⟩ = some (CP (2, 1)) ∧ w.heap.size ≤ g ∧ w.heap.size ≤ gq := by
  have hu43 := Try.underlying43
  obtain ⟨i0, hi, hz0, hz1, hz2⟩ := info_parts info65
  have hM : Pt.Kept (Calls Try.prog 37 #[.slice A 1 cs] w fun e w' => e = .returned (.bool true) ∧ Below w.heap.size w w') := ⟨by
    have h := may_walk A cs [lineSt] (by decide) line_len in_line w hs
    rw [decide_eq_true may_line] at h
    exact h⟩
  obtain ⟨g, rfl, hgl, hcc⟩ := hs.ex (by decide)
  obtain ⟨P, c, c0, c1, c2, hp⟩ := hcc 0 (by decide)
  obtain ⟨gp, rfl, hgpl, hpc⟩ := hp.ex (by decide)
  have c3 := hpc 0 (by decide)
  have C0 : Pt.Kept (w.cell? ⟨g, 0, none⟩ = some (.int .i64 2)) := ⟨c0⟩
  have C1 : Pt.Kept (w.cell? ⟨g, 1, none⟩ = some (.int .i64 3)) := ⟨c1⟩
  have C2 : Pt.Kept (w.cell? ⟨g, 2, none⟩ = some (.slice (some ⟨gp, 0, none⟩) 1 c)) := ⟨c2⟩
  have C3 : Pt.Kept (w.cell? ⟨gp, 0, none⟩ = some (.complex .f64 (I 1) (I (-2)))) := ⟨c3⟩
  have hA := Pt.Kept.mk (fun W h => vAll_walk gp c W h)
  clear hs hcc hp hpc c0 c1 c2 c3
  go_enter Try.func33, Try.ntmps33
  go_wp2_with (go_at_call 37; (with_reducible refine hM.out.mono ?_); rintro e w0 ⟨rfl, hb⟩; have hB0 := Pt.Kept.mk hb; clear hb)
  go_loopw [6, 16] (fun v i wr => (i = .int .i64 0 ∧ v = .slice none 0 0 ∧ Pt.Kept (Below w.heap.size w wr)) ∨ (i = .int .i64 1 ∧ Pt.Kept (Below w.heap.size w wr) ∧ Pt.Kept (∃ g c gq cq, v = .slice (some ⟨g, 0, none⟩) 1 c ∧ wr.cell? ⟨g, 2, none⟩ = some (.slice (some ⟨gq, 0, none⟩) 1 cq) ∧ wr.cell? ⟨gq, 0, none⟩ = some (CP (2, 1)) ∧ w.heap.size ≤ g ∧ w.heap.size ≤ gq))) (fun _ i _ => 1 - (intOf i).toNat)
  case atStart => exact .inl ⟨rfl, rfl, hB0⟩
  case round =>
    clear hB0 hM
    rcases hrel with ⟨rfl, rfl, hB⟩ | ⟨rfl, hB, hE⟩
    · have c0 := (hB.out.cell (p := ⟨g, 0, none⟩) hgl).trans C0.out
      have c1 := (hB.out.cell (p := ⟨g, 1, none⟩) hgl).trans C1.out
      have c2 := (hB.out.cell (p := ⟨g, 2, none⟩) hgl).trans C2.out
      go_upto_region 7 with (fail)
      have hB2 := Pt.Kept.mk (bel_alloc hB.out (.cells #[.int .i64 2, .int .i64 3, .slice (some ⟨gp, 0, none⟩) 1 c] 65))
      have x0 : (wr.alloc (.cells #[.int .i64 2, .int .i64 3, .slice (some ⟨gp, 0, none⟩) 1 c] 65)).cell? ⟨wr.heap.size, 0, none⟩ = some (.int .i64 2) := World.cell?_alloc_new _ _ _ _
      have x1 : (wr.alloc (.cells #[.int .i64 2, .int .i64 3, .slice (some ⟨gp, 0, none⟩) 1 c] 65)).cell? ⟨wr.heap.size, 1, none⟩ = some (.int .i64 3) := World.cell?_alloc_new _ _ _ _
      have x2 : (wr.alloc (.cells #[.int .i64 2, .int .i64 3, .slice (some ⟨gp, 0, none⟩) 1 c] 65)).cell? ⟨wr.heap.size, 2, none⟩ = some (.slice (some ⟨gp, 0, none⟩) 1 c) := World.cell?_alloc_new _ _ _ _
      have hgx : wr.heap.size < (wr.alloc (.cells #[.int .i64 2, .int .i64 3, .slice (some ⟨gp, 0, none⟩) 1 c] 65)).heap.size := by simp
      clear c0 c1 c2 hB
      generalize (wr.alloc (.cells #[.int .i64 2, .int .i64 3, .slice (some ⟨gp, 0, none⟩) 1 c] 65)) = w1 at *
      generalize wr.heap.size = gx at *
      have hA1 := Pt.Kept.mk (hA.out w1 ((hB2.out.cell (p := ⟨gp, 0, none⟩) hgpl).trans C3.out))
      have X0 := Pt.Kept.mk x0
      have X1 := Pt.Kept.mk x1
      go_upto_region 10 with (go_at_call 44; go_loud (with_reducible refine hA1.out.mono ?_); rintro e w2 ⟨v, rfl, ho, hb⟩; obtain ⟨gq, cq, rfl, _, hq1, hq2⟩ := own_val ho (by decide); have hB3 := Pt.Kept.mk hb; have hO3 := Pt.Kept.mk ho; have HQ := Pt.Kept.mk (And.intro hq1 hq2); clear ho hb hq1 hq2)
      have y0 := (hB3.out.cell (p := ⟨gx, 0, none⟩) hgx).trans X0.out
      have y1 := (hB3.out.cell (p := ⟨gx, 1, none⟩) hgx).trans X1.out
      clear x0 x1 x2 hA1 X0 X1
      go_wp2_with (at_builtin; refine of_mark ?_)
      apply to_mark
      have hB4 := Pt.Kept.mk (bel_step hB2.out hB3.out)
      have hq0 : Pt.Kept (w2.cell? ⟨gq, 0, none⟩ = some (CP (2, 1))) := ⟨by
        have ea : (⟨gq, 0, none⟩ : Addr).add 0 = ⟨gq, 0, none⟩ := by unfold Addr.add; split <;> simp_all
        rw [← ea]
        exact World.ownsRow.cells hO3.out (g := gq) rfl 0 _ rfl⟩
      refine wpList_append_own _ rfl (.tmp 29) (.tmp 36) 43 rfl w.heap.size 65 i0 (.agg #[.int .i64 0, .int .i64 0, .slice none 0 0]) 3 40 hu43 hi hz0 hz1 hz2 rfl (by decide) _ 0 [] rfl (World.ownsRow_nil _ _ _ _) ⟨w2.heap.size, 0, none⟩ 1 1 [.int .i64 2, .int .i64 3, .slice (some ⟨gq, 0, none⟩) 1 cq] rfl rfl ?_ (by intro u hu; simp at hu; rcases hu with rfl | rfl | rfl <;> rfl) (by unfold maxLen; omega) (by omega) (by have := hB4.out.size; simp; omega) ?_
      · intro j u hj
        match j, hj with
        | 0, hj => cases hj; exact World.cell?_alloc_new _ _ _ _
        | 1, hj => cases hj; exact World.cell?_alloc_new _ _ _ _
        | 2, hj => cases hj; exact World.cell?_alloc_new _ _ _ _
      intro v' w3 hown' hgrow _
      have hB5 : Pt.Kept (Below w.heap.size w w3) := ⟨(hB4.out.alloc hB4.out.size _).grown hgrow (by have := hB4.out.size; simp; omega) (fun g hg => by cases hg)⟩
      have hq1 : Pt.Kept (w3.cell? ⟨gq, 0, none⟩ = some (CP (2, 1))) := ⟨hgrow.cell ((World.cell?_alloc_old _ _ _ (Nat.ne_of_lt HQ.out.2)).trans hq0.out) (by intro e; cases e)⟩
      obtain ⟨gv, cv, rfl, _, hv1, _⟩ := own_val hown' (by decide)
      have hE : Pt.Kept (w3.cell? ⟨gv, 2, none⟩ = some (.slice (some ⟨gq, 0, none⟩) 1 cq)) := ⟨by
        have ea : (⟨gv, 0, none⟩ : Addr).add 2 = ⟨gv, 2, none⟩ := by unfold Addr.add; split <;> simp_all
        rw [← ea]
        exact World.ownsRow.cells hown' (g := gv) rfl 2 _ rfl⟩
      have hV := Pt.Kept.mk hv1
      have hW := hB2.out.size
      have hQ := Pt.Kept.mk (Nat.le_trans hW HQ.out.1)
      clear hown' hgrow hq0 y0 y1 hv1 hW HQ hgx hO3 hB3 hB4 hA
      go_wp2
      go_roundw
      case rel => exact .inr ⟨by go_num, hB5, ⟨_, _, _, _, rfl, hE.out, hq1.out, hV.out, hQ.out⟩⟩
      case measure => simp [intOf]
    · obtain ⟨gv, cv, gq, cq, rfl, e1, e2, e3, e4⟩ := hE.out
      go_wp2
      all_goals (go_ret2; exact ⟨gv, cv, gq, cq, rfl, hB.out, e1, e2, e3, e4⟩)
end Go.Proofs.Ytlffbdfkanibcaa.Sk
