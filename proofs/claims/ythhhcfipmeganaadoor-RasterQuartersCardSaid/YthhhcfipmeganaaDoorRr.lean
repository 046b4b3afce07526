/-
  The walk of raster's Draw on a sheet of one stroke of whole points. No condition beyond the numbers' bounds.
-/
import Derived.Test.YthhhcfipmeganaaDoorRm
import Derived.Deep.Cut
import Derived.Deep.CutRange
namespace Go.Proofs.YthhhcfipmeganaaDoor.Rd
open Go.RowKit Go.Proofs.YthhhcfipmeganaaDoorW.PrintWords Go.Proofs.YthhhcfipmeganaaDoorW.PrintLast Go.Proofs.YthhhcfipmeganaaDoorW.PrintMore
open Fl Ra
set_option linter.unusedSimpArgs false
set_option linter.unusedVariables false

theorem info29 : (Tryd.prog.info? 29).map (fun i => (i.zero, i.size, i.bytes)) = some (some (.int .u64 0), 1, 8) := by kernel_rfl
/-- What dots ink. -/
def inkD (wd ww : Int) (D : List P2) : Pic := fun j i => D.any (fun d => ink wd ww d j i)
theorem inkD_snoc (wd ww : Int) (D : List P2) (d : P2) : inkD wd ww (D ++ [d]) = fun j i => inkD wd ww D j i || ink wd ww d j i := by
  funext j i
  simp [inkD, List.any_append]
/-- Where a point is in a picture. -/
def pl (at_ : P2) (sc : Int) (p : P2) : P2 := ((p.1 - at_.1) / sc, (p.2 - at_.2) / sc)
/-- The dots of the first k points. -/
def dotsK (qs : List P2) : Nat → List P2
  | 0 => []
  | k + 1 => dotsK qs k ++ path (qs.getD (k - 1) (0, 0)) (qs.getD k (0, 0))

theorem in_walk (n : Int) (h1 : 1 ≤ n) (h2 : n ≤ 64) (w : World) : Calls Tryd.prog 18 #[.int .i64 n, .int .i64 64] w fun e w' => e = .returned (.bool true) ∧ w = w' := by
  go_enter Tryd.func18, Tryd.ntmps18
  go_wp2
  all_goals (go_ret; exact ⟨rfl, rfl⟩)

theorem rowsC_zero (h : Nat) : madeCells #[Value.int .u64 0] h = rowsC h (fun _ _ => false) := by
  apply Array.ext
  · simp [rowsC, size_madeCells]
  · intro k h1 h2
    have hk : k < h := by simpa [rowsC] using h2
    have e1 := rowsC_get h (fun _ _ => false) k hk
    rw [Array.getElem?_eq_getElem h2] at e1
    rw [Option.some.inj e1]
    simp [madeCells, rowV, num_zero, Nat.mod_one]

theorem pts_own {w : World} {base gl n cl : Nat} (ps : List P2) (h : w.ownsRow base 35 1 (.slice (some ⟨gl, 0, none⟩) n cl) n (ps.map CP)) (hl : ps.length = n) (hlt : gl < w.heap.size) : PtsAt w gl ps := by
  refine ⟨hlt, fun j hj => ?_⟩
  rw [World.ownsRow.cellAt h j (by omega), List.getElem?_map, List.getElem?_eq_getElem hj, List.getD_eq_getElem?_getD, List.getElem?_eq_getElem hj]; rfl
theorem blk_grown {w w1 : World} {g k : Nat} {o : Obj} (h : w.heap[g]? = some o) (hg : w.grownBy w1 (some k)) (hne : g ≠ k) : w1.heap[g]? = some o :=
  (hg.block g (blk_lt h) (fun e => hne (Option.some.inj e))).trans h
theorem bel_grown {w W w1 : World} {k : Nat} (h : Below w.heap.size w W) (hg : W.grownBy w1 (some k)) (hk : w.heap.size ≤ k) : Below w.heap.size w w1 :=
  h.grown hg h.size (fun g e => by cases e; exact hk)
theorem dot_c (gp gr h : Nat) (ww wd : Int) (d : P2) (D : List P2) (w : World) (hP : Pen w gp gr h ww wd) (hR : Rows w gr h (inkD wd ww D)) (hne : gp ≠ gr) (hh1 : 1 ≤ h) (hh2 : h ≤ 64) (hw1 : 1 ≤ ww) (hw2 : ww ≤ 64) (hd1 : 1 ≤ wd) (hd2 : wd ≤ 9) (hd : InP d) :
    Calls Tryd.prog 29 #[.pointer (some ⟨gp, 0, none⟩), CP d] w fun e w' => e = .returned (.tuple #[]) ∧ Rows w' gr h (inkD wd ww (D ++ [d])) ∧ w.grownBy w' (some gr) := by
  rw [inkD_snoc]
  exact dot_walk gp gr h ww wd d.1 d.2 _ w hP hR hne hh1 hh2 hw1 hw2 hd1 hd2 hd.1 hd.2

set_option maxRecDepth 100000 in
set_option maxHeartbeats 8000000 in
theorem Draw_walk (gs cs : Nat) (pen wd : Int) (g n c : Nat) (ps : List P2) (at_ : P2) (sc ww : Int) (h : Nat) (hp1 : 0 ≤ pen) (hp2 : pen ≤ 7) (hd1 : 1 ≤ wd) (hd2 : wd ≤ 9) (hn1 : 1 ≤ n) (hn : ps.length = n) (hn2 : n ≤ 10) (hin : ∀ p ∈ ps, InP p)
    (hat : InP at_) (hs1 : 1 ≤ sc) (hs2 : sc ≤ 64) (hw1 : 1 ≤ ww) (hw2 : ww ≤ 64) (hh1 : 1 ≤ h) (hh2 : h ≤ 64)
    (hq : ∀ k, k < n → InP ((ps.map (pl at_ sc)).getD k (0, 0))) (hdn : ∀ k, k < n → dn ((ps.map (pl at_ sc)).getD (k - 1) (0, 0)) ((ps.map (pl at_ sc)).getD k (0, 0)) ≤ 900)
    (w : World) (hpt : PtsAt w g ps) (hsh : ShAt w gs pen wd g n c) :
    Calls Tryd.prog 15 #[.slice (some ⟨gs, 0, none⟩) 1 cs, CP at_, .int .i64 sc, .int .i64 ww, .int .i64 (h : Int)] w fun e w' =>
      ∃ gr, e = .returned (.tuple #[.slice (some ⟨gr, 0, none⟩) h h, .int .i64 0]) ∧ w.heap.size ≤ gr ∧ Rows w' gr h (inkD wd ww (dotsK (ps.map (pl at_ sc)) n)) ∧ Below w.heap.size w w' := by
  have hu37 := Tryd.underlying57
  have hu57 := Tryd.underlying55
  have hu32 := Tryd.underlying22
  have hMay := Kept.mk (May_walk gs cs pen wd g n c ps hp1 hp2 hd1 hd2 hn1 hn hn2 hin w hpt hsh)
  have hAt := Kept.mk (fun w => May_in at_.1 at_.2 hat.1 hat.2 w)
  have hHN := Kept.mk (show ((h : Int).toNat = h) from by omega)
  have o1 : ∀ W : World, (Instr.makeSlice 22 (.int .i64 (h : Int)) (.int .i64 (h : Int))).run Tryd.prog W = .ok (.slice (some ⟨W.heap.size, 0, none⟩) h h) (W.alloc (.cells (madeCells #[.int .u64 0] h) 29)) := by
    intro W
    have e := print_make_int (P := Tryd.prog) 22 29 (.int .u64 0) 8 hu32 info29 rfl (by decide) (h : Int) (by omega) (by omega) W
    rw [hHN.out] at e
    exact e
  have hI1 := Kept.mk (in_walk sc hs1 hs2)
  have hI2 := Kept.mk (in_walk ww hw1 hw2)
  have hI3 := Kept.mk (in_walk (h : Int) (by omega) (by omega))
  have hptK := Kept.mk hpt
  have hshK := Kept.mk hsh
  have hqK := Kept.mk hq
  have hdnK := Kept.mk hdn
  have hnK := Kept.mk hn
  have hinK := Kept.mk hin
  have hatK := Kept.mk hat
  obtain ⟨q, hqe⟩ : ∃ q, q = ps.map (pl at_ sc) := ⟨_, rfl⟩
  rw [← hqe] at hqK hdnK ⊢
  have hqeK := Kept.mk hqe
  clear hpt hsh hq hdn hn hin hat hqe
  go_enter Tryd.func15, Tryd.ntmps15
  go_wp2_with (first
    | simp only [o1]
    | (go_at_call 27; (with_reducible refine hMay.out.mono ?_); rintro e w1 ⟨rfl, hb⟩; have hB1 := Kept.mk hb; clear hb)
    | (go_at_call 24; (with_reducible refine (hAt.out _).mono ?_); rintro e w' ⟨rfl, hw⟩; have hw := hw.symm; subst hw)
    | (go_at_call 18; (with_reducible refine (hI1.out _).mono ?_); rintro e w' ⟨rfl, rfl⟩)
    | (go_at_call 18; (with_reducible refine (hI2.out _).mono ?_); rintro e w' ⟨rfl, rfl⟩)
    | (go_at_call 18; (with_reducible refine (hI3.out _).mono ?_); rintro e w' ⟨rfl, rfl⟩)
    | ((with_reducible refine gate_dst (N := 52) rfl ?_); go_loud (refine box_event ?hg (N := 52) ?hd (cs := #[.slice (some ⟨w1.heap.size, 0, none⟩) h h, .int .i64 ww, .int .i64 (h : Int), .int .i64 0]) (t := 55) ?hr ?_; (case hd => rfl); (case hg => rfl); (case hr => first | (go_simp; done) | (go_simp; rfl)); intro gp hg w2 hbox hb; have hB2 := Kept.mk hb; have hX2 := Kept.mk hbox; have hgp := Kept.mk hg; clear hbox hb hg)))
  have hW1 := hB1.out.size
  have hR2 : Kept (Rows w2 w1.heap.size h (fun _ _ => false)) := by
    have h1 := blk_new w1 (Obj.cells (madeCells #[Value.int IntKind.u64 0] h) 29)
    rw [rowsC_zero] at h1
    rw [rowsC_zero] at hB2
    exact ⟨blk_below h1 hB2.out⟩
  have hgp1 : w1.heap.size < gp := by rw [hgp.out]; simp
  have hB3 : Kept (Below w.heap.size w w2) := ⟨bel_step (below_alloc hB1.out _) hB2.out⟩
  have hXp : Kept (Pen w2 gp w1.heap.size h ww 0) := ⟨hX2.out⟩
  clear hB2 hX2 hgp hB1 hMay hI1 hI2 hI3 hAt
  generalize w1.heap.size = gr at *
  clear hw
  go_loopw [13, 55] (fun e i wr => e = .int .i64 0 ∧ ((i = .int .i64 0 ∧ wr = w2) ∨ (i = .int .i64 1 ∧ ∃ wx, Kept (Pen wr gp gr h ww wx) ∧ Kept (Rows wr gr h (inkD wd ww (dotsK q n))) ∧ Kept (Below w.heap.size w wr)))) (fun _ i _ => 1 - (intOf i).toNat)
  case atStart => exact ⟨rfl, .inl ⟨rfl, rfl⟩⟩
  case round =>
    rcases hrel with ⟨rfl, ⟨rfl, rfl⟩ | ⟨rfl, wx, hPx, hRx, hBx⟩⟩
    · have hS := hshK.out.below hB3.out
      have s0 := hS.c0
      have s1 := hS.c1
      have s2 := hS.c2
      clear hS
      go_upto_region 8 with (fail)
      have hxx := Kept.mk (blk_new wr (Obj.cells (Stk pen wd g n c) 57))
      have hba : Below wr.heap.size wr (wr.alloc (Obj.cells (Stk pen wd g n c) 57)) := below_alloc (Below.refl _ _) _
      have hP4 := Kept.mk (blk_below hXp.out hba)
      have hR4 := Kept.mk (blk_below hR2.out hba)
      have hB4 := Kept.mk (bel_step hB3.out hba)
      have hgx := blk_lt hXp.out
      have hgx2 := blk_lt hR2.out
      clear hba s0 s1 s2 hXp hR2 hB3
      generalize wr.alloc (Obj.cells (Stk pen wd g n c) 57) = w3 at *
      generalize wr.heap.size = gx at *
      have f3 := blk_frozen hP4.out 3
      have c3 : w3.cell? ⟨gp, 3, none⟩ = some (.int .i64 0) := (blk_cell hP4.out 3).trans rfl
      have x1 : w3.cell? ⟨gx, 1, none⟩ = some (.int .i64 wd) := (blk_cell hxx.out 1).trans rfl
      go_upto_region 9 with (fail)
      have hP5 : Kept (Pen (w3.setCell ⟨gp, 3, none⟩ (.int .i64 wd)) gp gr h ww wd) := ⟨blk_put hP4.out 3 (.int .i64 wd) rfl⟩
      have hR5 : Kept (Rows (w3.setCell ⟨gp, 3, none⟩ (.int .i64 wd)) gr h (fun _ _ => false)) := ⟨blk_far hR4.out (p := ⟨gp, 3, none⟩) (by show gr ≠ gp; omega) _⟩
      have hX5 := Kept.mk (blk_far hxx.out (p := ⟨gp, 3, none⟩) (by show gx ≠ gp; omega) (.int .i64 wd))
      have hB5 : Kept (Below w.heap.size w (w3.setCell ⟨gp, 3, none⟩ (.int .i64 wd))) := ⟨below_set hB4.out (by omega)⟩
      clear f3 c3 x1 hP4 hR4 hxx hB4
      generalize w3.setCell ⟨gp, 3, none⟩ (.int .i64 wd) = w4 at *
      have x2 : w4.cell? ⟨gx, 2, none⟩ = some (.slice (some ⟨g, 0, none⟩) n c) := (blk_cell hX5.out 2).trans rfl
      have p0 := (hptK.out.below hB5.out).cell 0 (by rw [hnK.out]; omega)
      have hp0 : InP (ps.getD 0 (0, 0)) := by
        rw [List.getD_eq_getElem?_getD, List.getElem?_eq_getElem (by rw [hnK.out]; omega)]
        exact hinK.out _ (List.getElem_mem _)
      have hq0 : q.getD 0 (0, 0) = pl at_ sc (ps.getD 0 (0, 0)) := by
        rw [hqeK.out, List.getD_eq_getElem?_getD, List.getElem?_map, List.getD_eq_getElem?_getD, List.getElem?_eq_getElem (by rw [hnK.out]; omega)]; rfl
      have hq0K := Kept.mk hq0
      generalize ps.getD 0 (0, 0) = p00 at *
      have hPl := Kept.mk (fun w => place_walk p00.1 p00.2 at_.1 at_.2 sc hp0.1 hp0.2 hatK.out.1 hatK.out.2 hs1 hs2 w)
      clear hp0 hq0
      go_wp2_with (go_at_call 28; (with_reducible refine (hPl.out _).mono ?_); rintro e w' ⟨rfl, hw⟩; have hw := hw.symm; subst hw)
      go_loopw [13, 16, 74] (fun e last i wr => ∃ k : Nat, k ≤ n ∧ e = .int .i64 0 ∧ last = CP (q.getD (k - 1) (0, 0)) ∧ i = .int .i64 k ∧ Kept (Pen wr gp gr h ww wd) ∧ Kept (Rows wr gr h (inkD wd ww (dotsK q k))) ∧ Kept (Below w.heap.size w wr)) (fun _ _ i _ => n - (intOf i).toNat)
      case atStart => exact ⟨0, Nat.zero_le _, rfl, by rw [hq0K.out]; rfl, rfl, hP5, hR5, hB5⟩
      case round =>
        obtain ⟨k, hk, rfl, rfl, rfl, hP6, hR6, hB6⟩ := hrel
        clear x2 p0 hPl hq0K hP5 hR5 hB5 hX5
        by_cases hlt : k < n
        · have pk := (hptK.out.below hB6.out).cell k (by rw [hnK.out]; exact hlt)
          have hpk : InP (ps.getD k (0, 0)) := by
            rw [List.getD_eq_getElem?_getD, List.getElem?_eq_getElem (by rw [hnK.out]; exact hlt)]
            exact hinK.out _ (List.getElem_mem _)
          have hqk : q.getD k (0, 0) = pl at_ sc (ps.getD k (0, 0)) := by
            rw [hqeK.out, List.getD_eq_getElem?_getD, List.getElem?_map, List.getD_eq_getElem?_getD, List.getElem?_eq_getElem (by rw [hnK.out]; exact hlt)]; rfl
          generalize ps.getD k (0, 0) = pp at *
          have hPl := Kept.mk (fun w => place_walk pp.1 pp.2 at_.1 at_.2 sc hpk.1 hpk.2 hatK.out.1 hatK.out.2 hs1 hs2 w)
          have hik := hqK.out k hlt
          have hik1 := hqK.out (k - 1) (by omega)
          have hdk := hdnK.out k hlt
          have hstep : Kept (dotsK q (k + 1) = dotsK q k ++ path (q.getD (k - 1) (0, 0)) (q.getD k (0, 0))) := ⟨rfl⟩
          have hlastK : Kept (q.getD (k + 1 - 1) (0, 0) = q.getD k (0, 0)) := ⟨by rw [Nat.add_sub_cancel]⟩
          have hqkK := Kept.mk hqk
          generalize q.getD (k - 1) (0, 0) = la at *
          generalize hne_ : q.getD k (0, 0) = ne at *
          have hneK := Kept.mk hne_
          have hMy := Kept.mk (fun w => May_in ne.1 ne.2 hik.1 hik.2 w)
          have hDo := Kept.mk (fun w => Dots_walk la ne hik1 hik hdk w)
          have hnp : Kept (C ((pp.1 - at_.1) / sc) ((pp.2 - at_.2) / sc) = CP ne) := ⟨by rw [hqk]; rfl⟩
          have stepIn := Kept.mk (step_in la ne hik1 hik)
          clear hpk hik hik1 hqk hne_
          go_wp2_with (first
            | (go_at_call 28; (with_reducible refine (hPl.out _).mono ?_); rintro e w' ⟨rfl, hw⟩; have hw := hw.symm; subst hw; rw [hnp.out])
            | (go_at_call 24; (with_reducible refine (hMy.out _).mono ?_); rintro e w' ⟨rfl, hw⟩; have hw := hw.symm; subst hw)
            | (go_at_call 14; (with_reducible refine (hDo.out _).mono ?_); rintro e w7 ⟨v, rfl, hown, hbel⟩; obtain ⟨gl, cl, rfl, hgl, hgl2⟩ := hown.form (by omega); have hT7 := Kept.mk (pts_own (path la ne) hown (path_len la ne) hgl2); have hP7 := Kept.mk (blk_below hP6.out hbel); have hR7 := Kept.mk (blk_below hR6.out hbel); have hB7 := Kept.mk (bel_step hB6.out hbel); have hl1 := blk_lt hR6.out; clear hown hbel))
          go_loopw [95] (fun i wq => ∃ j : Nat, j ≤ dn la ne + 1 ∧ i = .int .i64 j ∧ Kept (Pen wq gp gr h ww wd) ∧ Kept (Rows wq gr h (inkD wd ww (dotsK q k ++ (path la ne).take j))) ∧ Kept (Below w.heap.size w wq) ∧ Kept (PtsAt wq gl (path la ne))) (fun i _ => dn la ne + 1 - (intOf i).toNat)
          case atStart => exact ⟨0, Nat.zero_le _, rfl, hP7, ⟨by rw [List.take_zero, List.append_nil]; exact hR7.out⟩, hB7, hT7⟩
          case round =>
            obtain ⟨j, hj, rfl, hP8, hR8, hB8, hT8⟩ := hrel
            clear hP7 hR7 hB7 hT7 pk hPl
            by_cases hlt2 : j < dn la ne + 1
            · have pj := hT8.out.cell j (by rw [path_len]; exact hlt2)
              have hpj : (path la ne).getD j (0, 0) = stepV la ne j := path_get la ne j (0, 0) (by omega)
              rw [hpj] at pj
              have hst : Kept ((path la ne).take (j + 1) = (path la ne).take j ++ [stepV la ne j]) := ⟨path_take la ne j hlt2⟩
              have hInK := Kept.mk (stepIn.out j (by omega))
              generalize stepV la ne j = dd at *
              have hd := Kept.mk (dot_c gp gr h ww wd dd (dotsK q k ++ (path la ne).take j) wr hP8.out hR8.out (by omega) hh1 hh2 hw1 hw2 hd1 hd2 hInK.out)
              clear hpj
              go_wp2_with (go_at_call 29; (with_reducible refine hd.out.mono ?_); rintro e w9 ⟨rfl, hr9, hg9⟩; have hR9 := Kept.mk hr9; have hP9 := Kept.mk (blk_grown hP8.out hg9 (by omega)); have hB9 := Kept.mk (bel_grown hB8.out hg9 (by omega)); have hT9 := Kept.mk (hT8.out.grown hg9 (by omega)); clear hr9 hg9)
              go_roundw
              case rel => exact ⟨j + 1, by omega, by go_num, hP9, ⟨by rw [hst.out, ← List.append_assoc]; exact hR9.out⟩, hB9, hT9⟩
              case measure => simp [intOf]; omega
            · have hje : j = dn la ne + 1 := by omega
              have hall : (path la ne).take j = path la ne := List.take_of_length_le (by rw [path_len]; omega)
              rw [hall, ← hstep.out] at hR8
              clear hall
              subst hje
              clear hlt2 hj
              go_wp2
              go_roundw
              case rel => exact ⟨k + 1, by omega, rfl, by rw [hlastK.out], by go_num, hP8, hR8, hB8⟩
              case measure => simp [intOf]; omega
        · have hke : n = k := by omega
          subst hke
          clear hlt hk
          go_wp2
          go_roundw
          case rel => exact ⟨rfl, .inr ⟨rfl, wd, hP6, hR6, hB6⟩⟩
          case measure => simp [intOf]
    · have z0 := (blk_cell hPx.out 0).trans rfl
      go_wp2
      all_goals (go_ret2; exact ⟨gr, rfl, hW1, hRx.out, hBx.out⟩)
end Go.Proofs.YthhhcfipmeganaaDoor.Rd
