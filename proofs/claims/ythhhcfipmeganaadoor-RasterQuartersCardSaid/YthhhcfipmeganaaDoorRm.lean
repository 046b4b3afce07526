/-
  The walk of stroke.May on a sheet of one stroke of whole points. No condition beyond the numbers' bounds.
-/
import Derived.Test.YthhhcfipmeganaaDoorRq
namespace Go.Proofs.YthhhcfipmeganaaDoor.Rd
open Go.RowKit Go.Proofs.YthhhcfipmeganaaDoorW.PrintWords Go.Proofs.YthhhcfipmeganaaDoorW.PrintLast Go.Proofs.YthhhcfipmeganaaDoorW.PrintMore
open Fl Ra
set_option linter.unusedSimpArgs false
set_option linter.unusedVariables false

/-- Points in memory. -/
structure PtsAt (w : World) (g : Nat) (ps : List P2) : Prop where
  lt : g < w.heap.size
  cell : ∀ j, j < ps.length → w.cell? ⟨g, j, none⟩ = some (CP (ps.getD j (0, 0)))
theorem PtsAt.below {w w1 : World} {g : Nat} {ps : List P2} (h : PtsAt w g ps) (hb : Below w.heap.size w w1) : PtsAt w1 g ps :=
  ⟨Nat.lt_of_lt_of_le h.lt hb.size, fun j hj => (hb.cell (p := ⟨g, j, none⟩) h.lt).trans (h.cell j hj)⟩
theorem PtsAt.grown {w w1 : World} {g k : Nat} {ps : List P2} (h : PtsAt w g ps) (hb : w.grownBy w1 (some k)) (hne : g ≠ k) : PtsAt w1 g ps :=
  ⟨Nat.lt_of_lt_of_le h.lt hb.size, fun j hj => hb.cell (h.cell j hj) (fun e => hne (Option.some.inj e))⟩

theorem odd_walk (p : P2) (hp : InP p) (w : World) : Calls Tryd.prog 44 #[CP p] w fun e w' => e = .returned (.bool false) ∧ w = w' := by
  have h := Kept.mk (fun w => May_in p.1 p.2 hp.1 hp.2 w)
  clear hp
  go_enter Tryd.func44, Tryd.ntmps44
  go_wp2_with (go_at_call 24; (with_reducible refine (h.out _).mono ?_); rintro e w' ⟨rfl, hw⟩; have hw := hw.symm; subst hw)
  all_goals (go_ret; exact ⟨rfl, rfl⟩)

set_option maxRecDepth 100000 in
theorem pidx_walk (g n c : Nat) (ps : List P2) (hn : ps.length = n) (hn2 : n ≤ 1000) (hin : ∀ p ∈ ps, InP p) (w : World) (h : PtsAt w g ps) :
    Calls Tryd.prog 50 #[.slice (some ⟨g, 0, none⟩) n c, .func (.func 44) #[] #[]] w fun e w' => e = .returned (.int .i64 (-1)) ∧ w = w' := by
  have H := Kept.mk h
  have HI := Kept.mk hin
  have HN := Kept.mk hn
  clear h hin hn
  go_enter Tryd.func50, Tryd.ntmps50
  go_wp2
  go_loop [8] (fun i => ∃ k : Nat, k ≤ n ∧ i = .int .i64 k) (fun i => n - (intOf i).toNat)
  case atStart => exact ⟨0, Nat.zero_le _, rfl⟩
  case round =>
    obtain ⟨k, hk, rfl⟩ := hrel
    by_cases hlt : k < n
    · have hc := H.out.cell k (by rw [HN.out]; exact hlt)
      have hp : InP (ps.getD k (0, 0)) := by
        rw [List.getD_eq_getElem?_getD, List.getElem?_eq_getElem (by rw [HN.out]; exact hlt)]
        exact HI.out _ (List.getElem_mem _)
      generalize ps.getD k (0, 0) = q at *
      have hO := Kept.mk (fun w => odd_walk q hp w)
      clear hp
      go_wp2_with (go_at_call 44; (with_reducible refine (hO.out _).mono ?_); rintro e w' ⟨rfl, rfl⟩)
      go_round
      case rel => exact ⟨k + 1, by omega, by go_num⟩
      case measure => simp [intOf]; omega
    · have hke : n = k := by omega
      subst hke
      clear hlt hk
      go_wp2
      all_goals (go_ret; exact ⟨rfl, rfl⟩)
theorem pcont_walk (g n c : Nat) (ps : List P2) (hn : ps.length = n) (hn2 : n ≤ 1000) (hin : ∀ p ∈ ps, InP p) (w : World) (h : PtsAt w g ps) :
    Calls Tryd.prog 43 #[.slice (some ⟨g, 0, none⟩) n c, .func (.func 44) #[] #[]] w fun e w' => e = .returned (.bool false) ∧ w = w' := by
  have H := Kept.mk (pidx_walk g n c ps hn hn2 hin w h)
  clear h hin hn
  go_enter Tryd.func43, Tryd.ntmps43
  go_wp2_with (go_at_call 50; (with_reducible refine H.out.mono ?_); rintro e w' ⟨rfl, rfl⟩)
  all_goals (go_ret; exact ⟨rfl, rfl⟩)

abbrev Stk (pen wd : Int) (g n c : Nat) : Array Value := #[.int .i64 pen, .int .i64 wd, .slice (some ⟨g, 0, none⟩) n c]

set_option maxRecDepth 100000 in
theorem mayStroke_walk (pen wd : Int) (g n c : Nat) (ps : List P2) (hp1 : 0 ≤ pen) (hp2 : pen ≤ 7) (hd1 : 1 ≤ wd) (hd2 : wd ≤ 9) (hn1 : 1 ≤ n) (hn : ps.length = n) (hn2 : n ≤ 10) (hin : ∀ p ∈ ps, InP p) (w : World) (h : PtsAt w g ps) :
    Calls Tryd.prog 37 #[.agg (Stk pen wd g n c)] w fun e w' => e = .returned (.bool true) ∧ Below w.heap.size w w' := by
  have hu37 := Tryd.underlying57
  have H := Kept.mk (fun w (h : PtsAt w g ps) => pcont_walk g n c ps hn (by omega) hin w h)
  have HP := Kept.mk h
  clear h hin hn
  go_enter Tryd.func37, Tryd.ntmps37
  go_wp2_with (first
    | ((with_reducible refine gate_dst (N := 1) rfl ?_); refine box_event ?hg (N := 1) ?hd (cs := Stk pen wd g n c) (t := 57) ?hr ?_; (case hd => rfl); (case hg => rfl); (case hr => first | (go_simp; done) | (go_simp; rfl)); intro gb hg w1 hbox hb; have hB1 := Kept.mk hb; have z0 := (blk_cell hbox 0).trans rfl; have z1 := (blk_cell hbox 1).trans rfl; have z2 := (blk_cell hbox 2).trans rfl; clear hbox hb hg)
    | (go_at_call 43; (with_reducible refine (H.out _ (HP.out.below hB1.out)).mono ?_); rintro e w' ⟨rfl, rfl⟩))
  all_goals (go_ret; exact ⟨rfl, hB1.out⟩)

set_option maxRecDepth 100000 in
theorem may1_walk (pen wd : Int) (g n c : Nat) (ps : List P2) (hp1 : 0 ≤ pen) (hp2 : pen ≤ 7) (hd1 : 1 ≤ wd) (hd2 : wd ≤ 9) (hn1 : 1 ≤ n) (hn : ps.length = n) (hn2 : n ≤ 10) (hin : ∀ p ∈ ps, InP p) (w : World) (h : PtsAt w g ps) :
    Calls Tryd.prog 36 #[.agg (Stk pen wd g n c)] w fun e w' => e = .returned (.bool false) ∧ Below w.heap.size w w' := by
  have hu37 := Tryd.underlying57
  have H := Kept.mk (fun w (h : PtsAt w g ps) => mayStroke_walk pen wd g n c ps hp1 hp2 hd1 hd2 hn1 hn hn2 hin w h)
  have HP := Kept.mk h
  clear h hin hn hp1 hp2 hd1 hd2 hn1 hn2
  go_enter Tryd.func36, Tryd.ntmps36
  go_wp2_with (first
    | ((with_reducible refine gate_dst (N := 1) rfl ?_); refine box_event ?hg (N := 1) ?hd (cs := Stk pen wd g n c) (t := 57) ?hr ?_; (case hd => rfl); (case hg => rfl); (case hr => first | (go_simp; done) | (go_simp; rfl)); intro gb hg w1 hbox hb; have hB1 := Kept.mk hb; have z0 := (blk_cell hbox 0).trans rfl; have z1 := (blk_cell hbox 1).trans rfl; have z2 := (blk_cell hbox 2).trans rfl; clear hbox hb hg)
    | (go_at_call 37; (with_reducible refine (H.out _ (HP.out.below hB1.out)).mono ?_); rintro e w' ⟨rfl, hb⟩; have hB2 := Kept.mk (bel_step hB1.out hb); clear hb))
  all_goals (go_ret; exact ⟨rfl, hB2.out⟩)

/-- A sheet of one stroke in memory. -/
structure ShAt (w : World) (gs : Nat) (pen wd : Int) (g n c : Nat) : Prop where
  lt : gs < w.heap.size
  c0 : w.cell? ⟨gs, 0, none⟩ = some (.int .i64 pen)
  c1 : w.cell? ⟨gs, 1, none⟩ = some (.int .i64 wd)
  c2 : w.cell? ⟨gs, 2, none⟩ = some (.slice (some ⟨g, 0, none⟩) n c)
theorem ShAt.below {w w1 : World} {gs g n c : Nat} {pen wd : Int} (h : ShAt w gs pen wd g n c) (hb : Below w.heap.size w w1) : ShAt w1 gs pen wd g n c :=
  ⟨Nat.lt_of_lt_of_le h.lt hb.size, (hb.cell (p := ⟨gs, 0, none⟩) h.lt).trans h.c0, (hb.cell (p := ⟨gs, 1, none⟩) h.lt).trans h.c1, (hb.cell (p := ⟨gs, 2, none⟩) h.lt).trans h.c2⟩

set_option maxRecDepth 100000 in
theorem sidx_walk (gs cs : Nat) (pen wd : Int) (g n c : Nat) (ps : List P2) (hp1 : 0 ≤ pen) (hp2 : pen ≤ 7) (hd1 : 1 ≤ wd) (hd2 : wd ≤ 9) (hn1 : 1 ≤ n) (hn : ps.length = n) (hn2 : n ≤ 10) (hin : ∀ p ∈ ps, InP p) (w : World) (h : PtsAt w g ps) (hs : ShAt w gs pen wd g n c) :
    Calls Tryd.prog 42 #[.slice (some ⟨gs, 0, none⟩) 1 cs, .func (.func 36) #[] #[]] w fun e w' => e = .returned (.int .i64 (-1)) ∧ Below w.heap.size w w' := by
  have hu37 := Tryd.underlying57
  have H := Kept.mk (fun w (h : PtsAt w g ps) => may1_walk pen wd g n c ps hp1 hp2 hd1 hd2 hn1 hn hn2 hin w h)
  have HP := Kept.mk h
  have s0 := hs.c0
  have s1 := hs.c1
  have s2 := hs.c2
  clear h hin hn hp1 hp2 hd1 hd2 hn1 hn2 hs
  go_enter Tryd.func42, Tryd.ntmps42
  go_wp2
  go_loopw [8] (fun i wr => (i = .int .i64 0 ∧ wr = w) ∨ (i = .int .i64 1 ∧ Kept (Below w.heap.size w wr))) (fun i _ => 1 - (intOf i).toNat)
  case atStart => exact .inl ⟨rfl, rfl⟩
  case round =>
    rcases hrel with ⟨rfl, rfl⟩ | ⟨rfl, hB⟩
    · go_wp2_with (go_at_call 36; (with_reducible refine (H.out _ HP.out).mono ?_); rintro e w' ⟨rfl, hb⟩; have hB1 := Kept.mk hb; clear hb)
      go_roundw
      case rel => exact .inr ⟨rfl, hB1⟩
      case measure => simp [intOf]
    · go_wp2
      all_goals (go_ret; exact ⟨rfl, hB.out⟩)
theorem May_walk (gs cs : Nat) (pen wd : Int) (g n c : Nat) (ps : List P2) (hp1 : 0 ≤ pen) (hp2 : pen ≤ 7) (hd1 : 1 ≤ wd) (hd2 : wd ≤ 9) (hn1 : 1 ≤ n) (hn : ps.length = n) (hn2 : n ≤ 10) (hin : ∀ p ∈ ps, InP p) (w : World) (h : PtsAt w g ps) (hs : ShAt w gs pen wd g n c) :
    Calls Tryd.prog 27 #[.slice (some ⟨gs, 0, none⟩) 1 cs] w fun e w' => e = .returned (.bool true) ∧ Below w.heap.size w w' := by
  have H := Kept.mk (sidx_walk gs cs pen wd g n c ps hp1 hp2 hd1 hd2 hn1 hn hn2 hin w h hs)
  clear h hin hn hp1 hp2 hd1 hd2 hn1 hn2 hs
  have H2 : Calls Tryd.prog 35 #[.slice (some ⟨gs, 0, none⟩) 1 cs, .func (.func 36) #[] #[]] w fun e w' => e = .returned (.bool false) ∧ Below w.heap.size w w' := by
    go_enter Tryd.func35, Tryd.ntmps35
    go_wp2_with (go_at_call 42; (with_reducible refine H.out.mono ?_); rintro e w' ⟨rfl, hb⟩; have hB1 := Kept.mk hb; clear hb)
    all_goals (go_ret; exact ⟨rfl, hB1.out⟩)
  have HK := Kept.mk H2
  clear H2 H
  go_enter Tryd.func27, Tryd.ntmps27
  go_wp2_with (go_at_call 35; (with_reducible refine HK.out.mono ?_); rintro e w' ⟨rfl, hb⟩; have hB1 := Kept.mk hb; clear hb)
  all_goals (go_ret; exact ⟨rfl, hB1.out⟩)
end Go.Proofs.YthhhcfipmeganaaDoor.Rd
