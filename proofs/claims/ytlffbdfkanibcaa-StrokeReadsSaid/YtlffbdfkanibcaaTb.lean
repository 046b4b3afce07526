/-
  Sheets in memory, and the walk of stroke.May on any sheet whose points may be. Condition: the points' parts are in bounds.
-/
import Derived.Test.YtlffbdfkanibcaaTa
import Derived.Test.YtlffbdfkanibcaaWLast
import Derived.Test.YtlffbdfkanibcaaWMore
import Derived.Laws.AppendOwn
import Derived.WalkSmall
import Derived.StillTailTactics
namespace Go.Proofs.Ytlffbdfkanibcaa.Sk
open Go.RowKit Go.Proofs.YtlffbdfkanibcaaW.PrintWords Go.Proofs.YtlffbdfkanibcaaW.PrintLast Go.Proofs.YtlffbdfkanibcaaW.PrintMore
open Fl Go.Proofs.Ytlffbdfkanibcaa.Pt
set_option linter.unusedSimpArgs false
set_option linter.unusedVariables false

def intOf : Value → Int | .int _ q => q | _ => 0
theorem add_in {ad : Addr} {B : Nat} (h : ad.block < B) (j : Nat) : (ad.add j).block < B := by unfold Addr.add; split <;> exact h
/-- Points in memory. -/
structure Pts (w : World) (P : Option Addr) (ps : List P2) : Prop where
  ex : 0 < ps.length → ∃ g, P = some ⟨g, 0, none⟩ ∧ g < w.heap.size ∧ ∀ j, j < ps.length → w.cell? ⟨g, j, none⟩ = some (CP (ps.getD j (0, 0)))
theorem Pts.below {w w1 : World} {P : Option Addr} {ps : List P2} (h : Pts w P ps) (hb : Below w.heap.size w w1) : Pts w1 P ps :=
  ⟨fun hn => by
    obtain ⟨g, e, hl, hc⟩ := h.ex hn
    exact ⟨g, e, Nat.lt_of_lt_of_le hl hb.size, fun j hj => (hb.cell (p := ⟨g, j, none⟩) hl).trans (hc j hj)⟩⟩
def noSt : St := ⟨0, 0, []⟩
/-- A sheet in memory. -/
structure Sh (w : World) (A : Option Addr) (ss : List St) : Prop where
  ex : 0 < ss.length → ∃ g, A = some ⟨g, 0, none⟩ ∧ g < w.heap.size ∧ ∀ i, i < ss.length → ∃ P c, w.cell? ⟨g, i * 3, none⟩ = some (.int .i64 (ss.getD i noSt).pen) ∧ w.cell? ⟨g, i * 3 + 1, none⟩ = some (.int .i64 (ss.getD i noSt).wid) ∧
    w.cell? ⟨g, i * 3 + 2, none⟩ = some (.slice P (ss.getD i noSt).pts.length c) ∧ Pts w P (ss.getD i noSt).pts
theorem Sh.below {w w1 : World} {A : Option Addr} {ss : List St} (h : Sh w A ss) (hb : Below w.heap.size w w1) : Sh w1 A ss :=
  ⟨fun hn => by
    obtain ⟨g, e, hl, hc⟩ := h.ex hn
    refine ⟨g, e, Nat.lt_of_lt_of_le hl hb.size, fun i hi => ?_⟩
    obtain ⟨P, c, h1, h2, h3, h4⟩ := hc i hi
    exact ⟨P, c, (hb.cell (p := ⟨g, _, none⟩) hl).trans h1, (hb.cell (p := ⟨g, _, none⟩) hl).trans h2, (hb.cell (p := ⟨g, _, none⟩) hl).trans h3, h4.below hb⟩⟩
theorem getD_mem {α : Type} (l : List α) (d : α) (k : Nat) (h : k < l.length) : l.getD k d ∈ l := by
  rw [List.getD_eq_getElem?_getD, List.getElem?_eq_getElem h]
  exact List.getElem_mem _

theorem odd_walk (p : P2) (hp : InP p) (w : World) : Calls Try.prog 54 #[CP p] w fun e w' => e = .returned (.bool false) ∧ w = w' := by
  have h := Kept.mk (fun w => May_in p.1 p.2 hp.1 hp.2 w)
  clear hp
  go_enter Try.func54, Try.ntmps54
  go_wp2_with (go_at_call 27; (with_reducible refine (h.out _).mono ?_); rintro e w' ⟨rfl, hw⟩; have hw := hw.symm; subst hw)
  all_goals (go_ret; exact ⟨rfl, rfl⟩)
set_option maxRecDepth 100000 in
theorem pidx_walk (P : Option Addr) (c : Nat) (ps : List P2) (hn2 : ps.length ≤ 1000) (hin : ∀ p ∈ ps, InP p) (w : World) (h : Pts w P ps) :
    Calls Try.prog 58 #[.slice P ps.length c, .func (.func 54) #[] #[]] w fun e w' => e = .returned (.int .i64 (-1)) ∧ w = w' := by
  have H := Kept.mk h
  have HI := Kept.mk hin
  obtain ⟨n, hn⟩ : ∃ n, Kept (n = ps.length) := ⟨_, ⟨rfl⟩⟩
  rw [← hn.out] at hn2 ⊢
  clear h hin
  go_enter Try.func58, Try.ntmps58
  go_wp2
  go_loop [8] (fun i => ∃ k : Nat, k ≤ n ∧ i = .int .i64 k) (fun i => n - (intOf i).toNat)
  case atStart => exact ⟨0, Nat.zero_le _, rfl⟩
  case round =>
    obtain ⟨k, hk, rfl⟩ := hrel
    by_cases hlt : k < n
    · obtain ⟨g, rfl, _, hcc⟩ := H.out.ex (by rw [← hn.out]; omega)
      have hc := hcc k (by rw [← hn.out]; exact hlt)
      have hp : InP (ps.getD k (0, 0)) := HI.out _ (getD_mem ps _ k (by rw [← hn.out]; exact hlt))
      clear hcc
      generalize ps.getD k (0, 0) = q at *
      have hO := Kept.mk (fun w => odd_walk q hp w)
      clear hp
      go_wp2_with (go_at_call 54; (with_reducible refine (hO.out _).mono ?_); rintro e w' ⟨rfl, rfl⟩)
      go_round
      case rel => exact ⟨k + 1, by omega, by go_num⟩
      case measure => simp [intOf]; omega
    · have hke : n = k := by omega
      subst hke
      clear hlt hk
      go_wp2
      all_goals (go_ret; exact ⟨rfl, rfl⟩)
theorem pcont_walk (P : Option Addr) (c : Nat) (ps : List P2) (hn2 : ps.length ≤ 1000) (hin : ∀ p ∈ ps, InP p) (w : World) (h : Pts w P ps) :
    Calls Try.prog 53 #[.slice P ps.length c, .func (.func 54) #[] #[]] w fun e w' => e = .returned (.bool false) ∧ w = w' := by
  have H := Kept.mk (pidx_walk P c ps hn2 hin w h)
  clear h hin hn2
  generalize ps.length = n at *
  go_enter Try.func53, Try.ntmps53
  go_wp2_with (go_at_call 58; (with_reducible refine H.out.mono ?_); rintro e w' ⟨rfl, rfl⟩)
  all_goals (go_ret; exact ⟨rfl, rfl⟩)

abbrev Stk (pen wd : Int) (P : Option Addr) (n c : Nat) : Array Value := #[.int .i64 pen, .int .i64 wd, .slice P n c]

set_option maxRecDepth 100000 in
set_option maxHeartbeats 4000000 in
theorem mayStroke_walk (x : St) (P : Option Addr) (c : Nat) (hn2 : x.pts.length ≤ 1000) (hin : ∀ p ∈ x.pts, InP p) (w : World) (h : Pts w P x.pts) :
    Calls Try.prog 47 #[.agg (Stk x.pen x.wid P x.pts.length c)] w fun e w' => e = .returned (.bool (decide (mayS x))) ∧ Below w.heap.size w w' := by
  have hu := Try.underlying65
  have H := Kept.mk (fun w (h : Pts w P x.pts) => pcont_walk P c x.pts hn2 hin w h)
  have HP := Kept.mk h
  obtain ⟨pen, wid, ps⟩ := x
  simp only at *
  obtain ⟨n, hn⟩ : ∃ n, Kept (n = ps.length) := ⟨_, ⟨rfl⟩⟩
  have hm : (mayS ⟨pen, wid, ps⟩) ↔ ((0 ≤ pen ∧ pen ≤ 7) ∧ (1 ≤ wid ∧ wid ≤ 9) ∧ (1 ≤ n ∧ n ≤ 10)) := by rw [hn.out]; exact Iff.rfl
  rw [← hn.out] at hn2 H ⊢
  clear h hin
  by_cases hy : mayS ⟨pen, wid, ps⟩
  · rw [decide_eq_true hy]
    obtain ⟨⟨a1, a2⟩, ⟨a3, a4⟩, a5, a6⟩ := hm.1 hy
    clear hm hy
    go_enter Try.func47, Try.ntmps47
    go_wp2_with (first
      | ((with_reducible refine gate_dst (N := 1) rfl ?_); refine box_event ?hg (N := 1) ?hd (cs := Stk pen wid P n c) (t := 65) ?hr ?_; (case hd => rfl); (case hg => rfl); (case hr => first | (go_simp; done) | (go_simp; rfl)); intro gb hg w1 hbox hb; have hB1 := Kept.mk hb; have z0 := (blk_cell hbox 0).trans rfl; have z1 := (blk_cell hbox 1).trans rfl; have z2 := (blk_cell hbox 2).trans rfl; clear hbox hb hg)
      | (go_at_call 53; (with_reducible refine (H.out _ (HP.out.below hB1.out)).mono ?_); rintro e w' ⟨rfl, rfl⟩))
    all_goals (go_ret; exact ⟨rfl, hB1.out⟩)
  · rw [decide_eq_false hy]
    rw [hm] at hy
    clear hm H HP
    go_enter Try.func47, Try.ntmps47
    go_wp2_with (((with_reducible refine gate_dst (N := 1) rfl ?_); refine box_event ?hg (N := 1) ?hd (cs := Stk pen wid P n c) (t := 65) ?hr ?_; (case hd => rfl); (case hg => rfl); (case hr => first | (go_simp; done) | (go_simp; rfl)); intro gb hg w1 hbox hb; have hB1 := Kept.mk hb; have z0 := (blk_cell hbox 0).trans rfl; have z1 := (blk_cell hbox 1).trans rfl; have z2 := (blk_cell hbox 2).trans rfl; clear hbox hb hg))
    all_goals first
      | (exfalso; omega)
      | (go_ret; exact ⟨rfl, hB1.out⟩)
end Go.Proofs.Ytlffbdfkanibcaa.Sk
