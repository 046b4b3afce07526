/-
  The walk of stroke.May on any sheet whose points may be. Condition: the points' parts are in bounds.
-/
import Derived.Test.YtlffbdfkanibcaaTb
namespace Go.Proofs.Ytlffbdfkanibcaa.Sk
open Go.RowKit Go.Proofs.YtlffbdfkanibcaaW.PrintWords Go.Proofs.YtlffbdfkanibcaaW.PrintLast Go.Proofs.YtlffbdfkanibcaaW.PrintMore
open Fl Go.Proofs.Ytlffbdfkanibcaa.Pt
set_option linter.unusedSimpArgs false
set_option linter.unusedVariables false

set_option maxRecDepth 100000 in
theorem may1_walk (x : St) (P : Option Addr) (c : Nat) (hn2 : x.pts.length ≤ 1000) (hin : ∀ p ∈ x.pts, InP p) (w : World) (h : Pts w P x.pts) :
    Calls Try.prog 46 #[.agg (Stk x.pen x.wid P x.pts.length c)] w fun e w' => e = .returned (.bool (!(decide (mayS x)))) ∧ Below w.heap.size w w' := by
  have hu := Try.underlying65
  have H := Kept.mk (fun w (h : Pts w P x.pts) => mayStroke_walk x P c hn2 hin w h)
  have HP := Kept.mk h
  clear h hin hn2
  generalize decide (mayS x) = b at *
  obtain ⟨pen, wid, ps⟩ := x
  simp only at *
  go_enter Try.func46, Try.ntmps46
  go_wp2_with (first
    | ((with_reducible refine gate_dst (N := 1) rfl ?_); refine box_event ?hg (N := 1) ?hd (cs := Stk pen wid P ps.length c) (t := 65) ?hr ?_; (case hd => rfl); (case hg => rfl); (case hr => first | (go_simp; done) | (go_simp; rfl)); intro gb hg w1 hbox hb; have hB1 := Kept.mk hb; have z0 := (blk_cell hbox 0).trans rfl; have z1 := (blk_cell hbox 1).trans rfl; have z2 := (blk_cell hbox 2).trans rfl; clear hbox hb hg)
    | (go_at_call 47; (with_reducible refine (H.out _ (HP.out.below hB1.out)).mono ?_); rintro e w' ⟨rfl, hb⟩; have hB2 := Kept.mk (bel_step hB1.out hb); clear hb))
  all_goals (go_ret; exact ⟨rfl, hB2.out⟩)

set_option maxRecDepth 100000 in
set_option maxHeartbeats 4000000 in
theorem sidx_walk (A : Option Addr) (cs : Nat) (ss : List St) (hl : ss.length ≤ 1000) (hn2 : ∀ x ∈ ss, x.pts.length ≤ 1000) (hin : ptsIn ss) (w : World) (hs : Sh w A ss) :
    Calls Try.prog 52 #[.slice A ss.length cs, .func (.func 46) #[] #[]] w fun e w' => ∃ z : Int, e = .returned (.int .i64 z) ∧ ((-1 ≤ z ∧ z ≤ 1000) ∧ (z < 0 ↔ ∀ x ∈ ss, mayS x)) ∧ Below w.heap.size w w' := by
  have hu := Try.underlying65
  have HS := Kept.mk hs
  have HI := Kept.mk hin
  have HN := Kept.mk hn2
  obtain ⟨n, hn⟩ : ∃ n, Kept (n = ss.length) := ⟨_, ⟨rfl⟩⟩
  rw [← hn.out] at hl ⊢
  clear hs hin hn2
  go_enter Try.func52, Try.ntmps52
  go_wp2
  go_loopw [8] (fun i wr => ∃ k : Nat, k ≤ n ∧ i = .int .i64 k ∧ Kept (∀ j, j < k → mayS (ss.getD j noSt)) ∧ Kept (Below w.heap.size w wr)) (fun i _ => n - (intOf i).toNat)
  case atStart => exact ⟨0, Nat.zero_le _, rfl, ⟨fun j hj => by omega⟩, ⟨Below.refl _ _⟩⟩
  case round =>
    obtain ⟨k, hk, rfl, hG, hB⟩ := hrel
    by_cases hlt : k < n
    · obtain ⟨g, rfl, _, hcc⟩ := (HS.out.below hB.out).ex (by rw [← hn.out]; omega)
      obtain ⟨P, c, z0, z1, z2, hp⟩ := hcc k (by rw [← hn.out]; exact hlt)
      have hmem := getD_mem ss noSt k (by rw [← hn.out]; exact hlt)
      have hO := Kept.mk (may1_walk (ss.getD k noSt) P c (HN.out _ hmem) (HI.out _ hmem) wr hp)
      have hG2 : Kept (mayS (ss.getD k noSt) → ∀ j, j < k + 1 → mayS (ss.getD j noSt)) := ⟨fun h j hj => by
        by_cases e : j = k
        · subst e; exact h
        · exact hG.out j (by omega)⟩
      have hG3 : Kept (¬ mayS (ss.getD k noSt) → ¬ ∀ x ∈ ss, mayS x) := ⟨fun h h2 => h (h2 _ hmem)⟩
      clear hcc hp hmem
      generalize ss.getD k noSt = x at *
      obtain ⟨pen, wid, ps⟩ := x
      simp only at *
      by_cases hy : mayS ⟨pen, wid, ps⟩
      · rw [decide_eq_true hy] at hO
        have hG4 := Kept.mk (hG2.out hy)
        clear hy hG2 hG3 hG
        go_wp2_with (go_at_call 46; (with_reducible refine hO.out.mono ?_); rintro e w1 ⟨rfl, hb⟩; have hB1 := Kept.mk (bel_step hB.out hb); clear hb)
        go_roundw
        case rel => exact ⟨k + 1, by omega, by go_num, hG4, hB1⟩
        case measure => simp [intOf]; omega
      · rw [decide_eq_false hy] at hO
        have hG4 := Kept.mk (hG3.out hy)
        clear hy hG2 hG3 hG
        go_wp2_with (go_at_call 46; (with_reducible refine hO.out.mono ?_); rintro e w1 ⟨rfl, hb⟩; have hB1 := Kept.mk (bel_step hB.out hb); clear hb)
        all_goals (go_ret; exact ⟨_, rfl, ⟨⟨by omega, by omega⟩, ⟨fun h => by omega, fun h => absurd h hG4.out⟩⟩, hB1.out⟩)
    · have hke : n = k := by omega
      subst hke
      clear hlt hk
      have hall : Kept (∀ x ∈ ss, mayS x) := ⟨fun x hx => by
        obtain ⟨j, hj, rfl⟩ := List.getElem_of_mem hx
        have := hG.out j (by rw [hn.out]; exact hj)
        rwa [List.getD_eq_getElem?_getD, List.getElem?_eq_getElem hj] at this⟩
      clear hG
      go_wp2
      all_goals (go_ret; exact ⟨_, rfl, ⟨⟨by omega, by omega⟩, ⟨fun _ => hall.out, fun _ => by omega⟩⟩, hB.out⟩)

set_option maxRecDepth 100000 in
theorem may_walk (A : Option Addr) (cs : Nat) (ss : List St) (hl : ss.length ≤ 1000) (hn2 : ∀ x ∈ ss, x.pts.length ≤ 1000) (hin : ptsIn ss) (w : World) (hs : Sh w A ss) :
    Calls Try.prog 37 #[.slice A ss.length cs] w fun e w' => e = .returned (.bool (decide (may ss))) ∧ Below w.heap.size w w' := by
  have H2 : Calls Try.prog 45 #[.slice A ss.length cs, .func (.func 46) #[] #[]] w fun e w' => e = .returned (.bool (!(decide (∀ x ∈ ss, mayS x)))) ∧ Below w.heap.size w w' := by
    have H := Kept.mk (sidx_walk A cs ss hl hn2 hin w hs)
    clear hin hn2 hs
    have hd : ∀ z : Int, (z < 0 ↔ ∀ x ∈ ss, mayS x) → decide (z ≥ 0) = !(decide (∀ x ∈ ss, mayS x)) := fun z hz => by
      by_cases q : z < 0
      · rw [decide_eq_true (hz.1 q), decide_eq_false (by omega)]; rfl
      · rw [decide_eq_false (fun h => q (hz.2 h)), decide_eq_true (by omega)]; rfl
    have hdK := Kept.mk hd
    clear hd
    obtain ⟨n, hn⟩ : ∃ n, Kept (n = ss.length) := ⟨_, ⟨rfl⟩⟩
    rw [← hn.out] at H hl ⊢
    go_enter Try.func45, Try.ntmps45
    go_wp2_with (go_at_call 52; (with_reducible refine H.out.mono ?_); rintro e w' ⟨z, rfl, ⟨⟨hz0, hz1⟩, hz2⟩, hb⟩; have hB1 := Kept.mk hb; have hz3 := Kept.mk (hdK.out z hz2); clear hb hz2)
    all_goals (go_ret; exact ⟨by rw [← hz3.out]; rfl, hB1.out⟩)
  have HK := Kept.mk H2
  have hd : decide (may ss) = (decide (ss.length ≤ 6) && decide (∀ x ∈ ss, mayS x)) := by
    by_cases q1 : ss.length ≤ 6
    · by_cases q2 : ∀ x ∈ ss, mayS x
      · rw [decide_eq_true (show may ss from ⟨q1, q2⟩), decide_eq_true q1, decide_eq_true q2]; rfl
      · rw [decide_eq_false (show ¬ may ss from fun h => q2 h.2), decide_eq_true q1, decide_eq_false q2]; rfl
    · rw [decide_eq_false (show ¬ may ss from fun h => q1 h.1), decide_eq_false q1]; rfl
  rw [hd]
  clear H2 hin hn2 hs hd
  generalize decide (∀ x ∈ ss, mayS x) = b at *
  generalize ss.length = n at *
  by_cases q : n ≤ 6
  · rw [decide_eq_true q]
    go_enter Try.func37, Try.ntmps37
    go_wp2_with (go_at_call 45; (with_reducible refine HK.out.mono ?_); rintro e w' ⟨rfl, hb⟩; have hB1 := Kept.mk hb; clear hb)
    all_goals (go_ret; exact ⟨by simp, hB1.out⟩)
  · rw [decide_eq_false q]
    go_enter Try.func37, Try.ntmps37
    go_wp2
    all_goals (go_ret; exact ⟨rfl, Below.refl _ _⟩)
end Go.Proofs.Ytlffbdfkanibcaa.Sk
