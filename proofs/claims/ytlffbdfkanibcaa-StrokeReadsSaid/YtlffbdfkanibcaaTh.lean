/-
  The walks of the document's own May on sheets whose points may be. Condition: the points' parts are in bounds.
-/
import Derived.Test.YtlffbdfkanibcaaTc
namespace Go.Proofs.Ytlffbdfkanibcaa.Sk
open Go.RowKit Go.Proofs.YtlffbdfkanibcaaW.PrintWords Go.Proofs.YtlffbdfkanibcaaW.PrintLast Go.Proofs.YtlffbdfkanibcaaW.PrintMore
open Fl Go.Proofs.Ytlffbdfkanibcaa.Pt
set_option linter.unusedSimpArgs false
set_option linter.unusedVariables false

theorem rwhole_in (n : Int) (h1 : -32768 ≤ n) (h2 : n ≤ 32767) (w : World) : Calls Try.prog 61 #[.float .f64 (I n)] w fun e w' => e = .returned (.bool true) ∧ w' = w := by
  have hn : n.natAbs < 2 ^ 53 := by omega
  obtain ⟨s, m, p, hr, hi⟩ := trunc_is (.I n) hn
  have ht := trunc_walk (I n) s m p hr
  have o1 : FloatKind.f64.format.order (I n) 13898108450065350656 = some (compare n (-32768)) := by rw [c_low]; exact ord _ _ hn (by decide)
  have o2 : FloatKind.f64.format.order (I n) 4674736138332667904 = some (compare n 32767) := by rw [c_high]; exact ord _ _ hn (by decide)
  have o3 : FloatKind.f64.format.order (I n) 0 = some (compare n 0) := by
    have := ord n 0 hn (by decide)
    rwa [← c_zero] at this
  have o4 : FloatKind.f64.format.order (I n) (Ieee.double.write (Ieee.Datum.integral .zero (.number s m p))) = some .eq := by
    have := order_is (.I n) hi hn hn
    rw [cmp_eq] at this; exact this
  generalize (Ieee.double.write (Ieee.Datum.integral .zero (.number s m p))) = y at ht o4
  have e1 : ((FloatKind.f64.format.order (I n) 13898108450065350656 == some Ordering.gt) || (FloatKind.f64.format.order (I n) 13898108450065350656 == some Ordering.eq)) = true := by rw [o1]; exact ge_of h1
  have e2 : ((FloatKind.f64.format.order (I n) 4674736138332667904 == some Ordering.lt) || (FloatKind.f64.format.order (I n) 4674736138332667904 == some Ordering.eq)) = true := by rw [o2]; exact le_of h2
  have e4 : (FloatKind.f64.format.order (I n) y == some Ordering.eq) = true := by rw [o4]; rfl
  clear o1 o2 o4
  by_cases h0 : n = 0
  · subst h0
    have e3 : (FloatKind.f64.format.order (I 0) 0 != some Ordering.eq) = false := by rw [o3, cmp_eq]; rfl
    clear o3
    rw [I_zero] at *
    go_enter Try.func61, Try.ntmps61
    go_wp2_with (first | (go_at_call 50; (with_reducible refine (ht _).mono ?_); rintro e w' ⟨rfl, rfl⟩) | (go_at_call 51; (with_reducible refine (signbit0_walk _).mono ?_); rintro e w' ⟨rfl, rfl⟩))
    all_goals (go_ret; exact ⟨rfl, rfl⟩)
  · have e3 : (FloatKind.f64.format.order (I n) 0 != some Ordering.eq) = true := by
      rw [o3]
      rcases Int.lt_or_gt_of_ne h0 with h | h
      · rw [cmp_lt h]; rfl
      · rw [cmp_gt h]; rfl
    clear o3
    go_enter Try.func61, Try.ntmps61
    go_wp2_with (first | (go_at_call 50; (with_reducible refine (ht _).mono ?_); rintro e w' ⟨rfl, rfl⟩))
    all_goals (go_ret; exact ⟨rfl, rfl⟩)

theorem rMay_in (a b : Int) (ha : In a) (hb : In b) (w : World) : Calls Try.prog 59 #[C a b] w fun e w' => e = .returned (.bool true) ∧ w' = w := by
  go_enter Try.func59, Try.ntmps59
  go_wp2_with (first | (go_at_call 61; (with_reducible refine (rwhole_in a ha.1 ha.2 _).mono ?_); rintro e w' ⟨rfl, rfl⟩) | (go_at_call 61; (with_reducible refine (rwhole_in b hb.1 hb.2 _).mono ?_); rintro e w' ⟨rfl, rfl⟩))
  all_goals (go_ret; exact ⟨rfl, rfl⟩)

set_option maxRecDepth 100000 in
set_option maxHeartbeats 4000000 in
theorem one_walk (x : St) (P : Option Addr) (c : Nat) (hn2 : x.pts.length ≤ 1000) (hin : ∀ p ∈ x.pts, InP p) (w : World) (h : Pts w P x.pts) :
    Calls Try.prog 55 #[.agg (Stk x.pen x.wid P x.pts.length c)] w fun e w' => e = .returned (.bool (decide (mayS x))) ∧ Below w.heap.size w w' := by
  have hu := Try.underlying65
  have HP := Kept.mk h
  have HI := Kept.mk hin
  obtain ⟨pen, wid, ps⟩ := x
  simp only at *
  obtain ⟨n, hn⟩ : ∃ n, Kept (n = ps.length) := ⟨_, ⟨rfl⟩⟩
  have hm : (mayS ⟨pen, wid, ps⟩) ↔ ((0 ≤ pen ∧ pen ≤ 7) ∧ (1 ≤ wid ∧ wid ≤ 9) ∧ (1 ≤ n ∧ n ≤ 10)) := by rw [hn.out]; exact Iff.rfl
  rw [← hn.out] at hn2 ⊢
  clear h hin
  by_cases hy : mayS ⟨pen, wid, ps⟩
  · rw [decide_eq_true hy]
    obtain ⟨⟨a1, a2⟩, ⟨a3, a4⟩, a5, a6⟩ := hm.1 hy
    clear hm hy
    go_enter Try.func55, Try.ntmps55
    go_wp2_with (((with_reducible refine gate_dst (N := 1) rfl ?_); refine box_event ?hg (N := 1) ?hd (cs := Stk pen wid P n c) (t := 65) ?hr ?_; (case hd => rfl); (case hg => rfl); (case hr => first | (go_simp; done) | (go_simp; rfl)); intro gb hg w1 hbox hb; have hB1 := Kept.mk hb; have z0 := (blk_cell hbox 0).trans rfl; have z1 := (blk_cell hbox 1).trans rfl; have z2 := (blk_cell hbox 2).trans rfl; clear hbox hb hg))
    go_loop [3] (fun i => ∃ k : Nat, k ≤ n ∧ i = .int .i64 k) (fun i => n - (intOf i).toNat)
    case atStart => exact ⟨0, Nat.zero_le _, rfl⟩
    case round =>
      obtain ⟨k, hk, rfl⟩ := hrel
      by_cases hlt : k < n
      · obtain ⟨g, rfl, _, hcc⟩ := (HP.out.below hB1.out).ex (by rw [← hn.out]; omega)
        have hc := hcc k (by rw [← hn.out]; exact hlt)
        have hp : InP (ps.getD k (0, 0)) := HI.out _ (getD_mem ps _ k (by rw [← hn.out]; exact hlt))
        clear hcc
        generalize ps.getD k (0, 0) = q at *
        obtain ⟨qa, qb⟩ := q
        have hO := Kept.mk (fun w => rMay_in qa qb hp.1 hp.2 w)
        clear hp
        go_wp2_with (go_at_call 59; (with_reducible refine (hO.out _).mono ?_); rintro e w' ⟨rfl, hw⟩; have hw := hw.symm; subst hw)
        go_round
        case rel => exact ⟨k + 1, by omega, by go_num⟩
        case measure => simp [intOf]; omega
      · have hke : n = k := by omega
        subst hke
        clear hlt hk
        go_wp2
        all_goals (go_ret; exact ⟨rfl, hB1.out⟩)
  · rw [decide_eq_false hy]
    rw [hm] at hy
    clear hm HP
    go_enter Try.func55, Try.ntmps55
    go_wp2_with (((with_reducible refine gate_dst (N := 1) rfl ?_); refine box_event ?hg (N := 1) ?hd (cs := Stk pen wid P n c) (t := 65) ?hr ?_; (case hd => rfl); (case hg => rfl); (case hr => first | (go_simp; done) | (go_simp; rfl)); intro gb hg w1 hbox hb; have hB1 := Kept.mk hb; have z0 := (blk_cell hbox 0).trans rfl; have z1 := (blk_cell hbox 1).trans rfl; have z2 := (blk_cell hbox 2).trans rfl; clear hbox hb hg))
    all_goals first
      | (exfalso; omega)
      | (go_ret; exact ⟨rfl, hB1.out⟩)

set_option maxRecDepth 100000 in
set_option maxHeartbeats 4000000 in
theorem rmay_walk (A : Option Addr) (cs : Nat) (ss : List St) (hl : ss.length ≤ 1000) (hn2 : ∀ x ∈ ss, x.pts.length ≤ 1000) (hin : ptsIn ss) (w : World) (hs : Sh w A ss) :
    Calls Try.prog 48 #[.slice A ss.length cs] w fun e w' => e = .returned (.bool (decide (may ss))) ∧ Below w.heap.size w w' := by
  have hu := Try.underlying65
  have HS := Kept.mk hs
  have HI := Kept.mk hin
  have HN := Kept.mk hn2
  obtain ⟨n, hn⟩ : ∃ n, Kept (n = ss.length) := ⟨_, ⟨rfl⟩⟩
  have hd : Kept (n ≤ 6 → (∀ x ∈ ss, mayS x) → may ss) := ⟨fun h1 h2 => ⟨by rw [← hn.out]; exact h1, h2⟩⟩
  have hd2 : Kept (¬ (n ≤ 6) → ¬ may ss) := ⟨fun h1 h2 => h1 (by rw [hn.out]; exact h2.1)⟩
  have hd3 : Kept (∀ x ∈ ss, ¬ mayS x → ¬ may ss) := ⟨fun x hx h1 h2 => h1 (h2.2 x hx)⟩
  rw [← hn.out] at hl ⊢
  clear hs hin hn2
  by_cases q : n ≤ 6
  · go_enter Try.func48, Try.ntmps48
    go_wp2
    go_loopw [3] (fun i wr => ∃ k : Nat, k ≤ n ∧ i = .int .i64 k ∧ Kept (∀ j, j < k → mayS (ss.getD j noSt)) ∧ Kept (Below w.heap.size w wr)) (fun i _ => n - (intOf i).toNat)
    case atStart => exact ⟨0, Nat.zero_le _, rfl, ⟨fun j hj => by omega⟩, ⟨Below.refl _ _⟩⟩
    case round =>
      obtain ⟨k, hk, rfl, hG, hB⟩ := hrel
      by_cases hlt : k < n
      · obtain ⟨g, rfl, _, hcc⟩ := (HS.out.below hB.out).ex (by rw [← hn.out]; omega)
        obtain ⟨P, c, z0, z1, z2, hp⟩ := hcc k (by rw [← hn.out]; exact hlt)
        have hmem := getD_mem ss noSt k (by rw [← hn.out]; exact hlt)
        have hO := Kept.mk (one_walk (ss.getD k noSt) P c (HN.out _ hmem) (HI.out _ hmem) wr hp)
        have hG2 : Kept (mayS (ss.getD k noSt) → ∀ j, j < k + 1 → mayS (ss.getD j noSt)) := ⟨fun h j hj => by
          by_cases e : j = k
          · subst e; exact h
          · exact hG.out j (by omega)⟩
        have hG3 : Kept (¬ mayS (ss.getD k noSt) → ¬ may ss) := ⟨hd3.out _ hmem⟩
        clear hcc hp hmem
        generalize ss.getD k noSt = x at *
        obtain ⟨pen, wid, ps⟩ := x
        simp only at *
        by_cases hy : mayS ⟨pen, wid, ps⟩
        · rw [decide_eq_true hy] at hO
          have hG4 := Kept.mk (hG2.out hy)
          clear hy hG2 hG3 hG
          go_wp2_with (go_at_call 55; (with_reducible refine hO.out.mono ?_); rintro e w1 ⟨rfl, hb⟩; have hB1 := Kept.mk (bel_step hB.out hb); clear hb)
          go_roundw
          case rel => exact ⟨k + 1, by omega, by go_num, hG4, hB1⟩
          case measure => simp [intOf]; omega
        · rw [decide_eq_false hy] at hO
          have hG4 := Kept.mk (hG3.out hy)
          clear hy hG2 hG3 hG
          go_wp2_with (go_at_call 55; (with_reducible refine hO.out.mono ?_); rintro e w1 ⟨rfl, hb⟩; have hB1 := Kept.mk (bel_step hB.out hb); clear hb)
          all_goals (go_ret; exact ⟨by rw [decide_eq_false hG4.out]; rfl, hB1.out⟩)
      · have hke : n = k := by omega
        subst hke
        clear hlt hk
        have hall : Kept (may ss) := ⟨hd.out q (fun x hx => by
          obtain ⟨j, hj, rfl⟩ := List.getElem_of_mem hx
          have := hG.out j (by rw [hn.out]; exact hj)
          rwa [List.getD_eq_getElem?_getD, List.getElem?_eq_getElem hj] at this)⟩
        clear hG
        go_wp2
        all_goals (go_ret; exact ⟨by rw [decide_eq_true hall.out]; rfl, hB.out⟩)
  · have hno := Kept.mk (hd2.out q)
    go_enter Try.func48, Try.ntmps48
    go_wp2
    all_goals (go_ret; exact ⟨by rw [decide_eq_false hno.out]; rfl, Below.refl _ _⟩)
end Go.Proofs.Ytlffbdfkanibcaa.Sk
