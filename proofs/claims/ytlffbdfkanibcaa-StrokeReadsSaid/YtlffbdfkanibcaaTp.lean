/-
  The walk of LendBytes. Condition: at most 1000 bytes.
-/
import Derived.Test.YtlffbdfkanibcaaTo
import Derived.Laws.MakeOwn
import Derived.OwnWalk
namespace Go.Proofs.Ytlffbdfkanibcaa.Sk
open Go.RowKit Go.Proofs.YtlffbdfkanibcaaW.PrintWords Go.Proofs.YtlffbdfkanibcaaW.PrintLast Go.Proofs.YtlffbdfkanibcaaW.PrintMore
open Fl Go.Proofs.Ytlffbdfkanibcaa.Pt
set_option linter.unusedSimpArgs false
set_option linter.unusedVariables false

/-- The spare room of a row is the row's, too. -/
theorem own_room {w : World} {B g n m cap : Nat} {xs : List Value} (h : w.ownsRow B 5 1 (.slice (some ⟨g, 0, none⟩) n cap) n xs) (hm : n + m ≤ cap) : ∃ ys, ys.length = m ∧ w.ownsRow B 5 1 (.slice (some ⟨g, 0, none⟩) (n + m) cap) (n + m) (xs ++ ys) := by
  rcases h.2 with ⟨h0, _⟩ | ⟨g', cap', cur, e, hb, hg, h1, h2, h3, h4⟩
  · cases h0
  · simp only [Value.slice.injEq, Option.some.injEq, Addr.mk.injEq, and_true, true_and] at e
    obtain ⟨rfl, rfl⟩ := e
    refine ⟨(cur.toList.drop n).take m, ?_, ?_, .inr ⟨g, cap, cur, rfl, hb, hg, hm, h2, h3, ?_⟩⟩
    · simp; omega
    · rw [List.length_append, h.1]; simp; omega
    · rw [← h4, Nat.mul_one, Nat.mul_one, List.take_add]
theorem list_three (ys : List Value) (h : ys.length = 3) : ∃ a b c, ys = [a, b, c] := by
  match ys, h with
  | [a, b, c], _ => exact ⟨a, b, c, rfl⟩
/-- The marks below k are laid. -/
def mk3 (z : Nat → Value) (k : Nat) : List Value := (List.range 3).map (fun i => if i < k then .int .u8 119 else z i)
theorem mk3_set (xs : List Value) (z : Nat → Value) (k n : Nat) (hk : k < 3) (hn : xs.length = n) : (xs ++ mk3 z k).set (n + k) (.int .u8 119) = xs ++ mk3 z (k + 1) := by
  subst hn
  rw [List.set_append_right _ _ (by omega)]
  congr 1
  rw [show xs.length + k - xs.length = k from by omega]
  rcases k with _ | _ | _ | k
  · simp [mk3, List.range_succ]
  · simp [mk3, List.range_succ]
  · simp [mk3, List.range_succ]
  · omega
set_option maxRecDepth 100000 in
theorem LendBytes_walk (Q : Option Addr) (n c : Nat) (b : List Int) (hn : b.length = n) (hn2 : n ≤ 1000) (w : World) (h : Bt w Q b) (hnil : Q = none → c = 0) :
    Calls Try.prog 19 #[.slice Q n c] w fun e w' => ∃ g, e = .returned (.slice (some ⟨g, 0, none⟩) n (n + 3)) ∧ w'.ownsRow w.heap.size 5 1 (.slice (some ⟨g, 0, none⟩) (n + 3) (n + 3)) (n + 3) (B8 (b ++ [119, 119, 119])) ∧ Below w.heap.size w w' := by
  have hu40 := Try.underlying40
  obtain ⟨i0, hi, hz0, hz1, hz2⟩ := info_parts info5
  have HB := Pt.Kept.mk h
  have HN := Pt.Kept.mk hn
  have HL := Pt.Kept.mk hnil
  clear h hn hnil
  obtain ⟨w1, o1, hO1, hg1⟩ := run_make_own (P := Try.prog) w w.heap.size 40 5 i0 (.int .u8 0) 1 hu40 hi hz0 hz1 .i64 .i64 (n + 3) (by rw [hz2]; omega) (by unfold maxLen; omega) (Nat.le_refl _)
  rw [show ((n + 3 : Nat) : Int) = (n : Int) + 3 from by omega] at o1
  have HO1 := Pt.Kept.mk hO1
  have HG1 := Pt.Kept.mk hg1
  clear hO1 hg1
  go_enter Try.func19, Try.ntmps19
  go_wp2_with (first
    | simp only [o1]
    | (at_builtin; refine of_mark ?_))
  apply to_mark
  refine wpList_append_fits_any _ rfl (.tmp 10) (.tmp 11) 40 rfl w.heap.size 5 i0 1 hu40 hi hz1 w.heap.size 0 (n+3) [] rfl HO1.out Q n c (B8 b) rfl ?c1 ?c2 ?c3 (by intro u hu; obtain ⟨x,_,rfl⟩ := List.mem_map.1 hu; rfl) (by omega) ?_
  case c1 => simp [B8, HN.out]
  case c2 =>
    intro hq
    refine ⟨?_, HL.out hq⟩
    rcases Nat.eq_zero_or_pos n with h0 | h0
    · exact h0
    · obtain ⟨g, o, e, _⟩ := HB.out.ex (by rw [HN.out]; exact h0)
      rw [hq] at e; cases e
  case c3 =>
    intro ad had j u hu
    have hj : j < b.length := by have := (List.getElem?_eq_some_iff.1 hu).1; simpa [B8] using this
    obtain ⟨g, o, e, hl, hc⟩ := HB.out.ex (by omega)
    rw [had] at e
    cases e
    have e2 := HG1.out.cell (hc j hj) (by simp)
    have ea : (⟨g, o, none⟩ : Addr).add j = ⟨g, o + j, none⟩ := by unfold Addr.add; split <;> simp_all
    rw [ea, e2]
    simp only [B8, List.getElem?_map, List.getElem?_eq_getElem hj, Option.map_some, Option.some.injEq] at hu
    rw [List.getD_eq_getElem?_getD, List.getElem?_eq_getElem hj]
    exact congrArg some hu
  intro w2 hown2 hgrow2
  rw [show (0 + n : Nat) = n from by omega, List.nil_append] at hown2
  obtain ⟨ys, hy3, hown3⟩ := own_room (m := 3) hown2 (by omega)
  obtain ⟨y0, y1, y2, rfl⟩ := list_three ys hy3
  have HB2 : Pt.Kept (Below w.heap.size w w2) := ⟨((Below.refl _ _).grown HG1.out (Nat.le_refl _) (fun g e => by cases e)).grown hgrow2 HG1.out.size (fun g e => by cases e; exact Nat.le_refl _)⟩
  have HO3 : Pt.Kept (w2.ownsRow w.heap.size 5 1 (.slice (some ⟨w.heap.size, 0, none⟩) (n + 3) (n + 3)) (n + 3) (B8 b ++ mk3 (fun i => [y0, y1, y2].getD i y0) 0)) := ⟨by
    simpa [mk3, List.range_succ] using hown3⟩
  clear hown2 hown3 hy3 hgrow2 HG1 HO1 o1
  generalize (fun i => [y0, y1, y2].getD i y0) = zf at *
  have hgs : Pt.Kept (w.heap.size ≤ w.heap.size) := ⟨Nat.le_refl _⟩
  generalize hgz : w.heap.size = z at *
  go_wp2
  go_loopw [5] (fun i wr => ∃ k : Nat, k ≤ 3 ∧ i = .int .i64 k ∧ Pt.Kept (wr.ownsRow z 5 1 (.slice (some ⟨z, 0, none⟩) (n + 3) (n + 3)) (n + 3) (B8 b ++ mk3 zf k)) ∧ Pt.Kept (Below z w wr)) (fun i _ => 3 - (intOf i).toNat)
  case atStart => exact ⟨0, by omega, rfl, HO3, HB2⟩
  case round =>
    clear HO3 HB2
    obtain ⟨k, hk, rfl, hO, hB⟩ := hrel
    by_cases hlt : k < 3
    · have hl : (B8 b ++ mk3 zf k).length = n + 3 := hO.out.1.trans (by omega)
      have ea : (⟨z, 0, none⟩ : Addr).add (n + k) = ⟨z, n + k, none⟩ := by unfold Addr.add; split <;> simp_all
      obtain ⟨x, hx⟩ : ∃ x, (B8 b ++ mk3 zf k)[n + k]? = some x := ⟨_, List.getElem?_eq_getElem (by omega)⟩
      have hc : wr.cell? ⟨z, n + k, none⟩ = some x := by
        rw [← ea]; exact World.ownsRow.cells hO.out (g := z) rfl (n + k) _ hx
      have hf : wr.frozen? ⟨z, n + k, none⟩ = false := World.ownsRow.frozenAt hO.out _
      have hst0 := (World.ownsRow.stored hO.out (n + k) (.int .u8 119)).1
      rw [mk3_set _ _ _ _ hlt (by simp [B8, HN.out])] at hst0
      have hst := Pt.Kept.mk hst0
      have hG2 : Pt.Kept (Below z w (wr.setCell ⟨z, n + k, none⟩ (.int .u8 119))) := ⟨hB.out.grown (gb_set (g := z) (n + k) _) (by rw [← hgz]; exact hB.out.size) (fun g e => by cases e; exact Nat.le_refl _)⟩
      clear hl ea hO hB hx hst0
      go_wp2
      go_roundw
      case rel => exact ⟨k + 1, by omega, by go_num, hst, hG2⟩
      case measure => simp [intOf]; omega
    · have hke : k = 3 := by omega
      subst hke
      clear hlt hk
      have hO2 : Pt.Kept (wr.ownsRow z 5 1 (.slice (some ⟨z, 0, none⟩) (n + 3) (n + 3)) (n + 3) (B8 (b ++ [119, 119, 119]))) := ⟨by
        have h := hO.out
        simpa [mk3, List.range_succ, B8] using h⟩
      clear hO
      go_wp2
      all_goals (go_ret; rw [hgz]; exact ⟨_, rfl, hO2.out, hB.out⟩)
end Go.Proofs.Ytlffbdfkanibcaa.Sk
