/-
  The walk of OverBytes on a row of one's own. Condition: at most 1000 bytes.
-/
import Derived.Test.YtlffbdfkanibcaaTl
namespace Go.Proofs.Ytlffbdfkanibcaa.Sk
open Go.RowKit Go.Proofs.YtlffbdfkanibcaaW.PrintWords Go.Proofs.YtlffbdfkanibcaaW.PrintLast Go.Proofs.YtlffbdfkanibcaaW.PrintMore
open Fl Go.Proofs.Ytlffbdfkanibcaa.Pt
set_option linter.unusedSimpArgs false
set_option linter.unusedVariables false

set_option maxRecDepth 100000 in
theorem OverBytes_walk (B g n cap : Nat) (hn2 : n ≤ 1000) (ys : List Value) (w : World) (hB : B ≤ w.heap.size) (ho : w.ownsRow B 5 1 (.slice (some ⟨g, 0, none⟩) n cap) n ys) :
    Calls Try.prog 23 #[.slice (some ⟨g, 0, none⟩) n cap] w fun e w' => (∃ v, e = .returned v) ∧ w.grownBy w' (some g) := by
  have hu40 := Try.underlying40
  obtain ⟨i0, hi, hz0, hz1, hz2⟩ := info_parts info5
  have HO := Pt.Kept.mk ho
  have HB := Pt.Kept.mk hB
  clear ho hB
  go_enter Try.func23, Try.ntmps23
  go_wp2
  go_loopw [2] (fun i wr => ∃ (k : Nat) (zs : List Value), k ≤ n ∧ i = .int .i64 k ∧ Pt.Kept (wr.ownsRow B 5 1 (.slice (some ⟨g, 0, none⟩) n cap) n zs) ∧ Pt.Kept (w.grownBy wr (some g))) (fun i _ => n - (intOf i).toNat)
  case atStart => exact ⟨0, ys, Nat.zero_le _, rfl, HO, ⟨World.grownBy.refl _ _⟩⟩
  case round =>
    obtain ⟨k, zs, hk, rfl, hO, hG⟩ := hrel
    by_cases hlt : k < n
    · have hl : zs.length = n := by have := hO.out.1; omega
      have ea : (⟨g, 0, none⟩ : Addr).add k = ⟨g, k, none⟩ := by unfold Addr.add; split <;> simp_all
      obtain ⟨z, hz⟩ : ∃ z, zs[k]? = some z := ⟨_, List.getElem?_eq_getElem (by omega)⟩
      have hc : wr.cell? ⟨g, k, none⟩ = some z := by
        rw [← ea]; exact World.ownsRow.cells hO.out (g := g) rfl k _ hz
      have hf : wr.frozen? ⟨g, k, none⟩ = false := World.ownsRow.frozenAt hO.out _
      have hst := Pt.Kept.mk (World.ownsRow.stored hO.out k (.int .u8 238)).1
      have hG2 : Pt.Kept (w.grownBy (wr.setCell ⟨g, k, none⟩ (.int .u8 238)) (some g)) := ⟨hG.out.trans (gb_set (g := g) k _)⟩
      clear hl ea hO hG hz
      go_wp2
      go_roundw
      case rel => exact ⟨k + 1, _, by omega, by go_num, hst, hG2⟩
      case measure => simp [intOf]; omega
    · have hke : n = k := by omega
      subst hke
      clear hlt hk
      have hs := hG.out.size
      go_wp2_with (at_builtin; refine of_mark ?_)
      apply to_mark
      refine wpList_append_own _ rfl (.tmp 12) (.tmp 13) 40 rfl B 5 i0 (.int .u8 0) 1 1 hu40 hi hz0 hz1 hz2 rfl (by decide) _ n _ rfl (hO.out.alloc _) ⟨wr.heap.size, 0, none⟩ 1 1 [.int .u8 238] rfl rfl ?c1 (by intro u hu; simp at hu; subst hu; rfl) (by unfold maxLen; omega) (by omega) (by have := HB.out; simp; omega) ?_
      case c1 =>
        intro j u hj
        match j, hj with
        | 0, hj => cases hj; first | exact World.cell?_alloc_new _ _ _ _ | rfl
      intro v' w2 hown' hgrow _
      have hG3 : Pt.Kept (w.grownBy w2 (some g)) := ⟨(hG.out.trans (World.grownBy_alloc wr _ (some g))).trans hgrow⟩
      clear hown' hgrow
      go_wp2
      all_goals (refine bodyPost_end (results_none rfl _ _ _) rfl ?_; exact ⟨⟨_, rfl⟩, hG3.out⟩)
end Go.Proofs.Ytlffbdfkanibcaa.Sk
