/-
  The walks of SameBytes on equal bytes. Condition: at most 1000 bytes.
-/
import Derived.Test.YtlffbdfkanibcaaTl
namespace Go.Proofs.Ytlffbdfkanibcaa.Sk
open Go.RowKit Go.Proofs.YtlffbdfkanibcaaW.PrintWords Go.Proofs.YtlffbdfkanibcaaW.PrintLast Go.Proofs.YtlffbdfkanibcaaW.PrintMore
open Fl Go.Proofs.Ytlffbdfkanibcaa.Pt
set_option linter.unusedSimpArgs false
set_option linter.unusedVariables false

theorem Bt.drewN {w : World} {P : Option Addr} {b : List Int} (h : Bt w P b) (m : Nat) : Bt (w.drewN m) P b := ⟨h.ex⟩
theorem Bt.below {w w1 : World} {P : Option Addr} {b : List Int} (h : Bt w P b) (hb : Below w.heap.size w w1) : Bt w1 P b :=
  ⟨fun hn => by
    obtain ⟨g, o, e, hl, hc⟩ := h.ex hn
    exact ⟨g, o, e, Nat.lt_of_lt_of_le hl hb.size, fun j hj => (hb.cell (p := ⟨g, o + j, none⟩) hl).trans (hc j hj)⟩⟩
set_option maxRecDepth 100000 in
theorem SameBytes_walk (P Q : Option Addr) (c c2 : Nat) (b : List Int) (hn2 : b.length ≤ 1000) (w : World) (h : Bt w P b) (h2 : Bt w Q b) :
    Calls Try.prog 34 #[.slice P b.length c, .slice Q b.length c2] w fun e w' => e = .returned (.bool true) ∧ ∃ m, w' = w.drewN m := by
  have H := Pt.Kept.mk h
  have H2 := Pt.Kept.mk h2
  obtain ⟨n, hn⟩ : ∃ n, Pt.Kept (n = b.length) := ⟨_, ⟨rfl⟩⟩
  rw [← hn.out] at hn2 ⊢
  clear h h2
  go_enter Try.func34, Try.ntmps34
  go_wp2
  go_loopw [5] (fun i wr => ∃ k : Nat, k ≤ n ∧ i = .int .i64 k ∧ Pt.Kept (∃ m, wr = w.drewN m)) (fun i _ => n - (intOf i).toNat)
  case atStart => exact ⟨0, Nat.zero_le _, rfl, ⟨0, rfl⟩⟩
  case round =>
    obtain ⟨k, hk, rfl, hmK⟩ := hrel
    obtain ⟨m, hm0⟩ := hmK.out
    have hm := Pt.Kept.mk hm0
    clear hm0 hmK
    by_cases hlt : k < n
    · obtain ⟨g, o, rfl, _, hc1⟩ := H.out.ex (by rw [← hn.out]; omega)
      obtain ⟨g2, o2, rfl, _, hc2⟩ := H2.out.ex (by rw [← hn.out]; omega)
      have e1 : wr.cell? ⟨g, o + k, none⟩ = some (.int .u8 (b.getD k 0)) := by rw [hm.out]; exact hc1 k (by rw [← hn.out]; exact hlt)
      have e2 : wr.cell? ⟨g2, o2 + k, none⟩ = some (.int .u8 (b.getD k 0)) := by rw [hm.out]; exact hc2 k (by rw [← hn.out]; exact hlt)
      clear hc1 hc2
      generalize b.getD k 0 = q at *
      go_wp2
      go_quiet (fail)
      have hB2 : Pt.Kept (∃ m, wr.drewN nq = w.drewN m) := ⟨⟨m + nq, by rw [hm.out, World.drewN_drewN]⟩⟩
      generalize wr.drewN nq = w2 at *
      go_wp2
      go_roundw
      case rel => exact ⟨k + 1, by omega, by go_num, hB2⟩
      case measure => simp [intOf]; omega
    · have hke : n = k := by omega
      subst hke
      clear hlt hk
      go_wp2
      all_goals (go_ret; exact ⟨rfl, m, hm.out⟩)
end Go.Proofs.Ytlffbdfkanibcaa.Sk
