/-
  The walk of KeptBytes where nothing was written. Condition: at most 1000 bytes.
-/
import Derived.Test.YtlffbdfkanibcaaTm
namespace Go.Proofs.Ytlffbdfkanibcaa.Sk
open Go.RowKit Go.Proofs.YtlffbdfkanibcaaW.PrintWords Go.Proofs.YtlffbdfkanibcaaW.PrintLast Go.Proofs.YtlffbdfkanibcaaW.PrintMore
open Fl Go.Proofs.Ytlffbdfkanibcaa.Pt
set_option linter.unusedSimpArgs false
set_option linter.unusedVariables false

set_option maxRecDepth 100000 in
theorem KeptBytes_walk (g cap : Nat) (Q : Option Addr) (c2 : Nat) (b : List Int) (hn2 : b.length ≤ 1000) (hcap : b.length + 3 ≤ cap) (w : World) (h : Bt w (some ⟨g, 0, none⟩) b) (h2 : Bt w Q b)
    (z0 : w.cell? ⟨g, b.length, none⟩ = some (.int .u8 119)) (z1 : w.cell? ⟨g, b.length + 1, none⟩ = some (.int .u8 119)) (z2 : w.cell? ⟨g, b.length + 2, none⟩ = some (.int .u8 119)) :
    Calls Try.prog 22 #[.slice (some ⟨g, 0, none⟩) b.length cap, .slice Q b.length c2] w fun e w' => e = .returned (.bool true) ∧ ∃ m, w' = w.drewN m := by
  have hS := Pt.Kept.mk (SameBytes_walk (some ⟨g, 0, none⟩) Q cap c2 b hn2 w h h2)
  clear h h2
  generalize b.length = n at *
  go_enter Try.func22, Try.ntmps22
  go_wp2
  go_loop [6] (fun i => ∃ k : Nat, k ≤ 3 ∧ i = .int .i64 k) (fun i => 3 - (intOf i).toNat)
  case atStart => exact ⟨0, by omega, rfl⟩
  case round =>
    obtain ⟨k, hk, rfl⟩ := hrel
    by_cases hlt : k < 3
    · have hc : w.cell? ⟨g, n + k, none⟩ = some (.int .u8 119) := by
        have : k = 0 ∨ k = 1 ∨ k = 2 := by omega
        rcases this with rfl | rfl | rfl
        · exact z0
        · exact z1
        · exact z2
      clear z0 z1 z2
      go_wp2
      go_round
      case rel => exact ⟨k + 1, by omega, by go_num⟩
      case measure => simp [intOf]; omega
    · have hke : k = 3 := by omega
      subst hke
      clear hlt hk
      go_wp2_with (go_at_call 34; (with_reducible refine hS.out.mono ?_); rintro e w1 ⟨rfl, m, rfl⟩)
      all_goals (go_ret; exact ⟨rfl, m, rfl⟩)
end Go.Proofs.Ytlffbdfkanibcaa.Sk
