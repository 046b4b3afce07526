/-
  The walk of slices.Grow on nil. No condition beyond the number's bound.
-/
import Derived.Test.YtmpbedjbimimoaaProg
import Derived.WalkKit
import Derived.Laws.AppendOwn
import Derived.LoopTactic
import Derived.Below
namespace Go.Proofs.Ytmpbedjbimimoaa.Eb
open Go.RowKit
set_option linter.unusedSimpArgs false
set_option linter.unusedVariables false

/-- A fact laid aside. -/
structure Kept (p : Prop) : Prop where
  out : p

theorem info5 : (Try.prog.info? 5).map (fun i => (i.zero, i.size, i.bytes)) = some (some (.int .u8 0), 1, 1) := by kernel_rfl
theorem wrap_id (n : Int) (h1 : -9223372036854775808 ≤ n) (h2 : n < 9223372036854775808) : IntKind.i64.wrap n = n := by
  simp only [IntKind.wrap, IntKind.signed, IntKind.bits]
  simp
  omega

theorem run_append_made (w : World) (ty : TypeId) (n : Nat) (hn : 0 < n) (hs : n ≤ 1048576) : ∃ cells : Array Value, cells.size = grownCap w n 0 5 ∧
    (Builtin.append_ #[49, 3] ty #[.slice none 0 0, .int .i64 (n : Int)]).run Try.prog w = .ok (.slice (some ⟨w.heap.size, 0, none⟩) n (grownCap w n 0 5)) (w.drew.alloc (.cells cells 5)) := by
  have u49 := Try.underlying49
  have u3 := Try.underlying3
  obtain ⟨i, hi, hz0, hz1, hz2⟩ := info_parts info5
  have hn0 : n ≠ 0 := by omega
  have hw : IntKind.i64.wrap (n : Int) = n := wrap_id _ (by omega) (by omega)
  have hlt : ¬ ((n : Int) < 0) := by omega
  have h1 : ¬ (281474976710656 < (n : Int)) := by omega
  have h3 : ¬ ((n : Int) ≤ 0) := by omega
  have h63' : ¬ (9223372036854775807 < (n : Int)) := by omega
  have h48' : ¬ (281474976710656 < Builtin.nextslicecap n 0) := by rw [nextslicecap_zero hn]; omega
  have hge := grownCap_ge w n 0 5
  refine ⟨Builtin.zeroCells (Value.int IntKind.u8 0).cells n ++ Builtin.zeroCells (Value.int IntKind.u8 0).cells (grownCap w n 0 5 - n), ?_, ?_⟩
  · simp only [Array.size_append, Builtin.zeroCells, Array.size_map, Array.size_range]
    have : (Value.int IntKind.u8 0).cells.size = 1 := rfl
    rw [this]; omega
  · simp [Builtin.append_, run_underlying u49, run_underlying u3, sizeOf, typeInfo, zeroValue, hi, hz0, hz1, hz2, asInt, asIntOf, hw, hn0, hlt, h1, h3, h63', h48', Question.forced, run_firstCells_none, newRow, grownCap]

theorem wpList_append_made {ops : Array Oper} {rest : List Oper} {o : Oper} {a : Act} {Q : Exit → Act → World → Prop} {w : World} (hgd : o.guard = none) (s x : Operand)
    (ho : o.op = .call { callee := .builtin .append, args := #[s, x], argTypes := #[49, 3] }) (n : Nat) (hn : 0 < n) (hs : n ≤ 1048576) (hS : a.eval s = .slice none 0 0) (hX : a.eval x = .int .i64 (n : Int))
    (h : ∀ cap w', n ≤ cap → w'.ownsRow w.heap.size 5 1 (.slice (some ⟨w.heap.size, 0, none⟩) 0 cap) 0 [] → w.grownBy w' none → wpList Try.prog ops Q rest (a.put o.dst (.slice (some ⟨w.heap.size, 0, none⟩) n cap)) w') :
    wpList Try.prog ops Q (o :: rest) a w := by
  obtain ⟨cells, hc, hr⟩ := run_append_made w o.type n hn hs
  refine wpList_plain hgd fun K hK => ?_
  unfold Oper.wp execOp
  simp only [ho, resolve, invoke, builtin, Sem.run_bind, Sem.run_pure, Result.andThen_ok, List.map_toArray, List.map_cons, List.map_nil, hS, hX, hr]
  refine hK _ _ (h _ _ (grownCap_ge w n 0 5) ?_ ⟨rfl, rfl, rfl, by simp, fun k hk _ => heap_alloc_old w.drew _ hk⟩)
  exact World.ownsRow_made w.drew cells _ (Nat.le_refl _) (grownCap_le_maxLen w n 0 5 (by unfold maxLen; omega)) (by rw [hc]; omega)

theorem Grow_walk (n : Nat) (hs : n ≤ 1048576) (w : World) :
    Calls Try.prog 64 #[.slice none 0 0, .int .i64 (n : Int)] w fun e w' => ∃ v, e = .returned v ∧ w'.ownsRow w.heap.size 5 1 v 0 [] ∧ Below w.heap.size w w' := by
  by_cases h0 : n = 0
  · subst h0
    go_enter Try.func64, Try.ntmps64
    go_wp2
    all_goals (go_ret; exact ⟨_, rfl, World.ownsRow_nil _ _ _ _, Below.refl _ _⟩)
  · go_enter Try.func64, Try.ntmps64
    go_wp2_with (at_builtin; refine wpList_append_made rfl (.tmp 20) (.tmp 21) rfl n (by omega) hs rfl rfl ?_; intro cap w1 hcap hown hgrow; have hO := Kept.mk hown; have hB := Kept.mk ((Below.refl w.heap.size w).grown hgrow (Nat.le_refl _) (fun k hk => by cases hk)); clear hown hgrow)
    all_goals (go_ret; exact ⟨_, rfl, hO.out, hB.out⟩)
end Go.Proofs.Ytmpbedjbimimoaa.Eb
