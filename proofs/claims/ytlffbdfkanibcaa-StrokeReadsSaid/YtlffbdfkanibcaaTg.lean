/-
  The walk of stroke.Read. Condition: at most 1000 bytes, from the start of a block.
-/
import Derived.Test.YtlffbdfkanibcaaTf
namespace Go.Proofs.Ytlffbdfkanibcaa.Sk
open Go.RowKit Go.Proofs.YtlffbdfkanibcaaW.PrintWords Go.Proofs.YtlffbdfkanibcaaW.PrintLast Go.Proofs.YtlffbdfkanibcaaW.PrintMore
open Fl Go.Proofs.Ytlffbdfkanibcaa.Pt
set_option linter.unusedSimpArgs false
set_option linter.unusedVariables false

theorem info65 : (Try.prog.info? 65).map (fun i => (i.zero, i.size, i.bytes)) = some (some (.agg #[.int .i64 0, .int .i64 0, .slice none 0 0]), 3, 40) := by kernel_rfl
theorem info22 : (Try.prog.info? 22).map (fun i => (i.zero, i.size, i.bytes)) = some (some (.complex .f64 0 0), 1, 16) := by kernel_rfl
abbrev zSt : Value := .agg #[.int .i64 0, .int .i64 0, .slice none 0 0]
/-- Bytes in memory, from the start of a block. -/
structure Bys (w : World) (g : Nat) (b : List Int) : Prop where
  lt : g < w.heap.size
  cell : ∀ j, j < b.length → w.cell? ⟨g, j, none⟩ = some (.int .u8 (b.getD j 0))
theorem Bys.below {w w1 : World} {g : Nat} {b : List Int} (h : Bys w g b) (hb : Below w.heap.size w w1) : Bys w1 g b :=
  ⟨Nat.lt_of_lt_of_le h.lt hb.size, fun j hj => (hb.cell (p := ⟨g, j, none⟩) h.lt).trans (h.cell j hj)⟩
/-- What is known of a sheet that is being read. -/
structure Being (w0 wr : World) (v : Value) (xs : List (St × Value)) : Prop where
  own : Own wr w0.heap.size v xs
  bel : Below w0.heap.size w0 wr
  pin : ptsIn (xs.map (·.1))
  few : ∀ x ∈ xs, x.1.pts.length ≤ 255
theorem held_drewN {w0 w' : World} {gs g m at_ cs : Nat} {pv : Value} {b0 b1 b2 b3 : Int} {xs : List (St × Value)} {x : St}
    (h : w'.cell? ⟨gs, m, none⟩ = some pv ∧ (w'.cell? ⟨g, at_, none⟩ = some (.int .u8 b0) ∧ w'.cell? ⟨g, at_ + 1, none⟩ = some (.int .u8 b1) ∧ w'.cell? ⟨g, at_ + 2, none⟩ = some (.int .u8 b2) ∧ w'.cell? ⟨g, at_ + 2 + 1, none⟩ = some (.int .u8 b3)) ∧ Kept (Own w' w0.heap.size (.slice (some ⟨gs, 0, none⟩) (xs.length + 1) cs) (xs ++ [(x, pv)])) ∧ Kept (Below w0.heap.size w0 w')) (n : Nat) :
    (w'.drewN n).cell? ⟨gs, m, none⟩ = some pv ∧ ((w'.drewN n).cell? ⟨g, at_, none⟩ = some (.int .u8 b0) ∧ (w'.drewN n).cell? ⟨g, at_ + 1, none⟩ = some (.int .u8 b1) ∧ (w'.drewN n).cell? ⟨g, at_ + 2, none⟩ = some (.int .u8 b2) ∧ (w'.drewN n).cell? ⟨g, at_ + 2 + 1, none⟩ = some (.int .u8 b3)) ∧ Kept (Own (w'.drewN n) w0.heap.size (.slice (some ⟨gs, 0, none⟩) (xs.length + 1) cs) (xs ++ [(x, pv)])) ∧ Kept (Below w0.heap.size w0 (w'.drewN n)) :=
  ⟨h.1, h.2.1, ⟨h.2.2.1.out.drewN n⟩, ⟨below_drewN h.2.2.2.out n⟩⟩
theorem held_alloc {w0 w' : World} {gs g m at_ cs : Nat} {pv : Value} {b0 b1 b2 b3 : Int} {xs : List (St × Value)} {x : St}
    (h : w'.cell? ⟨gs, m, none⟩ = some pv ∧ (w'.cell? ⟨g, at_, none⟩ = some (.int .u8 b0) ∧ w'.cell? ⟨g, at_ + 1, none⟩ = some (.int .u8 b1) ∧ w'.cell? ⟨g, at_ + 2, none⟩ = some (.int .u8 b2) ∧ w'.cell? ⟨g, at_ + 2 + 1, none⟩ = some (.int .u8 b3)) ∧ Kept (Own w' w0.heap.size (.slice (some ⟨gs, 0, none⟩) (xs.length + 1) cs) (xs ++ [(x, pv)])) ∧ Kept (Below w0.heap.size w0 w')) (o : Obj) :
    (w'.alloc o).cell? ⟨gs, m, none⟩ = some pv ∧ ((w'.alloc o).cell? ⟨g, at_, none⟩ = some (.int .u8 b0) ∧ (w'.alloc o).cell? ⟨g, at_ + 1, none⟩ = some (.int .u8 b1) ∧ (w'.alloc o).cell? ⟨g, at_ + 2, none⟩ = some (.int .u8 b2) ∧ (w'.alloc o).cell? ⟨g, at_ + 2 + 1, none⟩ = some (.int .u8 b3)) ∧ Kept (Own (w'.alloc o) w0.heap.size (.slice (some ⟨gs, 0, none⟩) (xs.length + 1) cs) (xs ++ [(x, pv)])) ∧ Kept (Below w0.heap.size w0 (w'.alloc o)) := by
  have k : ∀ (a : Addr) (v : Value), w'.cell? a = some v → (w'.alloc o).cell? a = some v := fun a v hv => (World.grownBy_alloc w' o none).cell hv (by simp)
  exact ⟨k _ _ h.1, ⟨k _ _ h.2.1.1, k _ _ h.2.1.2.1, k _ _ h.2.1.2.2.1, k _ _ h.2.1.2.2.2⟩, ⟨h.2.2.1.out.alloc o⟩, ⟨h.2.2.2.out.alloc h.2.2.2.out.size o⟩⟩
theorem frame98 (a : Act) (hs : a.tmps.size = 98) (hd : a.defers = []) : ∃ f : Nat → Value, a = { tmps := #[f 0, f 1, f 2, f 3, f 4, f 5, f 6, f 7, f 8, f 9, f 10, f 11, f 12, f 13, f 14, f 15, f 16, f 17, f 18, f 19, f 20, f 21, f 22, f 23, f 24, f 25, f 26, f 27, f 28, f 29, f 30, f 31, f 32, f 33, f 34, f 35, f 36, f 37, f 38, f 39, f 40, f 41, f 42, f 43, f 44, f 45, f 46, f 47, f 48, f 49, f 50, f 51, f 52, f 53, f 54, f 55, f 56, f 57, f 58, f 59, f 60, f 61, f 62, f 63, f 64, f 65, f 66, f 67, f 68, f 69, f 70, f 71, f 72, f 73, f 74, f 75, f 76, f 77, f 78, f 79, f 80, f 81, f 82, f 83, f 84, f 85, f 86, f 87, f 88, f 89, f 90, f 91, f 92, f 93, f 94, f 95, f 96, f 97], defers := [] } := by
  obtain ⟨t, d⟩ := a
  simp only at hs hd
  subst hd
  refine ⟨fun i => t.getD i undef, ?_⟩
  have e : t = ((List.range 98).map (fun i => t.getD i undef)).toArray := by
    apply Array.ext
    · simp [hs]
    · intro i h1 h2
      simp [Array.getD, h1]
  exact congrArg (fun q => ({ tmps := q, defers := [] } : Act)) e
abbrev J2 (w0 : World) (b : List Int) (g n c : Nat) (a : Act) (w : World) : Prop :=
  (a.tmps.size = 98 ∧ a.defers = []) ∧ ∃ (v : Value) (k at_ : Nat) (xs : List (St × Value)), (a.tmps.getD 0 undef = .slice (some ⟨g, 0, none⟩) n c ∧ a.tmps.getD 4 undef = v ∧ a.tmps.getD 5 undef = .int .i64 (k : Int) ∧ a.tmps.getD 7 undef = .int .i64 (at_ : Int)) ∧ (at_ ≤ n ∧ 1 ≤ at_ ∧ k ≤ 255 ∧ xs.length ≤ 7) ∧ Kept (Being w0 w v xs) ∧ Kept (readV b = fin (xs.map (·.1)) (takeSts k (b.drop at_)))
abbrev J3 (w0 : World) (b : List Int) (g n c : Nat) (a : Act) (w : World) : Prop :=
  (a.tmps.size = 98 ∧ a.defers = []) ∧ ∃ (v : Value) (k np at_ : Nat) (xs : List (St × Value)) (x : St) (pv : Value), (a.tmps.getD 0 undef = .slice (some ⟨g, 0, none⟩) n c ∧ a.tmps.getD 4 undef = v ∧ a.tmps.getD 5 undef = .int .i64 (k : Int) ∧ a.tmps.getD 6 undef = .int .i64 (np : Int) ∧ a.tmps.getD 7 undef = .int .i64 (at_ : Int)) ∧ (at_ ≤ n ∧ 1 ≤ at_ ∧ k ≤ 255 ∧ xs.length ≤ 6 ∧ x.pts.length + np ≤ 255) ∧ Kept (Being w0 w v (xs ++ [(x, pv)])) ∧ Kept (readV b = (takePts np (b.drop at_)).bind fun y => fin (xs.map (·.1) ++ [⟨x.pen, x.wid, x.pts ++ y.1⟩]) (takeSts k y.2))
abbrev J1 (w0 : World) (b : List Int) (g n c : Nat) (a : Act) (w : World) : Prop :=
  (a.tmps.size = 98 ∧ a.defers = []) ∧ ∃ (v : Value) (at_ : Nat) (xs : List (St × Value)), (a.tmps.getD 0 undef = .slice (some ⟨g, 0, none⟩) n c ∧ a.tmps.getD 4 undef = v ∧ a.tmps.getD 7 undef = .int .i64 (at_ : Int)) ∧ (at_ ≤ n ∧ 1 ≤ at_ ∧ xs.length ≤ 7) ∧ Kept (Being w0 w v xs) ∧ Kept (readV b = fin (xs.map (·.1)) (some ([], b.drop at_)))
abbrev J0 (w0 : World) (b : List Int) (g n c : Nat) (a : Act) (w : World) : Prop :=
  (a.tmps.size = 98 ∧ a.defers = []) ∧ Kept (Below w0.heap.size w0 w) ∧ Kept (readV b = none)

theorem u8_id (x : Int) (h : 0 ≤ x ∧ x < 256) : IntKind.u8.wrap x = x := by
  simp only [IntKind.wrap, IntKind.signed, IntKind.bits]
  simp
  omega
theorem wb_id (x : Int) (h : Byte x) : wrap64 x = (x.toNat : Int) := by unfold Byte at h; unfold wrap64; omega
theorem jump_to {K : Act → World → Prop} {J : Nat → Act → World → Prop} {Q : Exit → Act → World → Prop} {l : Nat} {a : Act} {w : World} (h : J l a w) : Exit.then K (jumps J Q) (.goto l) a w := h
theorem Being.grow {w0 w1 wr : World} {v v1 : Value} {xs : List (St × Value)} {x : St} {pv pv1 : Value} {p : P2} (h : Being w0 wr v (xs ++ [(x, pv)])) (ho : Own w1 w0.heap.size v1 (xs ++ [(⟨x.pen, x.wid, x.pts ++ [p]⟩, pv1)])) (hb : Below w0.heap.size w0 w1) (hp : InP p) (hl : x.pts.length + 1 ≤ 255) : Being w0 w1 v1 (xs ++ [(⟨x.pen, x.wid, x.pts ++ [p]⟩, pv1)]) := by
  refine ⟨ho, hb, ?_, ?_⟩
  · intro y hy q hq
    obtain ⟨z, hz, rfl⟩ := List.mem_map.1 hy
    rcases List.mem_append.1 hz with hz | hz
    · exact h.pin z.1 (List.mem_map.2 ⟨z, by simp [hz], rfl⟩) q hq
    · have : z = (⟨x.pen, x.wid, x.pts ++ [p]⟩, pv1) := by simpa using hz
      subst this
      rcases List.mem_append.1 hq with hq | hq
      · exact h.pin x (List.mem_map.2 ⟨(x, pv), by simp, rfl⟩) q hq
      · have : q = p := by simpa using hq
        subst this; exact hp
  · intro z hz
    rcases List.mem_append.1 hz with hz | hz
    · exact h.few z (by simp [hz])
    · have : z = (⟨x.pen, x.wid, x.pts ++ [p]⟩, pv1) := by simpa using hz
      subst this
      simpa using hl
theorem Being.more {w0 w1 wr : World} {v v1 : Value} {xs : List (St × Value)} {pen wid : Int} (h : Being w0 wr v xs) (ho : Own w1 w0.heap.size v1 (xs ++ [(⟨pen, wid, []⟩, .slice none 0 0)])) (hb : Below w0.heap.size w0 w1) : Being w0 w1 v1 (xs ++ [(⟨pen, wid, []⟩, .slice none 0 0)]) := by
  refine ⟨ho, hb, ?_, ?_⟩
  · intro y hy q hq
    obtain ⟨z, hz, rfl⟩ := List.mem_map.1 hy
    rcases List.mem_append.1 hz with hz | hz
    · exact h.pin z.1 (List.mem_map.2 ⟨z, hz, rfl⟩) q hq
    · have : z = (⟨pen, wid, []⟩, .slice none 0 0) := by simpa using hz
      subst this; cases hq
  · intro z hz
    rcases List.mem_append.1 hz with hz | hz
    · exact h.few z hz
    · have : z = (⟨pen, wid, []⟩, .slice none 0 0) := by simpa using hz
      subst this; simp
theorem i64_id (n : Int) (h1 : -9223372036854775808 ≤ n) (h2 : n < 9223372036854775808) : IntKind.i64.wrap n = n := by
  simp only [IntKind.wrap, IntKind.signed, IntKind.bits]
  simp
  omega
theorem w64_id (n : Int) (h1 : -9223372036854775808 ≤ n) (h2 : n < 9223372036854775808) : wrap64 n = n := by unfold wrap64; omega
theorem toNat_add2 (k : Nat) : ((k : Int) + 2).toNat = k + 2 := by omega
theorem in_last (m : Nat) : 0 ≤ (m : Int) ∧ (m : Int) < (m : Int) + 1 := by omega
theorem jumps_ret {J : Nat → Act → World → Prop} {Q : Exit → Act → World → Prop} {a : Act} {w : World} : jumps J Q .ret a w = Q .ret a w := rfl
theorem own_form {w : World} {B : Nat} {v : Value} {xs : List (St × Value)} {y : St × Value} (h : Own w B v (xs ++ [y])) : ∃ gs cs, v = .slice (some ⟨gs, 0, none⟩) (xs.length + 1) cs := by
  rcases h.row.2 with ⟨rfl, h0⟩ | ⟨g, cap, cur, rfl, _⟩
  · simp at h0
  · exact ⟨g, cap, by simp⟩
theorem over_ok (s : List St) (r : List Int) (hr : r = []) (hm : may s) : fin s (some ([], r)) = some s := by
  subst hr; simp [fin, hm]
theorem over_bad (s : List St) (r : List Int) (h : r ≠ [] ∨ ¬ may s) : fin s (some ([], r)) = none := by
  unfold fin
  simp only [Option.bind_some, List.append_nil]
  rw [if_neg]
  rintro ⟨h1, h2⟩
  rcases h with h | h
  · exact h h1
  · exact h h2

set_option maxRecDepth 100000 in
set_option maxHeartbeats 16000000 in
theorem Read_walk (g n c : Nat) (b : List Int) (hcap : n ≤ c) (hn : b.length = n) (hn2 : n ≤ 1000) (hb : ∀ x ∈ b, Byte x) (w : World) (hB : Bys w g b) :
    Calls Try.prog 20 #[.slice (some ⟨g, 0, none⟩) n c] w fun e w' => ∃ v xs z, e = .returned (.tuple #[v, .int .i64 z]) ∧ Own w' w.heap.size v xs ∧ Below w.heap.size w w' ∧ ((readV b = none ∧ xs = [] ∧ z = 5) ∨ (readV b = some (xs.map (·.1)) ∧ z = 0)) := by
  have HB := Kept.mk hB
  have Hb := Kept.mk hb
  have HN := Kept.mk hn
  have u43 := Try.underlying43
  have u32 := Try.underlying32
  obtain ⟨i0, hi, hz0, hz1, hz2⟩ := info_parts info65
  obtain ⟨i2, hj, hy0', hy1', hy2'⟩ := info_parts info22
  clear hB hb hn
  go_enter Try.func20, Try.ntmps20
  go_wp2
  refine wp_scope_four (J0 w b g n c) (J1 w b g n c) (J2 w b g n c) (J3 w b g n c) (fun _ _ => 0) (fun _ _ => 1) (fun a _ => 2 * (n - (intOf (a.tmps.getD 7 undef)).toNat) + 2) (fun a _ => 2 * (n - (intOf (a.tmps.getD 7 undef)).toNat) + 3) rfl rfl rfl rfl ?p0 ?p1 ?p3 ?p2 ?first
  case p0 =>
    rintro m a wr ⟨⟨hs98, hd98⟩, hBe, hR⟩ hm
    obtain ⟨f, rfl⟩ := frame98 a hs98 hd98
    clear hs98 hd98
    clear hm
    go_wp2
    all_goals (rw [jumps_ret]; go_ret2; exact ⟨_, [], 5, rfl, own_nil _ _, hBe.out, .inl ⟨hR.out, rfl, rfl⟩⟩)
  case p1 =>
    rintro m a wr ⟨⟨hs98, hd98⟩, v, at_, xs, ⟨e0, e4, e7⟩, ⟨h1, h2, h3⟩, hBe, hR⟩ hm
    obtain ⟨f, rfl⟩ := frame98 a hs98 hd98
    clear hs98 hd98
    have q0 : f 0 = .slice (some ⟨g, 0, none⟩) n c := e0
    have q4 : f 4 = v := e4
    have q7 : f 7 = .int .i64 (at_ : Int) := e7
    clear e0 e4 e7
    clear hm
    rw [q0, q4, q7]
    clear q0 q4 q7
    by_cases hat : at_ = n
    · subst hat
      obtain ⟨A, cA, rfl, hSh⟩ := own_sh hBe.out.own
      have hM := Kept.mk (may_walk A cA (xs.map (·.1)) (by rw [List.length_map]; omega) (fun y hy => by
        obtain ⟨z, hz, rfl⟩ := List.mem_map.1 hy
        have := hBe.out.few z hz; omega) hBe.out.pin wr hSh)
      rw [List.length_map] at hM
      have hr : b.drop at_ = [] := by rw [List.drop_eq_nil_iff, HN.out]; exact Nat.le_refl _
      clear hSh
      by_cases hy : may (xs.map (·.1))
      · rw [decide_eq_true hy] at hM
        have hR2 := Kept.mk (hR.out.trans (over_ok _ _ hr hy))
        clear hr hy hR
        go_wp2_with (go_at_call 37; (with_reducible refine hM.out.mono ?_); rintro e w1 ⟨rfl, hb⟩; have hB2 := Kept.mk (bel_step hBe.out.bel hb); have hO2 := Kept.mk (hBe.out.own.below hb); clear hb hBe)
        all_goals (rw [jumps_ret]; go_ret2; exact ⟨_, xs, 0, rfl, hO2.out, hB2.out, .inr ⟨hR2.out, rfl⟩⟩)
      · rw [decide_eq_false hy] at hM
        have hR2 := Kept.mk (hR.out.trans (over_bad _ _ (.inr hy)))
        clear hr hy hR
        go_wp2_with (go_at_call 37; (with_reducible refine hM.out.mono ?_); rintro e w1 ⟨rfl, hb⟩; have hB2 := Kept.mk (bel_step hBe.out.bel hb); clear hb hBe)
        go_step3
        go_wp2
        all_goals (rw [jumps_ret]; go_ret2; exact ⟨_, [], 5, rfl, own_nil _ _, hB2.out, .inl ⟨hR2.out, rfl, rfl⟩⟩)
    · have hr : b.drop at_ ≠ [] := by
        intro e
        have := List.drop_eq_nil_iff.1 e
        have := HN.out
        omega
      have hR2 := Kept.mk (hR.out.trans (over_bad _ _ (.inl hr)))
      clear hr hR
      go_wp2
      go_step3
      go_wp2
      all_goals (rw [jumps_ret]; go_ret2; exact ⟨_, [], 5, rfl, own_nil _ _, hBe.out.bel, .inl ⟨hR2.out, rfl, rfl⟩⟩)
  case p3 =>
    rintro m a wr ⟨⟨hs98, hd98⟩, v, k, np, at_, xs, x, pv, ⟨e0, e4, e5, e6, e7⟩, ⟨h1, h2, h3, h4, h5⟩, hBe, hR⟩ hm
    obtain ⟨f, rfl⟩ := frame98 a hs98 hd98
    clear hs98 hd98
    have q0 : f 0 = .slice (some ⟨g, 0, none⟩) n c := e0
    have q4 : f 4 = v := e4
    have q5 : f 5 = .int .i64 (k : Int) := e5
    have q6 : f 6 = .int .i64 (np : Int) := e6
    have q7 : f 7 = .int .i64 (at_ : Int) := e7
    clear e0 e4 e5 e6 e7
    have hm7 : m = 2 * (n - at_) + 3 := by rw [hm]; show 2 * (n - (intOf (f 7)).toNat) + 3 = _; rw [q7]; rfl
    clear hm
    rw [q0, q4, q5, q6, q7]
    clear q0 q4 q5 q6 q7
    cases np with
    | zero =>
      have hR2 : Kept (readV b = fin ((xs ++ [(x, pv)]).map (·.1)) (takeSts k (b.drop at_))) := ⟨by rw [hR.out]; simp [takePts]⟩
      clear hR
      go_wp2
      go_step3
      refine jump_to ⟨⟨⟨rfl, rfl⟩, v, k, at_, xs ++ [(x, pv)], ⟨rfl, rfl, rfl, rfl⟩, ⟨h1, h2, h3, by simp; omega⟩, hBe, hR2⟩, ?_⟩
      show 2 * (n - ((at_ : Int)).toNat) + 2 < m
      rw [hm7, Int.toNat_natCast]; omega
    | succ np =>
      have v1 : IntKind.i64.wrap ((n : Int) - (at_ : Int)) = (n : Int) - (at_ : Int) := i64_id _ (by omega) (by omega)
      by_cases h4n : n - at_ < 4
      · have hR2 : Kept (readV b = none) := ⟨by rw [hR.out, takePts_short np _ (by rw [List.length_drop, HN.out]; exact h4n)]; rfl⟩
        clear hR
        go_wp2
        go_step3
        refine jump_to ⟨⟨⟨rfl, rfl⟩, ⟨hBe.out.bel⟩, hR2⟩, ?_⟩
        show 0 < m
        rw [hm7]; omega
      · have q0 := (HB.out.below hBe.out.bel).cell at_ (by rw [HN.out]; omega)
        have q1 := (HB.out.below hBe.out.bel).cell (at_ + 1) (by rw [HN.out]; omega)
        have q2 := (HB.out.below hBe.out.bel).cell (at_ + 2) (by rw [HN.out]; omega)
        have q3 := (HB.out.below hBe.out.bel).cell (at_ + 2 + 1) (by rw [HN.out]; omega)
        have hy0 := byte_at b Hb.out at_ (by rw [HN.out]; omega)
        have hy1 := byte_at b Hb.out (at_ + 1) (by rw [HN.out]; omega)
        have hy2 := byte_at b Hb.out (at_ + 2) (by rw [HN.out]; omega)
        have hy3 := byte_at b Hb.out (at_ + 2 + 1) (by rw [HN.out]; omega)
        have hR2 : Kept (readV b = (takePts np (b.drop (at_ + 4))).bind fun y => fin (xs.map (·.1) ++ [⟨x.pen, x.wid, (x.pts ++ [(num16 (b.getD at_ 0) (b.getD (at_ + 1) 0), num16 (b.getD (at_ + 2) 0) (b.getD (at_ + 2 + 1) 0))]) ++ y.1⟩]) (takeSts k y.2)) := ⟨by
          rw [hR.out, drop_one b at_ (by rw [HN.out]; omega), drop_one b (at_ + 1) (by rw [HN.out]; omega), drop_one b (at_ + 1 + 1) (by rw [HN.out]; omega), drop_one b (at_ + 1 + 1 + 1) (by rw [HN.out]; omega)]
          exact pts_step _ _ _ _ _ _ _ _ _ _ _⟩
        clear hR
        generalize b.getD at_ 0 = b0 at *
        generalize b.getD (at_ + 1) 0 = b1 at *
        generalize b.getD (at_ + 2) 0 = b2 at *
        generalize b.getD (at_ + 2 + 1) 0 = b3 at *
        obtain ⟨gs, cs, rfl⟩ := own_form hBe.out.own
        have ePd := (own_last hBe.out.own (World.grownBy.refl wr _)).1
        go_wp2
        have ePd : wr.drew.cell? ⟨gs, xs.length * 3 + 2, none⟩ = some pv := ePd
        have e0d : wr.drew.cell? ⟨g, at_, none⟩ = some (.int .u8 b0) := q0
        have e1d : wr.drew.cell? ⟨g, at_ + 1, none⟩ = some (.int .u8 b1) := q1
        have e2d : wr.drew.cell? ⟨g, at_ + 2, none⟩ = some (.int .u8 b2) := q2
        have e3d : wr.drew.cell? ⟨g, at_ + 2 + 1, none⟩ = some (.int .u8 b3) := q3
        have hOd : Kept (Own wr.drew w.heap.size (.slice (some ⟨gs, 0, none⟩) (xs.length + 1) cs) (xs ++ [(x, pv)])) := ⟨hBe.out.own.drew⟩
        have hBd : Kept (Below w.heap.size w wr.drew) := ⟨hBe.out.bel.drew⟩
        have T1 := Kept.mk (w64_id ((xs.length : Int)) (by omega) (by omega))
        have T2 := Kept.mk (toNat_add2 at_)
        have T3 := Kept.mk (in_last xs.length)
        have T4 := Kept.mk (w64_id ((at_ : Int) + 2) (by omega) (by omega))
        have T5 : Kept (0 ≤ (at_ : Int) + 2 ∧ (at_ : Int) + 2 ≤ (n : Int)) := ⟨by omega⟩
        have T6 : Kept (at_ ≤ n) := ⟨h1⟩
        have T7 : Kept (¬ c = at_) := ⟨by omega⟩
        have T8 : Kept (¬ c = at_ + 2) := ⟨by omega⟩
        clear q0 q1 q2 q3 v1
        refine start_ (n := 26) (S := fun w' => w'.cell? ⟨gs, xs.length * 3 + 2, none⟩ = some pv ∧ (w'.cell? ⟨g, at_, none⟩ = some (.int .u8 b0) ∧ w'.cell? ⟨g, at_ + 1, none⟩ = some (.int .u8 b1) ∧ w'.cell? ⟨g, at_ + 2, none⟩ = some (.int .u8 b2) ∧ w'.cell? ⟨g, at_ + 2 + 1, none⟩ = some (.int .u8 b3)) ∧ Kept (Own w' w.heap.size (.slice (some ⟨gs, 0, none⟩) (xs.length + 1) cs) (xs ++ [(x, pv)])) ∧ Kept (Below w.heap.size w w')) (ds := [22, 25]) #[false, false, false, false, false, false, false, false, false, false, false, false, false, false, false, false, false, false, false, false, false, false, false, false, false, false] (by kernel_rfl) rfl rfl ⟨ePd, ⟨e0d, e1d, e2d, e3d⟩, hOd, hBd⟩ (fun hHeld => ?_)
        generalize wr.drew = w1 at *
        refine pure_ (i := 0) (N := some 60) (v := ?_) (a' := ?_) #[true, false, false, false, false, false, false, false, false, false, false, false, false, false, false, false, false, false, false, false, false, false, false, false, false, false] rfl rfl (by kernel_rfl) (fun _ _ _ h => h) (Or.inl ⟨by rfl, ?_⟩) ?_ ?_
        rotate_left
        · intro w'
          have t1 := T1.out
          have t2 := T2.out
          have t3 := T3.out
          have t4 := T4.out
          have t5 := T5.out
          have t6 := T6.out
          have t7 := T7.out
          have t8 := T8.out
          go_simp
          with_reducible rfl
        rotate_left
        · simp only [Act.put, List.setIfInBounds_toArray, List.set_cons_zero, List.set_cons_succ, i64_w, i32_w]
          rfl
        refine pure_ (i := 1) (N := some 61) (v := ?_) (a' := ?_) #[true, true, false, false, false, false, false, false, false, false, false, false, false, false, false, false, false, false, false, false, false, false, false, false, false, false] rfl rfl (by kernel_rfl) (fun _ _ _ h => h) (Or.inl ⟨by rfl, ?_⟩) ?_ ?_
        rotate_left
        · intro w'
          have t1 := T1.out
          have t2 := T2.out
          have t3 := T3.out
          have t4 := T4.out
          have t5 := T5.out
          have t6 := T6.out
          have t7 := T7.out
          have t8 := T8.out
          go_simp
          with_reducible rfl
        rotate_left
        · simp only [Act.put, List.setIfInBounds_toArray, List.set_cons_zero, List.set_cons_succ, i64_w, i32_w]
          rfl
        refine pure_ (i := 2) (N := some 62) (v := ?_) (a' := ?_) #[true, true, true, false, false, false, false, false, false, false, false, false, false, false, false, false, false, false, false, false, false, false, false, false, false, false] rfl rfl (by kernel_rfl) (fun _ _ _ h => h) (Or.inl ⟨by rfl, ?_⟩) ?_ ?_
        rotate_left
        · intro w'
          have t1 := T1.out
          have t2 := T2.out
          have t3 := T3.out
          have t4 := T4.out
          have t5 := T5.out
          have t6 := T6.out
          have t7 := T7.out
          have t8 := T8.out
          go_simp
          with_reducible rfl
        rotate_left
        · simp only [Act.put, List.setIfInBounds_toArray, List.set_cons_zero, List.set_cons_succ, i64_w, i32_w]
          rfl
        refine pure_ (i := 3) (N := some 63) (v := ?_) (a' := ?_) #[true, true, true, true, false, false, false, false, false, false, false, false, false, false, false, false, false, false, false, false, false, false, false, false, false, false] rfl rfl (by kernel_rfl) (fun _ _ _ h => h) (Or.inl ⟨by rfl, ?_⟩) ?_ ?_
        rotate_left
        · intro w'
          have t1 := T1.out
          have t2 := T2.out
          have t3 := T3.out
          have t4 := T4.out
          have t5 := T5.out
          have t6 := T6.out
          have t7 := T7.out
          have t8 := T8.out
          go_simp
          with_reducible rfl
        rotate_left
        · simp only [Act.put, List.setIfInBounds_toArray, List.set_cons_zero, List.set_cons_succ, i64_w, i32_w]
          rfl
        refine pure_ (i := 4) (N := some 64) (v := ?_) (a' := ?_) #[true, true, true, true, true, false, false, false, false, false, false, false, false, false, false, false, false, false, false, false, false, false, false, false, false, false] rfl rfl (by kernel_rfl) (fun _ _ _ h => h) (Or.inl ⟨by rfl, ?_⟩) ?_ ?_
        rotate_left
        · intro w'
          have t1 := T1.out
          have t2 := T2.out
          have t3 := T3.out
          have t4 := T4.out
          have t5 := T5.out
          have t6 := T6.out
          have t7 := T7.out
          have t8 := T8.out
          go_simp
          with_reducible rfl
        rotate_left
        · simp only [Act.put, List.setIfInBounds_toArray, List.set_cons_zero, List.set_cons_succ, i64_w, i32_w]
          rfl
        refine pure_ (i := 5) (N := some 65) (v := ?_) (a' := ?_) #[true, true, true, true, true, true, false, false, false, false, false, false, false, false, false, false, false, false, false, false, false, false, false, false, false, false] rfl rfl (by kernel_rfl) (fun _ _ _ h => h) (Or.inl ⟨by rfl, ?_⟩) ?_ ?_
        rotate_left
        · intro w'
          have t1 := T1.out
          have t2 := T2.out
          have t3 := T3.out
          have t4 := T4.out
          have t5 := T5.out
          have t6 := T6.out
          have t7 := T7.out
          have t8 := T8.out
          go_simp
          with_reducible rfl
        rotate_left
        · simp only [Act.put, List.setIfInBounds_toArray, List.set_cons_zero, List.set_cons_succ, i64_w, i32_w]
          rfl
        refine pure_ (i := 6) (N := some 66) (v := ?_) (a' := ?_) #[true, true, true, true, true, true, true, false, false, false, false, false, false, false, false, false, false, false, false, false, false, false, false, false, false, false] rfl rfl (by kernel_rfl) (fun _ _ _ h => h) (Or.inl ⟨by rfl, ?_⟩) ?_ ?_
        rotate_left
        · intro w'
          have t1 := T1.out
          have t2 := T2.out
          have t3 := T3.out
          have t4 := T4.out
          have t5 := T5.out
          have t6 := T6.out
          have t7 := T7.out
          have t8 := T8.out
          go_simp
          with_reducible rfl
        rotate_left
        · simp only [Act.put, List.setIfInBounds_toArray, List.set_cons_zero, List.set_cons_succ, i64_w, i32_w]
          rfl
        refine pure_ (i := 7) (N := some 67) (v := ?_) (a' := ?_) #[true, true, true, true, true, true, true, true, false, false, false, false, false, false, false, false, false, false, false, false, false, false, false, false, false, false] rfl rfl (by kernel_rfl) (fun _ _ _ h => h) (Or.inl ⟨by rfl, ?_⟩) ?_ ?_
        rotate_left
        · intro w'
          have t1 := T1.out
          have t2 := T2.out
          have t3 := T3.out
          have t4 := T4.out
          have t5 := T5.out
          have t6 := T6.out
          have t7 := T7.out
          have t8 := T8.out
          go_simp
          with_reducible rfl
        rotate_left
        · simp only [Act.put, List.setIfInBounds_toArray, List.set_cons_zero, List.set_cons_succ, i64_w, i32_w]
          rfl
        refine pure_ (i := 8) (N := some 68) (v := ?_) (a' := ?_) #[true, true, true, true, true, true, true, true, true, false, false, false, false, false, false, false, false, false, false, false, false, false, false, false, false, false] rfl rfl (by kernel_rfl) (fun _ _ _ h => h) (Or.inl ⟨by rfl, ?_⟩) ?_ ?_
        rotate_left
        · intro w'
          have t1 := T1.out
          have t2 := T2.out
          have t3 := T3.out
          have t4 := T4.out
          have t5 := T5.out
          have t6 := T6.out
          have t7 := T7.out
          have t8 := T8.out
          go_simp
          with_reducible rfl
        rotate_left
        · simp only [Act.put, List.setIfInBounds_toArray, List.set_cons_zero, List.set_cons_succ, i64_w, i32_w]
          rfl
        refine pure_ (i := 9) (N := some 69) (v := ?_) (a' := ?_) #[true, true, true, true, true, true, true, true, true, true, false, false, false, false, false, false, false, false, false, false, false, false, false, false, false, false] rfl rfl (by kernel_rfl) (fun _ _ _ h => h) (Or.inl ⟨by rfl, ?_⟩) ?_ ?_
        rotate_left
        · intro w'
          have t1 := T1.out
          have t2 := T2.out
          have t3 := T3.out
          have t4 := T4.out
          have t5 := T5.out
          have t6 := T6.out
          have t7 := T7.out
          have t8 := T8.out
          go_simp
          with_reducible rfl
        rotate_left
        · simp only [Act.put, List.setIfInBounds_toArray, List.set_cons_zero, List.set_cons_succ, i64_w, i32_w]
          rfl
        refine take_ (i := 10) (N := some 70) (v := ?_) (a' := ?_) #[true, true, true, true, true, true, true, true, true, true, true, false, false, false, false, false, false, false, false, false, false, false, false, false, false, false] rfl rfl (by kernel_rfl) (fun _ _ _ h => h) (Or.inl ⟨by rfl, ?_⟩) hHeld ?_ ?_
        rotate_left
        · rintro w' ⟨s0, _⟩
          go_simp
          with_reducible rfl
        rotate_left
        · simp only [Act.put, List.setIfInBounds_toArray, List.set_cons_zero, List.set_cons_succ, i64_w, i32_w]
          rfl
        refine pure_ (i := 11) (N := some 71) (v := ?_) (a' := ?_) #[true, true, true, true, true, true, true, true, true, true, true, true, false, false, false, false, false, false, false, false, false, false, false, false, false, false] rfl rfl (by kernel_rfl) (fun _ _ _ h => h) (Or.inl ⟨by rfl, ?_⟩) ?_ ?_
        rotate_left
        · intro w'
          have t1 := T1.out
          have t2 := T2.out
          have t3 := T3.out
          have t4 := T4.out
          have t5 := T5.out
          have t6 := T6.out
          have t7 := T7.out
          have t8 := T8.out
          go_simp
          with_reducible rfl
        rotate_left
        · simp only [Act.put, List.setIfInBounds_toArray, List.set_cons_zero, List.set_cons_succ, i64_w, i32_w]
          rfl
        refine pure_ (i := 12) (N := some 72) (v := ?_) (a' := ?_) #[true, true, true, true, true, true, true, true, true, true, true, true, true, false, false, false, false, false, false, false, false, false, false, false, false, false] rfl rfl (by kernel_rfl) (fun _ _ _ h => h) (Or.inl ⟨by rfl, ?_⟩) ?_ ?_
        rotate_left
        · intro w'
          have t1 := T1.out
          have t2 := T2.out
          have t3 := T3.out
          have t4 := T4.out
          have t5 := T5.out
          have t6 := T6.out
          have t7 := T7.out
          have t8 := T8.out
          go_simp
          with_reducible rfl
        rotate_left
        · simp only [Act.put, List.setIfInBounds_toArray, List.set_cons_zero, List.set_cons_succ, i64_w, i32_w]
          rfl
        refine pure_ (i := 13) (N := some 73) (v := ?_) (a' := ?_) #[true, true, true, true, true, true, true, true, true, true, true, true, true, true, false, false, false, false, false, false, false, false, false, false, false, false] rfl rfl (by kernel_rfl) (fun _ _ _ h => h) (Or.inl ⟨by rfl, ?_⟩) ?_ ?_
        rotate_left
        · intro w'
          have t1 := T1.out
          have t2 := T2.out
          have t3 := T3.out
          have t4 := T4.out
          have t5 := T5.out
          have t6 := T6.out
          have t7 := T7.out
          have t8 := T8.out
          go_simp
          with_reducible rfl
        rotate_left
        · simp only [Act.put, List.setIfInBounds_toArray, List.set_cons_zero, List.set_cons_succ, i64_w, i32_w]
          rfl
        refine pure_ (i := 15) (N := some 75) (v := ?_) (a' := ?_) #[true, true, true, true, true, true, true, true, true, true, true, true, true, true, false, true, false, false, false, false, false, false, false, false, false, false] rfl rfl (by kernel_rfl) (fun _ _ _ h => h) (Or.inl ⟨by rfl, ?_⟩) ?_ ?_
        rotate_left
        · intro w'
          have t1 := T1.out
          have t2 := T2.out
          have t3 := T3.out
          have t4 := T4.out
          have t5 := T5.out
          have t6 := T6.out
          have t7 := T7.out
          have t8 := T8.out
          go_simp
          with_reducible rfl
        rotate_left
        · simp only [Act.put, List.setIfInBounds_toArray, List.set_cons_zero, List.set_cons_succ, i64_w, i32_w]
          rfl
        refine pure_ (i := 16) (N := some 76) (v := ?_) (a' := ?_) #[true, true, true, true, true, true, true, true, true, true, true, true, true, true, false, true, true, false, false, false, false, false, false, false, false, false] rfl rfl (by kernel_rfl) (fun _ _ _ h => h) (Or.inl ⟨by rfl, ?_⟩) ?_ ?_
        rotate_left
        · intro w'
          have t1 := T1.out
          have t2 := T2.out
          have t3 := T3.out
          have t4 := T4.out
          have t5 := T5.out
          have t6 := T6.out
          have t7 := T7.out
          have t8 := T8.out
          go_simp
          with_reducible rfl
        rotate_left
        · simp only [Act.put, List.setIfInBounds_toArray, List.set_cons_zero, List.set_cons_succ, i64_w, i32_w]
          rfl
        refine pure_ (i := 17) (N := some 77) (v := ?_) (a' := ?_) #[true, true, true, true, true, true, true, true, true, true, true, true, true, true, false, true, true, true, false, false, false, false, false, false, false, false] rfl rfl (by kernel_rfl) (fun _ _ _ h => h) (Or.inl ⟨by rfl, ?_⟩) ?_ ?_
        rotate_left
        · intro w'
          have t1 := T1.out
          have t2 := T2.out
          have t3 := T3.out
          have t4 := T4.out
          have t5 := T5.out
          have t6 := T6.out
          have t7 := T7.out
          have t8 := T8.out
          go_simp
          with_reducible rfl
        rotate_left
        · simp only [Act.put, List.setIfInBounds_toArray, List.set_cons_zero, List.set_cons_succ, i64_w, i32_w]
          rfl
        refine pure_ (i := 18) (N := some 78) (v := ?_) (a' := ?_) #[true, true, true, true, true, true, true, true, true, true, true, true, true, true, false, true, true, true, true, false, false, false, false, false, false, false] rfl rfl (by kernel_rfl) (fun _ _ _ h => h) (Or.inl ⟨by rfl, ?_⟩) ?_ ?_
        rotate_left
        · intro w'
          have t1 := T1.out
          have t2 := T2.out
          have t3 := T3.out
          have t4 := T4.out
          have t5 := T5.out
          have t6 := T6.out
          have t7 := T7.out
          have t8 := T8.out
          go_simp
          with_reducible rfl
        rotate_left
        · simp only [Act.put, List.setIfInBounds_toArray, List.set_cons_zero, List.set_cons_succ, i64_w, i32_w]
          rfl
        refine one_ (i := 14) (N := some 74) #[true, true, true, true, true, true, true, true, true, true, true, true, true, true, true, true, true, true, true, false, false, false, false, false, false, false] rfl rfl (by kernel_rfl) (by decide) (fun K hK => ?_)
        refine goes_ Try.func36 (by kernel_rfl) rfl #[.slice (some ⟨g, at_, none⟩) (n - at_) (c - at_)] (by rfl) rfl rfl (by (try simp only [List.map_toArray, List.map_cons, List.map_nil]); first | done | rfl) ?_
        refine (number_walk g at_ (n - at_) (c - at_) b0 b1 hy0 hy1 (by omega) _ hHeld.2.1.1 hHeld.2.1.2.1).mono ?_
        rintro e w' ⟨rfl, nd, rfl⟩
        refine ⟨_, rfl, ?_⟩
        have hHeldN := held_drewN hHeld nd
        refine hK.out _ _ hHeldN (fun hHeld2 => ?_)
        clear hK K hHeldN
        refine norm_ (a' := ?_) ?_ ?_
        rotate_left
        · show Act.put _ (some 74) _ = _
          simp only [Act.put, List.setIfInBounds_toArray, List.set_cons_zero, List.set_cons_succ, i64_w, i32_w]
          rfl
        generalize World.drewN _ nd = w2 at *
        refine one_ (i := 19) (N := some 79) #[true, true, true, true, true, true, true, true, true, true, true, true, true, true, true, true, true, true, true, true, false, false, false, false, false, false] rfl rfl (by kernel_rfl) (by decide) (fun K hK => ?_)
        refine goes_ Try.func36 (by kernel_rfl) rfl #[.slice (some ⟨g, at_ + 2, none⟩) (n - (at_ + 2)) (c - (at_ + 2))] (by rfl) rfl rfl (by (try simp only [List.map_toArray, List.map_cons, List.map_nil]); first | done | rfl) ?_
        refine (number_walk g (at_ + 2) (n - (at_ + 2)) (c - (at_ + 2)) b2 b3 hy2 hy3 (by omega) _ hHeld2.2.1.2.2.1 hHeld2.2.1.2.2.2).mono ?_
        rintro e w' ⟨rfl, nd, rfl⟩
        refine ⟨_, rfl, ?_⟩
        have hHeldN := held_drewN hHeld2 nd
        refine hK.out _ _ hHeldN (fun hHeld3 => ?_)
        clear hK K hHeldN
        refine norm_ (a' := ?_) ?_ ?_
        rotate_left
        · show Act.put _ (some 79) _ = _
          simp only [Act.put, List.setIfInBounds_toArray, List.set_cons_zero, List.set_cons_succ, i64_w, i32_w]
          rfl
        generalize World.drewN _ nd = w3 at *
        refine pure_ (i := 20) (N := some 80) (v := ?_) (a' := ?_) #[true, true, true, true, true, true, true, true, true, true, true, true, true, true, true, true, true, true, true, true, true, false, false, false, false, false] rfl rfl (by kernel_rfl) (fun _ _ _ h => h) (Or.inl ⟨by rfl, ?_⟩) ?_ ?_
        rotate_left
        · intro w'
          have t1 := T1.out
          have t2 := T2.out
          have t3 := T3.out
          have t4 := T4.out
          have t5 := T5.out
          have t6 := T6.out
          have t7 := T7.out
          have t8 := T8.out
          go_simp
          with_reducible rfl
        rotate_left
        · simp only [Act.put, List.setIfInBounds_toArray, List.set_cons_zero, List.set_cons_succ, i64_w, i32_w]
          rfl
        refine one_ (i := 21) (N := some 81) #[true, true, true, true, true, true, true, true, true, true, true, true, true, true, true, true, true, true, true, true, true, true, false, false, false, false] rfl rfl (by kernel_rfl) (by decide) (fun K hK => ?_)
        refine event_step (by rfl) (show _ = Result.ok (Next.value (.slice (some ⟨w3.heap.size, 0, none⟩) 1 1)) (w3.alloc (.cells #[CP (num16 b0 b1, num16 b2 b3)] 22)) by first | (go_simp; done) | (go_simp; rfl)) ?_
        have hHeldA := held_alloc hHeld3 (.cells #[CP (num16 b0 b1, num16 b2 b3)] 22)
        refine hK.out _ _ hHeldA (fun _ => ?_)
        clear hK K hHeldA
        refine norm_ (a' := ?_) ?_ ?_
        rotate_left
        · show Act.put _ (some 81) _ = _
          simp only [Act.put, List.setIfInBounds_toArray, List.set_cons_zero, List.set_cons_succ, i64_w, i32_w]
          rfl
        refine last_ (i := 22) (N := some 82) #[true, true, true, true, true, true, true, true, true, true, true, true, true, true, true, true, true, true, true, true, true, true, true, false, false, false] rfl rfl (by kernel_rfl) (by decide) (fun K hK => ?_)
        rw [if_pos (by rfl)]
        obtain ⟨_, _, hO4, hB4⟩ := hHeld3
        have hpvr := hO4.out.pts (x, pv) (by simp)
        refine wp_append_at (w := w3.alloc (.cells #[CP (num16 b0 b1, num16 b2 b3)] 22)) (.tmp 70) (.tmp 81) 32 rfl w.heap.size 22 i2 (.complex .f64 0 0) 1 16 u32 hj hy0' hy1' hy2' rfl (by decide) _ x.pts.length _ rfl (hpvr.alloc _) ⟨w3.heap.size, 0, none⟩ 1 1 [CP (num16 b0 b1, num16 b2 b3)] rfl rfl ?_ (by intro u hu; simp at hu; subst hu; rfl) (by unfold maxLen; omega) (by omega) (by have := hB4.out.size; simp; omega) ?_
        · intro j u hj
          match j, hj with
          | 0, hj => cases hj; exact World.cell?_alloc_new _ _ _ _
        intro v' w4 hown' hgrow hat'
        obtain ⟨Pp, cp, rfl⟩ := own_slice hown'
        have hbase : w3.heap.size ≤ (w3.alloc (.cells #[CP (num16 b0 b1, num16 b2 b3)] 22)).heap.size := by simp
        have hO5 := Kept.mk (Own.point (p := (num16 b0 b1, num16 b2 b3)) (hO4.out.alloc (.cells #[CP (num16 b0 b1, num16 b2 b3)] 22)) (by rw [List.map_append]; exact hown') hgrow (by rcases hat' with q | q; exact .inl q; exact .inr ⟨_, q, Nat.le_refl _⟩) rfl)
        have hst := own_last (hO4.out.alloc (.cells #[CP (num16 b0 b1, num16 b2 b3)] 22)) hgrow
        have hstc := hst.1
        have hstf := hst.2
        have hgs : w.heap.size ≤ gs := own_base hO4.out.row gs rfl
        have hB5 : Kept (Below w.heap.size w (w4.setCell ⟨gs, xs.length * 3 + 2, none⟩ (.slice Pp (x.pts.length + 1) cp))) := ⟨below_set ((hB4.out.alloc hB4.out.size _).grown hgrow (by have := hB4.out.size; simp; omega) (fun g hg => own_base hpvr g hg)) hgs⟩
        clear hown' hgrow hst hat' hpvr
        refine hK.out _ _ ?_
        clear hK K
        refine norm_ (a' := ?_) ?_ ?_
        rotate_left
        · show Act.put _ (some 82) _ = _
          simp only [Act.put, List.setIfInBounds_toArray, List.set_cons_zero, List.set_cons_succ, i64_w, i32_w]
          rfl
        refine pure_ (i := 23) (N := some 83) (v := ?_) (a' := ?_) #[true, true, true, true, true, true, true, true, true, true, true, true, true, true, true, true, true, true, true, true, true, true, true, true, false, false] rfl rfl (by kernel_rfl) (fun _ _ _ h => h) (Or.inl ⟨by rfl, ?_⟩) ?_ ?_
        rotate_left
        · intro w'
          have t1 := T1.out
          have t2 := T2.out
          have t3 := T3.out
          have t4 := T4.out
          have t5 := T5.out
          have t6 := T6.out
          have t7 := T7.out
          have t8 := T8.out
          go_simp
          with_reducible rfl
        rotate_left
        · simp only [Act.put, List.setIfInBounds_toArray, List.set_cons_zero, List.set_cons_succ, i64_w, i32_w]
          rfl
        refine pure_ (i := 24) (N := some 84) (v := ?_) (a' := ?_) #[true, true, true, true, true, true, true, true, true, true, true, true, true, true, true, true, true, true, true, true, true, true, true, true, true, false] rfl rfl (by kernel_rfl) (fun _ _ _ h => h) (Or.inl ⟨by rfl, ?_⟩) ?_ ?_
        rotate_left
        · intro w'
          have t1 := T1.out
          have t2 := T2.out
          have t3 := T3.out
          have t4 := T4.out
          have t5 := T5.out
          have t6 := T6.out
          have t7 := T7.out
          have t8 := T8.out
          go_simp
          with_reducible rfl
        rotate_left
        · simp only [Act.put, List.setIfInBounds_toArray, List.set_cons_zero, List.set_cons_succ, i64_w, i32_w]
          rfl
        refine last_ (i := 25) (N := none) #[true, true, true, true, true, true, true, true, true, true, true, true, true, true, true, true, true, true, true, true, true, true, true, true, true, true] rfl rfl (by kernel_rfl) (by decide) (fun K hK => ?_)
        rw [if_pos (by rfl)]
        go_simp
        refine hK.out _ _ ?_
        clear hK K
        refine done_ (by kernel_rfl) ?_
        have hBn := Kept.mk (hBe.out.grow hO5.out hB5.out ⟨num_in _ _ hy0 hy1, num_in _ _ hy2 hy3⟩ (by omega))
        clear e0d e1d e2d e3d ePd hOd hBd hO5 hB5 hBe hO4 hB4 hstc hstf hHeld
        have hR3 := Kept.mk (show readV b = _ from hR2.out)
        clear hR2
        go_wp2
        go_step3
        refine jump_to ⟨⟨⟨rfl, rfl⟩, _, k, np, at_ + 4, xs, ⟨x.pen, x.wid, x.pts ++ [(num16 b0 b1, num16 b2 b3)]⟩, _, ⟨rfl, rfl, rfl, by go_num, by go_num⟩, ⟨by omega, by omega, h3, h4, by simp; omega⟩, hBn, hR3⟩, ?_⟩
        show 2 * (n - (intOf (.int .i64 ((at_ : Int) + 4))).toNat) + 3 < m
        rw [hm7]; simp only [intOf]; omega
  case p2 =>
    intro p3'
    rintro m a wr ⟨⟨hs98, hd98⟩, v, k, at_, xs, ⟨e0, e4, e5, e7⟩, ⟨h1, h2, h3, h4⟩, hBe, hR⟩ hm
    obtain ⟨f, rfl⟩ := frame98 a hs98 hd98
    clear hs98 hd98
    have q0 : f 0 = .slice (some ⟨g, 0, none⟩) n c := e0
    have q4 : f 4 = v := e4
    have q5 : f 5 = .int .i64 (k : Int) := e5
    have q7 : f 7 = .int .i64 (at_ : Int) := e7
    clear e0 e4 e5 e7
    have hm7 : m = 2 * (n - at_) + 2 := by rw [hm]; show 2 * (n - (intOf (f 7)).toNat) + 2 = _; rw [q7]; rfl
    clear hm
    rw [q0, q4, q5, q7]
    clear q0 q4 q5 q7
    cases k with
    | zero =>
      have hR2 : Kept (readV b = fin (xs.map (·.1)) (some ([], b.drop at_))) := ⟨hR.out⟩
      clear hR
      go_wp2
      go_step3
      refine jump_to ⟨⟨⟨rfl, rfl⟩, v, at_, xs, ⟨rfl, rfl, rfl⟩, ⟨h1, h2, h4⟩, hBe, hR2⟩, ?_⟩
      show 1 < m
      rw [hm7]; omega
    | succ k =>
      have v1 : IntKind.i64.wrap ((n : Int) - (at_ : Int)) = (n : Int) - (at_ : Int) := i64_id _ (by omega) (by omega)
      obtain ⟨A, cA, rfl, hSh⟩ := own_sh hBe.out.own
      clear hSh
      by_cases h2n : n - at_ < 2
      · have hR2 : Kept (readV b = none) := ⟨by rw [hR.out, takeSts_short k _ (by rw [List.length_drop, HN.out]; exact h2n)]; rfl⟩
        clear hR
        go_wp2
        go_step3
        refine jump_to ⟨⟨⟨rfl, rfl⟩, ⟨hBe.out.bel⟩, hR2⟩, ?_⟩
        show 0 < m
        rw [hm7]; omega
      · by_cases h7 : 6 < xs.length
        · have hR2 : Kept (readV b = none) := ⟨by rw [hR.out]; exact fin_long _ _ (by rw [List.length_map]; exact h7)⟩
          clear hR
          go_wp2
          go_step3
          refine jump_to ⟨⟨⟨rfl, rfl⟩, ⟨hBe.out.bel⟩, hR2⟩, ?_⟩
          show 0 < m
          rw [hm7]; omega
        · have q0 := (HB.out.below hBe.out.bel).cell at_ (by rw [HN.out]; omega)
          have q1 := Kept.mk ((HB.out.below hBe.out.bel).cell (at_ + 1) (by rw [HN.out]; omega))
          have hy0 := byte_at b Hb.out at_ (by rw [HN.out]; omega)
          have hy1 := byte_at b Hb.out (at_ + 1) (by rw [HN.out]; omega)
          have hR2 : Kept (readV b = (takePts (b.getD (at_ + 1) 0).toNat (b.drop (at_ + 2))).bind fun y => fin (xs.map (·.1) ++ [⟨b.getD at_ 0 / 16, b.getD at_ 0 % 16, [] ++ y.1⟩]) (takeSts k y.2)) := ⟨by
            rw [hR.out, drop_one b at_ (by rw [HN.out]; omega), drop_one b (at_ + 1) (by rw [HN.out]; omega)]
            exact fin_step _ _ _ _ _⟩
          clear hR
          generalize b.getD at_ 0 = b0 at *
          generalize b.getD (at_ + 1) 0 = b1 at *
          have hdiv : b0.tdiv 16 = b0 / 16 := Int.tdiv_eq_ediv_of_nonneg hy0.1
          have hmod : b0.tmod 16 = b0 % 16 := Int.tmod_eq_emod_of_nonneg hy0.1
          go_wp2
          have e0d : wr.drew.cell? ⟨g, at_, none⟩ = some (.int .u8 b0) := q0
          have hOd : Kept (Own wr.drew w.heap.size (.slice A xs.length cA) xs) := ⟨hBe.out.own.drew⟩
          have hBd : Kept (Below w.heap.size w wr.drew) := ⟨hBe.out.bel.drew⟩
          have T1 : Kept (at_ < n) := ⟨by omega⟩
          have T2 := Kept.mk (u8_id (b0 / 16) (by unfold Byte at hy0; omega))
          have T3 := Kept.mk (w64_id (b0 / 16) (by unfold Byte at hy0; omega) (by unfold Byte at hy0; omega))
          have T4 := Kept.mk (w64_id (b0 % 16) (by omega) (by omega))
          clear q0 v1
          refine start_ (n := 17) (S := fun w' => w'.cell? ⟨g, at_, none⟩ = some (.int .u8 b0)) (ds := [14, 15]) #[false, false, false, false, false, false, false, false, false, false, false, false, false, false, false, false, false] (by kernel_rfl) rfl rfl e0d (fun hHeld => ?_)
          generalize wr.drew = w1 at *
          refine pure_ (i := 0) (N := some 29) (v := ?_) (a' := ?_) #[true, false, false, false, false, false, false, false, false, false, false, false, false, false, false, false, false] rfl rfl (by kernel_rfl) (fun _ _ _ h => h) (Or.inl ⟨by rfl, ?_⟩) ?_ ?_
          rotate_left
          · intro w'
            have t1 := T1.out
            have t2 := T2.out
            have t3 := T3.out
            have t4 := T4.out
            go_simp
            with_reducible rfl
          rotate_left
          · simp only [Act.put, List.setIfInBounds_toArray, List.set_cons_zero, List.set_cons_succ, i64_w, i32_w]
            rfl
          refine pure_ (i := 1) (N := some 30) (v := ?_) (a' := ?_) #[true, true, false, false, false, false, false, false, false, false, false, false, false, false, false, false, false] rfl rfl (by kernel_rfl) (fun _ _ _ h => h) (Or.inl ⟨by rfl, ?_⟩) ?_ ?_
          rotate_left
          · intro w'
            have t1 := T1.out
            have t2 := T2.out
            have t3 := T3.out
            have t4 := T4.out
            go_simp
            with_reducible rfl
          rotate_left
          · simp only [Act.put, List.setIfInBounds_toArray, List.set_cons_zero, List.set_cons_succ, i64_w, i32_w]
            rfl
          refine pure_ (i := 2) (N := some 31) (v := ?_) (a' := ?_) #[true, true, true, false, false, false, false, false, false, false, false, false, false, false, false, false, false] rfl rfl (by kernel_rfl) (fun _ _ _ h => h) (Or.inl ⟨by rfl, ?_⟩) ?_ ?_
          rotate_left
          · intro w'
            have t1 := T1.out
            have t2 := T2.out
            have t3 := T3.out
            have t4 := T4.out
            go_simp
            with_reducible rfl
          rotate_left
          · simp only [Act.put, List.setIfInBounds_toArray, List.set_cons_zero, List.set_cons_succ, i64_w, i32_w]
            rfl
          refine pure_ (i := 3) (N := some 32) (v := ?_) (a' := ?_) #[true, true, true, true, false, false, false, false, false, false, false, false, false, false, false, false, false] rfl rfl (by kernel_rfl) (fun _ _ _ h => h) (Or.inl ⟨by rfl, ?_⟩) ?_ ?_
          rotate_left
          · intro w'
            have t1 := T1.out
            have t2 := T2.out
            have t3 := T3.out
            have t4 := T4.out
            go_simp
            with_reducible rfl
          rotate_left
          · simp only [Act.put, List.setIfInBounds_toArray, List.set_cons_zero, List.set_cons_succ, i64_w, i32_w]
            rfl
          refine take_ (i := 4) (N := some 33) (v := ?_) (a' := ?_) #[true, true, true, true, true, false, false, false, false, false, false, false, false, false, false, false, false] rfl rfl (by kernel_rfl) (fun _ _ _ h => h) (Or.inl ⟨by rfl, ?_⟩) hHeld ?_ ?_
          rotate_left
          · rintro w' s0
            go_simp
            with_reducible rfl
          rotate_left
          · simp only [Act.put, List.setIfInBounds_toArray, List.set_cons_zero, List.set_cons_succ, i64_w, i32_w]
            rfl
          refine pure_ (i := 5) (N := some 34) (v := ?_) (a' := ?_) #[true, true, true, true, true, true, false, false, false, false, false, false, false, false, false, false, false] rfl rfl (by kernel_rfl) (fun _ _ _ h => h) (Or.inl ⟨by rfl, ?_⟩) ?_ ?_
          rotate_left
          · intro w'
            have t1 := T1.out
            have t2 := T2.out
            have t3 := T3.out
            have t4 := T4.out
            go_simp
            with_reducible rfl
          rotate_left
          · simp only [Act.put, List.setIfInBounds_toArray, List.set_cons_zero, List.set_cons_succ, i64_w, i32_w]
            rfl
          refine pure_ (i := 6) (N := some 35) (v := ?_) (a' := ?_) #[true, true, true, true, true, true, true, false, false, false, false, false, false, false, false, false, false] rfl rfl (by kernel_rfl) (fun _ _ _ h => h) (Or.inl ⟨by rfl, ?_⟩) ?_ ?_
          rotate_left
          · intro w'
            have t1 := T1.out
            have t2 := T2.out
            have t3 := T3.out
            have t4 := T4.out
            go_simp
            with_reducible rfl
          rotate_left
          · simp only [Act.put, List.setIfInBounds_toArray, List.set_cons_zero, List.set_cons_succ, i64_w, i32_w]
            rfl
          refine pure_ (i := 7) (N := some 36) (v := ?_) (a' := ?_) #[true, true, true, true, true, true, true, true, false, false, false, false, false, false, false, false, false] rfl rfl (by kernel_rfl) (fun _ _ _ h => h) (Or.inl ⟨by rfl, ?_⟩) ?_ ?_
          rotate_left
          · intro w'
            have t1 := T1.out
            have t2 := T2.out
            have t3 := T3.out
            have t4 := T4.out
            go_simp
            with_reducible rfl
          rotate_left
          · simp only [Act.put, List.setIfInBounds_toArray, List.set_cons_zero, List.set_cons_succ, i64_w, i32_w]
            rfl
          refine pure_ (i := 8) (N := some 37) (v := ?_) (a' := ?_) #[true, true, true, true, true, true, true, true, true, false, false, false, false, false, false, false, false] rfl rfl (by kernel_rfl) (fun _ _ _ h => h) (Or.inl ⟨by rfl, ?_⟩) ?_ ?_
          rotate_left
          · intro w'
            have t1 := T1.out
            have t2 := T2.out
            have t3 := T3.out
            have t4 := T4.out
            go_simp
            with_reducible rfl
          rotate_left
          · simp only [Act.put, List.setIfInBounds_toArray, List.set_cons_zero, List.set_cons_succ, i64_w, i32_w]
            rfl
          refine pure_ (i := 9) (N := some 38) (v := ?_) (a' := ?_) #[true, true, true, true, true, true, true, true, true, true, false, false, false, false, false, false, false] rfl rfl (by kernel_rfl) (fun _ _ _ h => h) (Or.inl ⟨by rfl, ?_⟩) ?_ ?_
          rotate_left
          · intro w'
            have t1 := T1.out
            have t2 := T2.out
            have t3 := T3.out
            have t4 := T4.out
            go_simp
            with_reducible rfl
          rotate_left
          · simp only [Act.put, List.setIfInBounds_toArray, List.set_cons_zero, List.set_cons_succ, i64_w, i32_w]
            rfl
          refine take_ (i := 10) (N := some 39) (v := ?_) (a' := ?_) #[true, true, true, true, true, true, true, true, true, true, true, false, false, false, false, false, false] rfl rfl (by kernel_rfl) (fun _ _ _ h => h) (Or.inl ⟨by rfl, ?_⟩) hHeld ?_ ?_
          rotate_left
          · rintro w' s0
            go_simp
            with_reducible rfl
          rotate_left
          · simp only [Act.put, List.setIfInBounds_toArray, List.set_cons_zero, List.set_cons_succ, i64_w, i32_w]
            rfl
          refine pure_ (i := 11) (N := some 40) (v := ?_) (a' := ?_) #[true, true, true, true, true, true, true, true, true, true, true, true, false, false, false, false, false] rfl rfl (by kernel_rfl) (fun _ _ _ h => h) (Or.inl ⟨by rfl, ?_⟩) ?_ ?_
          rotate_left
          · intro w'
            have t1 := T1.out
            have t2 := T2.out
            have t3 := T3.out
            have t4 := T4.out
            go_simp
            with_reducible rfl
          rotate_left
          · simp only [Act.put, List.setIfInBounds_toArray, List.set_cons_zero, List.set_cons_succ, i64_w, i32_w]
            rfl
          refine pure_ (i := 12) (N := some 41) (v := ?_) (a' := ?_) #[true, true, true, true, true, true, true, true, true, true, true, true, true, false, false, false, false] rfl rfl (by kernel_rfl) (fun _ _ _ h => h) (Or.inl ⟨by rfl, ?_⟩) ?_ ?_
          rotate_left
          · intro w'
            have t1 := T1.out
            have t2 := T2.out
            have t3 := T3.out
            have t4 := T4.out
            go_simp
            with_reducible rfl
          rotate_left
          · simp only [Act.put, List.setIfInBounds_toArray, List.set_cons_zero, List.set_cons_succ, i64_w, i32_w]
            rfl
          refine pure_ (i := 13) (N := some 42) (v := ?_) (a' := ?_) #[true, true, true, true, true, true, true, true, true, true, true, true, true, true, false, false, false] rfl rfl (by kernel_rfl) (fun _ _ _ h => h) (Or.inl ⟨by rfl, ?_⟩) ?_ ?_
          rotate_left
          · intro w'
            have t1 := T1.out
            have t2 := T2.out
            have t3 := T3.out
            have t4 := T4.out
            go_simp
            with_reducible rfl
          rotate_left
          · simp only [Act.put, List.setIfInBounds_toArray, List.set_cons_zero, List.set_cons_succ, i64_w, i32_w]
            rfl
          refine last_ (i := 14) (N := some 43) #[true, true, true, true, true, true, true, true, true, true, true, true, true, true, true, false, false] rfl rfl (by kernel_rfl) (by decide) (fun K hK => ?_)
          refine event_step (by rfl) (show _ = Result.ok (Next.value (.slice (some ⟨w1.heap.size, 0, none⟩) 1 1)) (w1.alloc (.cells #[.int .i64 (b0 / 16), .int .i64 (b0 % 16), .slice none 0 0] 65)) by first | (go_simp; done) | (go_simp; rfl)) ?_
          refine hK.out _ _ ?_
          clear hK K
          refine norm_ (a' := ?_) ?_ ?_
          rotate_left
          · show Act.put _ (some 43) _ = _
            simp only [Act.put, List.setIfInBounds_toArray, List.set_cons_zero, List.set_cons_succ, i64_w, i32_w]
            rfl
          refine last_ (i := 15) (N := some 44) #[true, true, true, true, true, true, true, true, true, true, true, true, true, true, true, true, false] rfl rfl (by kernel_rfl) (by decide) (fun K hK => ?_)
          rw [if_pos (by rfl)]
          refine wp_append_own _ (.tmp 29) (.tmp 43) 43 rfl w.heap.size 65 i0 zSt 3 40 u43 hi hz0 hz1 hz2 rfl (by decide) _ xs.length _ rfl (hOd.out.row.alloc _) ⟨w1.heap.size, 0, none⟩ 1 1 [.int .i64 (b0 / 16), .int .i64 (b0 % 16), .slice none 0 0] rfl rfl ?_ (by intro u hu; simp at hu; rcases hu with rfl | rfl | rfl <;> rfl) (by unfold maxLen; omega) (by omega) (by have := hBd.out.size; simp; omega) ?_
          · intro j u hj
            match j, hj with
            | 0, hj => cases hj; exact World.cell?_alloc_new _ _ _ _
            | 1, hj => cases hj; exact World.cell?_alloc_new _ _ _ _
            | 2, hj => cases hj; exact World.cell?_alloc_new _ _ _ _
          intro v' w2 hown' hgrow _
          have hO3 := Kept.mk ((hOd.out.alloc (.cells #[.int .i64 (b0 / 16), .int .i64 (b0 % 16), .slice none 0 0] 65)).add ⟨b0 / 16, b0 % 16, []⟩ rfl hown' hgrow)
          have hB3 : Kept (Below w.heap.size w w2) := ⟨(hBd.out.alloc hBd.out.size _).grown hgrow (by have := hBd.out.size; simp; omega) (fun g hg => (hOd.out.row.lt g hg).1)⟩
          clear hown' hgrow
          refine hK.out _ _ ?_
          clear hK K
          refine norm_ (a' := ?_) ?_ ?_
          rotate_left
          · show Act.put _ (some 44) _ = _
            simp only [Act.put, List.setIfInBounds_toArray, List.set_cons_zero, List.set_cons_succ, i64_w, i32_w]
            rfl
          refine pure_ (i := 16) (N := some 4) (v := ?_) (a' := ?_) #[true, true, true, true, true, true, true, true, true, true, true, true, true, true, true, true, true] rfl rfl (by kernel_rfl) (fun _ _ _ h => h) (Or.inl ⟨by rfl, ?_⟩) ?_ ?_
          rotate_left
          · intro w'
            have t1 := T1.out
            have t2 := T2.out
            have t3 := T3.out
            have t4 := T4.out
            go_simp
            with_reducible rfl
          rotate_left
          · simp only [Act.put, List.setIfInBounds_toArray, List.set_cons_zero, List.set_cons_succ, i64_w, i32_w]
            rfl
          refine done_ (by kernel_rfl) ?_
          have hBn := Kept.mk (hBe.out.more hO3.out hB3.out)
          have q2 : w2.cell? ⟨g, at_ + 1, none⟩ = some (.int .u8 b1) := (hBn.out.bel.cell (p := ⟨g, at_ + 1, none⟩) HB.out.lt).trans ((hBe.out.bel.cell (p := ⟨g, at_ + 1, none⟩) HB.out.lt).symm.trans q1.out)
          have hwb : wrap64 b1 = (b1.toNat : Int) := wb_id b1 hy1
          have hR3 : Kept (readV b = (takePts b1.toNat (b.drop (at_ + 2))).bind fun y => fin (xs.map (·.1) ++ [⟨b0 / 16, b0 % 16, [] ++ y.1⟩]) (takeSts k y.2)) := ⟨hR2.out⟩
          have hbn : b1.toNat ≤ 255 := by unfold Byte at hy1; omega
          clear e0d hOd hBd hO3 hB3 hBe hHeld q1 T1 T2 T3 T4 hR2 hdiv hmod
          go_wp2
          go_step3
          go_step
          go_step
          refine wp_weaken (p3' m _ _ ⟨⟨rfl, rfl⟩, _, k, b1.toNat, at_ + 2, xs, ⟨b0 / 16, b0 % 16, []⟩, _, ⟨rfl, rfl, rfl, ?_, by go_num⟩, ⟨by omega, by omega, by omega, by omega, by simp; omega⟩, hBn, hR3⟩ ?_) (fun e a' w' h => h)
          · show Value.int .i64 (wrap64 b1) = _
            rw [hwb]
          · show 2 * (n - (intOf (.int .i64 ((at_ : Int) + 2))).toNat) + 3 ≤ m
            rw [hm7]; simp only [intOf]; omega
  case first =>
    intro p2'
    by_cases h0 : n = 0
    · have hb0 : b = [] := List.eq_nil_of_length_eq_zero (by rw [HN.out]; exact h0)
      have hR2 : Kept (readV b = none) := ⟨by rw [hb0]; rfl⟩
      clear hb0
      subst h0
      go_wp2
      go_step3
      exact jump_to (J := fun l a' w' => match l with | 0 => J0 w b g 0 c a' w' | 1 => J1 w b g 0 c a' w' | 2 => J2 w b g 0 c a' w' | 3 => J3 w b g 0 c a' w' | _ => False) ⟨⟨rfl, rfl⟩, ⟨Below.refl _ _⟩, hR2⟩
    · have q0 := HB.out.cell 0 (by rw [HN.out]; omega)
      have hy0 := byte_at b Hb.out 0 (by rw [HN.out]; omega)
      have hR2 : Kept (readV b = fin (([] : List (St × Value)).map (·.1)) (takeSts (b.getD 0 0).toNat (b.drop 1))) := ⟨by
        have e := drop_one b 0 (by rw [HN.out]; omega)
        rw [List.drop_zero] at e
        generalize b.getD 0 0 = k at *
        generalize b.drop (0 + 1) = r at *
        rw [e]; rfl⟩
      have hni : ¬ (n : Int) = 0 := by omega
      have hn0 : 0 < n := by omega
      have hBe : Kept (Being w w (.slice none 0 0) []) := ⟨⟨own_nil _ _, Below.refl _ _, fun x hx => (by cases hx), fun x hx => (by cases hx)⟩⟩
      generalize b.getD 0 0 = b0 at *
      have hwb : wrap64 b0 = (b0.toNat : Int) := wb_id b0 hy0
      have hbn : b0.toNat ≤ 255 := by unfold Byte at hy0; omega
      go_wp2
      go_step3
      go_step
      go_step
      refine p2' _ _ ⟨⟨rfl, rfl⟩, _, b0.toNat, 1, [], ⟨rfl, rfl, ?_, rfl⟩, ⟨by omega, by omega, by omega, by simp⟩, hBe, hR2⟩
      show Value.int .i64 (wrap64 b0) = _
      rw [hwb]
end Go.Proofs.Ytlffbdfkanibcaa.Sk
