/-
  The walk of GeomGrows: it returns true. No condition.
-/
import Derived.Test.YtmpbedjbimimoaaPureGeomGrows
import Derived.Deep.Cut
import Derived.Deep.CutRange
import Derived.Deep.RegionHeld3
import Derived.RegionTactic
namespace Go.Proofs.Ytmpbedjbimimoaa.Gw
open Go.RowKit Go.Proofs.YtmpbedjbimimoaaW.PrintWords Go.Proofs.YtmpbedjbimimoaaW.PrintLast Go.Proofs.YtmpbedjbimimoaaW.PrintMore
open PGeomGrows
set_option linter.unusedSimpArgs false
set_option linter.unusedVariables false

/-- A fact laid aside. -/
structure Kept (p : Prop) : Prop where
  out : p

theorem awake_c (w : World) : Calls Try.prog 17 #[] w fun e w' => e = .returned (.bool true) ∧ Below w.heap.size w w' := jotterlaw5_awake.calls true w awake_f

theorem bel_step {w W w2 : World} (h : Below w.heap.size w W) (k : Below W.heap.size W w2) : Below w.heap.size w w2 :=
  h.trans ⟨k.os, k.tape, k.output, k.size, fun i hi => k.block i (Nat.lt_of_lt_of_le hi h.size)⟩

abbrev Geo (b p y s t : Int) : Array Value := #[.int .i64 b, .int .i64 p, .int .i64 y, .int .i64 s, .int .i64 t]
abbrev Bx (w : World) (g : Nat) (b p y s t : Int) : Prop := w.heap[g]? = some (.cells (Geo b p y s t) 23 (0, 0))

theorem three_boxes (w w3 : World) (gb : Nat) (b p y s t : Int) (hX : Bx w3 gb b p y s t) (hB : Below w.heap.size w w3) :
    Bx (((w3.alloc (.cells (Geo b p y s t) 23)).alloc (.cells (Geo b p y s t) 23)).alloc (.cells (Geo b p y s t) 23)).drew w3.heap.size b p y s t ∧
    Bx (((w3.alloc (.cells (Geo b p y s t) 23)).alloc (.cells (Geo b p y s t) 23)).alloc (.cells (Geo b p y s t) 23)).drew (w3.heap.size + 1) b p y s t ∧
    Bx (((w3.alloc (.cells (Geo b p y s t) 23)).alloc (.cells (Geo b p y s t) 23)).alloc (.cells (Geo b p y s t) 23)).drew (w3.heap.size + 1 + 1) b p y s t ∧
    Bx (((w3.alloc (.cells (Geo b p y s t) 23)).alloc (.cells (Geo b p y s t) 23)).alloc (.cells (Geo b p y s t) 23)).drew gb b p y s t ∧
    Below w.heap.size w (((w3.alloc (.cells (Geo b p y s t) 23)).alloc (.cells (Geo b p y s t) 23)).alloc (.cells (Geo b p y s t) 23)).drew := by
  have hg := blk_lt hX
  generalize hO : Obj.cells (Geo b p y s t) 23 = O
  have n1 := blk_new w3 O
  have n2 := blk_new (w3.alloc O) O
  have n3 := blk_new ((w3.alloc O).alloc O) O
  have e1 : (w3.alloc O).heap.size = w3.heap.size + 1 := by simp
  have e2 : ((w3.alloc O).alloc O).heap.size = w3.heap.size + 1 + 1 := by simp
  rw [e1] at n2
  rw [e2] at n3
  have b1 : Below w3.heap.size w3 (w3.alloc O) := below_alloc (Below.refl _ _) O
  have b2 : Below (w3.alloc O).heap.size (w3.alloc O) ((w3.alloc O).alloc O) := below_alloc (Below.refl _ _) O
  have b3 : Below ((w3.alloc O).alloc O).heap.size ((w3.alloc O).alloc O) (((w3.alloc O).alloc O).alloc O) := below_alloc (Below.refl _ _) O
  subst hO
  refine ⟨?_, ?_, n3, ?_, ?_⟩
  · exact blk_below (blk_below n1 b2) b3.drew
  · exact blk_below n2 b3.drew
  · exact blk_below (blk_below (blk_below hX b1) b2) b3.drew
  · exact (bel_step (bel_step (bel_step hB b1) b2) b3).drew

/-- What lies in memory behind the greater geometries. -/
structure HK (w : World) (g3 g4 g5 gb : Nat) (b p y s t : Int) (w' : World) : Prop where
  b3 : Bx w' g3 (b + 1) p y s t
  b4 : Bx w' g4 b (p + 1) y s t
  b5 : Bx w' g5 b p y (s + 1) t
  bb : Bx w' gb b p y s t
  bel : Below w.heap.size w w'
theorem HK.step {w : World} {g3 g4 g5 gb : Nat} {b p y s t : Int} {w1 w2 : World} (h : HK w g3 g4 g5 gb b p y s t w1) (hb : Below w1.heap.size w1 w2) : HK w g3 g4 g5 gb b p y s t w2 :=
  ⟨blk_below h.b3 hb, blk_below h.b4 hb, blk_below h.b5 hb, blk_below h.bb hb, bel_step h.bel hb⟩
theorem HK.drew {w : World} {g3 g4 g5 gb : Nat} {b p y s t : Int} {w1 : World} (h : HK w g3 g4 g5 gb b p y s t w1) : HK w g3 g4 g5 gb b p y s t w1.drew :=
  ⟨h.b3, h.b4, h.b5, h.bb, h.bel.drew⟩
theorem HK.sets (w wc : World) (g3 g4 g5 gb : Nat) (b p y s t : Int) (n34 : g3 ≠ g4) (n35 : g3 ≠ g5) (n45 : g4 ≠ g5) (nb3 : gb ≠ g3) (nb4 : gb ≠ g4) (nb5 : gb ≠ g5) (G3 : w.heap.size ≤ g3) (G4 : w.heap.size ≤ g4) (G5 : w.heap.size ≤ g5)
    (h3 : Bx wc g3 b p y s t) (h4 : Bx wc g4 b p y s t) (h5 : Bx wc g5 b p y s t) (hb : Bx wc gb b p y s t) (hB : Below w.heap.size w wc) :
    HK w g3 g4 g5 gb b p y s t (((wc.setCell ⟨g3, 0, none⟩ (.int .i64 (b + 1))).setCell ⟨g4, 1, none⟩ (.int .i64 (p + 1))).setCell ⟨g5, 3, none⟩ (.int .i64 (s + 1))) := by
  refine ⟨?_, ?_, ?_, ?_, below_set (below_set (below_set hB G3) G4) G5⟩
  · exact blk_far (blk_far (blk_put h3 0 (.int .i64 (b + 1)) rfl) n34 _) n35 _
  · exact blk_far (blk_put (blk_far h4 (p := ⟨g3, 0, none⟩) (fun e => n34 e.symm) _) 1 (.int .i64 (p + 1)) rfl) n45 _
  · exact blk_put (blk_far (blk_far h5 (p := ⟨g3, 0, none⟩) (fun e => n35 e.symm) _) (p := ⟨g4, 1, none⟩) (fun e => n45 e.symm) _) 3 (.int .i64 (s + 1)) rfl
  · exact blk_far (blk_far (blk_far hb nb3 _) nb4 _) nb5 _
/-- Its cells, one by one. -/
abbrev Cl (w' : World) (g : Nat) (b p y s t : Int) : Prop := w'.cell? ⟨g, 0, none⟩ = some (.int .i64 b) ∧ w'.cell? ⟨g, 1, none⟩ = some (.int .i64 p) ∧ w'.cell? ⟨g, 2, none⟩ = some (.int .i64 y) ∧ w'.cell? ⟨g, 3, none⟩ = some (.int .i64 s) ∧ w'.cell? ⟨g, 4, none⟩ = some (.int .i64 t)
theorem bx_cl {w' : World} {g : Nat} {b p y s t : Int} (h : Bx w' g b p y s t) : Cl w' g b p y s t :=
  ⟨(blk_cell h 0).trans rfl, (blk_cell h 1).trans rfl, (blk_cell h 2).trans rfl, (blk_cell h 3).trans rfl, (blk_cell h 4).trans rfl⟩
theorem HK.cells {w : World} {g3 g4 g5 gb : Nat} {b p y s t : Int} {w1 : World} (h : HK w g3 g4 g5 gb b p y s t w1) :
    (Cl w1 g3 (b + 1) p y s t ∧ Cl w1 g4 b (p + 1) y s t) ∧ (Cl w1 g5 b p y (s + 1) t ∧ Cl w1 gb b p y s t) ∧ HK w g3 g4 g5 gb b p y s t w1 := ⟨⟨bx_cl h.b3, bx_cl h.b4⟩, ⟨bx_cl h.b5, bx_cl h.bb⟩, h⟩

theorem HK.of {w : World} {g3 g4 g5 gb : Nat} {b p y s t : Int} {w1 : World} (h : (Cl w1 g3 (b + 1) p y s t ∧ Cl w1 g4 b (p + 1) y s t) ∧ (Cl w1 g5 b p y (s + 1) t ∧ Cl w1 gb b p y s t) ∧ HK w g3 g4 g5 gb b p y s t w1) : HK w g3 g4 g5 gb b p y s t w1 := h.2.2
theorem i64_id (n : Int) (h1 : -9223372036854775808 ≤ n) (h2 : n < 9223372036854775808) : IntKind.i64.wrap n = n := by
  simp only [IntKind.wrap, IntKind.signed, IntKind.bits]
  simp
  omega

/-- Which operations of the region have come up: as bits. -/
def ms (b : Nat) : Array Bool := ((List.range 72).map fun i => b.testBit i).toArray
def T8 : Bool × List (List Nat × List Nat) := (true, [([], []), ([0], [0]), ([1], [1]), ([2, 1], [2]), ([3], [3]), ([4, 3, 3], [3, 4]), ([3], [3]), ([5, 6, 3], [3, 5, 6]), ([7, 5, 3], [3, 7]), ([8], [8]), ([9, 8, 8], [8, 9]), ([8], [8]), ([11, 10, 8], [8, 11]), ([10, 12, 8], [8, 10, 12]), ([8, 13, 3], [3, 8, 13]), ([3, 14], [3, 14]), ([15, 12], [15]), ([16], [16]), ([17, 16, 16], [16, 17]), ([18, 16], [16, 18]), ([19, 18, 16], [16, 19]), ([20], [20]), ([21, 20, 20], [20, 21]), ([20], [20]), ([22, 23, 20], [20, 22, 23]), ([20, 24, 16], [16, 20, 24]), ([16, 25], [16, 25]), ([26, 22], [26]), ([27], [27]), ([28, 27, 27], [27, 28]), ([29, 27], [27, 29]), ([30, 29, 27], [27, 30]), ([31], [31]), ([32, 31, 31], [31, 32]), ([31], [31]), ([33, 34, 31], [31, 33, 34]), ([31, 35, 27], [27, 31, 35]), ([27, 36], [27, 36]), ([37, 33], [37]), ([38], [38]), ([39, 38], [38, 39]), ([40, 38], [38, 40]), ([38], [38]), ([42, 38], [38, 42]), ([38], [38]), ([44, 38], [38, 44]), ([43, 45, 38], [38, 43, 45]), ([46, 38], [38, 46]), ([38], [38]), ([48, 38], [38, 48]), ([47, 49, 38], [38, 47, 49]), ([41, 50, 38], [38, 41, 50]), ([38, 51], [38, 51]), ([52, 38], [52]), ([53], [53]), ([54, 53], [53, 54]), ([55, 53], [53, 55]), ([53], [53]), ([57, 53], [53, 57]), ([53], [53]), ([59, 53], [53, 59]), ([58, 60, 53], [53, 58, 60]), ([61, 53], [53, 61]), ([53], [53]), ([63, 53], [53, 63]), ([62, 64, 53], [53, 62, 64]), ([56, 65, 53], [53, 56, 65]), ([53, 66], [53, 66]), ([67, 53], [67]), ([68, 68], [68]), ([68, 69], [68, 69]), ([70, 69, 0, 1, 2, 3, 4, 5, 6, 7, 8, 9, 10, 11, 12, 13, 14, 15, 16, 17, 18, 19, 20, 21, 22, 23, 24, 25, 26, 27, 28, 29, 30, 31, 32, 33, 34, 35, 36, 37, 38, 39, 40, 41, 42, 43, 44, 45, 46, 47, 48, 49, 50, 51, 52, 53, 54, 55, 56, 57, 58, 59, 60, 61, 62, 63, 64, 65, 66, 67, 68, 69, 70], [70])])
def B8 : List Nat := [0, 1, 3, 7, 15, 31, 15, 127, 255, 511, 1023, 511, 4095, 8191, 16383, 32767, 65535, 131071, 262143, 524287, 1048575, 2097151, 4194303, 2097151, 16777215, 33554431, 67108863, 134217727, 268435455, 536870911, 1073741823, 2147483647, 4294967295, 8589934591, 4294967295, 34359738367, 68719476735, 137438953471, 274877906943, 549755813887, 1099511627775, 2199023255551, 549755813887, 4947802324991, 549755813887, 18141941858303, 66520453480447, 136889197658111, 549755813887, 282024732524543, 1122051616145407, 2251799813685247, 4503599627370495, 9007199254740991, 18014398509481983, 36028797018963967, 72057594037927935, 18014398509481983, 162129586585337855, 18014398509481983, 594475150812905471, 2179742219647320063, 4485585228861014015, 18014398509481983, 9241386435364257791, 36767387357852729343, 73786976294838206463, 147573952589676412927, 295147905179352825855, 590295810358705651711, 1180591620717411303423, 2361183241434822606847]
theorem tab8 : rtab .any (opsOf Try.f8 8) = T8 := by kernel_rfl
theorem bits8 : waitsOk T8.2 B8 = true := by kernel_rfl

set_option maxRecDepth 100000 in
set_option maxHeartbeats 40000000 in
theorem Grows_walk (b p y s t : Int) (w : World) :
    Calls Try.prog 8 #[.agg (Geo b p y s t)] w fun e w' => e = .returned (.bool true) ∧ Below w.heap.size w w' := by
  have hu23 := Try.underlying23
  by_cases hmay : mayP b p y s t
  · have hMK := Kept.mk (fun w => geom_May.calls b p y s t true w (by rw [may_f]; simp [hmay]))
    go_enter Try.func8, Try.ntmps8
    go_wp2_with (first
      | ((with_reducible refine gate_dst (N := 1) rfl ?_); refine box_event ?hg (N := 1) ?hd (cs := Geo b p y s t) (t := 23) ?hr ?_; (case hd => rfl); (case hg => rfl); (case hr => first | (go_simp; done) | (go_simp; rfl)); intro gb hg w1 hbox hb; have hB1 := Kept.mk hb; have hX1 := Kept.mk hbox; have hG : w.heap.size ≤ gb := Nat.le_of_eq hg.symm; have z0 := (blk_cell hbox 0).trans rfl; have z1 := (blk_cell hbox 1).trans rfl; have z2 := (blk_cell hbox 2).trans rfl; have z3 := (blk_cell hbox 3).trans rfl; have z4 := (blk_cell hbox 4).trans rfl; clear hbox hb hg)
      | (go_at_call 14; (with_reducible refine (hMK.out _).mono ?_); rintro e w3 ⟨rfl, hb⟩; have hB3 := Kept.mk (bel_step hB1.out hb); have hX3 := Kept.mk (blk_below hX1.out hb); clear z0 z1 z2 z3 z4; have z0 := (blk_cell hX3.out 0).trans rfl; have z1 := (blk_cell hX3.out 1).trans rfl; have z2 := (blk_cell hX3.out 2).trans rfl; have z3 := (blk_cell hX3.out 3).trans rfl; have z4 := (blk_cell hX3.out 4).trans rfl; have f0 := blk_frozen hX3.out 0; clear hb))
    have hgb := blk_lt hX3.out
    have hgb1 : gb < w3.heap.size + 1 := by omega
    have hgb2 : gb < w3.heap.size + 1 + 1 := by omega
    have hgb3 : gb < w3.heap.size + 2 := by omega
    go_cut [3, 4, 5] from 11 to 13 (fun s3 s4 s5 wx => ∃ g3 g4 g5, s3 = .pointer (some ⟨g3, 0, none⟩) ∧ s4 = .pointer (some ⟨g4, 0, none⟩) ∧ s5 = .pointer (some ⟨g5, 0, none⟩) ∧ g3 ≠ g4 ∧ g3 ≠ g5 ∧ g4 ≠ g5 ∧ gb ≠ g3 ∧ gb ≠ g4 ∧ gb ≠ g5 ∧
        w.heap.size ≤ g3 ∧ w.heap.size ≤ g4 ∧ w.heap.size ≤ g5 ∧ Kept (Bx wx g3 b p y s t) ∧ Kept (Bx wx g4 b p y s t) ∧ Kept (Bx wx g5 b p y s t) ∧ Kept (Bx wx gb b p y s t) ∧ Kept (Below w.heap.size w wx))
    case first =>
      have hsz := hB3.out.size
      have hX3' := hX3.out
      obtain ⟨hT0, hT1, hT2, hTb, hTB⟩ := three_boxes w w3 gb b p y s t hX3.out hB3.out
      have hT0 := Kept.mk hT0
      have hT1 := Kept.mk hT1
      have hT2 := Kept.mk hT2
      have hTb := Kept.mk hTb
      have hTB := Kept.mk hTB
      clear hX3'
      go_region
      all_goals
        go_wp2_with fail
        go_meet
        case rel => exact ⟨_, _, _, rfl, rfl, rfl, by omega, by omega, by omega, by omega, by omega, by omega, by omega, by omega, by omega, by first | exact hT0 | exact hT1 | exact hT2, by first | exact hT0 | exact hT1 | exact hT2, by first | exact hT0 | exact hT1 | exact hT2, hTb, hTB⟩
    case rest =>
      obtain ⟨g3, g4, g5, rfl, rfl, rfl, n34, n35, n45, nb3, nb4, nb5, G3, G4, G5, hK3, hK4, hK5, hKb, hKB⟩ := hcut
      clear hgb hgb1 hgb2 hgb3 z0 z1 z2 z3 z4 f0 hX3 hB3 hX1 hB1
      have c3 := (blk_cell hK3.out 0).trans rfl
      have c4 := (blk_cell hK4.out 1).trans rfl
      have c5 := (blk_cell hK5.out 3).trans rfl
      have f3 := blk_frozen hK3.out 0
      have f4 := blk_frozen hK4.out 1
      have f5 := blk_frozen hK5.out 3
      have cb0 := (blk_cell hKb.out 0).trans rfl
      have cb1 := (blk_cell hKb.out 1).trans rfl
      have cb2 := (blk_cell hKb.out 2).trans rfl
      have cb3 := (blk_cell hKb.out 3).trans rfl
      have cb4 := (blk_cell hKb.out 4).trans rfl
      have hbb : b ≤ 20 ∧ 8 ≤ b ∧ p ≤ 8 ∧ 4 ≤ p ∧ s ≤ 4 ∧ 0 ≤ s := by unfold mayP at hmay; omega
      obtain ⟨hb1, hb2, hp1, hp2, hs1, hs2⟩ := hbb
      obtain ⟨n, hn⟩ : ∃ n, n = ((b - s - 3) * p - 4) / 2 := ⟨_, rfl⟩
      obtain ⟨r1, r2, r3, r4⟩ := around b p y s t hmay
      rw [← hn] at r1 r2 r3
      obtain ⟨ma, hMa, hLa⟩ : ∃ ma : Bool, Kept (∀ w, Calls Try.prog 14 #[.agg (Geo (b + 1) p y s t)] w fun e w' => e = .returned (.bool ma) ∧ Below w.heap.size w w') ∧ Kept (ma = true → ∃ la ba : Int, (∀ w, Calls Try.prog 16 #[.agg (Geo (b + 1) p y s t)] w fun e w' => e = .returned (.int .i64 la) ∧ Below w.heap.size w w') ∧ (∀ w, Calls Try.prog 28 #[.agg (Geo (b + 1) p y s t)] w fun e w' => e = .returned (.int .i64 ba) ∧ Below w.heap.size w w') ∧ n ≤ la ∧ 60 * b * b * p < ba) := by
        refine ⟨decide (mayP (b + 1) p y s t), ⟨fun w => geom_May.calls _ _ _ _ _ _ w (may_f _ _ _ _ _)⟩, ⟨fun h => ?_⟩⟩
        have h' := of_decide_eq_true h
        obtain ⟨k1, k2⟩ := grow_b b p y s t hmay h'
        exact ⟨_, _, fun w => geom_Logical.calls _ _ _ _ _ _ w (logical_f _ _ _ _ _ h'), fun w => geom_Bound.calls _ _ _ _ _ _ w (bound_f _ _ _ _ _ h'), by rw [hn]; exact k1, k2⟩
      obtain ⟨mb, hMb, hLb⟩ : ∃ mb : Bool, Kept (∀ w, Calls Try.prog 14 #[.agg (Geo b (p + 1) y s t)] w fun e w' => e = .returned (.bool mb) ∧ Below w.heap.size w w') ∧ Kept (mb = true → ∃ lb : Int, (∀ w, Calls Try.prog 16 #[.agg (Geo b (p + 1) y s t)] w fun e w' => e = .returned (.int .i64 lb) ∧ Below w.heap.size w w') ∧ n ≤ lb) := by
        refine ⟨decide (mayP b (p + 1) y s t), ⟨fun w => geom_May.calls _ _ _ _ _ _ w (may_f _ _ _ _ _)⟩, ⟨fun h => ?_⟩⟩
        have h' := of_decide_eq_true h
        exact ⟨_, fun w => geom_Logical.calls _ _ _ _ _ _ w (logical_f _ _ _ _ _ h'), by rw [hn]; exact grow_p b p y s t hmay h'⟩
      obtain ⟨mc, hMc, hLc⟩ : ∃ mc : Bool, Kept (∀ w, Calls Try.prog 14 #[.agg (Geo b p y (s + 1) t)] w fun e w' => e = .returned (.bool mc) ∧ Below w.heap.size w w') ∧ Kept (mc = true → ∃ lc : Int, (∀ w, Calls Try.prog 16 #[.agg (Geo b p y (s + 1) t)] w fun e w' => e = .returned (.int .i64 lc) ∧ Below w.heap.size w w') ∧ lc ≤ n) := by
        refine ⟨decide (mayP b p y (s + 1) t), ⟨fun w => geom_May.calls _ _ _ _ _ _ w (may_f _ _ _ _ _)⟩, ⟨fun h => ?_⟩⟩
        have h' := of_decide_eq_true h
        exact ⟨_, fun w => geom_Logical.calls _ _ _ _ _ _ w (logical_f _ _ _ _ _ h'), by rw [hn]; exact grow_s b p y s t hmay h'⟩
      have hBg := Kept.mk (fun w => geom_Bound.calls b p y s t (60 * b * b * p) w (bound_f _ _ _ _ _ hmay))
      have hL := Kept.mk (fun w => geom_Logical.calls b p y s t n w (by rw [logical_f _ _ _ _ _ hmay, hn]))
      have hW := Kept.mk (HK.sets w wc g3 g4 g5 gb b p y s t n34 n35 n45 nb3 nb4 nb5 G3 G4 G5 hK3.out hK4.out hK5.out hKb.out hKB.out)
      clear hn
      go_wp2_with (go_at_call 16; (with_reducible refine (hL.out _).mono ?_); rintro e w4 ⟨rfl, hb⟩; have hS := HK.step hW.out hb; clear hb)
      clear c3 c4 c5 f3 f4 f5 cb0 cb1 cb2 cb3 cb4 hW hK3 hK4 hK5 hKb hKB hL
      have hSK := Kept.mk hS
      clear hS
      generalize 60 * b * b * p = bg at *
      have w1 : IntKind.i64.wrap (2 * n) = 2 * n := i64_id _ (by omega) (by omega)
      have w2 : IntKind.i64.wrap (2 * n + 4) = 2 * n + 4 := i64_id _ (by omega) (by omega)
      have w3 : IntKind.i64.wrap (2 * n + 6) = 2 * n + 6 := i64_id _ (by omega) (by omega)
      have w4 : IntKind.i64.wrap (b - s) = b - s := i64_id _ (by omega) (by omega)
      have w5 : IntKind.i64.wrap (b - s - 3) = b - s - 3 := i64_id _ (by omega) (by omega)
      have w6 : IntKind.i64.wrap ((b - s - 3) * p) = (b - s - 3) * p := i64_id _ (by omega) (by omega)
      have r1A : decide (2 * n + 4 ≤ (b - s - 3) * p) = true := decide_eq_true r1
      have r2A : decide ((b - s - 3) * p < 2 * n + 6) = true := decide_eq_true r2
      clear hb1 hb2 hp1 hp2 hs1 hs2 r1 r2 r3 r4 hmay hMK
      refine start_ (n := 72) (S := fun w' => (Cl w' g3 (b + 1) p y s t ∧ Cl w' g4 b (p + 1) y s t) ∧ (Cl w' g5 b p y (s + 1) t ∧ Cl w' gb b p y s t) ∧ HK w g3 g4 g5 gb b p y s t w') (ds := []) (ms 0) (by kernel_rfl) rfl rfl (HK.cells (HK.drew hSK.out)) (fun hHeld => ?_); refine with_tabW tab8 bits8 (fun HT_ HW_ => ?_)
      refine join_ (σ := Value × Value × Value × Value × Value × Value × Value × Value × Value × Value × Value × Value × Value × Value × Value × Value) 55 (ms 131071) (fun s_ => [(28, s_.1), (29, s_.2.1), (30, s_.2.2.1), (31, s_.2.2.2.1), (32, s_.2.2.2.2.1), (33, s_.2.2.2.2.2.1), (34, s_.2.2.2.2.2.2.1), (35, s_.2.2.2.2.2.2.2.1), (36, s_.2.2.2.2.2.2.2.2.1), (37, s_.2.2.2.2.2.2.2.2.2.1), (38, s_.2.2.2.2.2.2.2.2.2.2.1), (39, s_.2.2.2.2.2.2.2.2.2.2.2.1), (40, s_.2.2.2.2.2.2.2.2.2.2.2.2.1), (41, s_.2.2.2.2.2.2.2.2.2.2.2.2.2.1), (42, s_.2.2.2.2.2.2.2.2.2.2.2.2.2.2.1), (43, s_.2.2.2.2.2.2.2.2.2.2.2.2.2.2.2), (44, .bool true)]) (fun _ w' => (Cl w' g3 (b + 1) p y s t ∧ Cl w' g4 b (p + 1) y s t) ∧ (Cl w' g5 b p y (s + 1) t ∧ Cl w' gb b p y s t) ∧ HK w g3 g4 g5 gb b p y s t w') ?_ ?_
      rotate_left
      · intro hJ
        rcases ma with _ | _
        · refine take_ (i := 0) (N := some 28) (v := ?_) (a' := ?_) (ms 1) rfl rfl (take_ofW HT_.out HW_.out (by kernel_rfl)) (fun _ _ _ h => h) (Or.inl ⟨by rfl, ?_⟩) hHeld ?_ ?_
          rotate_left
          · rintro w' ⟨⟨⟨a0, a1, a2, a3, a4⟩, ⟨b0, b1, b2, b3, b4⟩⟩, ⟨⟨c0, c1, c2, c3, c4⟩, ⟨d0, d1, d2, d3, d4⟩⟩, _⟩
            go_simp
            with_reducible rfl
          rotate_left
          · simp only [Act.put, List.setIfInBounds_toArray, List.set_cons_zero, List.set_cons_succ, i64_w, i32_w]
            rfl
          refine one_ (i := 1) (N := some 29) (ms 3) rfl rfl (one_of HT_.out (by kernel_rfl)) (by decide) (fun K hK => ?_)
          refine goes_ Try.func14 (by kernel_rfl) rfl #[.agg (Geo (b + 1) p y s t)] (by rfl) rfl rfl (by (try simp only [List.map_toArray, List.map_cons, List.map_nil]); first | done | rfl) ?_
          refine (hMa.out _).mono ?_
          rintro e wk ⟨rfl, hb⟩
          refine ⟨_, rfl, ?_⟩
          have hk := HK.step (HK.of hHeld) hb
          clear hb hHeld
          refine hK.out _ _ (HK.cells hk) (fun hHeld => ?_)
          clear hK K hk
          refine norm_ (a' := ?_) ?_ ?_
          rotate_left
          · show Act.put _ (some 29) _ = _
            simp only [Act.put, List.setIfInBounds_toArray, List.set_cons_zero, List.set_cons_succ, i64_w, i32_w]
            rfl
          refine pure_ (i := 2) (N := some 30) (v := ?_) (a' := ?_) (ms 7) rfl rfl (any_of HT_.out (by kernel_rfl)) (fun _ _ _ h => h) (Or.inl ⟨by rfl, ?_⟩) ?_ ?_
          rotate_left
          · intro w'
            go_simp
            with_reducible rfl
          rotate_left
          · simp only [Act.put, List.setIfInBounds_toArray, List.set_cons_zero, List.set_cons_succ, i64_w, i32_w]
            rfl
          refine pure_ (i := 3) (N := some 31) (v := ?_) (a' := ?_) (ms 15) rfl rfl (any_of HT_.out (by kernel_rfl)) (fun _ _ _ h => h) (Or.inl ⟨by rfl, ?_⟩) ?_ ?_
          rotate_left
          · intro w'
            go_simp
            with_reducible rfl
          rotate_left
          · simp only [Act.put, List.setIfInBounds_toArray, List.set_cons_zero, List.set_cons_succ, i64_w, i32_w]
            rfl
          refine pure_ (i := 4) (N := some 32) (v := undef) (a' := ?_) (ms 31) rfl rfl (any_of HT_.out (by kernel_rfl)) (fun _ _ _ h => h) (Or.inr ⟨by rfl, rfl⟩) ?_ ?_
          rotate_left
          · simp only [Act.put, List.setIfInBounds_toArray, List.set_cons_zero, List.set_cons_succ, i64_w, i32_w]
            rfl
          refine pure_ (i := 5) (N := some 33) (v := undef) (a' := ?_) (ms 63) rfl rfl (any_of HT_.out (by kernel_rfl)) (fun _ _ _ h => h) (Or.inr ⟨by rfl, rfl⟩) ?_ ?_
          rotate_left
          · simp only [Act.put, List.setIfInBounds_toArray, List.set_cons_zero, List.set_cons_succ, i64_w, i32_w]
            rfl
          refine pure_ (i := 6) (N := some 34) (v := undef) (a' := ?_) (ms 127) rfl rfl (any_of HT_.out (by kernel_rfl)) (fun _ _ _ h => h) (Or.inr ⟨by rfl, rfl⟩) ?_ ?_
          rotate_left
          · simp only [Act.put, List.setIfInBounds_toArray, List.set_cons_zero, List.set_cons_succ, i64_w, i32_w]
            rfl
          refine pure_ (i := 7) (N := some 35) (v := undef) (a' := ?_) (ms 255) rfl rfl (any_of HT_.out (by kernel_rfl)) (fun _ _ _ h => h) (Or.inr ⟨by rfl, rfl⟩) ?_ ?_
          rotate_left
          · simp only [Act.put, List.setIfInBounds_toArray, List.set_cons_zero, List.set_cons_succ, i64_w, i32_w]
            rfl
          refine pure_ (i := 8) (N := some 36) (v := undef) (a' := ?_) (ms 511) rfl rfl (any_of HT_.out (by kernel_rfl)) (fun _ _ _ h => h) (Or.inr ⟨by rfl, rfl⟩) ?_ ?_
          rotate_left
          · simp only [Act.put, List.setIfInBounds_toArray, List.set_cons_zero, List.set_cons_succ, i64_w, i32_w]
            rfl
          refine pure_ (i := 9) (N := some 37) (v := undef) (a' := ?_) (ms 1023) rfl rfl (any_of HT_.out (by kernel_rfl)) (fun _ _ _ h => h) (Or.inr ⟨by rfl, rfl⟩) ?_ ?_
          rotate_left
          · simp only [Act.put, List.setIfInBounds_toArray, List.set_cons_zero, List.set_cons_succ, i64_w, i32_w]
            rfl
          refine pure_ (i := 10) (N := some 38) (v := undef) (a' := ?_) (ms 2047) rfl rfl (any_of HT_.out (by kernel_rfl)) (fun _ _ _ h => h) (Or.inr ⟨by rfl, rfl⟩) ?_ ?_
          rotate_left
          · simp only [Act.put, List.setIfInBounds_toArray, List.set_cons_zero, List.set_cons_succ, i64_w, i32_w]
            rfl
          refine pure_ (i := 11) (N := some 39) (v := undef) (a' := ?_) (ms 4095) rfl rfl (any_of HT_.out (by kernel_rfl)) (fun _ _ _ h => h) (Or.inr ⟨by rfl, rfl⟩) ?_ ?_
          rotate_left
          · simp only [Act.put, List.setIfInBounds_toArray, List.set_cons_zero, List.set_cons_succ, i64_w, i32_w]
            rfl
          refine pure_ (i := 12) (N := some 40) (v := undef) (a' := ?_) (ms 8191) rfl rfl (any_of HT_.out (by kernel_rfl)) (fun _ _ _ h => h) (Or.inr ⟨by rfl, rfl⟩) ?_ ?_
          rotate_left
          · simp only [Act.put, List.setIfInBounds_toArray, List.set_cons_zero, List.set_cons_succ, i64_w, i32_w]
            rfl
          refine pure_ (i := 13) (N := some 41) (v := undef) (a' := ?_) (ms 16383) rfl rfl (any_of HT_.out (by kernel_rfl)) (fun _ _ _ h => h) (Or.inr ⟨by rfl, rfl⟩) ?_ ?_
          rotate_left
          · simp only [Act.put, List.setIfInBounds_toArray, List.set_cons_zero, List.set_cons_succ, i64_w, i32_w]
            rfl
          refine pure_ (i := 14) (N := some 42) (v := undef) (a' := ?_) (ms 32767) rfl rfl (any_of HT_.out (by kernel_rfl)) (fun _ _ _ h => h) (Or.inr ⟨by rfl, rfl⟩) ?_ ?_
          rotate_left
          · simp only [Act.put, List.setIfInBounds_toArray, List.set_cons_zero, List.set_cons_succ, i64_w, i32_w]
            rfl
          refine pure_ (i := 15) (N := some 43) (v := ?_) (a' := ?_) (ms 65535) rfl rfl (any_of HT_.out (by kernel_rfl)) (fun _ _ _ h => h) (Or.inl ⟨by rfl, ?_⟩) ?_ ?_
          rotate_left
          · intro w'
            go_simp
            with_reducible rfl
          rotate_left
          · simp only [Act.put, List.setIfInBounds_toArray, List.set_cons_zero, List.set_cons_succ, i64_w, i32_w]
            rfl
          refine pure_ (i := 16) (N := some 44) (v := ?_) (a' := ?_) (ms 131071) rfl rfl (any_of HT_.out (by kernel_rfl)) (fun _ _ _ h => h) (Or.inl ⟨by rfl, ?_⟩) ?_ ?_
          rotate_left
          · intro w'
            go_simp
            with_reducible rfl
          rotate_left
          · simp only [Act.put, List.setIfInBounds_toArray, List.set_cons_zero, List.set_cons_succ, i64_w, i32_w]
            rfl
          refine norm_ ?_ (hJ (?_, ?_, ?_, ?_, ?_, ?_, ?_, ?_, ?_, ?_, ?_, ?_, ?_, ?_, ?_, ?_) _ hHeld)
          first | (simp only [putAll, Act.put, List.setIfInBounds_toArray, List.set_cons_zero, List.set_cons_succ]; done) | (simp only [putAll, Act.put, List.setIfInBounds_toArray, List.set_cons_zero, List.set_cons_succ]; rfl)
        · obtain ⟨la, ba, h1, h2, lea, lba⟩ := hLa.out rfl
          have hLa1 := Kept.mk h1
          have hLa2 := Kept.mk h2
          have leA : decide (n ≤ la) = true := decide_eq_true lea
          have lbA : decide (bg < ba) = true := decide_eq_true lba
          clear h1 h2 lea lba
          refine take_ (i := 0) (N := some 28) (v := ?_) (a' := ?_) (ms 1) rfl rfl (take_ofW HT_.out HW_.out (by kernel_rfl)) (fun _ _ _ h => h) (Or.inl ⟨by rfl, ?_⟩) hHeld ?_ ?_
          rotate_left
          · rintro w' ⟨⟨⟨a0, a1, a2, a3, a4⟩, ⟨b0, b1, b2, b3, b4⟩⟩, ⟨⟨c0, c1, c2, c3, c4⟩, ⟨d0, d1, d2, d3, d4⟩⟩, _⟩
            go_simp
            with_reducible rfl
          rotate_left
          · simp only [Act.put, List.setIfInBounds_toArray, List.set_cons_zero, List.set_cons_succ, i64_w, i32_w]
            rfl
          refine one_ (i := 1) (N := some 29) (ms 3) rfl rfl (one_of HT_.out (by kernel_rfl)) (by decide) (fun K hK => ?_)
          refine goes_ Try.func14 (by kernel_rfl) rfl #[.agg (Geo (b + 1) p y s t)] (by rfl) rfl rfl (by (try simp only [List.map_toArray, List.map_cons, List.map_nil]); first | done | rfl) ?_
          refine (hMa.out _).mono ?_
          rintro e wk ⟨rfl, hb⟩
          refine ⟨_, rfl, ?_⟩
          have hk := HK.step (HK.of hHeld) hb
          clear hb hHeld
          refine hK.out _ _ (HK.cells hk) (fun hHeld => ?_)
          clear hK K hk
          refine norm_ (a' := ?_) ?_ ?_
          rotate_left
          · show Act.put _ (some 29) _ = _
            simp only [Act.put, List.setIfInBounds_toArray, List.set_cons_zero, List.set_cons_succ, i64_w, i32_w]
            rfl
          refine pure_ (i := 2) (N := some 30) (v := ?_) (a' := ?_) (ms 7) rfl rfl (any_of HT_.out (by kernel_rfl)) (fun _ _ _ h => h) (Or.inl ⟨by rfl, ?_⟩) ?_ ?_
          rotate_left
          · intro w'
            go_simp
            with_reducible rfl
          rotate_left
          · simp only [Act.put, List.setIfInBounds_toArray, List.set_cons_zero, List.set_cons_succ, i64_w, i32_w]
            rfl
          refine pure_ (i := 3) (N := some 31) (v := ?_) (a' := ?_) (ms 15) rfl rfl (any_of HT_.out (by kernel_rfl)) (fun _ _ _ h => h) (Or.inl ⟨by rfl, ?_⟩) ?_ ?_
          rotate_left
          · intro w'
            go_simp
            with_reducible rfl
          rotate_left
          · simp only [Act.put, List.setIfInBounds_toArray, List.set_cons_zero, List.set_cons_succ, i64_w, i32_w]
            rfl
          refine pure_ (i := 6) (N := some 34) (v := ?_) (a' := ?_) (ms 79) rfl rfl (any_of HT_.out (by kernel_rfl)) (fun _ _ _ h => h) (Or.inl ⟨by rfl, ?_⟩) ?_ ?_
          rotate_left
          · intro w'
            go_simp
            with_reducible rfl
          rotate_left
          · simp only [Act.put, List.setIfInBounds_toArray, List.set_cons_zero, List.set_cons_succ, i64_w, i32_w]
            rfl
          refine take_ (i := 4) (N := some 32) (v := ?_) (a' := ?_) (ms 95) rfl rfl (take_ofW HT_.out HW_.out (by kernel_rfl)) (fun _ _ _ h => h) (Or.inl ⟨by rfl, ?_⟩) hHeld ?_ ?_
          rotate_left
          · rintro w' ⟨⟨⟨a0, a1, a2, a3, a4⟩, ⟨b0, b1, b2, b3, b4⟩⟩, ⟨⟨c0, c1, c2, c3, c4⟩, ⟨d0, d1, d2, d3, d4⟩⟩, _⟩
            go_simp
            with_reducible rfl
          rotate_left
          · simp only [Act.put, List.setIfInBounds_toArray, List.set_cons_zero, List.set_cons_succ, i64_w, i32_w]
            rfl
          refine one_ (i := 5) (N := some 33) (ms 127) rfl rfl (one_of HT_.out (by kernel_rfl)) (by decide) (fun K hK => ?_)
          refine goes_ Try.func16 (by kernel_rfl) rfl #[.agg (Geo (b + 1) p y s t)] (by rfl) rfl rfl (by (try simp only [List.map_toArray, List.map_cons, List.map_nil]); first | done | rfl) ?_
          refine (hLa1.out _).mono ?_
          rintro e wk ⟨rfl, hb⟩
          refine ⟨_, rfl, ?_⟩
          have hk := HK.step (HK.of hHeld) hb
          clear hb hHeld
          refine hK.out _ _ (HK.cells hk) (fun hHeld => ?_)
          clear hK K hk
          refine norm_ (a' := ?_) ?_ ?_
          rotate_left
          · show Act.put _ (some 33) _ = _
            simp only [Act.put, List.setIfInBounds_toArray, List.set_cons_zero, List.set_cons_succ, i64_w, i32_w]
            rfl
          refine pure_ (i := 7) (N := some 35) (v := ?_) (a' := ?_) (ms 255) rfl rfl (any_of HT_.out (by kernel_rfl)) (fun _ _ _ h => h) (Or.inl ⟨by rfl, ?_⟩) ?_ ?_
          rotate_left
          · intro w'
            go_simp
            with_reducible rfl
          rotate_left
          · simp only [Act.put, List.setIfInBounds_toArray, List.set_cons_zero, List.set_cons_succ, i64_w, i32_w]
            rfl
          refine pure_ (i := 8) (N := some 36) (v := ?_) (a' := ?_) (ms 511) rfl rfl (any_of HT_.out (by kernel_rfl)) (fun _ _ _ h => h) (Or.inl ⟨by rfl, ?_⟩) ?_ ?_
          rotate_left
          · intro w'
            go_simp
            with_reducible rfl
          rotate_left
          · simp only [Act.put, List.setIfInBounds_toArray, List.set_cons_zero, List.set_cons_succ, i64_w, i32_w]
            rfl
          refine take_ (i := 9) (N := some 37) (v := ?_) (a' := ?_) (ms 1023) rfl rfl (take_ofW HT_.out HW_.out (by kernel_rfl)) (fun _ _ _ h => h) (Or.inl ⟨by rfl, ?_⟩) hHeld ?_ ?_
          rotate_left
          · rintro w' ⟨⟨⟨a0, a1, a2, a3, a4⟩, ⟨b0, b1, b2, b3, b4⟩⟩, ⟨⟨c0, c1, c2, c3, c4⟩, ⟨d0, d1, d2, d3, d4⟩⟩, _⟩
            go_simp
            with_reducible rfl
          rotate_left
          · simp only [Act.put, List.setIfInBounds_toArray, List.set_cons_zero, List.set_cons_succ, i64_w, i32_w]
            rfl
          refine take_ (i := 11) (N := some 39) (v := ?_) (a' := ?_) (ms 3071) rfl rfl (take_ofW HT_.out HW_.out (by kernel_rfl)) (fun _ _ _ h => h) (Or.inl ⟨by rfl, ?_⟩) hHeld ?_ ?_
          rotate_left
          · rintro w' ⟨⟨⟨a0, a1, a2, a3, a4⟩, ⟨b0, b1, b2, b3, b4⟩⟩, ⟨⟨c0, c1, c2, c3, c4⟩, ⟨d0, d1, d2, d3, d4⟩⟩, _⟩
            go_simp
            with_reducible rfl
          rotate_left
          · simp only [Act.put, List.setIfInBounds_toArray, List.set_cons_zero, List.set_cons_succ, i64_w, i32_w]
            rfl
          refine one_ (i := 10) (N := some 38) (ms 4095) rfl rfl (one_of HT_.out (by kernel_rfl)) (by decide) (fun K hK => ?_)
          refine goes_ Try.func28 (by kernel_rfl) rfl #[.agg (Geo (b + 1) p y s t)] (by rfl) rfl rfl (by (try simp only [List.map_toArray, List.map_cons, List.map_nil]); first | done | rfl) ?_
          refine (hLa2.out _).mono ?_
          rintro e wk ⟨rfl, hb⟩
          refine ⟨_, rfl, ?_⟩
          have hk := HK.step (HK.of hHeld) hb
          clear hb hHeld
          refine hK.out _ _ (HK.cells hk) (fun hHeld => ?_)
          clear hK K hk
          refine norm_ (a' := ?_) ?_ ?_
          rotate_left
          · show Act.put _ (some 38) _ = _
            simp only [Act.put, List.setIfInBounds_toArray, List.set_cons_zero, List.set_cons_succ, i64_w, i32_w]
            rfl
          refine one_ (i := 12) (N := some 40) (ms 8191) rfl rfl (one_of HT_.out (by kernel_rfl)) (by decide) (fun K hK => ?_)
          refine goes_ Try.func28 (by kernel_rfl) rfl #[.agg (Geo b p y s t)] (by rfl) rfl rfl (by (try simp only [List.map_toArray, List.map_cons, List.map_nil]); first | done | rfl) ?_
          refine (hBg.out _).mono ?_
          rintro e wk ⟨rfl, hb⟩
          refine ⟨_, rfl, ?_⟩
          have hk := HK.step (HK.of hHeld) hb
          clear hb hHeld
          refine hK.out _ _ (HK.cells hk) (fun hHeld => ?_)
          clear hK K hk
          refine norm_ (a' := ?_) ?_ ?_
          rotate_left
          · show Act.put _ (some 40) _ = _
            simp only [Act.put, List.setIfInBounds_toArray, List.set_cons_zero, List.set_cons_succ, i64_w, i32_w]
            rfl
          refine pure_ (i := 13) (N := some 41) (v := ?_) (a' := ?_) (ms 16383) rfl rfl (any_of HT_.out (by kernel_rfl)) (fun _ _ _ h => h) (Or.inl ⟨by rfl, ?_⟩) ?_ ?_
          rotate_left
          · intro w'
            go_simp
            with_reducible rfl
          rotate_left
          · simp only [Act.put, List.setIfInBounds_toArray, List.set_cons_zero, List.set_cons_succ, i64_w, i32_w]
            rfl
          refine pure_ (i := 14) (N := some 42) (v := ?_) (a' := ?_) (ms 32767) rfl rfl (any_of HT_.out (by kernel_rfl)) (fun _ _ _ h => h) (Or.inl ⟨by rfl, ?_⟩) ?_ ?_
          rotate_left
          · intro w'
            go_simp
            with_reducible rfl
          rotate_left
          · simp only [Act.put, List.setIfInBounds_toArray, List.set_cons_zero, List.set_cons_succ, i64_w, i32_w]
            rfl
          refine pure_ (i := 15) (N := some 43) (v := ?_) (a' := ?_) (ms 65535) rfl rfl (any_of HT_.out (by kernel_rfl)) (fun _ _ _ h => h) (Or.inl ⟨by rfl, ?_⟩) ?_ ?_
          rotate_left
          · intro w'
            go_simp
            with_reducible rfl
          rotate_left
          · simp only [Act.put, List.setIfInBounds_toArray, List.set_cons_zero, List.set_cons_succ, i64_w, i32_w]
            rfl
          refine pure_ (i := 16) (N := some 44) (v := ?_) (a' := ?_) (ms 131071) rfl rfl (any_of HT_.out (by kernel_rfl)) (fun _ _ _ h => h) (Or.inl ⟨by rfl, ?_⟩) ?_ ?_
          rotate_left
          · intro w'
            go_simp
            with_reducible rfl
          rotate_left
          · simp only [Act.put, List.setIfInBounds_toArray, List.set_cons_zero, List.set_cons_succ, i64_w, i32_w]
            rfl
          refine norm_ ?_ (hJ (?_, ?_, ?_, ?_, ?_, ?_, ?_, ?_, ?_, ?_, ?_, ?_, ?_, ?_, ?_, ?_) _ hHeld)
          first | (simp only [putAll, Act.put, List.setIfInBounds_toArray, List.set_cons_zero, List.set_cons_succ]; done) | (simp only [putAll, Act.put, List.setIfInBounds_toArray, List.set_cons_zero, List.set_cons_succ]; rfl)
      rintro ⟨q28, q29, q30, q31, q32, q33, q34, q35, q36, q37, q38, q39, q40, q41, q42, q43⟩ w5 hHeld
      refine norm_ (a' := ?_) ?_ ?_
      rotate_left
      · first | (simp only [putAll, Act.put, List.setIfInBounds_toArray, List.set_cons_zero, List.set_cons_succ]; done) | (simp only [putAll, Act.put, List.setIfInBounds_toArray, List.set_cons_zero, List.set_cons_succ]; rfl)
      refine join_ (σ := Value × Value × Value × Value × Value × Value × Value × Value × Value × Value) 44 (ms 268435455) (fun s_ => [(45, s_.1), (46, s_.2.1), (47, s_.2.2.1), (48, s_.2.2.2.1), (49, s_.2.2.2.2.1), (50, s_.2.2.2.2.2.1), (51, s_.2.2.2.2.2.2.1), (52, s_.2.2.2.2.2.2.2.1), (53, s_.2.2.2.2.2.2.2.2.1), (54, s_.2.2.2.2.2.2.2.2.2), (55, .bool true)]) (fun _ w' => (Cl w' g3 (b + 1) p y s t ∧ Cl w' g4 b (p + 1) y s t) ∧ (Cl w' g5 b p y (s + 1) t ∧ Cl w' gb b p y s t) ∧ HK w g3 g4 g5 gb b p y s t w') ?_ ?_
      rotate_left
      · intro hJ
        rcases mb with _ | _
        · refine take_ (i := 17) (N := some 45) (v := ?_) (a' := ?_) (ms 262143) rfl rfl (take_ofW HT_.out HW_.out (by kernel_rfl)) (fun _ _ _ h => h) (Or.inl ⟨by rfl, ?_⟩) hHeld ?_ ?_
          rotate_left
          · rintro w' ⟨⟨⟨a0, a1, a2, a3, a4⟩, ⟨b0, b1, b2, b3, b4⟩⟩, ⟨⟨c0, c1, c2, c3, c4⟩, ⟨d0, d1, d2, d3, d4⟩⟩, _⟩
            go_simp
            with_reducible rfl
          rotate_left
          · simp only [Act.put, List.setIfInBounds_toArray, List.set_cons_zero, List.set_cons_succ, i64_w, i32_w]
            rfl
          refine one_ (i := 18) (N := some 46) (ms 524287) rfl rfl (one_of HT_.out (by kernel_rfl)) (by decide) (fun K hK => ?_)
          refine goes_ Try.func14 (by kernel_rfl) rfl #[.agg (Geo b (p + 1) y s t)] (by rfl) rfl rfl (by (try simp only [List.map_toArray, List.map_cons, List.map_nil]); first | done | rfl) ?_
          refine (hMb.out _).mono ?_
          rintro e wk ⟨rfl, hb⟩
          refine ⟨_, rfl, ?_⟩
          have hk := HK.step (HK.of hHeld) hb
          clear hb hHeld
          refine hK.out _ _ (HK.cells hk) (fun hHeld => ?_)
          clear hK K hk
          refine norm_ (a' := ?_) ?_ ?_
          rotate_left
          · show Act.put _ (some 46) _ = _
            simp only [Act.put, List.setIfInBounds_toArray, List.set_cons_zero, List.set_cons_succ, i64_w, i32_w]
            rfl
          refine pure_ (i := 19) (N := some 47) (v := ?_) (a' := ?_) (ms 1048575) rfl rfl (any_of HT_.out (by kernel_rfl)) (fun _ _ _ h => h) (Or.inl ⟨by rfl, ?_⟩) ?_ ?_
          rotate_left
          · intro w'
            go_simp
            with_reducible rfl
          rotate_left
          · simp only [Act.put, List.setIfInBounds_toArray, List.set_cons_zero, List.set_cons_succ, i64_w, i32_w]
            rfl
          refine pure_ (i := 20) (N := some 48) (v := ?_) (a' := ?_) (ms 2097151) rfl rfl (any_of HT_.out (by kernel_rfl)) (fun _ _ _ h => h) (Or.inl ⟨by rfl, ?_⟩) ?_ ?_
          rotate_left
          · intro w'
            go_simp
            with_reducible rfl
          rotate_left
          · simp only [Act.put, List.setIfInBounds_toArray, List.set_cons_zero, List.set_cons_succ, i64_w, i32_w]
            rfl
          refine pure_ (i := 21) (N := some 49) (v := undef) (a' := ?_) (ms 4194303) rfl rfl (any_of HT_.out (by kernel_rfl)) (fun _ _ _ h => h) (Or.inr ⟨by rfl, rfl⟩) ?_ ?_
          rotate_left
          · simp only [Act.put, List.setIfInBounds_toArray, List.set_cons_zero, List.set_cons_succ, i64_w, i32_w]
            rfl
          refine pure_ (i := 22) (N := some 50) (v := undef) (a' := ?_) (ms 8388607) rfl rfl (any_of HT_.out (by kernel_rfl)) (fun _ _ _ h => h) (Or.inr ⟨by rfl, rfl⟩) ?_ ?_
          rotate_left
          · simp only [Act.put, List.setIfInBounds_toArray, List.set_cons_zero, List.set_cons_succ, i64_w, i32_w]
            rfl
          refine pure_ (i := 23) (N := some 51) (v := undef) (a' := ?_) (ms 16777215) rfl rfl (any_of HT_.out (by kernel_rfl)) (fun _ _ _ h => h) (Or.inr ⟨by rfl, rfl⟩) ?_ ?_
          rotate_left
          · simp only [Act.put, List.setIfInBounds_toArray, List.set_cons_zero, List.set_cons_succ, i64_w, i32_w]
            rfl
          refine pure_ (i := 24) (N := some 52) (v := undef) (a' := ?_) (ms 33554431) rfl rfl (any_of HT_.out (by kernel_rfl)) (fun _ _ _ h => h) (Or.inr ⟨by rfl, rfl⟩) ?_ ?_
          rotate_left
          · simp only [Act.put, List.setIfInBounds_toArray, List.set_cons_zero, List.set_cons_succ, i64_w, i32_w]
            rfl
          refine pure_ (i := 25) (N := some 53) (v := ?_) (a' := ?_) (ms 67108863) rfl rfl (any_of HT_.out (by kernel_rfl)) (fun _ _ _ h => h) (Or.inl ⟨by rfl, ?_⟩) ?_ ?_
          rotate_left
          · intro w'
            go_simp
            with_reducible rfl
          rotate_left
          · simp only [Act.put, List.setIfInBounds_toArray, List.set_cons_zero, List.set_cons_succ, i64_w, i32_w]
            rfl
          refine pure_ (i := 26) (N := some 54) (v := ?_) (a' := ?_) (ms 134217727) rfl rfl (any_of HT_.out (by kernel_rfl)) (fun _ _ _ h => h) (Or.inl ⟨by rfl, ?_⟩) ?_ ?_
          rotate_left
          · intro w'
            go_simp
            with_reducible rfl
          rotate_left
          · simp only [Act.put, List.setIfInBounds_toArray, List.set_cons_zero, List.set_cons_succ, i64_w, i32_w]
            rfl
          refine pure_ (i := 27) (N := some 55) (v := ?_) (a' := ?_) (ms 268435455) rfl rfl (any_of HT_.out (by kernel_rfl)) (fun _ _ _ h => h) (Or.inl ⟨by rfl, ?_⟩) ?_ ?_
          rotate_left
          · intro w'
            go_simp
            with_reducible rfl
          rotate_left
          · simp only [Act.put, List.setIfInBounds_toArray, List.set_cons_zero, List.set_cons_succ, i64_w, i32_w]
            rfl
          refine norm_ ?_ (hJ (?_, ?_, ?_, ?_, ?_, ?_, ?_, ?_, ?_, ?_) _ hHeld)
          first | (simp only [putAll, Act.put, List.setIfInBounds_toArray, List.set_cons_zero, List.set_cons_succ]; done) | (simp only [putAll, Act.put, List.setIfInBounds_toArray, List.set_cons_zero, List.set_cons_succ]; rfl)
        · obtain ⟨lb, h1, leb⟩ := hLb.out rfl
          have hLb1 := Kept.mk h1
          have leB : decide (n ≤ lb) = true := decide_eq_true leb
          clear h1 leb
          refine take_ (i := 17) (N := some 45) (v := ?_) (a' := ?_) (ms 262143) rfl rfl (take_ofW HT_.out HW_.out (by kernel_rfl)) (fun _ _ _ h => h) (Or.inl ⟨by rfl, ?_⟩) hHeld ?_ ?_
          rotate_left
          · rintro w' ⟨⟨⟨a0, a1, a2, a3, a4⟩, ⟨b0, b1, b2, b3, b4⟩⟩, ⟨⟨c0, c1, c2, c3, c4⟩, ⟨d0, d1, d2, d3, d4⟩⟩, _⟩
            go_simp
            with_reducible rfl
          rotate_left
          · simp only [Act.put, List.setIfInBounds_toArray, List.set_cons_zero, List.set_cons_succ, i64_w, i32_w]
            rfl
          refine one_ (i := 18) (N := some 46) (ms 524287) rfl rfl (one_of HT_.out (by kernel_rfl)) (by decide) (fun K hK => ?_)
          refine goes_ Try.func14 (by kernel_rfl) rfl #[.agg (Geo b (p + 1) y s t)] (by rfl) rfl rfl (by (try simp only [List.map_toArray, List.map_cons, List.map_nil]); first | done | rfl) ?_
          refine (hMb.out _).mono ?_
          rintro e wk ⟨rfl, hb⟩
          refine ⟨_, rfl, ?_⟩
          have hk := HK.step (HK.of hHeld) hb
          clear hb hHeld
          refine hK.out _ _ (HK.cells hk) (fun hHeld => ?_)
          clear hK K hk
          refine norm_ (a' := ?_) ?_ ?_
          rotate_left
          · show Act.put _ (some 46) _ = _
            simp only [Act.put, List.setIfInBounds_toArray, List.set_cons_zero, List.set_cons_succ, i64_w, i32_w]
            rfl
          refine pure_ (i := 19) (N := some 47) (v := ?_) (a' := ?_) (ms 1048575) rfl rfl (any_of HT_.out (by kernel_rfl)) (fun _ _ _ h => h) (Or.inl ⟨by rfl, ?_⟩) ?_ ?_
          rotate_left
          · intro w'
            go_simp
            with_reducible rfl
          rotate_left
          · simp only [Act.put, List.setIfInBounds_toArray, List.set_cons_zero, List.set_cons_succ, i64_w, i32_w]
            rfl
          refine pure_ (i := 20) (N := some 48) (v := ?_) (a' := ?_) (ms 2097151) rfl rfl (any_of HT_.out (by kernel_rfl)) (fun _ _ _ h => h) (Or.inl ⟨by rfl, ?_⟩) ?_ ?_
          rotate_left
          · intro w'
            go_simp
            with_reducible rfl
          rotate_left
          · simp only [Act.put, List.setIfInBounds_toArray, List.set_cons_zero, List.set_cons_succ, i64_w, i32_w]
            rfl
          refine pure_ (i := 23) (N := some 51) (v := ?_) (a' := ?_) (ms 10485759) rfl rfl (any_of HT_.out (by kernel_rfl)) (fun _ _ _ h => h) (Or.inl ⟨by rfl, ?_⟩) ?_ ?_
          rotate_left
          · intro w'
            go_simp
            with_reducible rfl
          rotate_left
          · simp only [Act.put, List.setIfInBounds_toArray, List.set_cons_zero, List.set_cons_succ, i64_w, i32_w]
            rfl
          refine take_ (i := 21) (N := some 49) (v := ?_) (a' := ?_) (ms 12582911) rfl rfl (take_ofW HT_.out HW_.out (by kernel_rfl)) (fun _ _ _ h => h) (Or.inl ⟨by rfl, ?_⟩) hHeld ?_ ?_
          rotate_left
          · rintro w' ⟨⟨⟨a0, a1, a2, a3, a4⟩, ⟨b0, b1, b2, b3, b4⟩⟩, ⟨⟨c0, c1, c2, c3, c4⟩, ⟨d0, d1, d2, d3, d4⟩⟩, _⟩
            go_simp
            with_reducible rfl
          rotate_left
          · simp only [Act.put, List.setIfInBounds_toArray, List.set_cons_zero, List.set_cons_succ, i64_w, i32_w]
            rfl
          refine one_ (i := 22) (N := some 50) (ms 16777215) rfl rfl (one_of HT_.out (by kernel_rfl)) (by decide) (fun K hK => ?_)
          refine goes_ Try.func16 (by kernel_rfl) rfl #[.agg (Geo b (p + 1) y s t)] (by rfl) rfl rfl (by (try simp only [List.map_toArray, List.map_cons, List.map_nil]); first | done | rfl) ?_
          refine (hLb1.out _).mono ?_
          rintro e wk ⟨rfl, hb⟩
          refine ⟨_, rfl, ?_⟩
          have hk := HK.step (HK.of hHeld) hb
          clear hb hHeld
          refine hK.out _ _ (HK.cells hk) (fun hHeld => ?_)
          clear hK K hk
          refine norm_ (a' := ?_) ?_ ?_
          rotate_left
          · show Act.put _ (some 50) _ = _
            simp only [Act.put, List.setIfInBounds_toArray, List.set_cons_zero, List.set_cons_succ, i64_w, i32_w]
            rfl
          refine pure_ (i := 24) (N := some 52) (v := ?_) (a' := ?_) (ms 33554431) rfl rfl (any_of HT_.out (by kernel_rfl)) (fun _ _ _ h => h) (Or.inl ⟨by rfl, ?_⟩) ?_ ?_
          rotate_left
          · intro w'
            go_simp
            with_reducible rfl
          rotate_left
          · simp only [Act.put, List.setIfInBounds_toArray, List.set_cons_zero, List.set_cons_succ, i64_w, i32_w]
            rfl
          refine pure_ (i := 25) (N := some 53) (v := ?_) (a' := ?_) (ms 67108863) rfl rfl (any_of HT_.out (by kernel_rfl)) (fun _ _ _ h => h) (Or.inl ⟨by rfl, ?_⟩) ?_ ?_
          rotate_left
          · intro w'
            go_simp
            with_reducible rfl
          rotate_left
          · simp only [Act.put, List.setIfInBounds_toArray, List.set_cons_zero, List.set_cons_succ, i64_w, i32_w]
            rfl
          refine pure_ (i := 26) (N := some 54) (v := ?_) (a' := ?_) (ms 134217727) rfl rfl (any_of HT_.out (by kernel_rfl)) (fun _ _ _ h => h) (Or.inl ⟨by rfl, ?_⟩) ?_ ?_
          rotate_left
          · intro w'
            go_simp
            with_reducible rfl
          rotate_left
          · simp only [Act.put, List.setIfInBounds_toArray, List.set_cons_zero, List.set_cons_succ, i64_w, i32_w]
            rfl
          refine pure_ (i := 27) (N := some 55) (v := ?_) (a' := ?_) (ms 268435455) rfl rfl (any_of HT_.out (by kernel_rfl)) (fun _ _ _ h => h) (Or.inl ⟨by rfl, ?_⟩) ?_ ?_
          rotate_left
          · intro w'
            go_simp
            with_reducible rfl
          rotate_left
          · simp only [Act.put, List.setIfInBounds_toArray, List.set_cons_zero, List.set_cons_succ, i64_w, i32_w]
            rfl
          refine norm_ ?_ (hJ (?_, ?_, ?_, ?_, ?_, ?_, ?_, ?_, ?_, ?_) _ hHeld)
          first | (simp only [putAll, Act.put, List.setIfInBounds_toArray, List.set_cons_zero, List.set_cons_succ]; done) | (simp only [putAll, Act.put, List.setIfInBounds_toArray, List.set_cons_zero, List.set_cons_succ]; rfl)
      rintro ⟨q45, q46, q47, q48, q49, q50, q51, q52, q53, q54⟩ w5 hHeld
      refine norm_ (a' := ?_) ?_ ?_
      rotate_left
      · first | (simp only [putAll, Act.put, List.setIfInBounds_toArray, List.set_cons_zero, List.set_cons_succ]; done) | (simp only [putAll, Act.put, List.setIfInBounds_toArray, List.set_cons_zero, List.set_cons_succ]; rfl)
      refine join_ (σ := Value × Value × Value × Value × Value × Value × Value × Value × Value × Value) 33 (ms 549755813887) (fun s_ => [(56, s_.1), (57, s_.2.1), (58, s_.2.2.1), (59, s_.2.2.2.1), (60, s_.2.2.2.2.1), (61, s_.2.2.2.2.2.1), (62, s_.2.2.2.2.2.2.1), (63, s_.2.2.2.2.2.2.2.1), (64, s_.2.2.2.2.2.2.2.2.1), (65, s_.2.2.2.2.2.2.2.2.2), (66, .bool true)]) (fun _ w' => (Cl w' g3 (b + 1) p y s t ∧ Cl w' g4 b (p + 1) y s t) ∧ (Cl w' g5 b p y (s + 1) t ∧ Cl w' gb b p y s t) ∧ HK w g3 g4 g5 gb b p y s t w') ?_ ?_
      rotate_left
      · intro hJ
        rcases mc with _ | _
        · refine take_ (i := 28) (N := some 56) (v := ?_) (a' := ?_) (ms 536870911) rfl rfl (take_ofW HT_.out HW_.out (by kernel_rfl)) (fun _ _ _ h => h) (Or.inl ⟨by rfl, ?_⟩) hHeld ?_ ?_
          rotate_left
          · rintro w' ⟨⟨⟨a0, a1, a2, a3, a4⟩, ⟨b0, b1, b2, b3, b4⟩⟩, ⟨⟨c0, c1, c2, c3, c4⟩, ⟨d0, d1, d2, d3, d4⟩⟩, _⟩
            go_simp
            with_reducible rfl
          rotate_left
          · simp only [Act.put, List.setIfInBounds_toArray, List.set_cons_zero, List.set_cons_succ, i64_w, i32_w]
            rfl
          refine one_ (i := 29) (N := some 57) (ms 1073741823) rfl rfl (one_of HT_.out (by kernel_rfl)) (by decide) (fun K hK => ?_)
          refine goes_ Try.func14 (by kernel_rfl) rfl #[.agg (Geo b p y (s + 1) t)] (by rfl) rfl rfl (by (try simp only [List.map_toArray, List.map_cons, List.map_nil]); first | done | rfl) ?_
          refine (hMc.out _).mono ?_
          rintro e wk ⟨rfl, hb⟩
          refine ⟨_, rfl, ?_⟩
          have hk := HK.step (HK.of hHeld) hb
          clear hb hHeld
          refine hK.out _ _ (HK.cells hk) (fun hHeld => ?_)
          clear hK K hk
          refine norm_ (a' := ?_) ?_ ?_
          rotate_left
          · show Act.put _ (some 57) _ = _
            simp only [Act.put, List.setIfInBounds_toArray, List.set_cons_zero, List.set_cons_succ, i64_w, i32_w]
            rfl
          refine pure_ (i := 30) (N := some 58) (v := ?_) (a' := ?_) (ms 2147483647) rfl rfl (any_of HT_.out (by kernel_rfl)) (fun _ _ _ h => h) (Or.inl ⟨by rfl, ?_⟩) ?_ ?_
          rotate_left
          · intro w'
            go_simp
            with_reducible rfl
          rotate_left
          · simp only [Act.put, List.setIfInBounds_toArray, List.set_cons_zero, List.set_cons_succ, i64_w, i32_w]
            rfl
          refine pure_ (i := 31) (N := some 59) (v := ?_) (a' := ?_) (ms 4294967295) rfl rfl (any_of HT_.out (by kernel_rfl)) (fun _ _ _ h => h) (Or.inl ⟨by rfl, ?_⟩) ?_ ?_
          rotate_left
          · intro w'
            go_simp
            with_reducible rfl
          rotate_left
          · simp only [Act.put, List.setIfInBounds_toArray, List.set_cons_zero, List.set_cons_succ, i64_w, i32_w]
            rfl
          refine pure_ (i := 32) (N := some 60) (v := undef) (a' := ?_) (ms 8589934591) rfl rfl (any_of HT_.out (by kernel_rfl)) (fun _ _ _ h => h) (Or.inr ⟨by rfl, rfl⟩) ?_ ?_
          rotate_left
          · simp only [Act.put, List.setIfInBounds_toArray, List.set_cons_zero, List.set_cons_succ, i64_w, i32_w]
            rfl
          refine pure_ (i := 33) (N := some 61) (v := undef) (a' := ?_) (ms 17179869183) rfl rfl (any_of HT_.out (by kernel_rfl)) (fun _ _ _ h => h) (Or.inr ⟨by rfl, rfl⟩) ?_ ?_
          rotate_left
          · simp only [Act.put, List.setIfInBounds_toArray, List.set_cons_zero, List.set_cons_succ, i64_w, i32_w]
            rfl
          refine pure_ (i := 34) (N := some 62) (v := undef) (a' := ?_) (ms 34359738367) rfl rfl (any_of HT_.out (by kernel_rfl)) (fun _ _ _ h => h) (Or.inr ⟨by rfl, rfl⟩) ?_ ?_
          rotate_left
          · simp only [Act.put, List.setIfInBounds_toArray, List.set_cons_zero, List.set_cons_succ, i64_w, i32_w]
            rfl
          refine pure_ (i := 35) (N := some 63) (v := undef) (a' := ?_) (ms 68719476735) rfl rfl (any_of HT_.out (by kernel_rfl)) (fun _ _ _ h => h) (Or.inr ⟨by rfl, rfl⟩) ?_ ?_
          rotate_left
          · simp only [Act.put, List.setIfInBounds_toArray, List.set_cons_zero, List.set_cons_succ, i64_w, i32_w]
            rfl
          refine pure_ (i := 36) (N := some 64) (v := ?_) (a' := ?_) (ms 137438953471) rfl rfl (any_of HT_.out (by kernel_rfl)) (fun _ _ _ h => h) (Or.inl ⟨by rfl, ?_⟩) ?_ ?_
          rotate_left
          · intro w'
            go_simp
            with_reducible rfl
          rotate_left
          · simp only [Act.put, List.setIfInBounds_toArray, List.set_cons_zero, List.set_cons_succ, i64_w, i32_w]
            rfl
          refine pure_ (i := 37) (N := some 65) (v := ?_) (a' := ?_) (ms 274877906943) rfl rfl (any_of HT_.out (by kernel_rfl)) (fun _ _ _ h => h) (Or.inl ⟨by rfl, ?_⟩) ?_ ?_
          rotate_left
          · intro w'
            go_simp
            with_reducible rfl
          rotate_left
          · simp only [Act.put, List.setIfInBounds_toArray, List.set_cons_zero, List.set_cons_succ, i64_w, i32_w]
            rfl
          refine pure_ (i := 38) (N := some 66) (v := ?_) (a' := ?_) (ms 549755813887) rfl rfl (any_of HT_.out (by kernel_rfl)) (fun _ _ _ h => h) (Or.inl ⟨by rfl, ?_⟩) ?_ ?_
          rotate_left
          · intro w'
            go_simp
            with_reducible rfl
          rotate_left
          · simp only [Act.put, List.setIfInBounds_toArray, List.set_cons_zero, List.set_cons_succ, i64_w, i32_w]
            rfl
          refine norm_ ?_ (hJ (?_, ?_, ?_, ?_, ?_, ?_, ?_, ?_, ?_, ?_) _ hHeld)
          first | (simp only [putAll, Act.put, List.setIfInBounds_toArray, List.set_cons_zero, List.set_cons_succ]; done) | (simp only [putAll, Act.put, List.setIfInBounds_toArray, List.set_cons_zero, List.set_cons_succ]; rfl)
        · obtain ⟨lc, h1, lec⟩ := hLc.out rfl
          have hLc1 := Kept.mk h1
          have leC : decide (lc ≤ n) = true := decide_eq_true lec
          clear h1 lec
          refine take_ (i := 28) (N := some 56) (v := ?_) (a' := ?_) (ms 536870911) rfl rfl (take_ofW HT_.out HW_.out (by kernel_rfl)) (fun _ _ _ h => h) (Or.inl ⟨by rfl, ?_⟩) hHeld ?_ ?_
          rotate_left
          · rintro w' ⟨⟨⟨a0, a1, a2, a3, a4⟩, ⟨b0, b1, b2, b3, b4⟩⟩, ⟨⟨c0, c1, c2, c3, c4⟩, ⟨d0, d1, d2, d3, d4⟩⟩, _⟩
            go_simp
            with_reducible rfl
          rotate_left
          · simp only [Act.put, List.setIfInBounds_toArray, List.set_cons_zero, List.set_cons_succ, i64_w, i32_w]
            rfl
          refine one_ (i := 29) (N := some 57) (ms 1073741823) rfl rfl (one_of HT_.out (by kernel_rfl)) (by decide) (fun K hK => ?_)
          refine goes_ Try.func14 (by kernel_rfl) rfl #[.agg (Geo b p y (s + 1) t)] (by rfl) rfl rfl (by (try simp only [List.map_toArray, List.map_cons, List.map_nil]); first | done | rfl) ?_
          refine (hMc.out _).mono ?_
          rintro e wk ⟨rfl, hb⟩
          refine ⟨_, rfl, ?_⟩
          have hk := HK.step (HK.of hHeld) hb
          clear hb hHeld
          refine hK.out _ _ (HK.cells hk) (fun hHeld => ?_)
          clear hK K hk
          refine norm_ (a' := ?_) ?_ ?_
          rotate_left
          · show Act.put _ (some 57) _ = _
            simp only [Act.put, List.setIfInBounds_toArray, List.set_cons_zero, List.set_cons_succ, i64_w, i32_w]
            rfl
          refine pure_ (i := 30) (N := some 58) (v := ?_) (a' := ?_) (ms 2147483647) rfl rfl (any_of HT_.out (by kernel_rfl)) (fun _ _ _ h => h) (Or.inl ⟨by rfl, ?_⟩) ?_ ?_
          rotate_left
          · intro w'
            go_simp
            with_reducible rfl
          rotate_left
          · simp only [Act.put, List.setIfInBounds_toArray, List.set_cons_zero, List.set_cons_succ, i64_w, i32_w]
            rfl
          refine pure_ (i := 31) (N := some 59) (v := ?_) (a' := ?_) (ms 4294967295) rfl rfl (any_of HT_.out (by kernel_rfl)) (fun _ _ _ h => h) (Or.inl ⟨by rfl, ?_⟩) ?_ ?_
          rotate_left
          · intro w'
            go_simp
            with_reducible rfl
          rotate_left
          · simp only [Act.put, List.setIfInBounds_toArray, List.set_cons_zero, List.set_cons_succ, i64_w, i32_w]
            rfl
          refine pure_ (i := 34) (N := some 62) (v := ?_) (a' := ?_) (ms 21474836479) rfl rfl (any_of HT_.out (by kernel_rfl)) (fun _ _ _ h => h) (Or.inl ⟨by rfl, ?_⟩) ?_ ?_
          rotate_left
          · intro w'
            go_simp
            with_reducible rfl
          rotate_left
          · simp only [Act.put, List.setIfInBounds_toArray, List.set_cons_zero, List.set_cons_succ, i64_w, i32_w]
            rfl
          refine take_ (i := 32) (N := some 60) (v := ?_) (a' := ?_) (ms 25769803775) rfl rfl (take_ofW HT_.out HW_.out (by kernel_rfl)) (fun _ _ _ h => h) (Or.inl ⟨by rfl, ?_⟩) hHeld ?_ ?_
          rotate_left
          · rintro w' ⟨⟨⟨a0, a1, a2, a3, a4⟩, ⟨b0, b1, b2, b3, b4⟩⟩, ⟨⟨c0, c1, c2, c3, c4⟩, ⟨d0, d1, d2, d3, d4⟩⟩, _⟩
            go_simp
            with_reducible rfl
          rotate_left
          · simp only [Act.put, List.setIfInBounds_toArray, List.set_cons_zero, List.set_cons_succ, i64_w, i32_w]
            rfl
          refine one_ (i := 33) (N := some 61) (ms 34359738367) rfl rfl (one_of HT_.out (by kernel_rfl)) (by decide) (fun K hK => ?_)
          refine goes_ Try.func16 (by kernel_rfl) rfl #[.agg (Geo b p y (s + 1) t)] (by rfl) rfl rfl (by (try simp only [List.map_toArray, List.map_cons, List.map_nil]); first | done | rfl) ?_
          refine (hLc1.out _).mono ?_
          rintro e wk ⟨rfl, hb⟩
          refine ⟨_, rfl, ?_⟩
          have hk := HK.step (HK.of hHeld) hb
          clear hb hHeld
          refine hK.out _ _ (HK.cells hk) (fun hHeld => ?_)
          clear hK K hk
          refine norm_ (a' := ?_) ?_ ?_
          rotate_left
          · show Act.put _ (some 61) _ = _
            simp only [Act.put, List.setIfInBounds_toArray, List.set_cons_zero, List.set_cons_succ, i64_w, i32_w]
            rfl
          refine pure_ (i := 35) (N := some 63) (v := ?_) (a' := ?_) (ms 68719476735) rfl rfl (any_of HT_.out (by kernel_rfl)) (fun _ _ _ h => h) (Or.inl ⟨by rfl, ?_⟩) ?_ ?_
          rotate_left
          · intro w'
            go_simp
            with_reducible rfl
          rotate_left
          · simp only [Act.put, List.setIfInBounds_toArray, List.set_cons_zero, List.set_cons_succ, i64_w, i32_w]
            rfl
          refine pure_ (i := 36) (N := some 64) (v := ?_) (a' := ?_) (ms 137438953471) rfl rfl (any_of HT_.out (by kernel_rfl)) (fun _ _ _ h => h) (Or.inl ⟨by rfl, ?_⟩) ?_ ?_
          rotate_left
          · intro w'
            go_simp
            with_reducible rfl
          rotate_left
          · simp only [Act.put, List.setIfInBounds_toArray, List.set_cons_zero, List.set_cons_succ, i64_w, i32_w]
            rfl
          refine pure_ (i := 37) (N := some 65) (v := ?_) (a' := ?_) (ms 274877906943) rfl rfl (any_of HT_.out (by kernel_rfl)) (fun _ _ _ h => h) (Or.inl ⟨by rfl, ?_⟩) ?_ ?_
          rotate_left
          · intro w'
            go_simp
            with_reducible rfl
          rotate_left
          · simp only [Act.put, List.setIfInBounds_toArray, List.set_cons_zero, List.set_cons_succ, i64_w, i32_w]
            rfl
          refine pure_ (i := 38) (N := some 66) (v := ?_) (a' := ?_) (ms 549755813887) rfl rfl (any_of HT_.out (by kernel_rfl)) (fun _ _ _ h => h) (Or.inl ⟨by rfl, ?_⟩) ?_ ?_
          rotate_left
          · intro w'
            go_simp
            with_reducible rfl
          rotate_left
          · simp only [Act.put, List.setIfInBounds_toArray, List.set_cons_zero, List.set_cons_succ, i64_w, i32_w]
            rfl
          refine norm_ ?_ (hJ (?_, ?_, ?_, ?_, ?_, ?_, ?_, ?_, ?_, ?_) _ hHeld)
          first | (simp only [putAll, Act.put, List.setIfInBounds_toArray, List.set_cons_zero, List.set_cons_succ]; done) | (simp only [putAll, Act.put, List.setIfInBounds_toArray, List.set_cons_zero, List.set_cons_succ]; rfl)
      rintro ⟨q56, q57, q58, q59, q60, q61, q62, q63, q64, q65⟩ w5 hHeld
      refine norm_ (a' := ?_) ?_ ?_
      rotate_left
      · first | (simp only [putAll, Act.put, List.setIfInBounds_toArray, List.set_cons_zero, List.set_cons_succ]; done) | (simp only [putAll, Act.put, List.setIfInBounds_toArray, List.set_cons_zero, List.set_cons_succ]; rfl)
      refine pure_ (i := 39) (N := some 67) (v := ?_) (a' := ?_) (ms 1099511627775) rfl rfl (any_of HT_.out (by kernel_rfl)) (fun _ _ _ h => h) (Or.inl ⟨by rfl, ?_⟩) ?_ ?_
      rotate_left
      · intro w'
        go_simp
        with_reducible rfl
      rotate_left
      · simp only [Act.put, List.setIfInBounds_toArray, List.set_cons_zero, List.set_cons_succ, i64_w, i32_w]
        rfl
      refine pure_ (i := 40) (N := some 68) (v := ?_) (a' := ?_) (ms 2199023255551) rfl rfl (any_of HT_.out (by kernel_rfl)) (fun _ _ _ h => h) (Or.inl ⟨by rfl, ?_⟩) ?_ ?_
      rotate_left
      · intro w'
        go_simp
        with_reducible rfl
      rotate_left
      · simp only [Act.put, List.setIfInBounds_toArray, List.set_cons_zero, List.set_cons_succ, i64_w, i32_w]
        rfl
      refine pure_ (i := 41) (N := some 69) (v := ?_) (a' := ?_) (ms 4398046511103) rfl rfl (any_of HT_.out (by kernel_rfl)) (fun _ _ _ h => h) (Or.inl ⟨by rfl, ?_⟩) ?_ ?_
      rotate_left
      · intro w'
        go_simp
        with_reducible rfl
      rotate_left
      · simp only [Act.put, List.setIfInBounds_toArray, List.set_cons_zero, List.set_cons_succ, i64_w, i32_w]
        rfl
      refine pure_ (i := 42) (N := some 70) (v := ?_) (a' := ?_) (ms 8796093022207) rfl rfl (any_of HT_.out (by kernel_rfl)) (fun _ _ _ h => h) (Or.inl ⟨by rfl, ?_⟩) ?_ ?_
      rotate_left
      · intro w'
        go_simp
        with_reducible rfl
      rotate_left
      · simp only [Act.put, List.setIfInBounds_toArray, List.set_cons_zero, List.set_cons_succ, i64_w, i32_w]
        rfl
      refine pure_ (i := 44) (N := some 72) (v := ?_) (a' := ?_) (ms 26388279066623) rfl rfl (any_of HT_.out (by kernel_rfl)) (fun _ _ _ h => h) (Or.inl ⟨by rfl, ?_⟩) ?_ ?_
      rotate_left
      · intro w'
        go_simp
        with_reducible rfl
      rotate_left
      · simp only [Act.put, List.setIfInBounds_toArray, List.set_cons_zero, List.set_cons_succ, i64_w, i32_w]
        rfl
      refine pure_ (i := 48) (N := some 76) (v := ?_) (a' := ?_) (ms 307863255777279) rfl rfl (any_of HT_.out (by kernel_rfl)) (fun _ _ _ h => h) (Or.inl ⟨by rfl, ?_⟩) ?_ ?_
      rotate_left
      · intro w'
        go_simp
        with_reducible rfl
      rotate_left
      · simp only [Act.put, List.setIfInBounds_toArray, List.set_cons_zero, List.set_cons_succ, i64_w, i32_w]
        rfl
      refine take_ (i := 43) (N := some 71) (v := ?_) (a' := ?_) (ms 316659348799487) rfl rfl (take_ofW HT_.out HW_.out (by kernel_rfl)) (fun _ _ _ h => h) (Or.inl ⟨by rfl, ?_⟩) hHeld ?_ ?_
      rotate_left
      · rintro w' ⟨⟨⟨a0, a1, a2, a3, a4⟩, ⟨b0, b1, b2, b3, b4⟩⟩, ⟨⟨c0, c1, c2, c3, c4⟩, ⟨d0, d1, d2, d3, d4⟩⟩, _⟩
        go_simp
        with_reducible rfl
      rotate_left
      · simp only [Act.put, List.setIfInBounds_toArray, List.set_cons_zero, List.set_cons_succ, i64_w, i32_w]
        rfl
      refine take_ (i := 45) (N := some 73) (v := ?_) (a' := ?_) (ms 351843720888319) rfl rfl (take_ofW HT_.out HW_.out (by kernel_rfl)) (fun _ _ _ h => h) (Or.inl ⟨by rfl, ?_⟩) hHeld ?_ ?_
      rotate_left
      · rintro w' ⟨⟨⟨a0, a1, a2, a3, a4⟩, ⟨b0, b1, b2, b3, b4⟩⟩, ⟨⟨c0, c1, c2, c3, c4⟩, ⟨d0, d1, d2, d3, d4⟩⟩, _⟩
        go_simp
        with_reducible rfl
      rotate_left
      · simp only [Act.put, List.setIfInBounds_toArray, List.set_cons_zero, List.set_cons_succ, i64_w, i32_w]
        rfl
      refine pure_ (i := 46) (N := some 74) (v := ?_) (a' := ?_) (ms 422212465065983) rfl rfl (any_of HT_.out (by kernel_rfl)) (fun _ _ _ h => h) (Or.inl ⟨by rfl, ?_⟩) ?_ ?_
      rotate_left
      · intro w'
        go_simp
        with_reducible rfl
      rotate_left
      · simp only [Act.put, List.setIfInBounds_toArray, List.set_cons_zero, List.set_cons_succ, i64_w, i32_w]
        rfl
      refine pure_ (i := 47) (N := some 75) (v := ?_) (a' := ?_) (ms 562949953421311) rfl rfl (any_of HT_.out (by kernel_rfl)) (fun _ _ _ h => h) (Or.inl ⟨by rfl, ?_⟩) ?_ ?_
      rotate_left
      · intro w'
        go_simp
        with_reducible rfl
      rotate_left
      · simp only [Act.put, List.setIfInBounds_toArray, List.set_cons_zero, List.set_cons_succ, i64_w, i32_w]
        rfl
      refine take_ (i := 49) (N := some 77) (v := ?_) (a' := ?_) (ms 1125899906842623) rfl rfl (take_ofW HT_.out HW_.out (by kernel_rfl)) (fun _ _ _ h => h) (Or.inl ⟨by rfl, ?_⟩) hHeld ?_ ?_
      rotate_left
      · rintro w' ⟨⟨⟨a0, a1, a2, a3, a4⟩, ⟨b0, b1, b2, b3, b4⟩⟩, ⟨⟨c0, c1, c2, c3, c4⟩, ⟨d0, d1, d2, d3, d4⟩⟩, _⟩
        go_simp
        with_reducible rfl
      rotate_left
      · simp only [Act.put, List.setIfInBounds_toArray, List.set_cons_zero, List.set_cons_succ, i64_w, i32_w]
        rfl
      refine pure_ (i := 50) (N := some 78) (v := ?_) (a' := ?_) (ms 2251799813685247) rfl rfl (any_of HT_.out (by kernel_rfl)) (fun _ _ _ h => h) (Or.inl ⟨by rfl, ?_⟩) ?_ ?_
      rotate_left
      · intro w'
        go_simp
        with_reducible rfl
      rotate_left
      · simp only [Act.put, List.setIfInBounds_toArray, List.set_cons_zero, List.set_cons_succ, i64_w, i32_w]
        rfl
      refine pure_ (i := 51) (N := some 79) (v := ?_) (a' := ?_) (ms 4503599627370495) rfl rfl (any_of HT_.out (by kernel_rfl)) (fun _ _ _ h => h) (Or.inl ⟨by rfl, ?_⟩) ?_ ?_
      rotate_left
      · intro w'
        go_simp
        with_reducible rfl
      rotate_left
      · simp only [Act.put, List.setIfInBounds_toArray, List.set_cons_zero, List.set_cons_succ, i64_w, i32_w]
        rfl
      refine pure_ (i := 52) (N := some 80) (v := ?_) (a' := ?_) (ms 9007199254740991) rfl rfl (any_of HT_.out (by kernel_rfl)) (fun _ _ _ h => h) (Or.inl ⟨by rfl, ?_⟩) ?_ ?_
      rotate_left
      · intro w'
        go_simp
        with_reducible rfl
      rotate_left
      · simp only [Act.put, List.setIfInBounds_toArray, List.set_cons_zero, List.set_cons_succ, i64_w, i32_w]
        rfl
      refine pure_ (i := 53) (N := some 81) (v := ?_) (a' := ?_) (ms 18014398509481983) rfl rfl (any_of HT_.out (by kernel_rfl)) (fun _ _ _ h => h) (Or.inl ⟨by rfl, ?_⟩) ?_ ?_
      rotate_left
      · intro w'
        go_simp
        with_reducible rfl
      rotate_left
      · simp only [Act.put, List.setIfInBounds_toArray, List.set_cons_zero, List.set_cons_succ, i64_w, i32_w]
        rfl
      refine pure_ (i := 54) (N := some 82) (v := ?_) (a' := ?_) (ms 36028797018963967) rfl rfl (any_of HT_.out (by kernel_rfl)) (fun _ _ _ h => h) (Or.inl ⟨by rfl, ?_⟩) ?_ ?_
      rotate_left
      · intro w'
        go_simp
        with_reducible rfl
      rotate_left
      · simp only [Act.put, List.setIfInBounds_toArray, List.set_cons_zero, List.set_cons_succ, i64_w, i32_w]
        rfl
      refine pure_ (i := 55) (N := some 83) (v := ?_) (a' := ?_) (ms 72057594037927935) rfl rfl (any_of HT_.out (by kernel_rfl)) (fun _ _ _ h => h) (Or.inl ⟨by rfl, ?_⟩) ?_ ?_
      rotate_left
      · intro w'
        go_simp
        with_reducible rfl
      rotate_left
      · simp only [Act.put, List.setIfInBounds_toArray, List.set_cons_zero, List.set_cons_succ, i64_w, i32_w]
        rfl
      refine pure_ (i := 56) (N := some 84) (v := ?_) (a' := ?_) (ms 144115188075855871) rfl rfl (any_of HT_.out (by kernel_rfl)) (fun _ _ _ h => h) (Or.inl ⟨by rfl, ?_⟩) ?_ ?_
      rotate_left
      · intro w'
        go_simp
        with_reducible rfl
      rotate_left
      · simp only [Act.put, List.setIfInBounds_toArray, List.set_cons_zero, List.set_cons_succ, i64_w, i32_w]
        rfl
      refine pure_ (i := 57) (N := some 85) (v := ?_) (a' := ?_) (ms 288230376151711743) rfl rfl (any_of HT_.out (by kernel_rfl)) (fun _ _ _ h => h) (Or.inl ⟨by rfl, ?_⟩) ?_ ?_
      rotate_left
      · intro w'
        go_simp
        with_reducible rfl
      rotate_left
      · simp only [Act.put, List.setIfInBounds_toArray, List.set_cons_zero, List.set_cons_succ, i64_w, i32_w]
        rfl
      refine pure_ (i := 59) (N := some 87) (v := ?_) (a' := ?_) (ms 864691128455135231) rfl rfl (any_of HT_.out (by kernel_rfl)) (fun _ _ _ h => h) (Or.inl ⟨by rfl, ?_⟩) ?_ ?_
      rotate_left
      · intro w'
        go_simp
        with_reducible rfl
      rotate_left
      · simp only [Act.put, List.setIfInBounds_toArray, List.set_cons_zero, List.set_cons_succ, i64_w, i32_w]
        rfl
      refine pure_ (i := 63) (N := some 91) (v := ?_) (a' := ?_) (ms 10088063165309911039) rfl rfl (any_of HT_.out (by kernel_rfl)) (fun _ _ _ h => h) (Or.inl ⟨by rfl, ?_⟩) ?_ ?_
      rotate_left
      · intro w'
        go_simp
        with_reducible rfl
      rotate_left
      · simp only [Act.put, List.setIfInBounds_toArray, List.set_cons_zero, List.set_cons_succ, i64_w, i32_w]
        rfl
      refine take_ (i := 58) (N := some 86) (v := ?_) (a' := ?_) (ms 10376293541461622783) rfl rfl (take_ofW HT_.out HW_.out (by kernel_rfl)) (fun _ _ _ h => h) (Or.inl ⟨by rfl, ?_⟩) hHeld ?_ ?_
      rotate_left
      · rintro w' ⟨⟨⟨a0, a1, a2, a3, a4⟩, ⟨b0, b1, b2, b3, b4⟩⟩, ⟨⟨c0, c1, c2, c3, c4⟩, ⟨d0, d1, d2, d3, d4⟩⟩, _⟩
        go_simp
        with_reducible rfl
      rotate_left
      · simp only [Act.put, List.setIfInBounds_toArray, List.set_cons_zero, List.set_cons_succ, i64_w, i32_w]
        rfl
      refine take_ (i := 60) (N := some 88) (v := ?_) (a' := ?_) (ms 11529215046068469759) rfl rfl (take_ofW HT_.out HW_.out (by kernel_rfl)) (fun _ _ _ h => h) (Or.inl ⟨by rfl, ?_⟩) hHeld ?_ ?_
      rotate_left
      · rintro w' ⟨⟨⟨a0, a1, a2, a3, a4⟩, ⟨b0, b1, b2, b3, b4⟩⟩, ⟨⟨c0, c1, c2, c3, c4⟩, ⟨d0, d1, d2, d3, d4⟩⟩, _⟩
        go_simp
        with_reducible rfl
      rotate_left
      · simp only [Act.put, List.setIfInBounds_toArray, List.set_cons_zero, List.set_cons_succ, i64_w, i32_w]
        rfl
      refine pure_ (i := 61) (N := some 89) (v := ?_) (a' := ?_) (ms 13835058055282163711) rfl rfl (any_of HT_.out (by kernel_rfl)) (fun _ _ _ h => h) (Or.inl ⟨by rfl, ?_⟩) ?_ ?_
      rotate_left
      · intro w'
        go_simp
        with_reducible rfl
      rotate_left
      · simp only [Act.put, List.setIfInBounds_toArray, List.set_cons_zero, List.set_cons_succ, i64_w, i32_w]
        rfl
      refine pure_ (i := 62) (N := some 90) (v := ?_) (a' := ?_) (ms 18446744073709551615) rfl rfl (any_of HT_.out (by kernel_rfl)) (fun _ _ _ h => h) (Or.inl ⟨by rfl, ?_⟩) ?_ ?_
      rotate_left
      · intro w'
        go_simp
        with_reducible rfl
      rotate_left
      · simp only [Act.put, List.setIfInBounds_toArray, List.set_cons_zero, List.set_cons_succ, i64_w, i32_w]
        rfl
      refine take_ (i := 64) (N := some 92) (v := ?_) (a' := ?_) (ms 36893488147419103231) rfl rfl (take_ofW HT_.out HW_.out (by kernel_rfl)) (fun _ _ _ h => h) (Or.inl ⟨by rfl, ?_⟩) hHeld ?_ ?_
      rotate_left
      · rintro w' ⟨⟨⟨a0, a1, a2, a3, a4⟩, ⟨b0, b1, b2, b3, b4⟩⟩, ⟨⟨c0, c1, c2, c3, c4⟩, ⟨d0, d1, d2, d3, d4⟩⟩, _⟩
        go_simp
        with_reducible rfl
      rotate_left
      · simp only [Act.put, List.setIfInBounds_toArray, List.set_cons_zero, List.set_cons_succ, i64_w, i32_w]
        rfl
      refine pure_ (i := 65) (N := some 93) (v := ?_) (a' := ?_) (ms 73786976294838206463) rfl rfl (any_of HT_.out (by kernel_rfl)) (fun _ _ _ h => h) (Or.inl ⟨by rfl, ?_⟩) ?_ ?_
      rotate_left
      · intro w'
        go_simp
        with_reducible rfl
      rotate_left
      · simp only [Act.put, List.setIfInBounds_toArray, List.set_cons_zero, List.set_cons_succ, i64_w, i32_w]
        rfl
      refine pure_ (i := 66) (N := some 94) (v := ?_) (a' := ?_) (ms 147573952589676412927) rfl rfl (any_of HT_.out (by kernel_rfl)) (fun _ _ _ h => h) (Or.inl ⟨by rfl, ?_⟩) ?_ ?_
      rotate_left
      · intro w'
        go_simp
        with_reducible rfl
      rotate_left
      · simp only [Act.put, List.setIfInBounds_toArray, List.set_cons_zero, List.set_cons_succ, i64_w, i32_w]
        rfl
      refine pure_ (i := 67) (N := some 95) (v := ?_) (a' := ?_) (ms 295147905179352825855) rfl rfl (any_of HT_.out (by kernel_rfl)) (fun _ _ _ h => h) (Or.inl ⟨by rfl, ?_⟩) ?_ ?_
      rotate_left
      · intro w'
        go_simp
        with_reducible rfl
      rotate_left
      · simp only [Act.put, List.setIfInBounds_toArray, List.set_cons_zero, List.set_cons_succ, i64_w, i32_w]
        rfl
      refine pure_ (i := 68) (N := some 96) (v := ?_) (a' := ?_) (ms 590295810358705651711) rfl rfl (any_of HT_.out (by kernel_rfl)) (fun _ _ _ h => h) (Or.inl ⟨by rfl, ?_⟩) ?_ ?_
      rotate_left
      · intro w'
        go_simp
        with_reducible rfl
      rotate_left
      · simp only [Act.put, List.setIfInBounds_toArray, List.set_cons_zero, List.set_cons_succ, i64_w, i32_w]
        rfl
      refine one_ (i := 69) (N := some 97) (ms 1180591620717411303423) rfl rfl (one_of HT_.out (by kernel_rfl)) (by decide) (fun K hK => ?_)
      refine goes_ Try.func17 (by kernel_rfl) rfl #[] (by rfl) rfl rfl (by (try simp only [List.map_toArray, List.map_cons, List.map_nil]); first | done | rfl) ?_
      refine (awake_c _).mono ?_
      rintro e wk ⟨rfl, hb⟩
      refine ⟨_, rfl, ?_⟩
      have hk := HK.step (HK.of hHeld) hb
      clear hb hHeld
      refine hK.out _ _ (HK.cells hk) (fun hHeld => ?_)
      clear hK K hk
      refine norm_ (a' := ?_) ?_ ?_
      rotate_left
      · show Act.put _ (some 97) _ = _
        simp only [Act.put, List.setIfInBounds_toArray, List.set_cons_zero, List.set_cons_succ, i64_w, i32_w]
        rfl
      refine pure_ (i := 70) (N := some 98) (v := ?_) (a' := ?_) (ms 2361183241434822606847) rfl rfl (any_of HT_.out (by kernel_rfl)) (fun _ _ _ h => h) (Or.inl ⟨by rfl, ?_⟩) ?_ ?_
      rotate_left
      · intro w'
        go_simp
        with_reducible rfl
      rotate_left
      · simp only [Act.put, List.setIfInBounds_toArray, List.set_cons_zero, List.set_cons_succ, i64_w, i32_w]
        rfl
      refine pure_ (i := 71) (N := some 2) (v := ?_) (a' := ?_) (ms 4722366482869645213695) rfl rfl (any_of HT_.out (by kernel_rfl)) (fun _ _ _ h => h) (Or.inl ⟨by rfl, ?_⟩) ?_ ?_
      rotate_left
      · intro w'
        go_simp
        with_reducible rfl
      rotate_left
      · simp only [Act.put, List.setIfInBounds_toArray, List.set_cons_zero, List.set_cons_succ, i64_w, i32_w]
        rfl
      refine done_ (done_of HT_.out (by kernel_rfl)) ?_
      go_wp2
      all_goals (go_ret; exact ⟨rfl, (HK.of hHeld).bel⟩)
  · have hMK := Kept.mk (fun w => geom_May.calls b p y s t false w (by rw [may_f]; simp [hmay]))
    go_enter Try.func8, Try.ntmps8
    go_wp2_with (first
      | ((with_reducible refine gate_dst (N := 1) rfl ?_); refine box_event ?hg (N := 1) ?hd (cs := Geo b p y s t) (t := 23) ?hr ?_; (case hd => rfl); (case hg => rfl); (case hr => first | (go_simp; done) | (go_simp; rfl)); intro gb hg w1 hbox hb; have hB1 := Kept.mk hb; have z0 := (blk_cell hbox 0).trans rfl; have z1 := (blk_cell hbox 1).trans rfl; have z2 := (blk_cell hbox 2).trans rfl; have z3 := (blk_cell hbox 3).trans rfl; have z4 := (blk_cell hbox 4).trans rfl; clear hbox hb hg)
      | (go_at_call 14; (with_reducible refine (hMK.out _).mono ?_); rintro e w3 ⟨rfl, hb⟩; have hB3 := Kept.mk (bel_step hB1.out hb); clear hb)
      | (go_at_call 17; (with_reducible refine (awake_c _).mono ?_); rintro e w2 ⟨rfl, hb⟩; have hB2 := Kept.mk (bel_step hB3.out hb); clear hb))
    all_goals (go_ret; exact ⟨rfl, hB2.out⟩)
end Go.Proofs.Ytmpbedjbimimoaa.Gw
