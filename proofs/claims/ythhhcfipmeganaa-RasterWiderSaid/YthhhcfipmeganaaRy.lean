/-
  The walk of RasterMoves: it returns true. No condition.
-/
import Derived.Test.YthhhcfipmeganaaRv
namespace Go.Proofs.Ythhhcfipmeganaa.Rd
open Go.RowKit Go.Proofs.YthhhcfipmeganaaW.PrintWords Go.Proofs.YthhhcfipmeganaaW.PrintLast Go.Proofs.YthhhcfipmeganaaW.PrintMore
open Fl Ra
set_option linter.unusedSimpArgs false
set_option linter.unusedVariables false

def mv (c : Int) (p : P2) : P2 := (p.1 + c, p.2 + 3)
theorem pl_zero (ps : List P2) : ps.map (pl (0, 0) 1) = ps := by
  have : pl (0, 0) 1 = id := by funext p; simp [pl]
  rw [this, List.map_id]
theorem pl_one (ps : List P2) : ps.map (pl (1, 0) 1) = ps.map sh := by
  apply List.map_congr_left
  intro p _
  simp [pl, sh]
theorem pl_mv (c : Int) (ps : List P2) : (ps.map (mv c)).map (pl (c, 3) 1) = ps := by
  rw [List.map_map]
  have : pl (c, 3) 1 ∘ mv c = id := by
    funext p
    simp only [Function.comp, pl, mv, Int.ediv_one, id]
    apply Prod.ext <;> simp only <;> omega
  rw [this, List.map_id]
theorem sh_new (W : World) (pen wd : Int) (g n c : Nat) : ShAt (W.alloc (.cells (Stk pen wd g n c) 37)) W.heap.size pen wd g n c := by
  have h := blk_new W (Obj.cells (Stk pen wd g n c) 37)
  exact ⟨blk_lt h, (blk_cell h 0).trans rfl, (blk_cell h 1).trans rfl, (blk_cell h 2).trans rfl⟩
theorem pts_alloc {W : World} {g : Nat} {ps : List P2} (h : PtsAt W g ps) (o : Obj) : PtsAt (W.alloc o) g ps := h.below (below_alloc (Below.refl _ _) o)
theorem draw_at (wd : Int) (g n c : Nat) (ps : List P2) (at_ : P2) (ww : Int) (qs : List P2) (hq : ps.map (pl at_ 1) = qs) (hd1 : 1 ≤ wd) (hd2 : wd ≤ 9) (hn1 : 1 ≤ n) (hn : ps.length = n) (hn2 : n ≤ 10) (hin : ∀ p ∈ ps, InP p) (hat : InP at_) (hw1 : 1 ≤ ww) (hw2 : ww ≤ 64)
    (hqs : ∀ q ∈ qs, (-1 ≤ q.1 ∧ q.1 < 200) ∧ (-1 ≤ q.2 ∧ q.2 < 200)) (W : World) (hpt : PtsAt W g ps) :
    Calls Try.prog 10 #[.slice (some ⟨W.heap.size, 0, none⟩) 1 1, CP at_, .int .i64 1, .int .i64 ww, .int .i64 64] (W.alloc (.cells (Stk 0 wd g n c) 37)) fun e w' =>
      ∃ gr, e = .returned (.tuple #[.slice (some ⟨gr, 0, none⟩) 64 64, .int .i64 0]) ∧ gr < w'.heap.size ∧ (∀ k, k < 64 → w'.cell? ⟨gr, k, none⟩ = some (.int .u64 ((num (inkD wd ww (dotsK qs n) k) 64 : Nat) : Int))) ∧ Below W.heap.size W w' := by
  have hl : qs.length = n := by rw [← hq]; simpa using hn
  have hm : ∀ k, k < n → (-1 ≤ (qs.getD k (0, 0)).1 ∧ (qs.getD k (0, 0)).1 < 200) ∧ (-1 ≤ (qs.getD k (0, 0)).2 ∧ (qs.getD k (0, 0)).2 < 200) := fun k hk => getD_in qs hqs k (by omega)
  have h := Draw_walk W.heap.size 1 0 wd g n c ps at_ 1 ww 64 (by decide) (by decide) hd1 hd2 hn1 hn hn2 hin hat (by decide) (by decide) hw1 hw2 (by decide) (by decide)
    (by rw [hq]; intro k hk; have := hm k hk; constructor <;> (unfold In; omega)) (by rw [hq]; intro k hk; exact dn_small _ _ 200 (by decide) (hm (k - 1) (by omega)) (hm k hk))
    (W.alloc (.cells (Stk 0 wd g n c) 37)) (pts_alloc hpt _) (sh_new W 0 wd g n c)
  rw [hq] at h
  refine Calls.mono h ?_
  rintro e w' ⟨gr, rfl, hgr, hR, hb⟩
  exact ⟨gr, rfl, blk_lt hR, fun k hk => by rw [blk_cell hR k, rowsC_get _ _ _ hk], bel_step (below_alloc (Below.refl _ _) _) hb⟩

theorem add_in {ad : Addr} {B : Nat} (h : ad.block < B) (j : Nat) : (ad.add j).block < B := by unfold Addr.add; split <;> exact h
theorem shr_one (m : Nat) (h : m < 2 ^ 64) : IntKind.u64.wrap ((m : Int) / 2) = (m : Int) / 2 := by
  simp only [IntKind.wrap, IntKind.signed, IntKind.bits]
  simp
  omega

set_option maxRecDepth 100000 in
set_option maxHeartbeats 8000000 in
theorem Moves_walk (A : Option Addr) (len cap : Nat) (xs : List Int) (by_ wd0 : Int) (w : World) (hlen : xs.length = len)
    (hc : 0 < len → ∃ ad, A = some ad ∧ ad.block < w.heap.size ∧ ∀ j, j < len → w.cell? (ad.add j) = some (.int .i64 (xs.getD j 0))) :
    Calls Try.prog 5 #[.slice A len cap, .int .i64 by_, .int .i64 wd0] w fun r w' => r = .returned (.bool true) ∧ Below w.heap.size w w' := by
  have u25 := Try.underlying25
  by_cases hbig : 20 < len
  · go_enter Try.func5, Try.ntmps5
    go_wp2_with (go_at_call 9; (with_reducible refine (awake_walk _).mono ?_); rintro e w' ⟨rfl, hb⟩; have hB := Kept.mk hb; clear hb)
    all_goals (go_ret; exact ⟨rfl, hB.out⟩)
  by_cases hsmall : len < 2
  · go_enter Try.func5, Try.ntmps5
    go_wp2_with (go_at_call 9; (with_reducible refine (awake_walk _).mono ?_); rintro e w' ⟨rfl, hb⟩; have hB := Kept.mk hb; clear hb)
    all_goals (go_ret; exact ⟨rfl, hB.out⟩)
  obtain ⟨ad, rfl, hab, hcell⟩ := hc (by omega)
  have hC := Kept.mk hcell
  clear hc hcell
  have c3 : (4613937818241073152 : Nat) = I 3 := by decide +kernel
  obtain ⟨c, hcd⟩ : ∃ c, c = lowV by_ 100 := ⟨_, rfl⟩
  have hcin := lowV_in by_ 100 (by decide) (by decide)
  rw [← hcd] at hcin
  have hL1 := Kept.mk (Low_det by_ 100 (by decide) (by decide))
  rw [← hcd] at hL1
  clear hcd
  go_enter Try.func5, Try.ntmps5
  go_wp2_with (first
    | simp only [float_I]
    | (go_at_call 6; (with_reducible refine (hL1.out _).mono ?_); rintro e w' ⟨rfl, hw⟩; have hw := hw.symm; subst hw))
  go_loopw [7, 8, 10] (fun v u i wr => ∃ m k : Nat, Kept (k = 2 * m) ∧ k ≤ len ∧ i = .int .i64 (k : Int) ∧ Kept (wr.ownsRow w.heap.size 22 1 v m ((pts xs m).map CP)) ∧ Kept (wr.ownsRow w.heap.size 22 1 u m (((pts xs m).map (mv c)).map CP)) ∧ Kept (NeRow v u) ∧ Kept (Below w.heap.size w wr)) (fun _ _ i _ => len - (intOf i).toNat)
  case atStart => exact ⟨0, 0, ⟨rfl⟩, by omega, rfl, ⟨World.ownsRow_nil _ _ _ _⟩, ⟨World.ownsRow_nil _ _ _ _⟩, ⟨ne_nil _⟩, ⟨Below.refl _ _⟩⟩
  case round =>
    obtain ⟨m, k, hkm, hm, rfl, hO1, hO2, hN, hB⟩ := hrel
    by_cases hlt : k + 1 < len
    · have h1 : wr.cell? (ad.add k) = some (.int .i64 (xs.getD k 0)) := by
        rw [hB.out.cell (p := ad.add k) (add_in hab _)]; exact hC.out _ (by omega)
      have h2 : wr.cell? (ad.add (k + 1)) = some (.int .i64 (xs.getD (k + 1) 0)) := by
        rw [hB.out.cell (p := ad.add (k + 1)) (add_in hab _)]; exact hC.out _ (by omega)
      have hsucc : Kept (pts xs (m + 1) = pts xs m ++ [pt (xs.getD k 0) (xs.getD (k + 1) 0)]) := ⟨by rw [hkm.out]; exact pts_succ xs m⟩
      have h2e : wr.cell? ⟨ad.block, ad.off + (k + 1), none⟩ = some (.int .i64 (xs.getD (k + 1) 0)) := h2
      generalize xs.getD k 0 = x1 at *
      generalize xs.getD (k + 1) 0 = x2 at *
      have hl1 := Kept.mk (Low_det x1 60 (by decide) (by decide))
      have hl2 := Kept.mk (Low_det x2 60 (by decide) (by decide))
      have hb1 := lowV_in x1 60 (by decide) (by decide)
      have hb2 := lowV_in x2 60 (by decide) (by decide)
      unfold pt at hsucc
      generalize lowV x1 60 = y1 at *
      generalize lowV x2 60 = y2 at *
      go_wp2
      go_big_quiet (first | with_reducible exact Calls.quiet_of_same (hl1.out _) | with_reducible exact Calls.quiet_of_same (hl2.out _))
      have hO1d : Kept ((wr.drewN nq).ownsRow w.heap.size 22 1 u7 m ((pts xs m).map CP)) := ⟨hO1.out⟩
      have hO2d : Kept ((wr.drewN nq).ownsRow w.heap.size 22 1 u8 m (((pts xs m).map (mv c)).map CP)) := ⟨hO2.out⟩
      have hBd : Kept (Below w.heap.size w (wr.drewN nq)) := ⟨below_drewN hB.out nq⟩
      generalize wr.drewN nq = w1 at *
      clear h1 h2 h2e hl1 hl2 hO1 hO2 hB
      have hMv := Kept.mk (fun w => Move_in y1 y2 c 3 (by unfold In; omega) (by unfold In; omega) (by unfold In; omega) (by unfold In; omega) (y1 + c) (y2 + 3) rfl rfl (by unfold In; omega) (by unfold In; omega) w)
      have hpl := Kept.mk (pts_len xs m)
      have hs1 : Kept ((pts xs (m + 1)).map CP = (pts xs m).map CP ++ [CP (y1, y2)]) := ⟨by rw [hsucc.out, List.map_append]; rfl⟩
      have hs2 : Kept (((pts xs (m + 1)).map (mv c)).map CP = ((pts xs m).map (mv c)).map CP ++ [CP (y1 + c, y2 + 3)]) := ⟨by rw [hsucc.out, List.map_append, List.map_append]; rfl⟩
      clear hsucc
      go_wp2_with (first
        | simp only [float_I] | simp only [c3]
        | (go_at_call 12; (with_reducible refine (hMv.out _).mono ?_); rintro e w' ⟨rfl, hw⟩; have hw := hw.symm; subst hw)
        | ((with_reducible refine gate_builtin (b := .append) (xs := #[.tmp 63, .tmp 65]) rfl ?_); at_builtin
           go_loud (refine print_append (w0 := w) w.heap.size rfl (.tmp 63) (.tmp 65) 25 22 (.complex .f64 0 0) 16 rfl u25 info22 rfl (by decide) u7 ((pts xs m).map CP) (CP (y1, y2)) rfl rfl rfl ?aO hBd.out hBd.out.size ?aL ?_)
           go_loud ((case aO => (rw [List.length_map, hpl.out]; exact hO1d.out)))
           go_loud ((case aL => (rw [List.length_map, hpl.out]; have := hkm.out; omega)))
           go_loud (intro v1 w2 ho hb hg hat)
           go_loud (rw [← hs1.out, List.length_map, pts_len] at ho)
           go_loud (have hO1e := Kept.mk ho)
           go_loud (have hO2e := Kept.mk (hO2d.out.kept hg (ne_other hN.out)))
           go_loud (have hNe := Kept.mk (ne_append hN.out hat hO2d.out))
           go_loud (have hBe := Kept.mk hb)
           go_loud (clear ho hb hg hat))
        | ((with_reducible refine gate_builtin (b := .append) (xs := #[.tmp 67, .tmp 69]) rfl ?_); at_builtin
           refine print_append (w0 := w) w.heap.size rfl (.tmp 67) (.tmp 69) 25 22 (.complex .f64 0 0) 16 rfl u25 info22 rfl (by decide) u8 (((pts xs m).map (mv c)).map CP) (CP (y1 + c, y2 + 3)) rfl rfl rfl ?bO hBe.out hBe.out.size ?bL ?_
           (case bO => (rw [List.length_map, List.length_map, hpl.out]; exact hO2e.out))
           (case bL => (rw [List.length_map, List.length_map, hpl.out]; have := hkm.out; omega))
           intro v2 w3 ho hb hg hat
           rw [← hs2.out, List.length_map, List.length_map, pts_len] at ho
           have hO2f := Kept.mk ho
           have hO1f := Kept.mk (hO1e.out.kept hg (ne_other (ne_symm hNe.out)))
           have hNf := Kept.mk (ne_append' hNe.out hat hO1e.out)
           have hBf := Kept.mk hb
           clear ho hb hg hat))
      go_roundw
      case rel => exact ⟨m + 1, k + 2, ⟨by have := hkm.out; omega⟩, by omega, by go_num, hO1f, hO2f, hNf, hBf⟩
      case measure => simp [intOf]; omega
    · have hm1 : 1 ≤ m ∧ m ≤ 10 := by have := hkm.out; omega
      clear hC hL1
      obtain ⟨g1, cl1, rfl, hgB1, hgl1⟩ := hO1.out.form (by omega)
      obtain ⟨g2, cl2, rfl, hgB2, hgl2⟩ := hO2.out.form (by omega)
      have hpl := pts_len xs m
      have hpi := pts_in xs m
      have hP1 := Kept.mk (pts_own (pts xs m) hO1.out hpl hgl1)
      have hP2 := Kept.mk (pts_own ((pts xs m).map (mv c)) hO2.out (by simp [hpl]) hgl2)
      clear hO1 hO2 hN hgB1 hgB2
      generalize pts xs m = ps at *
      obtain ⟨d, hdd⟩ : ∃ d, d = lowV wd0 9 := ⟨_, rfl⟩
      have hdin := lowV_in wd0 9 (by decide) (by decide)
      have hL2 := Kept.mk (Low_det wd0 9 (by decide) (by decide))
      rw [← hdd] at hdin hL2
      clear hdd
      obtain ⟨va, hva⟩ : ∃ va : Nat → Nat, va = fun k => num (inkD (1 + d) 64 (dotsK ps m) k) 64 := ⟨_, rfl⟩
      have hvl : Kept (∀ k, va k < 2 ^ 64) := ⟨by intro k; rw [hva]; exact num_lt _ _⟩
      have iP : ∀ p ∈ ps, InP p := fun p hp => by have := hpi p hp; constructor <;> (unfold In; omega)
      have iQ : ∀ p ∈ ps.map (mv c), InP p := fun p hp => by
        obtain ⟨q, hq, rfl⟩ := List.mem_map.1 hp
        have := hpi q hq
        simp only [mv]
        constructor <;> (unfold In; omega)
      have iB : ∀ q ∈ ps, (-1 ≤ q.1 ∧ q.1 < 200) ∧ (-1 ≤ q.2 ∧ q.2 < 200) := fun p hp => by have := hpi p hp; omega
      have iS : ∀ q ∈ ps.map sh, (-1 ≤ q.1 ∧ q.1 < 200) ∧ (-1 ≤ q.2 ∧ q.2 < 200) := fun p hp => by
        obtain ⟨q, hq, rfl⟩ := List.mem_map.1 hp
        have := hpi q hq
        simp only [sh]
        omega
      have hD1 : Kept (∀ W, PtsAt W g1 ps → Calls Try.prog 10 #[.slice (some ⟨W.heap.size, 0, none⟩) 1 1, .complex .f64 0 0, .int .i64 1, .int .i64 64, .int .i64 64] (W.alloc (.cells (Stk 0 (1 + d) g1 m cl1) 37)) fun e w' =>
          ∃ gr, e = .returned (.tuple #[.slice (some ⟨gr, 0, none⟩) 64 64, .int .i64 0]) ∧ gr < w'.heap.size ∧ (∀ k, k < 64 → w'.cell? ⟨gr, k, none⟩ = some (.int .u64 (va k : Int))) ∧ Below W.heap.size W w') := by
        refine ⟨fun W hW => ?_⟩
        have h := draw_at (1 + d) g1 m cl1 ps (0, 0) 64 ps (pl_zero ps) (by omega) (by omega) hm1.1 hpl hm1.2 iP (by decide) (by decide) (by decide) iB W hW
        rw [k0] at h
        rw [hva]; exact h
      have hD2 : Kept (∀ W, PtsAt W g2 (ps.map (mv c)) → Calls Try.prog 10 #[.slice (some ⟨W.heap.size, 0, none⟩) 1 1, .complex .f64 (I c) (I 3), .int .i64 1, .int .i64 64, .int .i64 64] (W.alloc (.cells (Stk 0 (1 + d) g2 m cl2) 37)) fun e w' =>
          ∃ gr, e = .returned (.tuple #[.slice (some ⟨gr, 0, none⟩) 64 64, .int .i64 0]) ∧ gr < w'.heap.size ∧ (∀ k, k < 64 → w'.cell? ⟨gr, k, none⟩ = some (.int .u64 (va k : Int))) ∧ Below W.heap.size W w') := by
        refine ⟨fun W hW => ?_⟩
        have h := draw_at (1 + d) g2 m cl2 (ps.map (mv c)) (c, 3) 64 ps (pl_mv c ps) (by omega) (by omega) hm1.1 (by simp [hpl]) hm1.2 iQ (by constructor <;> (unfold In; simp only; omega)) (by decide) (by decide) iB W hW
        rw [hva]; exact h
      have hD3 : Kept (∀ W, PtsAt W g1 ps → Calls Try.prog 10 #[.slice (some ⟨W.heap.size, 0, none⟩) 1 1, .complex .f64 4607182418800017408 0, .int .i64 1, .int .i64 63, .int .i64 64] (W.alloc (.cells (Stk 0 (1 + d) g1 m cl1) 37)) fun e w' =>
          ∃ gr, e = .returned (.tuple #[.slice (some ⟨gr, 0, none⟩) 64 64, .int .i64 0]) ∧ gr < w'.heap.size ∧ (∀ k, k < 64 → w'.cell? ⟨gr, k, none⟩ = some (.int .u64 ((va k : Int) / 2))) ∧ Below W.heap.size W w') := by
        refine ⟨fun W hW => ?_⟩
        have h := draw_at (1 + d) g1 m cl1 ps (1, 0) 63 (ps.map sh) (pl_one ps) (by omega) (by omega) hm1.1 hpl hm1.2 iP (by decide) (by decide) (by decide) iS W hW
        rw [k1] at h
        rw [hva]
        have e : ∀ k, ((num (inkD (1 + d) 63 (dotsK (ps.map sh) m) k) 64 : Nat) : Int) = ((num (inkD (1 + d) 64 (dotsK ps m) k) 64 : Nat) : Int) / 2 := fun k => by have := row_half (1 + d) ps k; rw [hpl] at this; exact this
        simp only [e] at h
        exact h
      clear iP iQ iB iS hpi hva
      go_wp2_with (first
        | (go_at_call 6; (with_reducible refine (hL2.out _).mono ?_); rintro e w' ⟨rfl, hw⟩; have hw := hw.symm; subst hw)
        | (go_at_call 10; (with_reducible refine (hD1.out _ hP1.out).mono ?_); rintro e w3 ⟨ga, rfl, hga, hra, hb⟩; have hRa := Kept.mk hra; have hGa := Kept.mk hga; have hP1b := Kept.mk (hP1.out.below hb); have hP2b := Kept.mk (hP2.out.below hb); have hB3 := Kept.mk (bel_step hB.out hb); clear hra hga hb hP1 hP2 hB hD1)
        | (go_at_call 10; (with_reducible refine (hD2.out _ hP2b.out).mono ?_); rintro e w4 ⟨gb, rfl, hgb, hrb, hb⟩; have hRb := Kept.mk hrb; have hGb := Kept.mk hgb; have hP1c := Kept.mk (hP1b.out.below hb); have hRa4 := Kept.mk (rows_below hRa.out hGa.out hb); have hGa4 := Kept.mk (Nat.lt_of_lt_of_le hGa.out hb.size); have hB4 := Kept.mk (bel_step hB3.out hb); clear hrb hgb hb hP1b hP2b hRa hGa hB3 hD2)
        | (go_at_call 10; (with_reducible refine (hD3.out _ hP1c.out).mono ?_); rintro e w5 ⟨gc, rfl, hgc, hrc, hb⟩; have hRc := Kept.mk hrc; have hGc := Kept.mk hgc; have hRa5 := Kept.mk (rows_below hRa4.out hGa4.out hb); have hGa5 := Kept.mk (Nat.lt_of_lt_of_le hGa4.out hb.size); have hRb5 := Kept.mk (rows_below hRb.out hGb.out hb); have hGb5 := Kept.mk (Nat.lt_of_lt_of_le hGb.out hb.size); have hB5 := Kept.mk (bel_step hB4.out hb); clear hrc hgc hb hP1c hRa4 hGa4 hRb hGb hB4 hD3)
        | (go_at_call 13; (with_reducible refine (sameRows_walk ga gb 64 64 64 (fun k => (va k : Int)) (by decide) _ hGa5.out hGb5.out hRa5.out hRb5.out).mono ?_); rintro e w6 ⟨rfl, hb⟩; have hRa6 := Kept.mk (rows_below hRa5.out hGa5.out hb); have hRc6 := Kept.mk (rows_below hRc.out hGc.out hb); have hGa6 := Kept.mk (Nat.lt_of_lt_of_le hGa5.out hb.size); have hGc6 := Kept.mk (Nat.lt_of_lt_of_le hGc.out hb.size); have hB6 := Kept.mk (bel_step hB5.out hb); clear hb hRa5 hRb5 hGa5 hGb5 hRc hGc hB5))
      go_loopw [20] (fun i wq => ∃ y : Nat, y ≤ 64 ∧ i = .int .i64 (y : Int) ∧ Kept (Below w6.heap.size w6 wq)) (fun i _ => 64 - (intOf i).toNat)
      case atStart => exact ⟨0, by omega, rfl, ⟨Below.refl _ _⟩⟩
      case round =>
        obtain ⟨y, hy, rfl, hBq⟩ := hrel
        by_cases hlt2 : y < 64
        · have e1 : wr.cell? ⟨ga, y, none⟩ = some (.int .u64 (va y : Int)) := rows_below hRa6.out hGa6.out hBq.out y hlt2
          have e2 : wr.cell? ⟨gc, y, none⟩ = some (.int .u64 ((va y : Int) / 2)) := rows_below hRc6.out hGc6.out hBq.out y hlt2
          have hvy := hvl.out y
          generalize va y = v at *
          have hsh := shr_one v hvy
          go_wp2
          go_quiet (fail)
          have hBr : Kept (Below w6.heap.size w6 (wr.drewN nq)) := ⟨below_drewN hBq.out nq⟩
          generalize wr.drewN nq = w7 at *
          clear e1 e2
          go_wp2
          go_roundw
          case rel => exact ⟨y + 1, by omega, by go_num, hBr⟩
          case measure => simp [intOf]; omega
        · have hye : y = 64 := by omega
          subst hye
          clear hlt2 hy
          have hB7 := Kept.mk (bel_step hB6.out hBq.out)
          go_wp2_with (go_at_call 9; (with_reducible refine (awake_walk _).mono ?_); rintro e w9 ⟨rfl, hb⟩; have hB9 := Kept.mk (bel_step hB7.out hb); clear hb)
          all_goals (go_ret; exact ⟨rfl, hB9.out⟩)
end Go.Proofs.Ythhhcfipmeganaa.Rd
