/-
  The walk of RasterWider: it returns true. No condition.
-/
import Derived.Test.YthhhcfipmeganaaRu
namespace Go.Proofs.Ythhhcfipmeganaa.Rd
open Go.RowKit Go.Proofs.YthhhcfipmeganaaW.PrintWords Go.Proofs.YthhhcfipmeganaaW.PrintLast Go.Proofs.YthhhcfipmeganaaW.PrintMore
open Fl Ra
set_option linter.unusedSimpArgs false
set_option linter.unusedVariables false

theorem count_num (g h c : Nat) (pic : Nat → Nat → Bool) (hh : h ≤ 1000) (w : World) (hR : ∀ k, k < h → w.cell? ⟨g, k, none⟩ = some (.int .u64 ((num (pic k) 64 : Nat) : Int))) :
    Calls Try.prog 11 #[.slice (some ⟨g, 0, none⟩) h c] w fun e w' => e = .returned (.int .i64 (sumTo (fun k => (cnt (pic k) 64 : Int)) h)) ∧ w = w' :=
  Count_walk g h c (fun k => ((num (pic k) 64 : Nat) : Int)) (fun k => (cnt (pic k) 64 : Int)) (fun k => ⟨by omega, by have := cnt_le (pic k) 64; omega⟩) hh (fun k _ w => ones_num (pic k) w) w hR
theorem wrap_succ (k : Nat) (h : k ≤ 1000) : wrap64 ((k : Int) + 1) = (k : Int) + 1 := by unfold wrap64; omega
theorem toNat_succ (k : Nat) : ((k : Int) + 1).toNat = k + 1 := by omega
theorem in_succ (k len : Nat) (h : k + 1 < len) : 0 ≤ (k : Int) + 1 ∧ (k : Int) + 1 < (len : Int) := by omega
theorem lowV_id (n : Int) (h1 : -9223372036854775808 ≤ n) (h2 : n < 9223372036854775808) : IntKind.i64.wrap n = n := i64_id n h1 h2

set_option maxRecDepth 100000 in
set_option maxHeartbeats 8000000 in
theorem Wider_walk (A : Option Addr) (len cap : Nat) (xs : List Int) (wd0 at0 : Int) (w : World) (hlen : xs.length = len)
    (hc : 0 < len → ∃ ad, A = some ad ∧ ad.block < w.heap.size ∧ ∀ j, j < len → w.cell? (ad.add j) = some (.int .i64 (xs.getD j 0))) :
    Calls Try.prog 4 #[.slice A len cap, .int .i64 wd0, .int .i64 at0] w fun r w' => r = .returned (.bool true) ∧ Below w.heap.size w w' := by
  obtain ⟨i0, hi, hz0, hz1, hz2⟩ := info_parts info22
  have u25 := Try.underlying25
  by_cases hbig : 20 < len
  · go_enter Try.func4, Try.ntmps4
    go_wp2_with (go_at_call 9; (with_reducible refine (awake_walk _).mono ?_); rintro e w' ⟨rfl, hb⟩; have hB := Kept.mk hb; clear hb)
    all_goals (go_ret; exact ⟨rfl, hB.out⟩)
  by_cases hsmall : len < 2
  · go_enter Try.func4, Try.ntmps4
    go_wp2_with (go_at_call 9; (with_reducible refine (awake_walk _).mono ?_); rintro e w' ⟨rfl, hb⟩; have hB := Kept.mk hb; clear hb)
    all_goals (go_ret; exact ⟨rfl, hB.out⟩)
  obtain ⟨ad, rfl, hab, hcell⟩ := hc (by omega)
  have hC := Kept.mk hcell
  clear hc hcell
  obtain ⟨d, hdd⟩ : ∃ d, d = lowV wd0 8 := ⟨_, rfl⟩
  have hdin := lowV_in wd0 8 (by decide) (by decide)
  have hL1 := Kept.mk (Low_det wd0 8 (by decide) (by decide))
  rw [← hdd] at hL1 hdin
  obtain ⟨q, hqd⟩ : ∃ q, q = lowV at0 40 := ⟨_, rfl⟩
  have hqin := lowV_in at0 40 (by decide) (by decide)
  have hL2 := Kept.mk (Low_det at0 40 (by decide) (by decide))
  rw [← hqd] at hL2 hqin
  clear hdd hqd
  go_enter Try.func4, Try.ntmps4
  go_wp2_with (go_at_call 6; (with_reducible refine (hL1.out _).mono ?_); rintro e w' ⟨rfl, hw⟩; have hw := hw.symm; subst hw)
  go_loopw [7, 8] (fun v i wr => ∃ m k : Nat, Kept (k = 2 * m) ∧ k ≤ len ∧ i = .int .i64 (k : Int) ∧ Kept (wr.ownsRow w.heap.size 22 1 v m ((pts1 xs m).map CP)) ∧ Kept (Below w.heap.size w wr)) (fun _ i _ => len - (intOf i).toNat)
  case atStart => exact ⟨0, 0, ⟨rfl⟩, by omega, rfl, ⟨World.ownsRow_nil _ _ _ _⟩, ⟨Below.refl _ _⟩⟩
  case round =>
    obtain ⟨m, k, hkm, hm, rfl, hO, hB⟩ := hrel
    have hm10 : m ≤ 10 := by have := hkm.out; omega
    by_cases hlt : k + 1 < len
    · have h1 : wr.cell? (ad.add k) = some (.int .i64 (xs.getD k 0)) := by
        rw [hB.out.cell (p := ad.add k) (add_in hab _)]; exact hC.out _ (by omega)
      have h2 : wr.cell? (ad.add (k + 1)) = some (.int .i64 (xs.getD (k + 1) 0)) := by
        rw [hB.out.cell (p := ad.add (k + 1)) (add_in hab _)]; exact hC.out _ (by omega)
      have hsucc : Kept (pts1 xs (m + 1) = pts1 xs m ++ [pt1 (xs.getD k 0) (xs.getD (k + 1) 0)]) := ⟨by rw [hkm.out]; exact pts1_succ xs m⟩
      have h1d : wr.drew.cell? (ad.add k) = some (.int .i64 (xs.getD k 0)) := h1
      have h2e : wr.drew.cell? ⟨ad.block, ad.off + (k + 1), none⟩ = some (.int .i64 (xs.getD (k + 1) 0)) := h2
      clear h1 h2
      generalize xs.getD k 0 = x1 at *
      generalize xs.getD (k + 1) 0 = x2 at *
      have hl1 := Kept.mk (Low_det x1 100 (by decide) (by decide))
      have hl2 := Kept.mk (Low_det x2 100 (by decide) (by decide))
      unfold pt1 at hsucc
      generalize lowV x1 100 = y1 at *
      generalize lowV x2 100 = y2 at *
      have hpl := pts1_len xs m
      go_wp2
      have hOd : Kept (wr.drew.ownsRow w.heap.size 22 1 u7 m ((pts1 xs m).map CP)) := ⟨hO.out⟩
      have hBd : Kept (Below w.heap.size w wr.drew) := ⟨hB.out.drew⟩
      have t1 : ((k : Nat) : Int).toNat = k := by omega
      have i1 : k < len := by omega
      have t2 := wrap_succ k (by omega)
      have t3 := toNat_succ k
      have i2 := in_succ k len hlt
      refine start_ (n := 18) (S := fun w' => w'.cell? (ad.add k) = some (.int .i64 x1) ∧ w'.cell? ⟨ad.block, ad.off + (k + 1), none⟩ = some (.int .i64 x2)) (ds := [15, 16]) #[false, false, false, false, false, false, false, false, false, false, false, false, false, false, false, false, false, false] (by kernel_rfl) rfl rfl ⟨h1d, h2e⟩ (fun hHeld => ?_)
      generalize wr.drew = w1 at *
      refine pure_ (i := 0) (N := some 36) (v := ?_) (a' := ?_) #[true, false, false, false, false, false, false, false, false, false, false, false, false, false, false, false, false, false] rfl rfl (by kernel_rfl) (fun _ _ _ h => h) (Or.inl ⟨by rfl, ?_⟩) ?_ ?_
      rotate_left
      · intro w'
        go_simp
        with_reducible rfl
      rotate_left
      · simp only [Act.put, List.setIfInBounds_toArray, List.set_cons_zero, List.set_cons_succ, i64_w, i32_w]
        rfl
      refine pure_ (i := 1) (N := some 37) (v := ?_) (a' := ?_) #[true, true, false, false, false, false, false, false, false, false, false, false, false, false, false, false, false, false] rfl rfl (by kernel_rfl) (fun _ _ _ h => h) (Or.inl ⟨by rfl, ?_⟩) ?_ ?_
      rotate_left
      · intro w'
        go_simp
        with_reducible rfl
      rotate_left
      · simp only [Act.put, List.setIfInBounds_toArray, List.set_cons_zero, List.set_cons_succ, i64_w, i32_w]
        rfl
      refine pure_ (i := 2) (N := some 38) (v := ?_) (a' := ?_) #[true, true, true, false, false, false, false, false, false, false, false, false, false, false, false, false, false, false] rfl rfl (by kernel_rfl) (fun _ _ _ h => h) (Or.inl ⟨by rfl, ?_⟩) ?_ ?_
      rotate_left
      · intro w'
        go_simp
        with_reducible rfl
      rotate_left
      · simp only [Act.put, List.setIfInBounds_toArray, List.set_cons_zero, List.set_cons_succ, i64_w, i32_w]
        rfl
      refine pure_ (i := 3) (N := some 39) (v := ?_) (a' := ?_) #[true, true, true, true, false, false, false, false, false, false, false, false, false, false, false, false, false, false] rfl rfl (by kernel_rfl) (fun _ _ _ h => h) (Or.inl ⟨by rfl, ?_⟩) ?_ ?_
      rotate_left
      · intro w'
        go_simp
        with_reducible rfl
      rotate_left
      · simp only [Act.put, List.setIfInBounds_toArray, List.set_cons_zero, List.set_cons_succ, i64_w, i32_w]
        rfl
      refine take_ (i := 4) (N := some 40) (v := ?_) (a' := ?_) #[true, true, true, true, true, false, false, false, false, false, false, false, false, false, false, false, false, false] rfl rfl (by kernel_rfl) (fun _ _ _ h => h) (Or.inl ⟨by rfl, ?_⟩) hHeld ?_ ?_
      rotate_left
      · rintro w' ⟨s0, s1⟩
        go_simp
        with_reducible rfl
      rotate_left
      · simp only [Act.put, List.setIfInBounds_toArray, List.set_cons_zero, List.set_cons_succ, i64_w, i32_w]
        rfl
      refine pure_ (i := 7) (N := some 43) (v := ?_) (a' := ?_) #[true, true, true, true, true, false, false, true, false, false, false, false, false, false, false, false, false, false] rfl rfl (by kernel_rfl) (fun _ _ _ h => h) (Or.inl ⟨by rfl, ?_⟩) ?_ ?_
      rotate_left
      · intro w'
        go_simp
        with_reducible rfl
      rotate_left
      · simp only [Act.put, List.setIfInBounds_toArray, List.set_cons_zero, List.set_cons_succ, i64_w, i32_w]
        rfl
      refine pure_ (i := 8) (N := some 44) (v := ?_) (a' := ?_) #[true, true, true, true, true, false, false, true, true, false, false, false, false, false, false, false, false, false] rfl rfl (by kernel_rfl) (fun _ _ _ h => h) (Or.inl ⟨by rfl, ?_⟩) ?_ ?_
      rotate_left
      · intro w'
        go_simp
        with_reducible rfl
      rotate_left
      · simp only [Act.put, List.setIfInBounds_toArray, List.set_cons_zero, List.set_cons_succ, i64_w, i32_w]
        rfl
      refine pure_ (i := 9) (N := some 45) (v := ?_) (a' := ?_) #[true, true, true, true, true, false, false, true, true, true, false, false, false, false, false, false, false, false] rfl rfl (by kernel_rfl) (fun _ _ _ h => h) (Or.inl ⟨by rfl, ?_⟩) ?_ ?_
      rotate_left
      · intro w'
        go_simp
        with_reducible rfl
      rotate_left
      · simp only [Act.put, List.setIfInBounds_toArray, List.set_cons_zero, List.set_cons_succ, i64_w, i32_w]
        rfl
      refine pure_ (i := 10) (N := some 46) (v := ?_) (a' := ?_) #[true, true, true, true, true, false, false, true, true, true, true, false, false, false, false, false, false, false] rfl rfl (by kernel_rfl) (fun _ _ _ h => h) (Or.inl ⟨by rfl, ?_⟩) ?_ ?_
      rotate_left
      · intro w'
        go_simp
        with_reducible rfl
      rotate_left
      · simp only [Act.put, List.setIfInBounds_toArray, List.set_cons_zero, List.set_cons_succ, i64_w, i32_w]
        rfl
      refine take_ (i := 11) (N := some 47) (v := ?_) (a' := ?_) #[true, true, true, true, true, false, false, true, true, true, true, true, false, false, false, false, false, false] rfl rfl (by kernel_rfl) (fun _ _ _ h => h) (Or.inl ⟨by rfl, ?_⟩) hHeld ?_ ?_
      rotate_left
      · rintro w' ⟨s0, s1⟩
        go_simp
        with_reducible rfl
      rotate_left
      · simp only [Act.put, List.setIfInBounds_toArray, List.set_cons_zero, List.set_cons_succ, i64_w, i32_w]
        rfl
      refine one_ (i := 5) (N := some 41) #[true, true, true, true, true, true, false, true, true, true, true, true, false, false, false, false, false, false] rfl rfl (by kernel_rfl) (by decide) (fun K hK => ?_)
      refine goes_ Try.func6 (by kernel_rfl) rfl #[.int .i64 x1, .int .i64 100] (by rfl) rfl rfl (by (try simp only [List.map_toArray, List.map_cons, List.map_nil]); first | done | rfl) ?_
      refine (hl1.out _).mono ?_
      rintro e w' ⟨rfl, hw⟩
      have hw := hw.symm
      subst hw
      refine ⟨_, rfl, ?_⟩
      refine hK.out _ _ hHeld (fun _ => ?_)
      clear hK K
      refine norm_ (a' := ?_) ?_ ?_
      rotate_left
      · show Act.put _ (some 41) _ = _
        simp only [Act.put, List.setIfInBounds_toArray, List.set_cons_zero, List.set_cons_succ, i64_w, i32_w]
        rfl
      refine pure_ (i := 6) (N := some 42) (v := ?_) (a' := ?_) #[true, true, true, true, true, true, true, true, true, true, true, true, false, false, false, false, false, false] rfl rfl (by kernel_rfl) (fun _ _ _ h => h) (Or.inl ⟨by rfl, ?_⟩) ?_ ?_
      rotate_left
      · intro w'
        go_simp
        with_reducible rfl
      rotate_left
      · simp only [Act.put, List.setIfInBounds_toArray, List.set_cons_zero, List.set_cons_succ, i64_w, i32_w]
        rfl
      refine one_ (i := 12) (N := some 48) #[true, true, true, true, true, true, true, true, true, true, true, true, true, false, false, false, false, false] rfl rfl (by kernel_rfl) (by decide) (fun K hK => ?_)
      refine goes_ Try.func6 (by kernel_rfl) rfl #[.int .i64 x2, .int .i64 100] (by rfl) rfl rfl (by (try simp only [List.map_toArray, List.map_cons, List.map_nil]); first | done | rfl) ?_
      refine (hl2.out _).mono ?_
      rintro e w' ⟨rfl, hw⟩
      have hw := hw.symm
      subst hw
      refine ⟨_, rfl, ?_⟩
      refine hK.out _ _ hHeld (fun _ => ?_)
      clear hK K
      refine norm_ (a' := ?_) ?_ ?_
      rotate_left
      · show Act.put _ (some 48) _ = _
        simp only [Act.put, List.setIfInBounds_toArray, List.set_cons_zero, List.set_cons_succ, i64_w, i32_w]
        rfl
      refine pure_ (i := 13) (N := some 49) (v := ?_) (a' := ?_) #[true, true, true, true, true, true, true, true, true, true, true, true, true, true, false, false, false, false] rfl rfl (by kernel_rfl) (fun _ _ _ h => h) (Or.inl ⟨by rfl, ?_⟩) ?_ ?_
      rotate_left
      · intro w'
        go_simp
        with_reducible rfl
      rotate_left
      · simp only [Act.put, List.setIfInBounds_toArray, List.set_cons_zero, List.set_cons_succ, i64_w, i32_w]
        rfl
      refine pure_ (i := 14) (N := some 50) (v := ?_) (a' := ?_) #[true, true, true, true, true, true, true, true, true, true, true, true, true, true, true, false, false, false] rfl rfl (by kernel_rfl) (fun _ _ _ h => h) (Or.inl ⟨by rfl, ?_⟩) ?_ ?_
      rotate_left
      · intro w'
        go_simp
        with_reducible rfl
      rotate_left
      · simp only [Act.put, List.setIfInBounds_toArray, List.set_cons_zero, List.set_cons_succ, i64_w, i32_w]
        rfl
      refine last_ (i := 15) (N := some 51) #[true, true, true, true, true, true, true, true, true, true, true, true, true, true, true, true, false, false] rfl rfl (by kernel_rfl) (by decide) (fun K hK => ?_)
      refine event_step (by rfl) (show _ = Result.ok (Next.value (.slice (some ⟨w1.heap.size, 0, none⟩) 1 1)) (w1.alloc (.cells #[CP (y1, y2)] 22)) by first | (go_simp; done) | (go_simp; rfl)) ?_
      refine hK.out _ _ ?_
      clear hK K
      refine norm_ (a' := ?_) ?_ ?_
      rotate_left
      · show Act.put _ (some 51) _ = _
        simp only [Act.put, List.setIfInBounds_toArray, List.set_cons_zero, List.set_cons_succ, i64_w, i32_w]
        rfl
      refine last_ (i := 16) (N := some 52) #[true, true, true, true, true, true, true, true, true, true, true, true, true, true, true, true, true, false] rfl rfl (by kernel_rfl) (by decide) (fun K hK => ?_)
      rw [if_pos (by rfl)]
      refine wp_append_own _ (.tmp 36) (.tmp 51) 25 rfl w.heap.size 22 i0 (.complex .f64 0 0) 1 16 u25 hi hz0 hz1 hz2 rfl (by decide) _ m _ rfl (hOd.out.alloc _) ⟨w1.heap.size, 0, none⟩ 1 1 [CP (y1, y2)] rfl rfl ?_ (by intro u hu; simp at hu; subst hu; rfl) (by unfold maxLen; omega) (by omega) (by have := hBd.out.size; simp; omega) ?_
      · intro j u hj
        match j, hj with
        | 0, hj => cases hj; exact World.cell?_alloc_new _ _ _ _
      intro v' w2 hown' hgrow _
      have hO3 := Kept.mk hown'
      have hB3 : Kept (Below w.heap.size w w2) := ⟨(hBd.out.alloc hBd.out.size _).grown hgrow (by have := hBd.out.size; simp; omega) (fun g hg => (hOd.out.lt g hg).1)⟩
      clear hown' hgrow
      refine hK.out _ _ ?_
      clear hK K
      refine norm_ (a' := ?_) ?_ ?_
      rotate_left
      · show Act.put _ (some 52) _ = _
        simp only [Act.put, List.setIfInBounds_toArray, List.set_cons_zero, List.set_cons_succ, i64_w, i32_w]
        rfl
      refine pure_ (i := 17) (N := some 7) (v := ?_) (a' := ?_) #[true, true, true, true, true, true, true, true, true, true, true, true, true, true, true, true, true, true] rfl rfl (by kernel_rfl) (fun _ _ _ h => h) (Or.inl ⟨by rfl, ?_⟩) ?_ ?_
      rotate_left
      · intro w'
        go_simp
        with_reducible rfl
      rotate_left
      · simp only [Act.put, List.setIfInBounds_toArray, List.set_cons_zero, List.set_cons_succ, i64_w, i32_w]
        rfl
      refine done_ (by kernel_rfl) ?_
      clear t1 t2 t3 i1 i2 h1d h2e
      go_wp2
      go_roundw
      case rel => exact ⟨m + 1, k + 2, ⟨by have := hkm.out; omega⟩, by omega, by go_num, ⟨by rw [hsucc.out, List.map_append]; exact hO3.out⟩, hB3⟩
      case measure => simp [intOf]; omega
    · have hm1 : 1 ≤ m ∧ m ≤ 10 := by have := hkm.out; omega
      clear hC hL1
      obtain ⟨g1, cl1, rfl, hgB1, hgl1⟩ := hO.out.form (by omega)
      have hpl := pts1_len xs m
      have hpi := pts1_in xs m
      have hP1 := Kept.mk (pts_own (pts1 xs m) hO.out hpl hgl1)
      clear hO hgB1
      generalize pts1 xs m = ps at *
      obtain ⟨qs, hqs⟩ : ∃ qs, qs = ps.map (fun p => (p.1 - 20, p.2 - 0)) := ⟨_, rfl⟩
      have iP : ∀ p ∈ ps, InP p := fun p hp => by have := hpi p hp; constructor <;> (unfold In; omega)
      have iB : ∀ q ∈ qs, (-200 ≤ q.1 ∧ q.1 < 200) ∧ (-200 ≤ q.2 ∧ q.2 < 200) := fun p hp => by
        rw [hqs] at hp
        obtain ⟨r, hr, rfl⟩ := List.mem_map.1 hp
        have := hpi r hr
        simp only
        omega
      have k20 : CP (20, 0) = .complex .f64 4626322717216342016 0 := by
        show Value.complex .f64 (I 20) (I 0) = _
        rw [I_zero, show I 20 = 4626322717216342016 by decide +kernel]
      have hD1 : Kept (∀ W, PtsAt W g1 ps → Calls Try.prog 10 #[.slice (some ⟨W.heap.size, 0, none⟩) 1 1, .complex .f64 4626322717216342016 0, .int .i64 1, .int .i64 64, .int .i64 50] (W.alloc (.cells (Stk 0 (1 + d) g1 m cl1) 37)) fun e w' =>
          ∃ gr, e = .returned (.tuple #[.slice (some ⟨gr, 0, none⟩) 50 50, .int .i64 0]) ∧ gr < w'.heap.size ∧ (∀ k, k < 50 → w'.cell? ⟨gr, k, none⟩ = some (.int .u64 ((num (inkD (1 + d) 64 (dotsK qs m) k) 64 : Nat) : Int))) ∧ Below W.heap.size W w') := by
        refine ⟨fun W hW => ?_⟩
        have h := draw_gen (1 + d) g1 m cl1 ps (20, 0) 64 50 qs (by rw [pl_at, hqs]) (by omega) (by omega) hm1.1 hpl hm1.2 iP (by decide) (by decide) (by decide) (by decide) (by decide) iB W hW
        rw [k20] at h
        exact h
      have hD2 : Kept (∀ W, PtsAt W g1 ps → Calls Try.prog 10 #[.slice (some ⟨W.heap.size, 0, none⟩) 1 1, .complex .f64 4626322717216342016 0, .int .i64 1, .int .i64 64, .int .i64 50] (W.alloc (.cells (Stk 0 (1 + d + 1) g1 m cl1) 37)) fun e w' =>
          ∃ gr, e = .returned (.tuple #[.slice (some ⟨gr, 0, none⟩) 50 50, .int .i64 0]) ∧ gr < w'.heap.size ∧ (∀ k, k < 50 → w'.cell? ⟨gr, k, none⟩ = some (.int .u64 ((num (inkD (1 + d + 1) 64 (dotsK qs m) k) 64 : Nat) : Int))) ∧ Below W.heap.size W w') := by
        refine ⟨fun W hW => ?_⟩
        have h := draw_gen (1 + d + 1) g1 m cl1 ps (20, 0) 64 50 qs (by rw [pl_at, hqs]) (by omega) (by omega) hm1.1 hpl hm1.2 iP (by decide) (by decide) (by decide) (by decide) (by decide) iB W hW
        rw [k20] at h
        exact h
      have c30 : (4629137466983448576 : Nat) = I 30 := by decide +kernel
      have hD3 : Kept (∀ W, Calls Try.prog 10 #[.slice (some ⟨W.heap.size + 1, 0, none⟩) 1 1, .complex .f64 0 0, .int .i64 1, .int .i64 64, .int .i64 64] ((W.alloc (.cells #[.complex .f64 (I (10 + q)) (I 30)] 22)).alloc (.cells (Stk 0 (1 + d) W.heap.size 1 1) 37)) fun e w' =>
          ∃ gr, e = .returned (.tuple #[.slice (some ⟨gr, 0, none⟩) 64 64, .int .i64 0]) ∧ gr < w'.heap.size ∧ (∀ k, k < 64 → w'.cell? ⟨gr, k, none⟩ = some (.int .u64 ((num (inkD (1 + d) 64 [(10 + q, 30)] k) 64 : Nat) : Int))) ∧ Below W.heap.size W w') := by
        refine ⟨fun W => ?_⟩
        have h := draw_gen (1 + d) W.heap.size 1 1 [(10 + q, 30)] (0, 0) 64 64 [(10 + q, 30)] (pl_zero _) (by omega) (by omega) (by decide) rfl (by decide) (by intro p hp; simp at hp; subst hp; constructor <;> (unfold In; simp only; omega)) (by decide) (by decide) (by decide) (by decide) (by decide) (by intro p hp; simp at hp; subst hp; simp only; omega) _ (pt_new W (10 + q, 30))
        rw [k0, one_path] at h
        have hsz : (W.alloc (.cells #[CP (10 + q, 30)] 22)).heap.size = W.heap.size + 1 := by simp
        rw [hsz] at h
        refine Calls.mono h ?_
        rintro e w' ⟨gr, he, hgr, hR, hb⟩
        rw [← hsz] at hb
        exact ⟨gr, he, hgr, hR, bel_step (below_alloc (Below.refl _ _) _) hb⟩
      have hCnt := Kept.mk (fun w g => count_num g 64 64 (inkD (1 + d) 64 [(10 + q, 30)]) (by decide) w)
      have hsq : sumTo (fun k => (cnt (inkD (1 + d) 64 [(10 + q, 30)] k) 64 : Int)) 64 = (1 + d) * (1 + d) := one_count (1 + d) (10 + q) 30 (by omega) (by omega) (by omega) rfl
      rw [hsq] at hCnt
      clear hsq
      obtain ⟨s, hs⟩ : ∃ s, s = (1 + d) * (1 + d) := ⟨_, rfl⟩
      have hs1 : 1 ≤ s ∧ s ≤ 64 := by
        have : d = 0 ∨ d = 1 ∨ d = 2 ∨ d = 3 ∨ d = 4 ∨ d = 5 ∨ d = 6 ∨ d = 7 := by omega
        rcases this with rfl | rfl | rfl | rfl | rfl | rfl | rfl | rfl <;> rw [hs] <;> decide
      rw [← hs] at hCnt
      have hs2 := hs.symm
      clear hs
      have hsub : Kept (∀ k i, inkD (1 + d) 64 (dotsK qs m) k i = true → inkD (1 + d + 1) 64 (dotsK qs m) k i = true) := ⟨fun k i => inkD_wider (1 + d) 64 _ (by omega) k i⟩
      have hCa := Kept.mk (fun w g => count_num g 50 50 (inkD (1 + d) 64 (dotsK qs m)) (by decide) w)
      have hCb := Kept.mk (fun w g => count_num g 50 50 (inkD (1 + d + 1) 64 (dotsK qs m)) (by decide) w)
      have hab2 := sumTo_mono (fun k => (cnt (inkD (1 + d) 64 (dotsK qs m) k) 64 : Int)) (fun k => (cnt (inkD (1 + d + 1) 64 (dotsK qs m) k) 64 : Int)) (fun k => Int.ofNat_le.2 (cnt_mono _ _ 64 (hsub.out k))) 50
      clear iP iB hpi hqs hpl
      generalize sumTo (fun k => (cnt (inkD (1 + d) 64 (dotsK qs m) k) 64 : Int)) 50 = ca at *
      generalize sumTo (fun k => (cnt (inkD (1 + d + 1) 64 (dotsK qs m) k) 64 : Int)) 50 = cb at *
      generalize hpa : inkD (1 + d) 64 (dotsK qs m) = pa at *
      generalize hpb : inkD (1 + d + 1) 64 (dotsK qs m) = pb at *
      clear hpa hpb
      go_wp2_with (first
        | (go_at_call 10; (with_reducible refine (hD1.out _ hP1.out).mono ?_); rintro e w3 ⟨ga, rfl, hga, hra, hb⟩; have hRa := Kept.mk hra; have hGa := Kept.mk hga; have hP2 := Kept.mk (hP1.out.below hb); have hB3 := Kept.mk (bel_step hB.out hb); clear hra hga hb hP1 hB hD1)
        | (go_at_call 10; (with_reducible refine (hD2.out _ hP2.out).mono ?_); rintro e w4 ⟨gb, rfl, hgb, hrb, hb⟩; have hRb := Kept.mk hrb; have hGb := Kept.mk hgb; have hRa4 := Kept.mk (rows_below hRa.out hGa.out hb); have hGa4 := Kept.mk (Nat.lt_of_lt_of_le hGa.out hb.size); have hB4 := Kept.mk (bel_step hB3.out hb); clear hrb hgb hb hP2 hRa hGa hB3 hD2)
        | (go_at_call 11; (with_reducible refine (hCa.out _ ga hRa4.out).mono ?_); rintro e w5 ⟨rfl, rfl⟩; clear hCa)
        | (go_at_call 11; (with_reducible refine (hCb.out _ gb hRb.out).mono ?_); rintro e w6 ⟨rfl, rfl⟩; clear hCb))
      go_loopw [13] (fun i wq => ∃ y : Nat, y ≤ 50 ∧ i = .int .i64 (y : Int) ∧ Kept (Below w4.heap.size w4 wq)) (fun i _ => 50 - (intOf i).toNat)
      case atStart => exact ⟨0, by omega, rfl, ⟨Below.refl _ _⟩⟩
      case round =>
        obtain ⟨y, hy, rfl, hBq⟩ := hrel
        by_cases hlt2 : y < 50
        · have e1 : wr.cell? ⟨ga, y, none⟩ = some (.int .u64 ((num (pa y) 64 : Nat) : Int)) := rows_below hRa4.out hGa4.out hBq.out y hlt2
          have e2 : wr.cell? ⟨gb, y, none⟩ = some (.int .u64 ((num (pb y) 64 : Nat) : Int)) := rows_below hRb.out hGb.out hBq.out y hlt2
          have hor : bits BinOp.or IntKind.u64 ((num (pa y) 64 : Nat) : Int) ((num (pb y) 64 : Nat) : Int) = ((num (pb y) 64 : Nat) : Int) := by
            rw [u64_or _ _ (num_lt _ 64) (num_lt _ 64), num_sub _ _ 64 (hsub.out y)]
          generalize num (pa y) 64 = na at *
          generalize num (pb y) 64 = nb at *
          go_wp2
          go_quiet (fail)
          have hBr : Kept (Below w4.heap.size w4 (wr.drewN nq)) := ⟨below_drewN hBq.out nq⟩
          generalize wr.drewN nq = w7 at *
          clear e1 e2
          go_wp2_with (simp only [hor])
          go_roundw
          case rel => exact ⟨y + 1, by omega, by go_num, hBr⟩
          case measure => simp [intOf]; omega
        · have hye : y = 50 := by omega
          subst hye
          clear hlt2 hy
          have hB7 := Kept.mk (bel_step hB4.out hBq.out)
          go_wp2_with (first
            | simp only [float_I] | simp only [c30] | simp only [hs2]
            | (go_at_call 6; (with_reducible refine (hL2.out _).mono ?_); rintro e w' ⟨rfl, hw⟩; have hw := hw.symm; subst hw)
            | (go_at_call 10; (with_reducible refine (hD3.out _).mono ?_); rintro e w8 ⟨gc, rfl, hgc, hrc, hb⟩; have hRc := Kept.mk hrc; have hB9 := Kept.mk (bel_step hB7.out hb); clear hrc hgc hb hD3)
            | (go_at_call 11; (with_reducible refine (hCnt.out _ gc hRc.out).mono ?_); rintro e w9 ⟨rfl, rfl⟩)
            | (go_at_call 9; (with_reducible refine (awake_walk _).mono ?_); rintro e w10 ⟨rfl, hb⟩; have hB10 := Kept.mk (bel_step hB9.out hb); clear hb))
          all_goals (go_ret; exact ⟨rfl, hB10.out⟩)
end Go.Proofs.Ythhhcfipmeganaa.Rd
