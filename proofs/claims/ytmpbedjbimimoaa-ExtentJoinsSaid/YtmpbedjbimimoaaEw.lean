/-
  The walk of ExtentJoins: it returns true. No condition beyond the argument's reading.
-/
import Derived.Test.YtmpbedjbimimoaaEj
import Derived.Deep.Cut
import Derived.Deep.CutRange
namespace Go.Proofs.Ytmpbedjbimimoaa.Ew
open Go.RowKit Go.Proofs.YtmpbedjbimimoaaW.PrintWords Go.Proofs.YtmpbedjbimimoaaW.PrintLast Go.Proofs.YtmpbedjbimimoaaW.PrintMore
open PExtentBack Eb
set_option linter.unusedSimpArgs false
set_option linter.unusedVariables false

theorem awake_c (w : World) : Calls Try.prog 38 #[] w fun e w' => e = .returned (.bool true) ∧ Below w.heap.size w w' := jotterlaw15_awake.calls 60 true w (awake_f 60 (by decide))

theorem bel_step {w W w2 : World} (h : Below w.heap.size w W) (k : Below W.heap.size W w2) : Below w.heap.size w w2 :=
  h.trans ⟨k.os, k.tape, k.output, k.size, fun i hi => k.block i (Nat.lt_of_lt_of_le hi h.size)⟩

abbrev Geo (b p y s t : Int) : Array Value := #[.int .i64 b, .int .i64 p, .int .i64 y, .int .i64 s, .int .i64 t]
abbrev Bx (w : World) (g : Nat) (b p y s t : Int) : Prop := w.heap[g]? = some (.cells (Geo b p y s t) 23 (0, 0))
abbrev KI := Kd.int .u8
abbrev Cl (w' : World) (g : Nat) (b p y s t : Int) : Prop := w'.cell? ⟨g, 0, none⟩ = some (.int .i64 b) ∧ w'.cell? ⟨g, 1, none⟩ = some (.int .i64 p) ∧ w'.cell? ⟨g, 2, none⟩ = some (.int .i64 y) ∧ w'.cell? ⟨g, 3, none⟩ = some (.int .i64 s) ∧ w'.cell? ⟨g, 4, none⟩ = some (.int .i64 t)
theorem bx_cl {w' : World} {g : Nat} {b p y s t : Int} (h : Bx w' g b p y s t) : Cl w' g b p y s t :=
  ⟨(blk_cell h 0).trans rfl, (blk_cell h 1).trans rfl, (blk_cell h 2).trans rfl, (blk_cell h 3).trans rfl, (blk_cell h 4).trans rfl⟩

set_option maxRecDepth 100000 in
set_option maxHeartbeats 4000000 in
theorem Joins_walk (b p y s t : Int) (many nn size : Int) (A : Option Addr) (c : Nat) (xs : List Int) (w : World) (hC : KI.C w A xs.length xs) (hc : xs.length ≤ c) :
    Calls Try.prog 13 #[.agg (Geo b p y s t), .int .i64 many, .int .u8 nn, .slice A xs.length c, .int .i64 size] w fun e w' => e = .returned (.bool true) ∧ Below w.heap.size w w' := by
  have hu23 := Try.underlying23
  have HC := Kept.mk hC
  have hcK := Kept.mk hc
  clear hC hc
  by_cases hbig : 300 < xs.length
  · go_enter Try.func13, Try.ntmps13
    go_wp2_with (first
      | ((with_reducible refine gate_dst (N := 5) rfl ?_); refine box_event ?hg (N := 5) ?hd (cs := Geo b p y s t) (t := 23) ?hr ?_; (case hd => rfl); (case hg => rfl); (case hr => first | (go_simp; done) | (go_simp; rfl)); intro gb hg w1 hbox hb; have hB1 := Kept.mk hb; clear hbox hb hg)
      | (go_at_call 38; (with_reducible refine (awake_c _).mono ?_); rintro e w2 ⟨rfl, hb⟩; have hB2 := Kept.mk (bel_step hB1.out hb); clear hb))
    all_goals (go_ret; exact ⟨rfl, hB2.out⟩)
  · by_cases hmay : mayP b p y s t
    · obtain ⟨Y, rfl⟩ : ∃ Y : Nat, y = (Y : Int) := ⟨y.toNat, by unfold mayP at hmay; omega⟩
      have hY : 24 ≤ Y ∧ Y ≤ 64 := by unfold mayP at hmay; omega
      have hMK := Kept.mk (fun w => geom_May.calls b p (Y : Int) s t true w (by rw [may_f]; simp [hmay]))
      have hmayK := Kept.mk hmay
      clear hmay
      go_enter Try.func13, Try.ntmps13
      go_wp2_with (first
        | ((with_reducible refine gate_dst (N := 5) rfl ?_); refine box_event ?hg (N := 5) ?hd (cs := Geo b p (Y : Int) s t) (t := 23) ?hr ?_; (case hd => rfl); (case hg => rfl); (case hr => first | (go_simp; done) | (go_simp; rfl)); intro gb hg w1 hbox hb; have hB1 := Kept.mk hb; have hX1 := Kept.mk hbox; have hG : w.heap.size ≤ gb := Nat.le_of_eq hg.symm; have z0 := (blk_cell hbox 0).trans rfl; have z1 := (blk_cell hbox 1).trans rfl; have z2 := (blk_cell hbox 2).trans rfl; have z3 := (blk_cell hbox 3).trans rfl; have z4 := (blk_cell hbox 4).trans rfl; clear hbox hb hg)
        | (go_at_call 14; (with_reducible refine (hMK.out _).mono ?_); rintro e w3 ⟨rfl, hb⟩; have hB3 := Kept.mk (bel_step hB1.out hb); have hX3 := Kept.mk (blk_below hX1.out hb); clear z0 z1 z2 z3 z4; have z0 := (blk_cell hX3.out 0).trans rfl; have z1 := (blk_cell hX3.out 1).trans rfl; have z2 := (blk_cell hX3.out 2).trans rfl; have z3 := (blk_cell hX3.out 3).trans rfl; have z4 := (blk_cell hX3.out 4).trans rfl; clear hb)
        | (go_at_call 27; (with_reducible refine (Low_one many _).mono ?_); rintro e w' ⟨M, hM1, hM2, rfl, rfl⟩; obtain ⟨N, hNe⟩ : ∃ N : Nat, N = M * Y := ⟨_, rfl⟩; have hN : N ≤ 6 * 64 := (by rw [hNe]; exact Nat.mul_le_mul hM2 hY.2); have hN1 : 1 * 24 ≤ N := (by rw [hNe]; exact Nat.mul_le_mul hM1 hY.1); have t1 : 1 + ((M : Int) - 1) = (M : Int) := (by omega); have t2 : (M : Int) * (Y : Int) = (N : Int) := (by rw [hNe, Int.natCast_mul]); have hNK := Kept.mk hNe; clear hNe)
        | ((with_reducible refine gate_dst (N := 37) rfl ?_); go_loud (refine Kd.R_make KI _ 5 rfl (N := 37) rfl 49 _ _ rfl (N : Int) rfl rfl Try.underlying49 (.int .u8 0) 1 Eb.info5 rfl (by decide) (by omega) 0 (ok := fun _ => True) (okp := fun _ => True) rfl (fun _ hk => hk) trivial (by omega) (by rw [Int.toNat_natCast]; omega) (Below.refl _ _) (Nat.le_refl _) ?_; intro va w5 hra hba _ _; rw [Int.toNat_natCast] at hra; have hlr : (List.replicate N (0 : Int)).length = N := List.length_replicate; obtain ⟨ga, ca, rfl, hga, hga2, cl5, hcl5⟩ := Kd.R_form hra (by rw [hlr]; omega); rw [hlr] at hra; have hR5 := Kept.mk hra; have hB5 := Kept.mk (bel_step hB3.out hba); have hX5 := Kept.mk (blk_below hX3.out hba); have hne : ga ≠ gb := (by have := blk_lt hX3.out; omega); have hga0 : w.heap.size ≤ ga := Nat.le_trans hB3.out.size hga; clear hra hba hcl5 hlr z0 z1 z2 z3 z4)))
      have hMN := Kept.mk (show ∀ (a : List Int), a.length = N → a.length = M * Y from fun a h => by rw [h, hNK.out])
      go_loopw [12] (fun i wr => ∃ (k : Nat) (ys : List Int), k ≤ N ∧ i = .int .i64 k ∧ Kept (ys.length = N) ∧ Kept (KI.R 5 wr w'.heap.size (fun _ => True) (.slice (some ⟨ga, 0, none⟩) N ca) ys) ∧ Kept (Below w.heap.size w wr) ∧ Kept (Bx wr gb b p (Y : Int) s t)) (fun i _ => N - (intOf i).toNat)
      case atStart => exact ⟨0, _, Nat.zero_le _, rfl, ⟨List.length_replicate⟩, hR5, hB5, hX5⟩
      case round =>
        obtain ⟨k, ys, hk, rfl, hys, hRr, hBr, hXr⟩ := hrel
        clear hR5 hB5 hX5
        by_cases hlt : k < N
        · obtain ⟨y1, y2⟩ := Kd.R_celln (0 : Int) hRr.out (k : Int) (by omega) (by omega)
          rw [Int.toNat_natCast] at y1 y2
          go_wp2
          go_roundw
          case rel => exact ⟨k + 1, ys.set k ((nn + (k : Int)) % 256), by omega, by go_num, ⟨by rw [List.length_set]; exact hys.out⟩, ⟨by have h := Kd.R_putn hRr.out (k : Int) ((nn + (k : Int)) % 256); rw [Int.toNat_natCast] at h; exact h⟩, ⟨below_set hBr.out hga0⟩, ⟨blk_far hXr.out (p := ⟨ga, k, none⟩) (fun e => hne e.symm) _⟩⟩
          case measure => simp [intOf]; omega
        · obtain rfl : N = k := by omega
          clear hlt hk
          have hysl := hys.out
          subst hysl
          have hCa := Kept.mk (Kd.R_reads' hRr.out).2.2
          have hca := Kept.mk (Kd.R_reads' hRr.out).2.1
          clear hys
          have hwr := hBr.out.size
          obtain ⟨bs, hbs⟩ : ∃ bs, bs = ys ++ xs := ⟨_, rfl⟩
          have hbsl : bs.length ≤ 684 := by rw [hbs, List.length_append]; omega
          have hbsK := Kept.mk hbs
          clear hbs
          go_wp2_with (first
            | ((with_reducible refine gate_dst (N := 52) rfl ?_); go_loud (refine Kd.R_append_row (Value.int .u8) (0 : Int) wr.heap.size rfl _ _ 49 5 (.int .u8 0) 1 rfl Try.underlying49 Eb.info5 rfl (by decide) (.slice none 0 0) [] ys (some ⟨ga, 0, none⟩) ys.length ca (fun _ => True) rfl rfl (fun _ _ => trivial) (Kd.R_nil _ _ _ _ _) hCa.out (Below.refl _ _) (Nat.le_refl _) (by simp; omega) ?_; intro v8 w8 h8 hb8 _ _; rw [List.nil_append] at h8; have H8 := Kept.mk h8; have HB8 := Kept.mk hb8; clear h8 hb8))
            | ((with_reducible refine gate_dst (N := 54) rfl ?_); go_loud (refine Kd.R_append_row (Value.int .u8) (0 : Int) wr.heap.size rfl _ _ 49 5 (.int .u8 0) 1 rfl Try.underlying49 Eb.info5 rfl (by decide) v8 ys xs A xs.length c (fun _ => True) rfl rfl (fun _ _ => trivial) H8.out (Kd.C_below HC.out (bel_step hBr.out HB8.out)) HB8.out HB8.out.size (by omega) ?_; intro v9 w9 h9 hb9 _ _; rw [← hbsK.out] at h9; obtain ⟨A9, c9, rfl, hc9, h9⟩ := Kd.R_reads h9; have H9 := Kept.mk h9; have HB9 := Kept.mk (bel_step hBr.out hb9); have HX9 := Kept.mk (blk_below hXr.out hb9); have HA9 := Kept.mk (Kd.C_below hCa.out hb9); clear h9 hb9 HB8 H8)))
          obtain ⟨P, Q, R, Z, fP, fQ, fZ, hZ, hcase, hPl, hQl, hrP, hrR, hne0, hle, hf1, hf2, hf3, hf4⟩ := joins 1001 b p s t Y M ys xs hmayK.out hM1 hM2 hNK.out (by omega) (by omega)
          rw [← hbsK.out] at fZ hf3 hf4
          have hCutP := Kept.mk (fun w h => extent_Cut.calls 1001 b p (Y : Int) s t (some ⟨ga, 0, none⟩) ca ys P w h hca.out fP)
          have hCutQ := Kept.mk (fun w h => extent_Cut.calls 1001 b p (Y : Int) s t A c xs Q w h hcK.out fQ)
          have hCutZ := Kept.mk (fun w h => extent_Cut.calls 1001 b p (Y : Int) s t A9 c9 bs Z w h hc9 fZ)
          have hZK := Kept.mk hZ
          have hcaseK := Kept.mk hcase
          have hPlK := Kept.mk hPl
          have hrPK := Kept.mk hrP
          have hrRK := Kept.mk hrR
          have hneK := Kept.mk hne0
          have hleK := Kept.mk hle
          have hfK1 := Kept.mk hf1
          have hfK2 := Kept.mk hf2
          have hfK3 := Kept.mk hf3
          have hfK4 := Kept.mk hf4
          have HXd : Kept (Bx w9.drew gb b p (Y : Int) s t) := ⟨HX9.out⟩
          have HBd : Kept (Below w.heap.size w w9.drew) := ⟨HB9.out.drew⟩
          have HAd : Kept (KI.C w9.drew (some ⟨ga, 0, none⟩) ys.length ys) := ⟨Kd.C_drew HA9.out⟩
          have HSd : Kept (KI.C w9.drew A9 bs.length bs) := ⟨Kd.C_drew H9.out⟩
          clear fP fQ fZ hZ hcase hPl hrP hrR hne0 hle hf1 hf2 hf3 hf4 HX9 HB9 HA9 H9 hRr hBr hXr hCa
          refine start_ (n := 12) (S := fun w' => w'.cell? ⟨gb, 0, none⟩ = some (.int .i64 b) ∧ w'.cell? ⟨gb, 1, none⟩ = some (.int .i64 p) ∧ w'.cell? ⟨gb, 2, none⟩ = some (.int .i64 (Y : Int)) ∧ w'.cell? ⟨gb, 3, none⟩ = some (.int .i64 s) ∧ w'.cell? ⟨gb, 4, none⟩ = some (.int .i64 t)) (ds := []) #[false, false, false, false, false, false, false, false, false, false, false, false] (by kernel_rfl) rfl rfl (bx_cl HXd.out) (fun hHeld => ?_)
          generalize w9.drew = w10 at *
          refine take_ (i := 0) (N := some 55) (v := ?_) (a' := ?_) #[true, false, false, false, false, false, false, false, false, false, false, false] rfl rfl (by kernel_rfl) (fun _ _ _ h => h) (Or.inl ⟨by rfl, ?_⟩) hHeld ?_ ?_
          rotate_left
          · rintro w' ⟨s0, s1, s2, s3, s4⟩
            go_simp
            with_reducible rfl
          rotate_left
          · simp only [Act.put, List.setIfInBounds_toArray, List.set_cons_zero, List.set_cons_succ, i64_w, i32_w]
            rfl
          refine pure_ (i := 1) (N := some 56) (v := ?_) (a' := ?_) #[true, true, false, false, false, false, false, false, false, false, false, false] rfl rfl (by kernel_rfl) (fun _ _ _ h => h) (Or.inl ⟨by rfl, ?_⟩) ?_ ?_
          rotate_left
          · intro w'
            go_simp
            with_reducible rfl
          rotate_left
          · simp only [Act.put, List.setIfInBounds_toArray, List.set_cons_zero, List.set_cons_succ, i64_w, i32_w]
            rfl
          refine take_ (i := 3) (N := some 58) (v := ?_) (a' := ?_) #[true, true, false, true, false, false, false, false, false, false, false, false] rfl rfl (by kernel_rfl) (fun _ _ _ h => h) (Or.inl ⟨by rfl, ?_⟩) hHeld ?_ ?_
          rotate_left
          · rintro w' ⟨s0, s1, s2, s3, s4⟩
            go_simp
            with_reducible rfl
          rotate_left
          · simp only [Act.put, List.setIfInBounds_toArray, List.set_cons_zero, List.set_cons_succ, i64_w, i32_w]
            rfl
          refine pure_ (i := 4) (N := some 59) (v := ?_) (a' := ?_) #[true, true, false, true, true, false, false, false, false, false, false, false] rfl rfl (by kernel_rfl) (fun _ _ _ h => h) (Or.inl ⟨by rfl, ?_⟩) ?_ ?_
          rotate_left
          · intro w'
            go_simp
            with_reducible rfl
          rotate_left
          · simp only [Act.put, List.setIfInBounds_toArray, List.set_cons_zero, List.set_cons_succ, i64_w, i32_w]
            rfl
          refine take_ (i := 6) (N := some 61) (v := ?_) (a' := ?_) #[true, true, false, true, true, false, true, false, false, false, false, false] rfl rfl (by kernel_rfl) (fun _ _ _ h => h) (Or.inl ⟨by rfl, ?_⟩) hHeld ?_ ?_
          rotate_left
          · rintro w' ⟨s0, s1, s2, s3, s4⟩
            go_simp
            with_reducible rfl
          rotate_left
          · simp only [Act.put, List.setIfInBounds_toArray, List.set_cons_zero, List.set_cons_succ, i64_w, i32_w]
            rfl
          refine pure_ (i := 7) (N := some 62) (v := ?_) (a' := ?_) #[true, true, false, true, true, false, true, true, false, false, false, false] rfl rfl (by kernel_rfl) (fun _ _ _ h => h) (Or.inl ⟨by rfl, ?_⟩) ?_ ?_
          rotate_left
          · intro w'
            go_simp
            with_reducible rfl
          rotate_left
          · simp only [Act.put, List.setIfInBounds_toArray, List.set_cons_zero, List.set_cons_succ, i64_w, i32_w]
            rfl
          refine one_ (i := 2) (N := some 57) #[true, true, true, true, true, false, true, true, false, false, false, false] rfl rfl (by kernel_rfl) (by decide) (fun K hK => ?_)
          refine goes_ Try.func42 (by kernel_rfl) rfl #[.agg (Geo b p (Y : Int) s t), .slice (some ⟨ga, 0, none⟩) ys.length ca] (by rfl) rfl rfl (by (try simp only [List.map_toArray, List.map_cons, List.map_nil]); first | done | rfl) ?_
          refine (hCutP.out _ HAd.out).mono ?_
          rintro e w11 ⟨v, rfl, hS, hb⟩
          obtain ⟨B1, d1, rfl, hd1, hC4⟩ := Kd.R_reads (Kd.S_R hS)
          have HP1 := Kept.mk hC4
          have HX11 := Kept.mk (blk_below HXd.out hb)
          have HB11 := Kept.mk (bel_step HBd.out hb)
          have HA11 := Kept.mk (Kd.C_below HAd.out hb)
          have HS11 := Kept.mk (Kd.C_below HSd.out hb)
          refine ⟨_, rfl, ?_⟩
          clear hb hS hC4 hHeld
          refine hK.out _ _ (bx_cl HX11.out) (fun hHeld => ?_)
          clear hK K
          refine norm_ (a' := ?_) ?_ ?_
          rotate_left
          · show Act.put _ (some 57) _ = _
            simp only [Act.put, List.setIfInBounds_toArray, List.set_cons_zero, List.set_cons_succ, i64_w, i32_w]
            rfl
          refine one_ (i := 5) (N := some 60) #[true, true, true, true, true, true, true, true, false, false, false, false] rfl rfl (by kernel_rfl) (by decide) (fun K hK => ?_)
          refine goes_ Try.func42 (by kernel_rfl) rfl #[.agg (Geo b p (Y : Int) s t), .slice A xs.length c] (by rfl) rfl rfl (by (try simp only [List.map_toArray, List.map_cons, List.map_nil]); first | done | rfl) ?_
          refine (hCutQ.out _ (Kd.C_below HC.out HB11.out)).mono ?_
          rintro e w12 ⟨v, rfl, hS, hb⟩
          obtain ⟨B2, d2, rfl, hd2, hC4⟩ := Kd.R_reads (Kd.S_R hS)
          have HP2 := Kept.mk hC4
          have HX12 := Kept.mk (blk_below HX11.out hb)
          have HB12 := Kept.mk (bel_step HB11.out hb)
          have HA12 := Kept.mk (Kd.C_below HA11.out hb)
          have HS12 := Kept.mk (Kd.C_below HS11.out hb)
          have HP1 := Kept.mk (Kd.C_below HP1.out hb)
          refine ⟨_, rfl, ?_⟩
          clear hb hS hC4 hHeld
          refine hK.out _ _ (bx_cl HX12.out) (fun hHeld => ?_)
          clear hK K
          refine norm_ (a' := ?_) ?_ ?_
          rotate_left
          · show Act.put _ (some 60) _ = _
            simp only [Act.put, List.setIfInBounds_toArray, List.set_cons_zero, List.set_cons_succ, i64_w, i32_w]
            rfl
          refine one_ (i := 8) (N := some 63) #[true, true, true, true, true, true, true, true, true, false, false, false] rfl rfl (by kernel_rfl) (by decide) (fun K hK => ?_)
          refine goes_ Try.func42 (by kernel_rfl) rfl #[.agg (Geo b p (Y : Int) s t), .slice A9 bs.length c9] (by rfl) rfl rfl (by (try simp only [List.map_toArray, List.map_cons, List.map_nil]); first | done | rfl) ?_
          refine (hCutZ.out _ HS12.out).mono ?_
          rintro e w13 ⟨v, rfl, hS, hb⟩
          obtain ⟨B3, d3, rfl, hd3, hC4⟩ := Kd.R_reads (Kd.S_R hS)
          have HP3 := Kept.mk hC4
          have HX13 := Kept.mk (blk_below HX12.out hb)
          have HB13 := Kept.mk (bel_step HB12.out hb)
          have HA13 := Kept.mk (Kd.C_below HA12.out hb)
          have HS13 := Kept.mk (Kd.C_below HS12.out hb)
          have HP1 := Kept.mk (Kd.C_below HP1.out hb)
          have HP2 := Kept.mk (Kd.C_below HP2.out hb)
          refine ⟨_, rfl, ?_⟩
          clear hb hS hC4 hHeld
          refine hK.out _ _ (bx_cl HX13.out) (fun hHeld => ?_)
          clear hK K
          refine norm_ (a' := ?_) ?_ ?_
          rotate_left
          · show Act.put _ (some 63) _ = _
            simp only [Act.put, List.setIfInBounds_toArray, List.set_cons_zero, List.set_cons_succ, i64_w, i32_w]
            rfl
          refine pure_ (i := 9) (N := some 14) (v := ?_) (a' := ?_) #[true, true, true, true, true, true, true, true, true, true, false, false] rfl rfl (by kernel_rfl) (fun _ _ _ h => h) (Or.inl ⟨by rfl, ?_⟩) ?_ ?_
          rotate_left
          · intro w'
            go_simp
            with_reducible rfl
          rotate_left
          · simp only [Act.put, List.setIfInBounds_toArray, List.set_cons_zero, List.set_cons_succ, i64_w, i32_w]
            rfl
          refine pure_ (i := 10) (N := some 15) (v := ?_) (a' := ?_) #[true, true, true, true, true, true, true, true, true, true, true, false] rfl rfl (by kernel_rfl) (fun _ _ _ h => h) (Or.inl ⟨by rfl, ?_⟩) ?_ ?_
          rotate_left
          · intro w'
            go_simp
            with_reducible rfl
          rotate_left
          · simp only [Act.put, List.setIfInBounds_toArray, List.set_cons_zero, List.set_cons_succ, i64_w, i32_w]
            rfl
          refine pure_ (i := 11) (N := some 16) (v := ?_) (a' := ?_) #[true, true, true, true, true, true, true, true, true, true, true, true] rfl rfl (by kernel_rfl) (fun _ _ _ h => h) (Or.inl ⟨by rfl, ?_⟩) ?_ ?_
          rotate_left
          · intro w'
            go_simp
            with_reducible rfl
          rotate_left
          · simp only [Act.put, List.setIfInBounds_toArray, List.set_cons_zero, List.set_cons_succ, i64_w, i32_w]
            rfl
          refine done_ (by kernel_rfl) ?_
          go_upto_if 66 with (fail)
          go_cut [15] (fun s15 wx => ∃ B4 d4, s15 = .slice B4 R.length d4 ∧ Kept (KB.C wx B4 R.length R) ∧ wx = w13)
          case first =>
            rcases hcaseK.out with ⟨hx0, hR0⟩ | ⟨hx0, hR0⟩
            · go_wp2_with fail
              go_meet
              case rel => exact ⟨none, 0, by rw [hR0]; rfl, ⟨by rw [hR0]; exact Kd.C_nil _ _⟩, rfl⟩
            · go_wp2_with fail
              go_meet
              case rel => exact ⟨B2, d2, by rw [hR0], ⟨by rw [hR0]; exact HP2.out⟩, rfl⟩
          case rest =>
            obtain ⟨B4, d4, rfl, HR, hw⟩ := hcut
            subst hw
            have hRl : R.length ≤ 400 := by rcases hcaseK.out with ⟨_, h⟩ | ⟨_, h⟩ <;> rw [h] <;> first | omega | simp
            have hZl : Z.length = P.length + R.length := by rw [hZK.out, List.length_append]
            have hPl := hPlK.out
            clear hcaseK
            subst hPl
            have hZlK := Kept.mk hZl
            have hz1 : ((Z.length : Int) != (P.length : Int) + (R.length : Int)) = false := by rw [hZl, Int.natCast_add]; simp
            have hz2 : Z.length ≤ 406 := by omega
            clear hZl t1 t2
            go_wp2
            go_loopw [17] (fun i wr => ∃ k : Nat, k ≤ Z.length ∧ i = .int .i64 k ∧ Kept (KB.C wr B1 P.length P) ∧ Kept (KB.C wr B4 R.length R) ∧ Kept (KB.C wr B3 Z.length Z) ∧ Kept (KI.C wr A9 bs.length bs) ∧ Kept (Below w.heap.size w wr)) (fun i _ => Z.length - (intOf i).toNat)
            case atStart => exact ⟨0, Nat.zero_le _, rfl, HP1, HR, HP3, HS13, HB13⟩
            case round =>
              obtain ⟨k, hk, rfl, KP, KR, KZ, KS, KW⟩ := hrel
              clear HP1 HR HP3 HS13 HB13 HP2 HA13 HX13
              by_cases hlt : k < Z.length
              · obtain ⟨az, Az, cz, hAz, hcz, hlz, hRz⟩ := at_L2 KZ.out (k : Int) (by omega) (by omega)
                rw [Int.toNat_natCast] at hcz
                subst hAz
                have hll := hleK.out k
                by_cases hkp : k < P.length
                · obtain ⟨ap, Ap, cp, hAp, hcp, hlp, hRp⟩ := at_L2 KP.out (k : Int) (by omega) (by omega)
                  rw [Int.toNat_natCast, hrPK.out k hkp] at hcp
                  rw [hrPK.out k hkp] at hlp hRp
                  subst hAp
                  obtain ⟨q, hq⟩ : ∃ q, q = rd_L2 Z (k : Int) := ⟨_, rfl⟩
                  rw [← hq] at hcz hlz hRz hcp hlp hRp hll
                  clear hq
                  have hSame := Kept.mk (fun w h1 h2 => jotterlaw0_SameBytes.calls 600 Az cz q Ap cp q true w h1 hlz h2 hlp (same_f 600 q (by omega) (by omega)))
                  have hRz := Kept.mk hRz
                  have hRp := Kept.mk hRp
                  clear hlz hlp
                  go_wp2_with (go_at_call 44; (with_reducible refine (hSame.out _ hRz.out hRp.out).mono ?_); rintro e wb ⟨rfl, hbb⟩; have hb := hbb.below; have KP2 := Kept.mk (Kd.C_below KP.out hb); have KR2 := Kept.mk (Kd.C_below KR.out hb); have KZ2 := Kept.mk (Kd.C_below KZ.out hb); have KS2 := Kept.mk (Kd.C_below KS.out hb); have KW2 := Kept.mk (bel_step KW.out hb); clear hb hbb hcz hcp)
                  go_roundw
                  case rel => exact ⟨k + 1, by omega, by go_num, KP2, KR2, KZ2, KS2, KW2⟩
                  case measure => simp [intOf]; omega
                · obtain ⟨j, hj⟩ : ∃ j : Nat, k = P.length + j := ⟨k - P.length, by omega⟩
                  have hjR : j < R.length := by have := hZlK.out; omega
                  obtain ⟨ap, Ap, cp, hAp, hcp, hlp, hRp⟩ := at_L2 KR.out (j : Int) (by omega) (by omega)
                  have hjk : ((P.length : Int) + (j : Int)) = (k : Int) := by omega
                  have hrr := hrRK.out j hjR
                  rw [hjk] at hrr
                  rw [Int.toNat_natCast, hrr] at hcp
                  rw [hrr] at hlp hRp
                  clear hrr hjk
                  subst hAp
                  obtain ⟨q, hq⟩ : ∃ q, q = rd_L2 Z (k : Int) := ⟨_, rfl⟩
                  rw [← hq] at hcz hlz hRz hcp hlp hRp hll
                  clear hq
                  have hSame := Kept.mk (fun w h1 h2 => jotterlaw0_SameBytes.calls 600 Az cz q Ap cp q true w h1 hlz h2 hlp (same_f 600 q (by omega) (by omega)))
                  have hRz := Kept.mk hRz
                  have hRp := Kept.mk hRp
                  clear hlz hlp
                  have hkj : (k : Int) - (P.length : Int) = (j : Int) := by omega
                  have hkj1 : k - P.length = j := by omega
                  have hjK := Kept.mk hj
                  clear hj
                  go_wp2_with (go_at_call 44; (with_reducible refine (hSame.out _ hRz.out hRp.out).mono ?_); rintro e wb ⟨rfl, hbb⟩; have hb := hbb.below; have KP2 := Kept.mk (Kd.C_below KP.out hb); have KR2 := Kept.mk (Kd.C_below KR.out hb); have KZ2 := Kept.mk (Kd.C_below KZ.out hb); have KS2 := Kept.mk (Kd.C_below KS.out hb); have KW2 := Kept.mk (bel_step KW.out hb); clear hb hbb hcz hcp)
                  go_roundw
                  case rel => exact ⟨k + 1, by omega, by go_num, KP2, KR2, KZ2, KS2, KW2⟩
                  case measure => simp [intOf]; omega
              · have hke : k = Z.length := by omega
                subst hke
                clear hlt hk
                go_wp2_with (first
                  | (go_at_call 27; (with_reducible refine (Low_walk size ((bs.length : Int) + 1) (by omega) (by omega) _).mono ?_); rintro e w' ⟨q, hq, rfl, rfl⟩))
                have hfl1 := hfK1.out
                have hfl3 := hfK3.out
                obtain ⟨tq, htq⟩ : ∃ tq, tq = bs.take q := ⟨_, rfl⟩
                have htl : tq.length = q := by rw [htq, List.length_take]; omega
                have htf : (flat Z).take q = tq := by
                  have e : q = min q (bs.length) := by omega
                  rw [htq, ← hfK4.out, List.take_take]
                  rw [← e]
                have hT9 : KI.C w' A9 tq.length tq := by
                  rw [htq]
                  exact Kd.C_take KS.out (by omega)
                have hJ := Join_in B3 d3 Z q w' KZ.out hneK.out hfl1 (by omega) hfK2.out (by omega)
                rw [htf] at hJ
                have hT9 := Kept.mk hT9
                clear htf htq
                subst htl
                refine hJ.mono ?_
                rintro e wj ⟨Aj, cj, rfl, hcj, hCj, hbj⟩
                have KJ := Kept.mk hCj
                have KT := Kept.mk (Kd.C_below hT9.out hbj)
                have KW2 := Kept.mk (bel_step KW.out hbj)
                have hq9 : tq.length ≤ c9 := by omega
                have hSame := Kept.mk (fun w h1 h2 => jotterlaw0_SameBytes.calls 1000 Aj cj tq A9 c9 tq true w h1 hcj h2 hq9 (same_f 1000 tq (by omega) (by omega)))
                clear hJ hCj hbj hfl1 hfl3
                go_wp2_with (first
                  | (go_at_call 44; (with_reducible refine (hSame.out _ KJ.out KT.out).mono ?_); rintro e wb ⟨rfl, hbb⟩; have KW3 := Kept.mk (bel_step KW2.out hbb.below); clear hbb)
                  | (go_at_call 38; (with_reducible refine (awake_c _).mono ?_); rintro e wc ⟨rfl, hbc⟩; have KW4 := Kept.mk (bel_step KW3.out hbc); clear hbc))
                all_goals (go_ret; exact ⟨rfl, KW4.out⟩)
    · have hMK := Kept.mk (fun w => geom_May.calls b p y s t false w (by rw [may_f]; simp [hmay]))
      go_enter Try.func13, Try.ntmps13
      go_wp2_with (first
        | ((with_reducible refine gate_dst (N := 5) rfl ?_); refine box_event ?hg (N := 5) ?hd (cs := Geo b p y s t) (t := 23) ?hr ?_; (case hd => rfl); (case hg => rfl); (case hr => first | (go_simp; done) | (go_simp; rfl)); intro gb hg w1 hbox hb; have hB1 := Kept.mk hb; have z0 := (blk_cell hbox 0).trans rfl; have z1 := (blk_cell hbox 1).trans rfl; have z2 := (blk_cell hbox 2).trans rfl; have z3 := (blk_cell hbox 3).trans rfl; have z4 := (blk_cell hbox 4).trans rfl; clear hbox hb hg)
        | (go_at_call 14; (with_reducible refine (hMK.out _).mono ?_); rintro e w3 ⟨rfl, hb⟩; have hB3 := Kept.mk (bel_step hB1.out hb); clear hb)
        | (go_at_call 38; (with_reducible refine (awake_c _).mono ?_); rintro e w2 ⟨rfl, hb⟩; have hB2 := Kept.mk (bel_step hB3.out hb); clear hb))
      all_goals (go_ret; exact ⟨rfl, hB2.out⟩)
end Go.Proofs.Ytmpbedjbimimoaa.Ew
