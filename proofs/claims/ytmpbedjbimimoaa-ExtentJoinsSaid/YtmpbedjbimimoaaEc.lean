/-
  The walks of slices.Concat and of extent's Join on rows of bytes, none of them empty. No condition beyond their length.
-/
import Derived.Test.YtmpbedjbimimoaaEg
import Derived.Test.YtmpbedjbimimoaaPExtentBackx
import Derived.Laws.AppendOwn
namespace Go.Proofs.Ytmpbedjbimimoaa.Eb
open Go.RowKit Go.Proofs.YtmpbedjbimimoaaW.PrintWords Go.Proofs.YtmpbedjbimimoaaW.PrintLast Go.Proofs.YtmpbedjbimimoaaW.PrintMore
open PExtentBack
set_option linter.unusedSimpArgs false
set_option linter.unusedVariables false

abbrev KB := Kd.slice 5 (Kd.int .u8)
/-- The bytes of the first parts, one behind the other. -/
def flat (ps : List (List Int)) : List Int := ps.flatten
theorem flat_step (ps : List (List Int)) (k : Nat) (hk : k < ps.length) : flat (ps.take (k + 1)) = flat (ps.take k) ++ rd_L2 ps (k : Int) := by
  unfold flat rd_L2
  rw [List.take_add_one, List.flatten_append]
  simp [List.getD, List.getElem?_eq_getElem hk]
theorem flat_le (ps : List (List Int)) (k : Nat) : (flat (ps.take k)).length ≤ (flat ps).length := by
  unfold flat
  have : ps.flatten = (ps.take k).flatten ++ (ps.drop k).flatten := by rw [← List.flatten_append, List.take_append_drop]
  rw [this, List.length_append]; omega

theorem rd_ne (ps : List (List Int)) (hne : ∀ p ∈ ps, 0 < p.length) (k : Nat) (hk : k < ps.length) : 0 < (rd_L2 ps (k : Int)).length := by
  unfold rd_L2
  simp only [Int.toNat_natCast]
  rw [List.getD_eq_getElem?_getD, List.getElem?_eq_getElem hk]
  exact hne _ (List.getElem_mem _)

set_option maxRecDepth 100000 in
set_option maxHeartbeats 4000000 in
theorem Concat_walk (A : Option Addr) (cap : Nat) (ps : List (List Int)) (w : World) (hC : KB.C w A ps.length ps) (hne : ∀ p ∈ ps, 0 < p.length) (hb : (flat ps).length ≤ 1000000) (hl : ps.length ≤ 1000000) :
    Calls Try.prog 60 #[.slice A ps.length cap] w fun e w' => ∃ v, e = .returned v ∧ w'.ownsRow w.heap.size 5 1 v (flat ps).length ((flat ps).map (Value.int .u8)) ∧ Below w.heap.size w w' := by
  have HC := Kept.mk hC
  have HN := Kept.mk hne
  have u49 := Try.underlying49
  obtain ⟨i0, hi, hz0, hz1, hz2⟩ := info_parts info5
  clear hC hne
  obtain ⟨n, hn⟩ : ∃ n, n = ps.length := ⟨_, rfl⟩
  have hnK := Kept.mk hn
  have hbK := Kept.mk hb
  rw [← hn] at hl ⊢
  clear hn hb
  go_enter Try.func60, Try.ntmps60
  go_wp2
  go_loop [3, 11] (fun s i => ∃ k : Nat, k ≤ n ∧ i = .int .i64 k ∧ s = .int .i64 ((flat (ps.take k)).length : Nat)) (fun _ i => n - (intOf i).toNat)
  case atStart => exact ⟨0, Nat.zero_le _, rfl, rfl⟩
  case round =>
    obtain ⟨k, hk, rfl, rfl⟩ := hrel
    by_cases hlt : k < n
    · obtain ⟨ad, A0, c0, hA, hcell, hl0, hr0⟩ := at_L2 HC.out (k : Int) (by omega) (by have := hnK.out; omega)
      have hstep := Kept.mk (flat_step ps k (by have := hnK.out; omega))
      have hle := flat_le ps (k + 1)
      have hlen : (flat (ps.take (k + 1))).length = (flat (ps.take k)).length + (rd_L2 ps (k : Int)).length := by rw [hstep.out, List.length_append]
      have hbb := hbK.out
      rw [Int.toNat_natCast] at hcell
      subst hA
      have hlenK := Kept.mk hlen
      have hb1 : (flat (ps.take k)).length + (rd_L2 ps (k : Int)).length ≤ 1000000 := by omega
      clear hr0 hl0 hle hbb hlen
      generalize (flat (ps.take k)).length = a at *
      generalize (rd_L2 ps (k : Int)).length = b at *
      go_wp2
      go_round
      case rel => exact ⟨k + 1, by omega, by go_num, by rw [hlenK.out]; go_num⟩
      case measure => simp [intOf]; omega
    · have hke : k = n := by omega
      subst hke
      have hall : ps.take k = ps := List.take_of_length_le (by have := hnK.out; omega)
      rw [hall]
      have hbb := hbK.out
      clear hall
      go_wp2_with (go_at_call 64; (with_reducible refine (Grow_walk (flat ps).length (by omega) _).mono ?_); rintro e w1 ⟨v, rfl, hown, hbel⟩; have hO := Kept.mk hown; have hB := Kept.mk hbel; clear hown hbel)
      go_loopw [6, 27] (fun v i wr => ∃ j : Nat, j ≤ k ∧ i = .int .i64 j ∧ wr.ownsRow w.heap.size 5 1 v (flat (ps.take j)).length ((flat (ps.take j)).map (Value.int .u8)) ∧ Below w.heap.size w wr) (fun _ i _ => k - (intOf i).toNat)
      case atStart => exact ⟨0, Nat.zero_le _, rfl, hO.out, hB.out⟩
      case round =>
        obtain ⟨j, hj, rfl, hown, hbel⟩ := hrel
        have hO2 := Kept.mk hown
        have hB2 := Kept.mk hbel
        clear hown hbel hO hB
        by_cases hlt : j < k
        · obtain ⟨ad, A0, c0, hA, hcell, hl0, hr0⟩ := at_L2 (Kd.C_below HC.out hB2.out) (j : Int) (by omega) (by have := hnK.out; omega)
          have hstep := Kept.mk (flat_step ps j (by have := hnK.out; omega))
          have hle := flat_le ps (j + 1)
          have hlen : (flat (ps.take (j + 1))).length = (flat (ps.take j)).length + (rd_L2 ps (j : Int)).length := by rw [hstep.out, List.length_append]
          have hpos := rd_ne ps HN.out j (by have := hnK.out; omega)
          have hrr := Kd.reads_of_C (d := (0 : Int)) hr0
          obtain ⟨ad2, hA2, hc2⟩ := hrr.2.2 hpos
          rw [Int.toNat_natCast] at hcell
          subst hA hA2
          have hlenK := Kept.mk hlen
          have hb1 : (flat (ps.take j)).length + (rd_L2 ps (j : Int)).length ≤ 1000000 := by omega
          have hc2K := Kept.mk hc2
          clear hr0 hl0 hle hlen hrr hc2
          go_wp2_with (at_builtin; refine wpList_append_own _ rfl (.tmp 31) (.tmp 32) 49 rfl w.heap.size 5 i0 (.int .u8 0) 1 1 u49 hi hz0 hz1 hz2 rfl (by decide) _ (flat (ps.take j)).length _ rfl hO2.out ad2 (rd_L2 ps (j : Int)).length c0 ((rd_L2 ps (j : Int)).map (Value.int .u8)) rfl (by simp) ?c1 (by intro u hu; obtain ⟨x, _, rfl⟩ := List.mem_map.1 hu; rfl) (by unfold maxLen; omega) (by omega) hB2.out.size ?_)
          case c1 =>
            intro t u ht
            rw [List.getElem?_map] at ht
            obtain ⟨x, hx, rfl⟩ := Option.map_eq_some_iff.1 ht
            obtain ⟨htl, hxe⟩ := List.getElem?_eq_some_iff.1 hx
            have := hc2K.out t htl
            rw [this, List.getD_eq_getElem?_getD, hx]; rfl
          intro v' w2 hown' hgrow _
          have hO3 := Kept.mk hown'
          have hB3 : Kept (Below w.heap.size w w2) := ⟨hB2.out.grown hgrow hB2.out.size (fun g hg => (hO2.out.lt g hg).1)⟩
          clear hown' hgrow
          go_wp2
          go_roundw
          case rel => exact ⟨j + 1, by omega, by go_num, by rw [hlenK.out, hstep.out, List.map_append]; exact hO3.out, hB3.out⟩
          case measure => simp [intOf]; omega
        · have hje : j = k := by omega
          subst hje
          have hall : ps.take j = ps := List.take_of_length_le (by have := hnK.out; omega)
          rw [hall] at hO2
          clear hall
          go_wp2
          all_goals (go_ret; exact ⟨_, rfl, hO2.out, hB2.out⟩)
theorem own_reads {w : World} {base : Nat} {v : Value} (xs : List Int) (h : w.ownsRow base 5 1 v xs.length (xs.map (Value.int .u8))) (hn : 0 < xs.length) :
    ∃ g cap, v = .slice (some ⟨g, 0, none⟩) xs.length cap ∧ xs.length ≤ cap ∧ cap ≤ maxLen ∧ ∀ j, j < xs.length → w.cell? ((⟨g, 0, none⟩ : Addr).add j) = some (.int .u8 (xs.getD j 0)) := by
  have h0 := h
  rcases h.2 with ⟨_, h0⟩ | ⟨g, cap, cur, rfl, hg, hh, h3, h4, _⟩
  · omega
  · refine ⟨g, cap, rfl, h3, h4, fun j hj => ?_⟩
    refine h0.cells (g := g) rfl j _ ?_
    rw [List.getElem?_map, List.getElem?_eq_getElem hj, List.getD_eq_getElem?_getD, List.getElem?_eq_getElem hj]; rfl

theorem take_reads {w : World} {a : Addr} (xs : List Int) (k : Nat) (hk : k ≤ xs.length) (hb : xs.length ≤ 1000000) (h : ∀ j, j < xs.length → w.cell? (a.add j) = some (.int .u8 (xs.getD j 0))) :
    (Kd.int .u8).C w (some a) k (xs.take k) := by
  refine Kd.C_of_reads (d := (0 : Int)) (h1 := fun _ => rfl) ⟨by simp; omega, by omega, fun _ => ⟨a, rfl, fun j hj => ?_⟩⟩
  rw [h j (by omega), List.getD_eq_getElem?_getD, List.getD_eq_getElem?_getD, List.getElem?_take_of_lt hj]

set_option maxRecDepth 100000 in
theorem Join_in (A : Option Addr) (cap : Nat) (ps : List (List Int)) (k : Nat) (w : World) (hC : KB.C w A ps.length ps) (hne : ∀ p ∈ ps, 0 < p.length) (hb : (flat ps).length ≤ 1000000) (hl : ps.length ≤ 1000000) (hpos : 0 < (flat ps).length) (hk : k ≤ (flat ps).length) :
    Calls Try.prog 43 #[.slice A ps.length cap, .int .i64 (k : Int)] w fun e w' => ∃ A' c', e = .returned (.tuple #[.slice A' k c', .bool true]) ∧ k ≤ c' ∧ (Kd.int .u8).C w' A' k ((flat ps).take k) ∧ Below w.heap.size w w' := by
  have u49 := Try.underlying49
  have HC := Kept.mk (Concat_walk A cap ps w hC hne hb hl)
  clear hC hne
  go_enter Try.func43, Try.ntmps43
  go_wp2_with (go_at_call 60; refine HC.out.mono ?_; rintro e w1 ⟨v, rfl, hown, hbel⟩; obtain ⟨g, cp, rfl, hcp, hcm, hcells⟩ := own_reads (flat ps) hown hpos; have hB := Kept.mk hbel; have hR := Kept.mk (take_reads (flat ps) k hk hb hcells); clear hown hbel hcells)
  all_goals (go_ret2; exact ⟨_, _, rfl, Nat.le_refl _, hR.out, hB.out⟩)

set_option maxRecDepth 100000 in
theorem Join_out (A : Option Addr) (cap : Nat) (ps : List (List Int)) (k : Int) (w : World) (hC : KB.C w A ps.length ps) (hne : ∀ p ∈ ps, 0 < p.length) (hb : (flat ps).length ≤ 1000000) (hl : ps.length ≤ 1000000) (hpos : 0 < (flat ps).length) (hk : ((flat ps).length : Int) < k) :
    Calls Try.prog 43 #[.slice A ps.length cap, .int .i64 k] w fun e w' => e = .returned (.tuple #[.slice none 0 0, .bool false]) ∧ Below w.heap.size w w' := by
  have HC := Kept.mk (Concat_walk A cap ps w hC hne hb hl)
  clear hC hne
  go_enter Try.func43, Try.ntmps43
  go_wp2_with (go_at_call 60; refine HC.out.mono ?_; rintro e w1 ⟨v, rfl, hown, hbel⟩; obtain ⟨g, cp, rfl, hcp, hcm, hcells⟩ := own_reads (flat ps) hown hpos; have hB := Kept.mk hbel; clear hown hbel hcells)
  all_goals (go_ret2; exact ⟨rfl, hB.out⟩)
end Go.Proofs.Ytmpbedjbimimoaa.Eb
