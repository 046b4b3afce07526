/-
  The walks of line, and of stroke's part, Lay and Size at it. Condition: a part is in bounds.
-/
import Derived.Test.YtlffbdfkanibcaaTl
namespace Go.Proofs.Ytlffbdfkanibcaa.Sk
open Go.RowKit Go.Proofs.YtlffbdfkanibcaaW.PrintWords Go.Proofs.YtlffbdfkanibcaaW.PrintLast Go.Proofs.YtlffbdfkanibcaaW.PrintMore
open Fl Go.Proofs.Ytlffbdfkanibcaa.Pt
set_option linter.unusedSimpArgs false
set_option linter.unusedVariables false

theorem toInt_I16 (n : Int) (hn : In n) : floatToIntVal .f64 (I n) .i16 = some n := by
  have hq : n.natAbs < 2 ^ 50 := by unfold In at hn; omega
  have h0 := toInt_I n hq
  unfold floatToIntVal at h0 ⊢
  cases hc : (FloatKind.f64.decode (I n)).toInt .zero with
  | none => rw [hc] at h0; simp at h0
  | some m =>
    rw [hc] at h0
    simp only at h0 ⊢
    split at h0
    · cases h0
      have h2 : IntKind.i16.min ≤ n ∧ n ≤ IntKind.i16.max := by
        have e1 : IntKind.i16.min = -32768 := by decide
        have e2 : IntKind.i16.max = 32767 := by decide
        unfold In at hn
        omega
      simp only [h2, and_self, if_true]
    · cases h0
set_option maxRecDepth 100000 in
set_option maxHeartbeats 4000000 in
theorem vpart_walk (B : Nat) (v : Value) (bs : List Int) (x : Int) (hx : In x) (hl : bs.length ≤ 100000) (w0 w : World) (hs : B ≤ w.heap.size) (hB : Below B w0 w) (ho : w.ownsRow B 5 1 v bs.length (B8 bs)) :
    Calls Try.prog 43 #[v, .float .f64 (I x)] w fun e w' => ∃ v', e = .returned v' ∧ w'.ownsRow B 5 1 v' (bs.length + 2) (B8 (bs ++ [hi8 x, lo8 x])) ∧ Below B w0 w' ∧ B ≤ w'.heap.size := by
  have u40 := Try.underlying40
  obtain ⟨i0, hi, hz0, hz1, hz2⟩ := info_parts info5
  have o1 : ∀ w, (convert 26 69 (.float .f64 (I x))).run Try.prog w = .ok (.int .i16 x) w := fun w => run_convert_float_int w 26 69 .f64 .i16 _ _ (by rw [Try.underlying26]; rfl) Try.underlying69 (toInt_I16 x hx)
  have HO := Kept.mk ho
  have HB := Kept.mk hB
  have HS := Kept.mk hs
  have e1 := u16_shr x
  have e2 := u16_low x
  clear ho hB hs hx
  generalize hi8 x = a at *
  generalize lo8 x = b at *
  go_enter Try.func43, Try.ntmps43
  go_wp2_with (first | simp only [o1] | (at_builtin; refine wpList_append_own _ rfl (.tmp 9) (.tmp 15) 40 rfl B 5 i0 (.int .u8 0) 1 1 u40 hi hz0 hz1 hz2 rfl (by decide) _ bs.length _ rfl (HO.out.alloc _) ⟨w.heap.size, 0, none⟩ 2 2 [.int .u8 a, .int .u8 b] rfl rfl ?c1 (by intro u hu; simp at hu; rcases hu with rfl | rfl <;> rfl) (by unfold maxLen; omega) (by omega) (by have := HS.out; simp; omega) ?_))
  case c1 =>
    intro j u hj
    match j, hj with
    | 0, hj => cases hj; exact World.cell?_alloc_new _ _ _ _
    | 1, hj => cases hj; exact World.cell?_alloc_new _ _ _ _
  intro v' w2 hown' hgrow _
  have hO3 : Kept (w2.ownsRow B 5 1 v' (bs.length + 2) (B8 (bs ++ [a, b]))) := ⟨by rw [show B8 (bs ++ [a, b]) = B8 bs ++ [.int .u8 a, .int .u8 b] from by simp [B8]]; exact hown'⟩
  have hB3 : Kept (Below B w0 w2) := ⟨(HB.out.alloc HS.out _).grown hgrow (by have := HS.out; simp; omega) (fun g hg => (HO.out.lt g hg).1)⟩
  have hS3 : Kept (B ≤ w2.heap.size) := ⟨by have := HS.out; have := hgrow.size; simp at this; omega⟩
  clear hown' hgrow
  go_wp2
  all_goals (go_ret; exact ⟨_, rfl, hO3.out, hB3.out, hS3.out⟩)

theorem own_val {w : World} {B e size n : Nat} {v : Value} {xs : List Value} (h : w.ownsRow B e size v n xs) (hn : 0 < n) : ∃ g c, v = .slice (some ⟨g, 0, none⟩) n c ∧ n ≤ c ∧ B ≤ g ∧ g < w.heap.size := by
  rcases h.2 with ⟨_, h0⟩ | ⟨g, cap, cur, e1, hb, hg, h1, h2, h3, h4⟩
  · omega
  · exact ⟨g, cap, e1, h1, hb, blk_lt hg⟩

/-! ### line -/
def lineSt : St := ⟨2, 3, [(1, -2)]⟩
def lineB : List Int := [1, 35, 1, 0, 1, 255, 254]
theorem k1 : (4607182418800017408 : Nat) = I 1 := by decide +kernel
theorem km2 : (13835058055282163712 : Nat) = I (-2) := by decide +kernel
theorem k2 : (4611686018427387904 : Nat) = I 2 := by decide +kernel
theorem k0 : (0 : Nat) = I 0 := by decide +kernel
theorem line_walk (w : World) : Calls Try.prog 32 #[] w fun e w' => ∃ A c, e = .returned (.slice A 1 c) ∧ Sh w' A [lineSt] ∧ Below w.heap.size w w' := by
  go_enter Try.func32, Try.ntmps32
  go_wp2
  have hP : Pts ((w.alloc (Obj.cells #[Value.complex FloatKind.f64 4607182418800017408 13835058055282163712] 22)).alloc (Obj.cells #[Value.int IntKind.i64 2, Value.int IntKind.i64 3, Value.slice (some ⟨w.heap.size, 0, none⟩) 1 1] 65)) (some ⟨w.heap.size, 0, none⟩) [(1, -2)] := ⟨fun _ => ⟨_, rfl, by simp; omega, fun j hj => by
    have : j = 0 := by simpa using hj
    subst this
    rw [k1, km2]
    exact (World.cell?_alloc_old _ _ _ (by simp)).trans (World.cell?_alloc_new _ _ _ _)⟩⟩
  have hS : Sh ((w.alloc (Obj.cells #[Value.complex FloatKind.f64 4607182418800017408 13835058055282163712] 22)).alloc (Obj.cells #[Value.int IntKind.i64 2, Value.int IntKind.i64 3, Value.slice (some ⟨w.heap.size, 0, none⟩) 1 1] 65)) (some ⟨w.heap.size + 1, 0, none⟩) [lineSt] := ⟨fun _ => ⟨w.heap.size + 1, rfl, by simp, fun j hj => by
    have : j = 0 := by simpa using hj
    subst this
    have hz : (w.alloc (Obj.cells #[Value.complex FloatKind.f64 4607182418800017408 13835058055282163712] 22)).heap.size = w.heap.size + 1 := by simp
    refine ⟨some ⟨w.heap.size, 0, none⟩, 1, ?_, ?_, ?_, hP⟩
    · rw [← hz]; exact World.cell?_alloc_new (w.alloc (Obj.cells #[Value.complex FloatKind.f64 4607182418800017408 13835058055282163712] 22)) _ _ _
    · rw [← hz]; exact World.cell?_alloc_new (w.alloc (Obj.cells #[Value.complex FloatKind.f64 4607182418800017408 13835058055282163712] 22)) _ _ _
    · rw [← hz]; exact World.cell?_alloc_new (w.alloc (Obj.cells #[Value.complex FloatKind.f64 4607182418800017408 13835058055282163712] 22)) _ _ _⟩⟩
  have hB : Below w.heap.size w ((w.alloc (Obj.cells #[Value.complex FloatKind.f64 4607182418800017408 13835058055282163712] 22)).alloc (Obj.cells #[Value.int IntKind.i64 2, Value.int IntKind.i64 3, Value.slice (some ⟨w.heap.size, 0, none⟩) 1 1] 65)) := bel_alloc (bel_alloc (Below.refl _ _) _) _
  go_ret
  exact ⟨_, _, rfl, hS, hB⟩
theorem may_line : may [lineSt] := ⟨by decide, fun x hx => by
  have : x = lineSt := by simpa using hx
  subst this
  exact ⟨by decide, by decide, by decide⟩⟩
theorem in_line : ptsIn [lineSt] := fun x hx p hp => by
  have : x = lineSt := by simpa using hx
  subst this
  have : p = (1, -2) := by simpa [lineSt] using hp
  subst this
  exact ⟨by decide, by decide⟩
theorem line_len : ∀ x ∈ [lineSt], x.pts.length ≤ 1000 := fun x hx => by
  have : x = lineSt := by simpa using hx
  subst this
  decide
set_option maxRecDepth 100000 in
set_option maxHeartbeats 8000000 in
theorem vLay_walk (A : Option Addr) (cs : Nat) (w : World) (hs : Sh w A [lineSt]) :
    Calls Try.prog 31 #[.slice A 1 cs] w fun e w' => ∃ v, e = .returned (.tuple #[v, .int .i64 0]) ∧ w'.ownsRow w.heap.size 5 1 v 7 (B8 lineB) ∧ Below w.heap.size w w' := by
  have hu40 := Try.underlying40
  obtain ⟨i0, hi, hz0, hz1, hz2⟩ := info_parts info5
  have HS := Pt.Kept.mk hs
  have hM : Pt.Kept (Calls Try.prog 37 #[.slice A 1 cs] w fun e w' => e = .returned (.bool true) ∧ Below w.heap.size w w') := ⟨by
    have h := may_walk A cs [lineSt] (by decide) line_len in_line w hs
    rw [decide_eq_true may_line] at h
    exact h⟩
  obtain ⟨g, rfl, hgl, hcc⟩ := hs.ex (by decide)
  obtain ⟨P, c, c0, c1, c2, hp⟩ := hcc 0 (by decide)
  obtain ⟨gp, rfl, hgpl, hpc⟩ := hp.ex (by decide)
  have c3 := hpc 0 (by decide)
  have C0 : Pt.Kept (w.cell? ⟨g, 0, none⟩ = some (.int .i64 2)) := ⟨c0⟩
  have C1 : Pt.Kept (w.cell? ⟨g, 1, none⟩ = some (.int .i64 3)) := ⟨c1⟩
  have C2 : Pt.Kept (w.cell? ⟨g, 2, none⟩ = some (.slice (some ⟨gp, 0, none⟩) 1 c)) := ⟨c2⟩
  have C3 : Pt.Kept (w.cell? ⟨gp, 0, none⟩ = some (.complex .f64 (I 1) (I (-2)))) := ⟨c3⟩
  clear hs hcc hp hpc c0 c1 c2 c3 HS
  go_enter Try.func31, Try.ntmps31
  go_wp2_with (go_at_call 37; (with_reducible refine hM.out.mono ?_); rintro e w0 ⟨rfl, hb⟩; have hB0 := Pt.Kept.mk hb; clear hb)
  have hO1 : Pt.Kept ((w0.alloc (.cells #[.int .u8 1] 5)).ownsRow w.heap.size 5 1 (.slice (some ⟨w0.heap.size, 0, none⟩) 1 1) 1 (B8 [1])) := ⟨own_mono (own_first w0 (.int .u8 1)) hB0.out.size⟩
  have hB1 := Pt.Kept.mk (bel_alloc hB0.out (.cells #[.int .u8 1] 5))
  go_loopw [4, 18] (fun v i wr => (i = .int .i64 0 ∧ Pt.Kept (wr.ownsRow w.heap.size 5 1 v 1 (B8 [1])) ∧ Pt.Kept (Below w.heap.size w wr)) ∨ (i = .int .i64 1 ∧ Pt.Kept (wr.ownsRow w.heap.size 5 1 v 7 (B8 lineB)) ∧ Pt.Kept (Below w.heap.size w wr))) (fun _ i _ => 1 - (intOf i).toNat)
  case atStart => exact .inl ⟨rfl, hO1, hB1⟩
  case round =>
    clear hO1 hB1 hB0
    rcases hrel with ⟨rfl, hO, hB⟩ | ⟨rfl, hO, hB⟩
    · have c0 := (hB.out.cell (p := ⟨g, 0, none⟩) hgl).trans C0.out
      have c1 := (hB.out.cell (p := ⟨g, 1, none⟩) hgl).trans C1.out
      have c2 := (hB.out.cell (p := ⟨g, 2, none⟩) hgl).trans C2.out
      go_upto_region 7 with (fail)
      have hB2 := Pt.Kept.mk (bel_alloc hB.out (.cells #[.int .i64 2, .int .i64 3, .slice (some ⟨gp, 0, none⟩) 1 c] 65))
      have hO2 := Pt.Kept.mk (hO.out.alloc (.cells #[.int .i64 2, .int .i64 3, .slice (some ⟨gp, 0, none⟩) 1 c] 65))
      have x0 : (wr.alloc (.cells #[.int .i64 2, .int .i64 3, .slice (some ⟨gp, 0, none⟩) 1 c] 65)).cell? ⟨wr.heap.size, 0, none⟩ = some (.int .i64 2) := World.cell?_alloc_new _ _ _ _
      have x1 : (wr.alloc (.cells #[.int .i64 2, .int .i64 3, .slice (some ⟨gp, 0, none⟩) 1 c] 65)).cell? ⟨wr.heap.size, 1, none⟩ = some (.int .i64 3) := World.cell?_alloc_new _ _ _ _
      have x2 : (wr.alloc (.cells #[.int .i64 2, .int .i64 3, .slice (some ⟨gp, 0, none⟩) 1 c] 65)).cell? ⟨wr.heap.size, 2, none⟩ = some (.slice (some ⟨gp, 0, none⟩) 1 c) := World.cell?_alloc_new _ _ _ _
      have hgx : wr.heap.size < (wr.alloc (.cells #[.int .i64 2, .int .i64 3, .slice (some ⟨gp, 0, none⟩) 1 c] 65)).heap.size := by simp
      have hgw := hB.out.size
      have hne : Pt.Kept (some wr.heap.size ≠ u4.ownBlock) := ⟨fun e => Nat.lt_irrefl _ (hO.out.lt _ e.symm).2⟩
      clear c0 c1 c2 hB hO
      generalize (wr.alloc (.cells #[.int .i64 2, .int .i64 3, .slice (some ⟨gp, 0, none⟩) 1 c] 65)) = w1 at *
      generalize wr.heap.size = gx at *
      go_wp2_with (at_builtin; refine of_mark ?_)
      apply to_mark
      refine wpList_append_own _ rfl (.tmp 22) (.tmp 34) 40 rfl w.heap.size 5 i0 (.int .u8 0) 1 1 hu40 hi hz0 hz1 hz2 rfl (by decide) _ 1 _ rfl (hO2.out.alloc _) ⟨w1.heap.size, 0, none⟩ 2 2 [.int .u8 35, .int .u8 1] rfl rfl ?_ (by intro u hu; simp at hu; rcases hu with rfl | rfl <;> rfl) (by unfold maxLen; omega) (by omega) (by have := hB2.out.size; simp; omega) ?_
      · intro j u hj
        match j, hj with
        | 0, hj => cases hj; exact World.cell?_alloc_new _ _ _ _
        | 1, hj => cases hj; exact World.cell?_alloc_new _ _ _ _
      intro v' w2 hown' hgrow _
      have hO3 : Pt.Kept (w2.ownsRow w.heap.size 5 1 v' 3 (B8 [1, 35, 1])) := ⟨hown'⟩
      have hB3 : Pt.Kept (Below w.heap.size w w2) := ⟨(hB2.out.alloc hB2.out.size _).grown hgrow (by have := hB2.out.size; simp; omega) (fun g hg => (hO2.out.lt g hg).1)⟩
      have hx2 : Pt.Kept (w2.cell? ⟨gx, 2, none⟩ = some (.slice (some ⟨gp, 0, none⟩) 1 c)) := ⟨by
        have h1 : (w1.alloc (Obj.cells #[Value.int IntKind.u8 35, Value.int IntKind.u8 1] 5)).cell? ⟨gx, 2, none⟩ = some (.slice (some ⟨gp, 0, none⟩) 1 c) := (World.cell?_alloc_old _ _ _ (Nat.ne_of_lt hgx)).trans x2
        exact hgrow.cell h1 hne.out⟩
      clear hown' hgrow hO2 hB2 x0 x1 x2
      have x3 := hx2.out
      go_wp2
      clear x3 hx2 hne
      go_loopw [4, 39] (fun v2 j wr2 => (j = .int .i64 0 ∧ Pt.Kept (wr2.ownsRow w.heap.size 5 1 v2 3 (B8 [1, 35, 1])) ∧ Pt.Kept (Below w.heap.size w wr2)) ∨ (j = .int .i64 1 ∧ Pt.Kept (wr2.ownsRow w.heap.size 5 1 v2 7 (B8 lineB)) ∧ Pt.Kept (Below w.heap.size w wr2))) (fun _ j _ => 1 - (intOf j).toNat)
      case atStart => exact .inl ⟨rfl, hO3, hB3⟩
      case round =>
        clear hO3 hB3
        rcases hrel with ⟨rfl, hO, hB⟩ | ⟨rfl, hO, hB⟩
        · have c3 := (hB.out.cell (p := ⟨gp, 0, none⟩) hgpl).trans C3.out
          have P1 : Pt.Kept (Calls Try.prog 43 #[u4, .float .f64 (I 1)] wr fun e w' => ∃ v', e = .returned v' ∧ w'.ownsRow w.heap.size 5 1 v' 5 (B8 [1, 35, 1, 0, 1]) ∧ Below w.heap.size w w' ∧ w.heap.size ≤ w'.heap.size) :=
            ⟨vpart_walk w.heap.size u4 [1, 35, 1] 1 (by decide) (by decide) w wr hB.out.size hB.out hO.out⟩
          have P2 : Pt.Kept (∀ (v3 : Value) (W : World), W.ownsRow w.heap.size 5 1 v3 5 (B8 [1, 35, 1, 0, 1]) → Below w.heap.size w W → w.heap.size ≤ W.heap.size → Calls Try.prog 43 #[v3, .float .f64 (I (-2))] W fun e w' => ∃ v', e = .returned v' ∧ w'.ownsRow w.heap.size 5 1 v' 7 (B8 lineB) ∧ Below w.heap.size w w' ∧ w.heap.size ≤ w'.heap.size) :=
            ⟨fun v3 W ho hb hs => vpart_walk w.heap.size v3 [1, 35, 1, 0, 1] (-2) (by decide) (by decide) w W hs hb ho⟩
          go_wp2_with (go_at_call 43; (with_reducible refine P1.out.mono ?_); rintro e w2 ⟨v3, rfl, ho, hb, hz⟩; have hO5 := Pt.Kept.mk ho; have hB5 := Pt.Kept.mk hb; have hs5 := Pt.Kept.mk hz; clear ho hb hz P1)
          go_wp2_with (go_at_call 43; (with_reducible refine (P2.out _ _ hO5.out hB5.out hs5.out).mono ?_); rintro e w3 ⟨v4, rfl, ho, hb, hz⟩; have hO6 := Pt.Kept.mk ho; have hB6 := Pt.Kept.mk hb; clear ho hb hz)
          have hO7 : Pt.Kept (w3.ownsRow w.heap.size 5 1 v4 7 (B8 lineB)) := ⟨hO6.out⟩
          clear P2 hO hB hO5 hB5 hO6
          go_roundw
          case rel => exact .inr ⟨by go_num, hO7, hB6⟩
          case measure => simp [intOf]
        · go_wp2
          go_roundw
          case rel => exact .inr ⟨by go_num, hO, hB⟩
          case measure => simp [intOf]
    · go_wp2
      all_goals (go_ret2; exact ⟨_, rfl, hO.out, hB.out⟩)
set_option maxRecDepth 100000 in
theorem vSize_walk (A : Option Addr) (cs : Nat) (w : World) (hs : Sh w A [lineSt]) :
    Calls Try.prog 35 #[.slice A 1 cs] w fun e w' => e = .returned (.int .i64 7) ∧ Below w.heap.size w w' := by
  have hL := Pt.Kept.mk (vLay_walk A cs w hs)
  clear hs
  go_enter Try.func35, Try.ntmps35
  go_wp2_with (go_at_call 31; (with_reducible refine hL.out.mono ?_); rintro e w2 ⟨v, rfl, ho, hb⟩; have hB := Pt.Kept.mk hb; obtain ⟨g, c, rfl, _⟩ := own_val ho (by decide); clear ho hb)
  all_goals (go_ret; exact ⟨rfl, hB.out⟩)
end Go.Proofs.Ytlffbdfkanibcaa.Sk
