/-
  The walk of the document's own part: two bytes more. Condition: the number is in a point's bounds.
-/
import Derived.Test.YtlffbdfkanibcaaTg
import Derived.Test.YtlffbdfkanibcaaTh
namespace Go.Proofs.Ytlffbdfkanibcaa.Sk
open Go.RowKit Go.Proofs.YtlffbdfkanibcaaW.PrintWords Go.Proofs.YtlffbdfkanibcaaW.PrintLast Go.Proofs.YtlffbdfkanibcaaW.PrintMore
open Fl Go.Proofs.Ytlffbdfkanibcaa.Pt
set_option linter.unusedSimpArgs false
set_option linter.unusedVariables false

theorem toInt_I (n : Int) (hn : n.natAbs < 2 ^ 50) : floatToIntVal .f64 (I n) .i64 = some n := by
  obtain ⟨p, hr⟩ := rep_I n (by omega)
  have h1 : (FloatKind.f64.decode (I n)).toInt .zero = some n := by
    show (Ieee.double.read (I n)).toInt .zero = some n
    rw [hr.read]
    have e1 : (-(p : Int)).toNat = 0 := by omega
    have e2 : (- -(p : Int)).toNat = p := by omega
    simp only [Ieee.Datum.toInt, Ieee.Datum.integral, e1, e2, Nat.shiftLeft_zero, cut_zero_exact]
    have := signed_of (n := n) (p := 0) hr.neg hr.pos 0
    simpa using this
  unfold floatToIntVal
  rw [h1]
  have h2 : IntKind.i64.min ≤ n ∧ n ≤ IntKind.i64.max := by
    have e1 : IntKind.i64.min = -9223372036854775808 := by decide
    have e2 : IntKind.i64.max = 9223372036854775807 := by decide
    omega
  simp only [h2, and_self, if_true]

theorem info5 : (Try.prog.info? 5).map (fun i => (i.zero, i.size, i.bytes)) = some (some (.int .u8 0), 1, 1) := by kernel_rfl
abbrev B8 (l : List Int) : List Value := l.map (Value.int .u8)
theorem u16_shr (x : Int) : IntKind.u8.wrap (IntKind.u16.wrap x / 256) = hi8 x := by
  unfold hi8
  simp only [IntKind.wrap, IntKind.signed, IntKind.bits]
  simp
  omega
theorem u16_low (x : Int) : IntKind.u8.wrap (IntKind.u16.wrap x) = lo8 x := by
  unfold lo8
  simp only [IntKind.wrap, IntKind.signed, IntKind.bits]
  simp
set_option maxRecDepth 100000 in
set_option maxHeartbeats 4000000 in
theorem part_walk (B : Nat) (v : Value) (bs : List Int) (x : Int) (hx : In x) (hl : bs.length ≤ 100000) (w0 w : World) (hs : B ≤ w.heap.size) (hB : Below B w0 w) (ho : w.ownsRow B 5 1 v bs.length (B8 bs)) :
    Calls Try.prog 49 #[v, .float .f64 (I x)] w fun e w' => ∃ v', e = .returned v' ∧ w'.ownsRow B 5 1 v' (bs.length + 2) (B8 (bs ++ [hi8 x, lo8 x])) ∧ Below B w0 w' ∧ B ≤ w'.heap.size := by
  have u40 := Try.underlying40
  obtain ⟨i0, hi, hz0, hz1, hz2⟩ := info_parts info5
  have o1 : ∀ w, (convert 26 3 (.float .f64 (I x))).run Try.prog w = .ok (.int .i64 x) w := fun w => run_convert_float_int w 26 3 .f64 .i64 _ _ (by rw [Try.underlying26]; rfl) Try.underlying3 (toInt_I x (by unfold In at hx; omega))
  have HO := Kept.mk ho
  have HB := Kept.mk hB
  have HS := Kept.mk hs
  have e1 := u16_shr x
  have e2 := u16_low x
  clear ho hB hs hx
  generalize hi8 x = a at *
  generalize lo8 x = b at *
  go_enter Try.func49, Try.ntmps49
  go_wp2_with (first | simp only [o1] | (at_builtin; refine wpList_append_own _ rfl (.tmp 9) (.tmp 15) 40 rfl B 5 i0 (.int .u8 0) 1 1 u40 hi hz0 hz1 hz2 rfl (by decide) _ bs.length _ rfl (HO.out.alloc _) ⟨w.heap.size, 0, none⟩ 2 2 [.int .u8 a, .int .u8 b] rfl rfl ?c1 (by intro u hu; simp at hu; rcases hu with rfl | rfl <;> rfl) (by unfold maxLen; omega) (by omega) (by have := HS.out; simp; omega) ?_))
  case c1 =>
    intro j u hj
    match j, hj with
    | 0, hj => cases hj; exact World.cell?_alloc_new _ _ _ _
    | 1, hj => cases hj; exact World.cell?_alloc_new _ _ _ _
  intro v' w2 hown' hgrow _
  have hO3 : Kept (w2.ownsRow B 5 1 v' (bs.length + 2) (B8 (bs ++ [a, b]))) := ⟨by rw [show B8 (bs ++ [a, b]) = B8 bs ++ [.int .u8 a, .int .u8 b] from by simp [B8]]; exact hown'⟩
  have hB3 : Kept (Below B w0 w2) := ⟨(HB.out.alloc HS.out _).grown hgrow (by have := HS.out; simp; omega) (fun g hg => (HO.out.lt g hg).1)⟩
  have hS3 : Kept (B ≤ w2.heap.size) := ⟨by have := HS.out; have := hgrow.size; simp at this; omega⟩
  clear hown' hgrow
  go_wp2
  all_goals (go_ret; exact ⟨_, rfl, hO3.out, hB3.out, hS3.out⟩)
end Go.Proofs.Ytlffbdfkanibcaa.Sk
