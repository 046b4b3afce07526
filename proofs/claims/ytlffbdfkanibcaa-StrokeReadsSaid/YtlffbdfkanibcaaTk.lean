/-
  A stroke of its own beside a sheet of one's own; how the document's reading steps. No condition.
-/
import Derived.Test.YtlffbdfkanibcaaTj
namespace Go.Proofs.Ytlffbdfkanibcaa.Sk
open Go.RowKit Go.Proofs.YtlffbdfkanibcaaW.PrintWords Go.Proofs.YtlffbdfkanibcaaW.PrintLast Go.Proofs.YtlffbdfkanibcaaW.PrintMore
open Fl Go.Proofs.Ytlffbdfkanibcaa.Pt
set_option linter.unusedSimpArgs false
set_option linter.unusedVariables false

/-- A sheet of one's own, and a stroke in a cell of its own. -/
structure Two (w : World) (B : Nat) (v : Value) (xs : List (St × Value)) (gx : Nat) (x : St) (pv : Value) : Prop where
  own : Own w B v xs
  one : Own w B (.slice (some ⟨gx, 0, none⟩) 1 1) [(x, pv)]
  ne : NeRow v (.slice (some ⟨gx, 0, none⟩) 1 1)
  nes : ∀ y ∈ xs, NeRow y.2 pv
theorem Two.new {w w1 : World} {B : Nat} {v : Value} {xs : List (St × Value)} {pen wid : Int} (h : Own w B v xs) (hg : w.grownBy w1 none) (hB : B ≤ w.heap.size) (hh : w1.heap[w.heap.size]? = some (.cells #[.int .i64 pen, .int .i64 wid, .slice none 0 0] 65 (0, 0))) :
    Two w1 B v xs w.heap.size ⟨pen, wid, []⟩ (.slice none 0 0) := by
  refine ⟨h.kept hg (by generalize v.ownBlock = q; rcases q with _ | q <;> simp) (fun x _ => by generalize x.2.ownBlock = q; rcases q with _ | q <;> simp), ⟨?_, fun y hy => ?_, by simp⟩, ?_, fun y _ => ne_nil' _⟩
  · exact ⟨rfl, .inr ⟨w.heap.size, 1, #[.int .i64 pen, .int .i64 wid, .slice none 0 0], rfl, hB, hh, Nat.le_refl _, by decide, rfl, rfl⟩⟩
  · have : y = (⟨pen, wid, []⟩, .slice none 0 0) := by simpa using hy
    subst this
    exact World.ownsRow_nil _ _ _ _
  · intro k hk hk'
    have h1 := own_lt h.row k hk
    have : w.heap.size = k := by simpa [Value.ownBlock] using hk'
    omega
theorem Two.below {w w1 : World} {B gx : Nat} {v pv : Value} {xs : List (St × Value)} {x : St} (h : Two w B v xs gx x pv) (hb : Below w.heap.size w w1) : Two w1 B v xs gx x pv := ⟨h.own.below hb, h.one.below hb, h.ne, h.nes⟩
theorem Two.alloc {w : World} {B gx : Nat} {v pv : Value} {xs : List (St × Value)} {x : St} (h : Two w B v xs gx x pv) (o : Obj) : Two (w.alloc o) B v xs gx x pv := ⟨h.own.alloc o, h.one.alloc o, h.ne, h.nes⟩
theorem Two.drewN {w : World} {B gx : Nat} {v pv : Value} {xs : List (St × Value)} {x : St} (h : Two w B v xs gx x pv) (n : Nat) : Two (w.drewN n) B v xs gx x pv := ⟨h.own.drewN n, h.one.drewN n, h.ne, h.nes⟩
theorem Two.drew {w : World} {B gx : Nat} {v pv : Value} {xs : List (St × Value)} {x : St} (h : Two w B v xs gx x pv) : Two w.drew B v xs gx x pv := ⟨h.own.drew, h.one.drew, h.ne, h.nes⟩
theorem Two.point {w w1 : World} {B gx : Nat} {v pv pv1 : Value} {xs : List (St × Value)} {x : St} {p : P2} (h : Two w B v xs gx x pv) (ho : w1.ownsRow B 22 1 pv1 (x.pts.length + 1) ((x.pts ++ [p]).map CP)) (hg : w.grownBy w1 pv.ownBlock)
    (hat : pv1.ownBlock = pv.ownBlock ∨ ∃ b, pv1.ownBlock = some b ∧ w.heap.size ≤ b) (h1 : pv1.oneCell' = true) : Two (w1.setCell ⟨gx, 2, none⟩ pv1) B v xs gx ⟨x.pen, x.wid, x.pts ++ [p]⟩ pv1 := by
  have hpv := h.one.pts (x, pv) (by simp)
  have hO : Own w1 B v xs := h.own.kept hg (ne_other (ne_symm (ne_types h.own.row hpv (by decide)))) (fun y hy => ne_other (ne_symm (h.nes y hy)))
  have hone := Own.point (xs := []) (p := p) h.one ho hg hat h1
  have hone1 : w1.ownsRow B 65 3 (.slice (some ⟨gx, 0, none⟩) 1 1) 1 (cellsOf [(x, pv)]) := h.one.row.kept hg (ne_other (ne_types hpv h.one.row (by decide)))
  refine ⟨hO.kept (gb_set (g := gx) 2 pv1) (ne_other (ne_symm h.ne)) (fun y hy => ne_other (ne_types hone1 (hO.pts y hy) (by decide))), by simpa using hone, h.ne, fun y hy => ne_append' (h.nes y hy) hat (h.own.pts y hy)⟩
theorem Two.cells {w : World} {B gx : Nat} {v pv : Value} {xs : List (St × Value)} {x : St} (h : Two w B v xs gx x pv) : w.cell? ⟨gx, 0, none⟩ = some (.int .i64 x.pen) ∧ w.cell? ⟨gx, 1, none⟩ = some (.int .i64 x.wid) ∧ w.cell? ⟨gx, 2, none⟩ = some pv ∧ w.frozen? ⟨gx, 2, none⟩ = false := by
  have ea : ∀ j, (⟨gx, 0, none⟩ : Addr).add j = ⟨gx, j, none⟩ := fun j => by unfold Addr.add; split <;> simp_all
  have q := World.ownsRow.cells h.one.row (g := gx) rfl
  refine ⟨by rw [← ea]; exact q 0 _ rfl, by rw [← ea]; exact q 1 _ rfl, by rw [← ea]; exact q 2 _ rfl, World.ownsRow.frozenAt h.one.row _⟩
theorem Two.base {w : World} {B gx : Nat} {v pv : Value} {xs : List (St × Value)} {x : St} (h : Two w B v xs gx x pv) : B ≤ gx := own_base h.one.row gx rfl
theorem Two.join {w w1 : World} {B gx : Nat} {v pv v1 : Value} {xs : List (St × Value)} {x : St} (h : Two w B v xs gx x pv) (ho : w1.ownsRow B 65 3 v1 (xs.length + 1) (cellsOf xs ++ [.int .i64 x.pen, .int .i64 x.wid, pv])) (hg : w.grownBy w1 v.ownBlock) : Own w1 B v1 (xs ++ [(x, pv)]) := by
  have hpv := h.one.pts (x, pv) (by simp)
  refine ⟨?_, fun y hy => ?_, ?_⟩
  · rw [cellsOf_append, List.length_append]; exact ho
  · rcases List.mem_append.1 hy with hy | hy
    · exact (h.own.pts y hy).kept hg (ne_other (h.own.far hy))
    · have : y = (x, pv) := by simpa using hy
      subst this
      exact hpv.kept hg (ne_other (ne_types h.own.row hpv (by decide)))
  · rw [List.pairwise_append]
    refine ⟨h.own.ne, by simp, fun a ha b hb => ?_⟩
    have : b = (x, pv) := by simpa using hb
    subst this; exact h.nes a ha
/-! ### The document's reading, step by step -/
theorem lenPts_short (m : Nat) (r : List Int) (h : r.length < 4) : lenPts m r = ([], r) := by
  match m, r, h with
  | 0, _, _ => rfl
  | _ + 1, [], _ => rfl
  | _ + 1, [_], _ => rfl
  | _ + 1, [_, _], _ => rfl
  | _ + 1, [_, _, _], _ => rfl
  | _ + 1, _ :: _ :: _ :: _ :: _, h => exact absurd h (by simp)
theorem lenPts_none (r : List Int) : lenPts 0 r = ([], r) := rfl
theorem lenSts_short (m : Nat) (r : List Int) (h : r.length < 2) : lenSts m r = [] := by
  match m, r, h with
  | 0, _, _ => rfl
  | _ + 1, [], _ => rfl
  | _ + 1, [_], _ => rfl
  | _ + 1, _ :: _ :: _, h => exact absurd h (by simp)
theorem lenSts_none (r : List Int) : lenSts 0 r = [] := rfl
theorem lenSts_step (m : Nat) (a c : Int) (r : List Int) : lenSts (m + 1) (a :: c :: r) = ⟨a / 16, a % 16, [] ++ (lenPts c.toNat r).1⟩ :: lenSts m (lenPts c.toNat r).2 := rfl
theorem lenPts_step (m : Nat) (a b c d : Int) (r : List Int) : lenPts (m + 1) (a :: b :: c :: d :: r) = ((num16 a b, num16 c d) :: (lenPts m r).1, (lenPts m r).2) := rfl
theorem strOf_inj (a b : List Int) (ha : ∀ x ∈ a, Byte x) (hb : ∀ x ∈ b, Byte x) : strOfNums a = strOfNums b ↔ a = b := by
  constructor
  · intro h
    have h2 : a.map (fun n => UInt8.ofNat n.toNat) = b.map (fun n => UInt8.ofNat n.toNat) := by
      simpa [strOfNums] using h
    have key : ∀ (a b : List Int), (∀ x ∈ a, Byte x) → (∀ x ∈ b, Byte x) → a.map (fun n => UInt8.ofNat n.toNat) = b.map (fun n => UInt8.ofNat n.toNat) → a = b := by
      intro a
      induction a with
      | nil => intro b _ _ h; cases b with
        | nil => rfl
        | cons y r => simp at h
      | cons x r ih =>
        intro b ha hb h
        cases b with
        | nil => simp at h
        | cons y s =>
          rw [List.map_cons, List.map_cons, List.cons.injEq] at h
          have hx := ha x (by simp)
          have hy := hb y (by simp)
          unfold Byte at hx hy
          have e := congrArg UInt8.toNat h.1
          rw [UInt8.toNat_ofNat', UInt8.toNat_ofNat'] at e
          have : x = y := by omega
          rw [this, ih s (fun z hz => ha z (by simp [hz])) (fun z hz => hb z (by simp [hz])) h.2]
    exact key a b ha hb h2
  · rintro rfl; rfl
end Go.Proofs.Ytlffbdfkanibcaa.Sk
