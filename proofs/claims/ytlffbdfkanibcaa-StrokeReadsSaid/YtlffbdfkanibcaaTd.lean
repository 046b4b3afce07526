/-
  Sheets of one's own, built stroke by stroke and point by point. No condition.
-/
import Derived.Test.YtlffbdfkanibcaaTc
namespace Go.Proofs.Ytlffbdfkanibcaa.Sk
open Go.RowKit Go.Proofs.YtlffbdfkanibcaaW.PrintWords Go.Proofs.YtlffbdfkanibcaaW.PrintLast Go.Proofs.YtlffbdfkanibcaaW.PrintMore
open Fl Go.Proofs.Ytlffbdfkanibcaa.Pt
set_option linter.unusedSimpArgs false
set_option linter.unusedVariables false

def cellsOf : List (St × Value) → List Value
  | [] => []
  | x :: r => .int .i64 x.1.pen :: .int .i64 x.1.wid :: x.2 :: cellsOf r
theorem cellsOf_len (xs : List (St × Value)) : (cellsOf xs).length = xs.length * 3 := by
  induction xs with
  | nil => rfl
  | cons x r ih => simp only [cellsOf, List.length_cons, ih]; omega
theorem cellsOf_append (xs ys : List (St × Value)) : cellsOf (xs ++ ys) = cellsOf xs ++ cellsOf ys := by
  induction xs with
  | nil => rfl
  | cons x r ih => simp [cellsOf, ih]
theorem cellsOf_at (xs : List (St × Value)) (i : Nat) (h : i < xs.length) : (cellsOf xs)[i * 3]? = some (.int .i64 xs[i].1.pen) ∧ (cellsOf xs)[i * 3 + 1]? = some (.int .i64 xs[i].1.wid) ∧ (cellsOf xs)[i * 3 + 2]? = some xs[i].2 := by
  induction xs generalizing i with
  | nil => simp at h
  | cons x r ih =>
    cases i with
    | zero => simp [cellsOf]
    | succ i =>
      have hi : i < r.length := by simpa using h
      have e := ih i hi
      have e0 : (i + 1) * 3 = i * 3 + 1 + 1 + 1 := by omega
      simp only [cellsOf, e0, List.getElem?_cons_succ, List.getElem_cons_succ]
      exact e
theorem cellsOf_set (xs : List (St × Value)) (x : St) (pv pv1 : Value) (ps : List P2) : (cellsOf (xs ++ [(x, pv)])).set (xs.length * 3 + 2) pv1 = cellsOf (xs ++ [(⟨x.pen, x.wid, ps⟩, pv1)]) := by
  rw [cellsOf_append, cellsOf_append, ← cellsOf_len xs, List.set_append_right _ _ (by omega)]
  congr 1
  have e : (cellsOf xs).length + 2 - (cellsOf xs).length = 2 := by omega
  rw [e]; rfl
/-- A sheet of one's own, its points too. -/
structure Own (w : World) (B : Nat) (v : Value) (xs : List (St × Value)) : Prop where
  row : w.ownsRow B 65 3 v xs.length (cellsOf xs)
  pts : ∀ x ∈ xs, w.ownsRow B 22 1 x.2 x.1.pts.length (x.1.pts.map CP)
  ne : xs.Pairwise (fun x y => NeRow x.2 y.2)
theorem own_nil (w : World) (B : Nat) : Own w B (.slice none 0 0) [] := ⟨World.ownsRow_nil _ _ _ _, fun x hx => (by cases hx), List.Pairwise.nil⟩
theorem Own.far {w : World} {B : Nat} {v : Value} {xs : List (St × Value)} (h : Own w B v xs) {x : St × Value} (hx : x ∈ xs) : NeRow v x.2 := ne_types h.row (h.pts x hx) (by decide)
/-- What neither writes nor moves its blocks keeps it. -/
theorem Own.kept {w w1 : World} {B : Nat} {v : Value} {xs : List (St × Value)} {row : Option Nat} (h : Own w B v xs) (hg : w.grownBy w1 row) (h1 : v.ownBlock = none ∨ v.ownBlock ≠ row) (h2 : ∀ x ∈ xs, x.2.ownBlock = none ∨ x.2.ownBlock ≠ row) : Own w1 B v xs :=
  ⟨h.row.kept hg h1, fun x hx => (h.pts x hx).kept hg (h2 x hx), h.ne⟩
theorem Own.alloc {w : World} {B : Nat} {v : Value} {xs : List (St × Value)} (h : Own w B v xs) (o : Obj) : Own (w.alloc o) B v xs :=
  h.kept (World.grownBy_alloc w o none) (by generalize v.ownBlock = q; rcases q with _ | q <;> simp) (fun x _ => by generalize x.2.ownBlock = q; rcases q with _ | q <;> simp)
theorem own_pts {w : World} {B : Nat} {pv : Value} {ps : List P2} (h : w.ownsRow B 22 1 pv ps.length (ps.map CP)) : ∃ P c, pv = .slice P ps.length c ∧ Pts w P ps := by
  rcases h.2 with ⟨rfl, h0⟩ | ⟨g, cap, cur, rfl, hb, hg, h1, h2, h3, h4⟩
  · exact ⟨none, 0, by rw [h0], ⟨fun hn => by omega⟩⟩
  · refine ⟨_, cap, rfl, ⟨fun hn => ⟨g, rfl, blk_lt hg, fun j hj => ?_⟩⟩⟩
    have e : (⟨g, 0, none⟩ : Addr).add j = ⟨g, j, none⟩ := by unfold Addr.add; split <;> simp_all
    rw [← e]
    exact World.ownsRow.cells h (g := g) rfl j (CP (ps.getD j (0, 0))) (by rw [List.getElem?_map, List.getElem?_eq_getElem hj, List.getD_eq_getElem?_getD, List.getElem?_eq_getElem hj]; rfl)
theorem own_sh {w : World} {B : Nat} {v : Value} {xs : List (St × Value)} (h : Own w B v xs) : ∃ A c, v = .slice A xs.length c ∧ Sh w A (xs.map (·.1)) := by
  rcases h.row.2 with ⟨rfl, h0⟩ | ⟨g, cap, cur, rfl, hb, hg, h1, h2, h3, h4⟩
  · exact ⟨none, 0, by rw [h0], ⟨fun hn => by simp [h0] at hn⟩⟩
  · refine ⟨_, cap, rfl, ⟨fun hn => ⟨g, rfl, blk_lt hg, fun i hi => ?_⟩⟩⟩
    rw [List.length_map] at hi
    obtain ⟨e1, e2, e3⟩ := cellsOf_at xs i hi
    obtain ⟨P, c, hpv, hp⟩ := own_pts (h.pts xs[i] (List.getElem_mem _))
    have hd : (xs.map (·.1)).getD i noSt = xs[i].1 := by rw [List.getD_eq_getElem?_getD, List.getElem?_map, List.getElem?_eq_getElem hi]; rfl
    have ea : ∀ j, (⟨g, 0, none⟩ : Addr).add j = ⟨g, j, none⟩ := fun j => by unfold Addr.add; split <;> simp_all
    have q := World.ownsRow.cells h.row (g := g) rfl
    rw [hd]
    exact ⟨P, c, by rw [← ea]; exact q _ _ e1, by rw [← ea]; exact q _ _ e2, by rw [← ea, ← hpv]; exact q _ _ e3, hp⟩
/-- One stroke more, of no points. -/
theorem Own.add {w w1 : World} {B : Nat} {v v1 : Value} {xs : List (St × Value)} (h : Own w B v xs) (x : St) (hx : x.pts = []) (ho : w1.ownsRow B 65 3 v1 (xs.length + 1) (cellsOf xs ++ [.int .i64 x.pen, .int .i64 x.wid, .slice none 0 0])) (hg : w.grownBy w1 v.ownBlock) :
    Own w1 B v1 (xs ++ [(x, .slice none 0 0)]) := by
  refine ⟨?_, fun y hy => ?_, ?_⟩
  · rw [cellsOf_append, List.length_append]; exact ho
  · rcases List.mem_append.1 hy with hy | hy
    · exact (h.pts y hy).kept hg (ne_other (h.far hy))
    · have : y = (x, .slice none 0 0) := by simpa using hy
      subst this
      show w1.ownsRow B 22 1 (.slice none 0 0) x.pts.length (x.pts.map CP)
      rw [hx]; exact World.ownsRow_nil _ _ _ _
  · rw [List.pairwise_append]
    refine ⟨h.ne, by simp, fun a _ b hb => ?_⟩
    have : b = (x, .slice none 0 0) := by simpa using hb
    subst this; exact ne_nil' _
theorem gb_set {w : World} {g : Nat} (j : Nat) (v : Value) : w.grownBy (w.setCell ⟨g, j, none⟩ v) (some g) :=
  ⟨rfl, rfl, rfl, by simp [World.setCell], fun i hi hr => (Below.heap_setCell w ⟨g, j, none⟩ v i (fun e => hr (by rw [e])))⟩
/-- One point more of the last stroke. -/
theorem Own.point {w w1 : World} {B : Nat} {g n cap : Nat} {xs : List (St × Value)} {x : St} {pv pv1 : Value} {p : P2} (h : Own w B (.slice (some ⟨g, 0, none⟩) n cap) (xs ++ [(x, pv)])) (ho : w1.ownsRow B 22 1 pv1 (x.pts.length + 1) ((x.pts ++ [p]).map CP)) (hg : w.grownBy w1 pv.ownBlock)
    (hat : pv1.ownBlock = pv.ownBlock ∨ ∃ b, pv1.ownBlock = some b ∧ w.heap.size ≤ b) (h1 : pv1.oneCell' = true) :
    Own (w1.setCell ⟨g, xs.length * 3 + 2, none⟩ pv1) B (.slice (some ⟨g, 0, none⟩) n cap) (xs ++ [(⟨x.pen, x.wid, x.pts ++ [p]⟩, pv1)]) := by
  have hlast := h.pts (x, pv) (by simp)
  have hn : n = xs.length + 1 := by
    rcases h.row.2 with ⟨h0, _⟩ | ⟨g', cap', cur, e, _⟩
    · cases h0
    · injection e with e1 e2 e3
      simpa using e2
  subst hn
  have hrow : w1.ownsRow B 65 3 (.slice (some ⟨g, 0, none⟩) (xs.length + 1) cap) (xs ++ [(x, pv)]).length (cellsOf (xs ++ [(x, pv)])) := h.row.kept hg (ne_other (ne_symm (h.far (x := (x, pv)) (by simp))))
  have hl : (xs ++ [(x, pv)]).length = xs.length + 1 := by simp
  rw [hl] at hrow
  have hst := World.ownsRow.stored hrow (xs.length * 3 + 2) pv1
  have hpw := List.pairwise_append.1 h.ne
  have hold : ∀ y ∈ xs, w1.ownsRow B 22 1 y.2 y.1.pts.length (y.1.pts.map CP) := fun y hy => (h.pts y (by simp [hy])).kept hg (ne_other (ne_symm (hpw.2.2 y hy (x, pv) (by simp))))
  refine ⟨?_, fun y hy => ?_, ?_⟩
  · rw [List.length_append, ← cellsOf_set xs x pv pv1 (x.pts ++ [p])]
    exact hst.1
  · rcases List.mem_append.1 hy with hy | hy
    · exact (hold y hy).kept (gb_set _ _) (ne_other (ne_types hrow (hold y hy) (by decide)))
    · have : y = (⟨x.pen, x.wid, x.pts ++ [p]⟩, pv1) := by simpa using hy
      subst this
      have := ho.kept (gb_set (g := g) (xs.length * 3 + 2) pv1) (ne_other (ne_types hrow ho (by decide)))
      simpa using this
  · rw [List.pairwise_append]
    refine ⟨hpw.1, by simp, fun a ha b hb => ?_⟩
    have : b = (⟨x.pen, x.wid, x.pts ++ [p]⟩, pv1) := by simpa using hb
    subst this
    exact ne_append' (hpw.2.2 a ha (x, pv) (by simp)) hat (h.pts a (by simp [ha]))
end Go.Proofs.Ytlffbdfkanibcaa.Sk
