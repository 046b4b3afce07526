/-
  The walk of the document's own Lay. Condition: the points' parts are in bounds.
-/
import Derived.Test.YtlffbdfkanibcaaTi
namespace Go.Proofs.Ytlffbdfkanibcaa.Sk
open Go.RowKit Go.Proofs.YtlffbdfkanibcaaW.PrintWords Go.Proofs.YtlffbdfkanibcaaW.PrintLast Go.Proofs.YtlffbdfkanibcaaW.PrintMore
open Fl Go.Proofs.Ytlffbdfkanibcaa.Pt
set_option linter.unusedSimpArgs false
set_option linter.unusedVariables false

theorem u8w (x : Int) : IntKind.u8.wrap x = x % 256 := by simp only [IntKind.wrap, IntKind.signed, IntKind.bits]; simp
theorem own_first (w : World) (x : Value) : (w.alloc (.cells #[x] 5)).ownsRow w.heap.size 5 1 (.slice (some ⟨w.heap.size, 0, none⟩) 1 1) 1 [x] :=
  ⟨rfl, .inr ⟨w.heap.size, 1, #[x], rfl, Nat.le_refl _, by show (w.heap.push _)[w.heap.size]? = _; simp, Nat.le_refl _, by decide, rfl, rfl⟩⟩
theorem own_mono {w : World} {B B' e size n : Nat} {v : Value} {xs : List Value} (h : w.ownsRow B e size v n xs) (hb : B' ≤ B) : w.ownsRow B' e size v n xs := by
  refine ⟨h.1, ?_⟩
  rcases h.2 with q | ⟨g, cap, cur, e1, e2, e3⟩
  · exact .inl q
  · exact .inr ⟨g, cap, cur, e1, Nat.le_trans hb e2, e3⟩
theorem layP_append (a b : List P2) : layP (a ++ b) = layP a ++ layP b := by
  induction a with
  | nil => rfl
  | cons x r ih => simp [layP, ih]
theorem layS_append (a b : List St) : layS (a ++ b) = layS a ++ layS b := by
  induction a with
  | nil => rfl
  | cons x r ih => simp [layS, ih]
theorem layP_len (a : List P2) : (layP a).length = 4 * a.length := by
  induction a with
  | nil => rfl
  | cons x r ih => simp [layP, ih]; omega
theorem layS_len (a : List St) (h : ∀ x ∈ a, x.pts.length ≤ 10) : (layS a).length ≤ 42 * a.length := by
  induction a with
  | nil => exact Nat.le_refl _
  | cons x r ih =>
    have h1 := ih (fun y hy => h y (by simp [hy]))
    have h2 := h x (by simp)
    simp only [layS, List.length_cons, List.length_append, layP_len]
    omega
theorem take_one {α : Type} (l : List α) (d : α) (k : Nat) (h : k < l.length) : l.take (k + 1) = l.take k ++ [l.getD k d] := by
  rw [List.take_succ_eq_append_getElem h, List.getD_eq_getElem?_getD, List.getElem?_eq_getElem h]; rfl
def LL (ss : List St) (k : Nat) : List Int := ((ss.length : Nat) : Int) % 256 :: layS (ss.take k)
def MM (l : List Int) (x : St) (t : Nat) : List Int := l ++ [(16 * x.pen + x.wid) % 256, ((x.pts.length : Nat) : Int) % 256] ++ layP (x.pts.take t)
theorem MM_step (l : List Int) (x : St) (t : Nat) (h : t < x.pts.length) : MM l x (t + 1) = MM l x t ++ [hi8 (x.pts.getD t (0, 0)).1, lo8 (x.pts.getD t (0, 0)).1, hi8 (x.pts.getD t (0, 0)).2, lo8 (x.pts.getD t (0, 0)).2] := by
  unfold MM
  rw [take_one _ (0, 0) t h, layP_append]; simp [layP]
theorem LL_step (ss : List St) (k : Nat) (h : k < ss.length) : LL ss (k + 1) = MM (LL ss k) (ss.getD k noSt) (ss.getD k noSt).pts.length := by
  unfold LL MM
  rw [take_one _ noSt k h, layS_append, List.take_length]; simp [layS]
theorem LL_len (ss : List St) (k : Nat) (h : may ss) : (LL ss k).length ≤ 253 := by
  have h1 := layS_len (ss.take k) (fun x hx => (h.2 x (List.mem_of_mem_take hx)).2.2.2)
  have h2 := h.1
  have h3 : (ss.take k).length ≤ ss.length := by rw [List.length_take]; omega
  unfold LL
  rw [List.length_cons]; omega
theorem MM_len (l : List Int) (x : St) (t : Nat) (h : t ≤ x.pts.length) : (MM l x t).length = l.length + 2 + 4 * t := by
  unfold MM
  rw [List.length_append, List.length_append, layP_len, List.length_take]; simp; omega

set_option maxRecDepth 100000 in
set_option maxHeartbeats 16000000 in
theorem Lay_walk (A : Option Addr) (cs : Nat) (ss : List St) (hl : ss.length ≤ 1000) (hn2 : ∀ x ∈ ss, x.pts.length ≤ 1000) (hin : ptsIn ss) (w : World) (hs : Sh w A ss) :
    Calls Try.prog 38 #[.slice A ss.length cs] w fun e w' => ∃ v z, e = .returned (.tuple #[v, .int .i64 z]) ∧ Below w.heap.size w w' ∧ ((may ss ∧ z = 0 ∧ w'.ownsRow w.heap.size 5 1 v (((ss.length : Nat) : Int) :: layS ss).length (B8 (((ss.length : Nat) : Int) :: layS ss))) ∨ (¬ may ss ∧ z = 2 ∧ v = .slice none 0 0)) := by
  have hu40 := Try.underlying40
  obtain ⟨i0, hi, hz0, hz1, hz2⟩ := info_parts info5
  have HS := Pt.Kept.mk hs
  have HI := Pt.Kept.mk hin
  have hM := Pt.Kept.mk (rmay_walk A cs ss hl hn2 hin w hs)
  obtain ⟨n, hn⟩ : ∃ n, Pt.Kept (n = ss.length) := ⟨_, ⟨rfl⟩⟩
  rw [← hn.out] at hl hM ⊢
  clear hs hin hn2
  by_cases hy : may ss
  · rw [decide_eq_true hy] at hM
    have HY := Pt.Kept.mk hy
    have hn6 : n ≤ 6 := by rw [hn.out]; exact hy.1
    have hend : Pt.Kept (LL ss n = (n : Int) :: layS ss) := ⟨by unfold LL; rw [hn.out, List.take_length]; congr 1; have := hn.out; omega⟩
    have hbeg : Pt.Kept (LL ss 0 = [(n : Int) % 256]) := ⟨by unfold LL; rw [← hn.out]; rfl⟩
    clear hy
    go_enter Try.func38, Try.ntmps38
    go_wp2_with (go_at_call 48; (with_reducible refine hM.out.mono ?_); rintro e w0 ⟨rfl, hb⟩; have hB0 := Pt.Kept.mk hb; clear hb)
    have hO1 : Pt.Kept ((w0.alloc (.cells #[.int .u8 (n : Int)] 5)).ownsRow w.heap.size 5 1 (.slice (some ⟨w0.heap.size, 0, none⟩) 1 1) (LL ss 0).length (B8 (LL ss 0))) := ⟨by
      have h := own_first w0 (.int .u8 (n : Int))
      have e : (n : Int) % 256 = n := by omega
      rw [hbeg.out, e]
      have hs := hB0.out.size
      exact own_mono h hs⟩
    have hB1 := Pt.Kept.mk (bel_alloc hB0.out (.cells #[.int .u8 (n : Int)] 5))
    go_loopw [4, 5] (fun v i wr => ∃ k : Nat, k ≤ n ∧ i = .int .i64 k ∧ Pt.Kept (wr.ownsRow w.heap.size 5 1 v (LL ss k).length (B8 (LL ss k))) ∧ Pt.Kept (Below w.heap.size w wr)) (fun _ i _ => n - (intOf i).toNat)
    case atStart => exact ⟨0, Nat.zero_le _, rfl, hO1, hB1⟩
    case round =>
      clear hO1 hB1 hB0
      obtain ⟨k, hk, rfl, hO, hB⟩ := hrel
      by_cases hlt : k < n
      · obtain ⟨g, rfl, hgl, hcc⟩ := HS.out.ex (by rw [← hn.out]; omega)
        obtain ⟨P, c, c0, c1, c2, hp⟩ := hcc k (by rw [← hn.out]; exact hlt)
        have hmem := getD_mem ss noSt k (by rw [← hn.out]; exact hlt)
        have hst := HY.out.2 _ hmem
        have hpi := Pt.Kept.mk (HI.out _ hmem)
        have hll := LL_len ss k HY.out
        have hls := Pt.Kept.mk (LL_step ss k (by rw [← hn.out]; exact hlt))
        clear hcc hmem
        generalize ss.getD k noSt = x at *
        generalize LL ss k = bs at *
        obtain ⟨pen, wid, ps⟩ := x
        obtain ⟨⟨a1, a2⟩, ⟨a3, a4⟩, a5, a6⟩ := hst
        simp only at *
        obtain ⟨np, hnp⟩ : ∃ np, Pt.Kept (np = ps.length) := ⟨_, ⟨rfl⟩⟩
        rw [← hnp.out] at c2 a5 a6
        have C0 := Pt.Kept.mk c0
        have C1 := Pt.Kept.mk c1
        have C2 := Pt.Kept.mk c2
        have HP := Pt.Kept.mk hp
        clear c0 c1 c2 hp
        have D2 := (hB.out.cell (p := ⟨g, k * 3 + 2, none⟩) hgl).trans C2.out
        go_wp2
        have hOd : Pt.Kept (wr.drew.ownsRow w.heap.size 5 1 u4 bs.length (B8 bs)) := ⟨hO.out⟩
        have hBd : Pt.Kept (Below w.heap.size w wr.drew) := ⟨hB.out.drew⟩
        have T1 : Pt.Kept (0 ≤ (k : Int) ∧ (k : Int) < (n : Int)) := ⟨by omega⟩
        have T2 := Pt.Kept.mk (w64_id (16 * pen) (by omega) (by omega))
        have T3 := Pt.Kept.mk (w64_id (16 * pen + wid) (by omega) (by omega))
        clear hO hB D2
        refine start_ (n := 24) (S := fun w' => Pt.Kept (Below w.heap.size w w')) (ds := [21, 22]) #[false, false, false, false, false, false, false, false, false, false, false, false, false, false, false, false, false, false, false, false, false, false, false, false] (by kernel_rfl) rfl rfl hBd (fun hHeld => ?_)
        generalize wr.drew = w1 at *
        refine pure_ (i := 0) (N := some 20) (v := ?_) (a' := ?_) #[true, false, false, false, false, false, false, false, false, false, false, false, false, false, false, false, false, false, false, false, false, false, false, false] rfl rfl (by kernel_rfl) (fun _ _ _ h => h) (Or.inl ⟨by rfl, ?_⟩) ?_ ?_
        rotate_left
        · intro w'
          have t1 := T1.out
          have t2 := T2.out
          have t3 := T3.out
          go_simp
          with_reducible rfl
        rotate_left
        · simp only [Act.put, List.setIfInBounds_toArray, List.set_cons_zero, List.set_cons_succ, i64_w, i32_w]
          rfl
        refine pure_ (i := 1) (N := some 21) (v := ?_) (a' := ?_) #[true, true, false, false, false, false, false, false, false, false, false, false, false, false, false, false, false, false, false, false, false, false, false, false] rfl rfl (by kernel_rfl) (fun _ _ _ h => h) (Or.inl ⟨by rfl, ?_⟩) ?_ ?_
        rotate_left
        · intro w'
          have t1 := T1.out
          have t2 := T2.out
          have t3 := T3.out
          go_simp
          with_reducible rfl
        rotate_left
        · simp only [Act.put, List.setIfInBounds_toArray, List.set_cons_zero, List.set_cons_succ, i64_w, i32_w]
          rfl
        refine pure_ (i := 2) (N := some 22) (v := ?_) (a' := ?_) #[true, true, true, false, false, false, false, false, false, false, false, false, false, false, false, false, false, false, false, false, false, false, false, false] rfl rfl (by kernel_rfl) (fun _ _ _ h => h) (Or.inl ⟨by rfl, ?_⟩) ?_ ?_
        rotate_left
        · intro w'
          have t1 := T1.out
          have t2 := T2.out
          have t3 := T3.out
          go_simp
          with_reducible rfl
        rotate_left
        · simp only [Act.put, List.setIfInBounds_toArray, List.set_cons_zero, List.set_cons_succ, i64_w, i32_w]
          rfl
        refine pure_ (i := 3) (N := some 23) (v := ?_) (a' := ?_) #[true, true, true, true, false, false, false, false, false, false, false, false, false, false, false, false, false, false, false, false, false, false, false, false] rfl rfl (by kernel_rfl) (fun _ _ _ h => h) (Or.inl ⟨by rfl, ?_⟩) ?_ ?_
        rotate_left
        · intro w'
          have t1 := T1.out
          have t2 := T2.out
          have t3 := T3.out
          go_simp
          with_reducible rfl
        rotate_left
        · simp only [Act.put, List.setIfInBounds_toArray, List.set_cons_zero, List.set_cons_succ, i64_w, i32_w]
          rfl
        refine pure_ (i := 4) (N := some 24) (v := ?_) (a' := ?_) #[true, true, true, true, true, false, false, false, false, false, false, false, false, false, false, false, false, false, false, false, false, false, false, false] rfl rfl (by kernel_rfl) (fun _ _ _ h => h) (Or.inl ⟨by rfl, ?_⟩) ?_ ?_
        rotate_left
        · intro w'
          have t1 := T1.out
          have t2 := T2.out
          have t3 := T3.out
          go_simp
          with_reducible rfl
        rotate_left
        · simp only [Act.put, List.setIfInBounds_toArray, List.set_cons_zero, List.set_cons_succ, i64_w, i32_w]
          rfl
        refine take_ (i := 5) (N := some 25) (v := ?_) (a' := ?_) #[true, true, true, true, true, true, false, false, false, false, false, false, false, false, false, false, false, false, false, false, false, false, false, false] rfl rfl (by kernel_rfl) (fun _ _ _ h => h) (Or.inl ⟨by rfl, ?_⟩) hHeld ?_ ?_
        rotate_left
        · rintro w' hS'; have s0 := (hS'.out.cell (p := _) hgl).trans C0.out
          go_simp
          with_reducible rfl
        rotate_left
        · simp only [Act.put, List.setIfInBounds_toArray, List.set_cons_zero, List.set_cons_succ, i64_w, i32_w]
          rfl
        refine pure_ (i := 6) (N := some 26) (v := ?_) (a' := ?_) #[true, true, true, true, true, true, true, false, false, false, false, false, false, false, false, false, false, false, false, false, false, false, false, false] rfl rfl (by kernel_rfl) (fun _ _ _ h => h) (Or.inl ⟨by rfl, ?_⟩) ?_ ?_
        rotate_left
        · intro w'
          have t1 := T1.out
          have t2 := T2.out
          have t3 := T3.out
          go_simp
          with_reducible rfl
        rotate_left
        · simp only [Act.put, List.setIfInBounds_toArray, List.set_cons_zero, List.set_cons_succ, i64_w, i32_w]
          rfl
        refine pure_ (i := 7) (N := some 27) (v := ?_) (a' := ?_) #[true, true, true, true, true, true, true, true, false, false, false, false, false, false, false, false, false, false, false, false, false, false, false, false] rfl rfl (by kernel_rfl) (fun _ _ _ h => h) (Or.inl ⟨by rfl, ?_⟩) ?_ ?_
        rotate_left
        · intro w'
          have t1 := T1.out
          have t2 := T2.out
          have t3 := T3.out
          go_simp
          with_reducible rfl
        rotate_left
        · simp only [Act.put, List.setIfInBounds_toArray, List.set_cons_zero, List.set_cons_succ, i64_w, i32_w]
          rfl
        refine pure_ (i := 8) (N := some 28) (v := ?_) (a' := ?_) #[true, true, true, true, true, true, true, true, true, false, false, false, false, false, false, false, false, false, false, false, false, false, false, false] rfl rfl (by kernel_rfl) (fun _ _ _ h => h) (Or.inl ⟨by rfl, ?_⟩) ?_ ?_
        rotate_left
        · intro w'
          have t1 := T1.out
          have t2 := T2.out
          have t3 := T3.out
          go_simp
          with_reducible rfl
        rotate_left
        · simp only [Act.put, List.setIfInBounds_toArray, List.set_cons_zero, List.set_cons_succ, i64_w, i32_w]
          rfl
        refine pure_ (i := 9) (N := some 29) (v := ?_) (a' := ?_) #[true, true, true, true, true, true, true, true, true, true, false, false, false, false, false, false, false, false, false, false, false, false, false, false] rfl rfl (by kernel_rfl) (fun _ _ _ h => h) (Or.inl ⟨by rfl, ?_⟩) ?_ ?_
        rotate_left
        · intro w'
          have t1 := T1.out
          have t2 := T2.out
          have t3 := T3.out
          go_simp
          with_reducible rfl
        rotate_left
        · simp only [Act.put, List.setIfInBounds_toArray, List.set_cons_zero, List.set_cons_succ, i64_w, i32_w]
          rfl
        refine pure_ (i := 10) (N := some 30) (v := ?_) (a' := ?_) #[true, true, true, true, true, true, true, true, true, true, true, false, false, false, false, false, false, false, false, false, false, false, false, false] rfl rfl (by kernel_rfl) (fun _ _ _ h => h) (Or.inl ⟨by rfl, ?_⟩) ?_ ?_
        rotate_left
        · intro w'
          have t1 := T1.out
          have t2 := T2.out
          have t3 := T3.out
          go_simp
          with_reducible rfl
        rotate_left
        · simp only [Act.put, List.setIfInBounds_toArray, List.set_cons_zero, List.set_cons_succ, i64_w, i32_w]
          rfl
        refine take_ (i := 11) (N := some 31) (v := ?_) (a' := ?_) #[true, true, true, true, true, true, true, true, true, true, true, true, false, false, false, false, false, false, false, false, false, false, false, false] rfl rfl (by kernel_rfl) (fun _ _ _ h => h) (Or.inl ⟨by rfl, ?_⟩) hHeld ?_ ?_
        rotate_left
        · rintro w' hS'; have s0 := (hS'.out.cell (p := _) hgl).trans C1.out
          go_simp
          with_reducible rfl
        rotate_left
        · simp only [Act.put, List.setIfInBounds_toArray, List.set_cons_zero, List.set_cons_succ, i64_w, i32_w]
          rfl
        refine pure_ (i := 12) (N := some 32) (v := ?_) (a' := ?_) #[true, true, true, true, true, true, true, true, true, true, true, true, true, false, false, false, false, false, false, false, false, false, false, false] rfl rfl (by kernel_rfl) (fun _ _ _ h => h) (Or.inl ⟨by rfl, ?_⟩) ?_ ?_
        rotate_left
        · intro w'
          have t1 := T1.out
          have t2 := T2.out
          have t3 := T3.out
          go_simp
          with_reducible rfl
        rotate_left
        · simp only [Act.put, List.setIfInBounds_toArray, List.set_cons_zero, List.set_cons_succ, i64_w, i32_w]
          rfl
        refine pure_ (i := 13) (N := some 33) (v := ?_) (a' := ?_) #[true, true, true, true, true, true, true, true, true, true, true, true, true, true, false, false, false, false, false, false, false, false, false, false] rfl rfl (by kernel_rfl) (fun _ _ _ h => h) (Or.inl ⟨by rfl, ?_⟩) ?_ ?_
        rotate_left
        · intro w'
          have t1 := T1.out
          have t2 := T2.out
          have t3 := T3.out
          go_simp
          with_reducible rfl
        rotate_left
        · simp only [Act.put, List.setIfInBounds_toArray, List.set_cons_zero, List.set_cons_succ, i64_w, i32_w]
          rfl
        refine pure_ (i := 14) (N := some 34) (v := ?_) (a' := ?_) #[true, true, true, true, true, true, true, true, true, true, true, true, true, true, true, false, false, false, false, false, false, false, false, false] rfl rfl (by kernel_rfl) (fun _ _ _ h => h) (Or.inl ⟨by rfl, ?_⟩) ?_ ?_
        rotate_left
        · intro w'
          have t1 := T1.out
          have t2 := T2.out
          have t3 := T3.out
          go_simp
          with_reducible rfl
        rotate_left
        · simp only [Act.put, List.setIfInBounds_toArray, List.set_cons_zero, List.set_cons_succ, i64_w, i32_w]
          rfl
        refine pure_ (i := 15) (N := some 35) (v := ?_) (a' := ?_) #[true, true, true, true, true, true, true, true, true, true, true, true, true, true, true, true, false, false, false, false, false, false, false, false] rfl rfl (by kernel_rfl) (fun _ _ _ h => h) (Or.inl ⟨by rfl, ?_⟩) ?_ ?_
        rotate_left
        · intro w'
          have t1 := T1.out
          have t2 := T2.out
          have t3 := T3.out
          go_simp
          with_reducible rfl
        rotate_left
        · simp only [Act.put, List.setIfInBounds_toArray, List.set_cons_zero, List.set_cons_succ, i64_w, i32_w]
          rfl
        refine pure_ (i := 16) (N := some 36) (v := ?_) (a' := ?_) #[true, true, true, true, true, true, true, true, true, true, true, true, true, true, true, true, true, false, false, false, false, false, false, false] rfl rfl (by kernel_rfl) (fun _ _ _ h => h) (Or.inl ⟨by rfl, ?_⟩) ?_ ?_
        rotate_left
        · intro w'
          have t1 := T1.out
          have t2 := T2.out
          have t3 := T3.out
          go_simp
          with_reducible rfl
        rotate_left
        · simp only [Act.put, List.setIfInBounds_toArray, List.set_cons_zero, List.set_cons_succ, i64_w, i32_w]
          rfl
        refine pure_ (i := 17) (N := some 37) (v := ?_) (a' := ?_) #[true, true, true, true, true, true, true, true, true, true, true, true, true, true, true, true, true, true, false, false, false, false, false, false] rfl rfl (by kernel_rfl) (fun _ _ _ h => h) (Or.inl ⟨by rfl, ?_⟩) ?_ ?_
        rotate_left
        · intro w'
          have t1 := T1.out
          have t2 := T2.out
          have t3 := T3.out
          go_simp
          with_reducible rfl
        rotate_left
        · simp only [Act.put, List.setIfInBounds_toArray, List.set_cons_zero, List.set_cons_succ, i64_w, i32_w]
          rfl
        refine take_ (i := 18) (N := some 38) (v := ?_) (a' := ?_) #[true, true, true, true, true, true, true, true, true, true, true, true, true, true, true, true, true, true, true, false, false, false, false, false] rfl rfl (by kernel_rfl) (fun _ _ _ h => h) (Or.inl ⟨by rfl, ?_⟩) hHeld ?_ ?_
        rotate_left
        · rintro w' hS'; have s0 := (hS'.out.cell (p := _) hgl).trans C2.out
          go_simp
          with_reducible rfl
        rotate_left
        · simp only [Act.put, List.setIfInBounds_toArray, List.set_cons_zero, List.set_cons_succ, i64_w, i32_w]
          rfl
        refine pure_ (i := 19) (N := some 39) (v := ?_) (a' := ?_) #[true, true, true, true, true, true, true, true, true, true, true, true, true, true, true, true, true, true, true, true, false, false, false, false] rfl rfl (by kernel_rfl) (fun _ _ _ h => h) (Or.inl ⟨by rfl, ?_⟩) ?_ ?_
        rotate_left
        · intro w'
          have t1 := T1.out
          have t2 := T2.out
          have t3 := T3.out
          go_simp
          with_reducible rfl
        rotate_left
        · simp only [Act.put, List.setIfInBounds_toArray, List.set_cons_zero, List.set_cons_succ, i64_w, i32_w]
          rfl
        refine pure_ (i := 20) (N := some 40) (v := ?_) (a' := ?_) #[true, true, true, true, true, true, true, true, true, true, true, true, true, true, true, true, true, true, true, true, true, false, false, false] rfl rfl (by kernel_rfl) (fun _ _ _ h => h) (Or.inl ⟨by rfl, ?_⟩) ?_ ?_
        rotate_left
        · intro w'
          have t1 := T1.out
          have t2 := T2.out
          have t3 := T3.out
          go_simp
          with_reducible rfl
        rotate_left
        · simp only [Act.put, List.setIfInBounds_toArray, List.set_cons_zero, List.set_cons_succ, i64_w, i32_w]
          rfl
        refine last_ (i := 21) (N := some 41) #[true, true, true, true, true, true, true, true, true, true, true, true, true, true, true, true, true, true, true, true, true, true, false, false] rfl rfl (by kernel_rfl) (by decide) (fun K hK => ?_)
        refine event_step (by rfl) (show _ = Result.ok (Next.value (.slice (some ⟨w1.heap.size, 0, none⟩) 2 2)) (w1.alloc (.cells #[.int .u8 (IntKind.u8.wrap (16 * pen + wid)), .int .u8 (IntKind.u8.wrap (np : Int))] 5)) by first | (go_simp; done) | (go_simp; rfl)) ?_
        refine hK.out _ _ ?_
        clear hK K
        refine norm_ (a' := ?_) ?_ ?_
        rotate_left
        · show Act.put _ (some 41) _ = _
          simp only [Act.put, List.setIfInBounds_toArray, List.set_cons_zero, List.set_cons_succ, i64_w, i32_w]
          rfl
        refine last_ (i := 22) (N := some 42) #[true, true, true, true, true, true, true, true, true, true, true, true, true, true, true, true, true, true, true, true, true, true, true, false] rfl rfl (by kernel_rfl) (by decide) (fun K hK => ?_)
        rw [if_pos (by rfl)]
        refine wp_append_own _ (.tmp 20) (.tmp 41) 40 rfl w.heap.size 5 i0 (.int .u8 0) 1 1 hu40 hi hz0 hz1 hz2 rfl (by decide) _ bs.length _ rfl (hOd.out.alloc _) ⟨w1.heap.size, 0, none⟩ 2 2 [.int .u8 (IntKind.u8.wrap (16 * pen + wid)), .int .u8 (IntKind.u8.wrap (np : Int))] rfl rfl ?_ (by intro u hu; simp at hu; rcases hu with rfl | rfl <;> rfl) (by unfold maxLen; omega) (by omega) (by have := hBd.out.size; simp; omega) ?_
        · intro j u hj
          match j, hj with
          | 0, hj => cases hj; exact World.cell?_alloc_new _ _ _ _
          | 1, hj => cases hj; exact World.cell?_alloc_new _ _ _ _
        intro v' w2 hown' hgrow _
        have hO3 : Pt.Kept (w2.ownsRow w.heap.size 5 1 v' (bs ++ [(16 * pen + wid) % 256, (np : Int) % 256]).length (B8 (bs ++ [(16 * pen + wid) % 256, (np : Int) % 256]))) := ⟨by rw [u8w, u8w] at hown'; simpa [B8] using hown'⟩
        have hB3 : Pt.Kept (Below w.heap.size w w2) := ⟨(hBd.out.alloc hBd.out.size _).grown hgrow (by have := hBd.out.size; simp; omega) (fun g hg => (hOd.out.lt g hg).1)⟩
        clear hown' hgrow
        refine hK.out _ _ ?_
        clear hK K
        refine norm_ (a' := ?_) ?_ ?_
        rotate_left
        · show Act.put _ (some 42) _ = _
          simp only [Act.put, List.setIfInBounds_toArray, List.set_cons_zero, List.set_cons_succ, i64_w, i32_w]
          rfl
        refine pure_ (i := 23) (N := some 4) (v := ?_) (a' := ?_) #[true, true, true, true, true, true, true, true, true, true, true, true, true, true, true, true, true, true, true, true, true, true, true, true] rfl rfl (by kernel_rfl) (fun _ _ _ h => h) (Or.inl ⟨by rfl, ?_⟩) ?_ ?_
        rotate_left
        · intro w'
          have t1 := T1.out
          have t2 := T2.out
          have t3 := T3.out
          go_simp
          with_reducible rfl
        rotate_left
        · simp only [Act.put, List.setIfInBounds_toArray, List.set_cons_zero, List.set_cons_succ, i64_w, i32_w]
          rfl
        refine done_ (by kernel_rfl) ?_
        clear hOd hBd hHeld
        go_wp2
        go_loopw [4, 6] (fun v2 j wr2 => ∃ t : Nat, t ≤ np ∧ j = .int .i64 t ∧ Pt.Kept (wr2.ownsRow w.heap.size 5 1 v2 (MM bs ⟨pen, wid, ps⟩ t).length (B8 (MM bs ⟨pen, wid, ps⟩ t))) ∧ Pt.Kept (Below w.heap.size w wr2)) (fun _ j _ => np - (intOf j).toNat)
        case atStart => exact ⟨0, Nat.zero_le _, rfl, ⟨by have h := hO3.out; rw [hnp.out] at h; simpa [MM, layP] using h⟩, hB3⟩
        case round =>
          clear hO3 hB3
          obtain ⟨t, ht, rfl, hO, hB⟩ := hrel
          have D2 := (hB.out.cell (p := ⟨g, k * 3 + 2, none⟩) hgl).trans C2.out
          by_cases htl : t < np
          · obtain ⟨gp, rfl, hgpl, hpc⟩ := HP.out.ex (by rw [← hnp.out]; omega)
            have c3 := hpc t (by rw [← hnp.out]; exact htl)
            have hq := hpi.out (ps.getD t (0, 0)) (getD_mem ps _ t (by rw [← hnp.out]; exact htl))
            have hms := Pt.Kept.mk (MM_step bs ⟨pen, wid, ps⟩ t (by rw [← hnp.out]; exact htl))
            have hml := MM_len bs ⟨pen, wid, ps⟩ t (by rw [← hnp.out]; omega)
            clear hpc
            simp only at hms hml
            generalize ps.getD t (0, 0) = q at *
            obtain ⟨qa, qb⟩ := q
            obtain ⟨hqa, hqb⟩ := hq
            simp only at hms hqa hqb
            generalize MM bs ⟨pen, wid, ps⟩ t = bs2 at *
            have C3 := Pt.Kept.mk c3
            clear c3
            go_wp2
            have hOd : Pt.Kept (wr.drew.ownsRow w.heap.size 5 1 u4 bs2.length (B8 bs2)) := ⟨hO.out⟩
            have hBd : Pt.Kept (Below w.heap.size w wr.drew) := ⟨hB.out.drew⟩
            have T2 : Pt.Kept (0 ≤ (t : Int) ∧ (t : Int) < (np : Int)) := ⟨by omega⟩
            clear hO hB D2
            refine start_ (n := 22) (S := fun w' => Pt.Kept (Below w.heap.size w w')) (ds := [20]) #[false, false, false, false, false, false, false, false, false, false, false, false, false, false, false, false, false, false, false, false, false, false] (by kernel_rfl) rfl rfl hBd (fun hHeld => ?_)
            generalize wr.drew = w1 at *
            refine pure_ (i := 0) (N := some 53) (v := ?_) (a' := ?_) #[true, false, false, false, false, false, false, false, false, false, false, false, false, false, false, false, false, false, false, false, false, false] rfl rfl (by kernel_rfl) (fun _ _ _ h => h) (Or.inl ⟨by rfl, ?_⟩) ?_ ?_
            rotate_left
            · intro w'
              have t1 := T1.out
              have t2 := T2.out
              go_simp
              with_reducible rfl
            rotate_left
            · simp only [Act.put, List.setIfInBounds_toArray, List.set_cons_zero, List.set_cons_succ, i64_w, i32_w]
              rfl
            refine pure_ (i := 1) (N := some 54) (v := ?_) (a' := ?_) #[true, true, false, false, false, false, false, false, false, false, false, false, false, false, false, false, false, false, false, false, false, false] rfl rfl (by kernel_rfl) (fun _ _ _ h => h) (Or.inl ⟨by rfl, ?_⟩) ?_ ?_
            rotate_left
            · intro w'
              have t1 := T1.out
              have t2 := T2.out
              go_simp
              with_reducible rfl
            rotate_left
            · simp only [Act.put, List.setIfInBounds_toArray, List.set_cons_zero, List.set_cons_succ, i64_w, i32_w]
              rfl
            refine pure_ (i := 2) (N := some 55) (v := ?_) (a' := ?_) #[true, true, true, false, false, false, false, false, false, false, false, false, false, false, false, false, false, false, false, false, false, false] rfl rfl (by kernel_rfl) (fun _ _ _ h => h) (Or.inl ⟨by rfl, ?_⟩) ?_ ?_
            rotate_left
            · intro w'
              have t1 := T1.out
              have t2 := T2.out
              go_simp
              with_reducible rfl
            rotate_left
            · simp only [Act.put, List.setIfInBounds_toArray, List.set_cons_zero, List.set_cons_succ, i64_w, i32_w]
              rfl
            refine pure_ (i := 3) (N := some 56) (v := ?_) (a' := ?_) #[true, true, true, true, false, false, false, false, false, false, false, false, false, false, false, false, false, false, false, false, false, false] rfl rfl (by kernel_rfl) (fun _ _ _ h => h) (Or.inl ⟨by rfl, ?_⟩) ?_ ?_
            rotate_left
            · intro w'
              have t1 := T1.out
              have t2 := T2.out
              go_simp
              with_reducible rfl
            rotate_left
            · simp only [Act.put, List.setIfInBounds_toArray, List.set_cons_zero, List.set_cons_succ, i64_w, i32_w]
              rfl
            refine pure_ (i := 4) (N := some 57) (v := ?_) (a' := ?_) #[true, true, true, true, true, false, false, false, false, false, false, false, false, false, false, false, false, false, false, false, false, false] rfl rfl (by kernel_rfl) (fun _ _ _ h => h) (Or.inl ⟨by rfl, ?_⟩) ?_ ?_
            rotate_left
            · intro w'
              have t1 := T1.out
              have t2 := T2.out
              go_simp
              with_reducible rfl
            rotate_left
            · simp only [Act.put, List.setIfInBounds_toArray, List.set_cons_zero, List.set_cons_succ, i64_w, i32_w]
              rfl
            refine take_ (i := 5) (N := some 58) (v := ?_) (a' := ?_) #[true, true, true, true, true, true, false, false, false, false, false, false, false, false, false, false, false, false, false, false, false, false] rfl rfl (by kernel_rfl) (fun _ _ _ h => h) (Or.inl ⟨by rfl, ?_⟩) hHeld ?_ ?_
            rotate_left
            · rintro w' hS'; have s0 := (hS'.out.cell (p := _) hgl).trans C2.out
              go_simp
              with_reducible rfl
            rotate_left
            · simp only [Act.put, List.setIfInBounds_toArray, List.set_cons_zero, List.set_cons_succ, i64_w, i32_w]
              rfl
            refine pure_ (i := 6) (N := some 59) (v := ?_) (a' := ?_) #[true, true, true, true, true, true, true, false, false, false, false, false, false, false, false, false, false, false, false, false, false, false] rfl rfl (by kernel_rfl) (fun _ _ _ h => h) (Or.inl ⟨by rfl, ?_⟩) ?_ ?_
            rotate_left
            · intro w'
              have t1 := T1.out
              have t2 := T2.out
              go_simp
              with_reducible rfl
            rotate_left
            · simp only [Act.put, List.setIfInBounds_toArray, List.set_cons_zero, List.set_cons_succ, i64_w, i32_w]
              rfl
            refine pure_ (i := 7) (N := some 60) (v := ?_) (a' := ?_) #[true, true, true, true, true, true, true, true, false, false, false, false, false, false, false, false, false, false, false, false, false, false] rfl rfl (by kernel_rfl) (fun _ _ _ h => h) (Or.inl ⟨by rfl, ?_⟩) ?_ ?_
            rotate_left
            · intro w'
              have t1 := T1.out
              have t2 := T2.out
              go_simp
              with_reducible rfl
            rotate_left
            · simp only [Act.put, List.setIfInBounds_toArray, List.set_cons_zero, List.set_cons_succ, i64_w, i32_w]
              rfl
            refine take_ (i := 8) (N := some 61) (v := ?_) (a' := ?_) #[true, true, true, true, true, true, true, true, true, false, false, false, false, false, false, false, false, false, false, false, false, false] rfl rfl (by kernel_rfl) (fun _ _ _ h => h) (Or.inl ⟨by rfl, ?_⟩) hHeld ?_ ?_
            rotate_left
            · rintro w' hS'; have s0 := (hS'.out.cell (p := _) hgpl).trans C3.out
              go_simp
              with_reducible rfl
            rotate_left
            · simp only [Act.put, List.setIfInBounds_toArray, List.set_cons_zero, List.set_cons_succ, i64_w, i32_w]
              rfl
            refine pure_ (i := 9) (N := some 62) (v := ?_) (a' := ?_) #[true, true, true, true, true, true, true, true, true, true, false, false, false, false, false, false, false, false, false, false, false, false] rfl rfl (by kernel_rfl) (fun _ _ _ h => h) (Or.inl ⟨by rfl, ?_⟩) ?_ ?_
            rotate_left
            · intro w'
              have t1 := T1.out
              have t2 := T2.out
              go_simp
              with_reducible rfl
            rotate_left
            · simp only [Act.put, List.setIfInBounds_toArray, List.set_cons_zero, List.set_cons_succ, i64_w, i32_w]
              rfl
            refine pure_ (i := 11) (N := some 64) (v := ?_) (a' := ?_) #[true, true, true, true, true, true, true, true, true, true, false, true, false, false, false, false, false, false, false, false, false, false] rfl rfl (by kernel_rfl) (fun _ _ _ h => h) (Or.inl ⟨by rfl, ?_⟩) ?_ ?_
            rotate_left
            · intro w'
              have t1 := T1.out
              have t2 := T2.out
              go_simp
              with_reducible rfl
            rotate_left
            · simp only [Act.put, List.setIfInBounds_toArray, List.set_cons_zero, List.set_cons_succ, i64_w, i32_w]
              rfl
            refine pure_ (i := 12) (N := some 65) (v := ?_) (a' := ?_) #[true, true, true, true, true, true, true, true, true, true, false, true, true, false, false, false, false, false, false, false, false, false] rfl rfl (by kernel_rfl) (fun _ _ _ h => h) (Or.inl ⟨by rfl, ?_⟩) ?_ ?_
            rotate_left
            · intro w'
              have t1 := T1.out
              have t2 := T2.out
              go_simp
              with_reducible rfl
            rotate_left
            · simp only [Act.put, List.setIfInBounds_toArray, List.set_cons_zero, List.set_cons_succ, i64_w, i32_w]
              rfl
            refine pure_ (i := 13) (N := some 66) (v := ?_) (a' := ?_) #[true, true, true, true, true, true, true, true, true, true, false, true, true, true, false, false, false, false, false, false, false, false] rfl rfl (by kernel_rfl) (fun _ _ _ h => h) (Or.inl ⟨by rfl, ?_⟩) ?_ ?_
            rotate_left
            · intro w'
              have t1 := T1.out
              have t2 := T2.out
              go_simp
              with_reducible rfl
            rotate_left
            · simp only [Act.put, List.setIfInBounds_toArray, List.set_cons_zero, List.set_cons_succ, i64_w, i32_w]
              rfl
            refine pure_ (i := 14) (N := some 67) (v := ?_) (a' := ?_) #[true, true, true, true, true, true, true, true, true, true, false, true, true, true, true, false, false, false, false, false, false, false] rfl rfl (by kernel_rfl) (fun _ _ _ h => h) (Or.inl ⟨by rfl, ?_⟩) ?_ ?_
            rotate_left
            · intro w'
              have t1 := T1.out
              have t2 := T2.out
              go_simp
              with_reducible rfl
            rotate_left
            · simp only [Act.put, List.setIfInBounds_toArray, List.set_cons_zero, List.set_cons_succ, i64_w, i32_w]
              rfl
            refine take_ (i := 15) (N := some 68) (v := ?_) (a' := ?_) #[true, true, true, true, true, true, true, true, true, true, false, true, true, true, true, true, false, false, false, false, false, false] rfl rfl (by kernel_rfl) (fun _ _ _ h => h) (Or.inl ⟨by rfl, ?_⟩) hHeld ?_ ?_
            rotate_left
            · rintro w' hS'; have s0 := (hS'.out.cell (p := _) hgl).trans C2.out
              go_simp
              with_reducible rfl
            rotate_left
            · simp only [Act.put, List.setIfInBounds_toArray, List.set_cons_zero, List.set_cons_succ, i64_w, i32_w]
              rfl
            refine pure_ (i := 16) (N := some 69) (v := ?_) (a' := ?_) #[true, true, true, true, true, true, true, true, true, true, false, true, true, true, true, true, true, false, false, false, false, false] rfl rfl (by kernel_rfl) (fun _ _ _ h => h) (Or.inl ⟨by rfl, ?_⟩) ?_ ?_
            rotate_left
            · intro w'
              have t1 := T1.out
              have t2 := T2.out
              go_simp
              with_reducible rfl
            rotate_left
            · simp only [Act.put, List.setIfInBounds_toArray, List.set_cons_zero, List.set_cons_succ, i64_w, i32_w]
              rfl
            refine pure_ (i := 17) (N := some 70) (v := ?_) (a' := ?_) #[true, true, true, true, true, true, true, true, true, true, false, true, true, true, true, true, true, true, false, false, false, false] rfl rfl (by kernel_rfl) (fun _ _ _ h => h) (Or.inl ⟨by rfl, ?_⟩) ?_ ?_
            rotate_left
            · intro w'
              have t1 := T1.out
              have t2 := T2.out
              go_simp
              with_reducible rfl
            rotate_left
            · simp only [Act.put, List.setIfInBounds_toArray, List.set_cons_zero, List.set_cons_succ, i64_w, i32_w]
              rfl
            refine take_ (i := 18) (N := some 71) (v := ?_) (a' := ?_) #[true, true, true, true, true, true, true, true, true, true, false, true, true, true, true, true, true, true, true, false, false, false] rfl rfl (by kernel_rfl) (fun _ _ _ h => h) (Or.inl ⟨by rfl, ?_⟩) hHeld ?_ ?_
            rotate_left
            · rintro w' hS'; have s0 := (hS'.out.cell (p := _) hgpl).trans C3.out
              go_simp
              with_reducible rfl
            rotate_left
            · simp only [Act.put, List.setIfInBounds_toArray, List.set_cons_zero, List.set_cons_succ, i64_w, i32_w]
              rfl
            refine pure_ (i := 19) (N := some 72) (v := ?_) (a' := ?_) #[true, true, true, true, true, true, true, true, true, true, false, true, true, true, true, true, true, true, true, true, false, false] rfl rfl (by kernel_rfl) (fun _ _ _ h => h) (Or.inl ⟨by rfl, ?_⟩) ?_ ?_
            rotate_left
            · intro w'
              have t1 := T1.out
              have t2 := T2.out
              go_simp
              with_reducible rfl
            rotate_left
            · simp only [Act.put, List.setIfInBounds_toArray, List.set_cons_zero, List.set_cons_succ, i64_w, i32_w]
              rfl
            refine one_ (i := 10) (N := some 63) #[true, true, true, true, true, true, true, true, true, true, true, true, true, true, true, true, true, true, true, true, false, false] rfl rfl (by kernel_rfl) (by decide) (fun K hK => ?_)
            refine goes_ Try.func49 (by kernel_rfl) rfl #[u4, .float .f64 (I qa)] (by rfl) rfl rfl (by (try simp only [List.map_toArray, List.map_cons, List.map_nil]); first | done | rfl) ?_
            refine (part_walk w.heap.size u4 bs2 qa hqa (by omega) w w1 hBd.out.size hBd.out hOd.out).mono ?_
            rintro e w2 ⟨v3, rfl, hown3, hbel3, hsz3⟩
            refine ⟨_, rfl, ?_⟩
            refine hK.out _ _ ⟨hbel3⟩ (fun hHeld2 => ?_)
            clear hK K
            refine norm_ (a' := ?_) ?_ ?_
            rotate_left
            · show Act.put _ (some 63) _ = _
              simp only [Act.put, List.setIfInBounds_toArray, List.set_cons_zero, List.set_cons_succ, i64_w, i32_w]
              rfl
            refine last_ (i := 20) (N := some 73) #[true, true, true, true, true, true, true, true, true, true, true, true, true, true, true, true, true, true, true, true, true, false] rfl rfl (by kernel_rfl) (by decide) (fun K hK => ?_)
            refine goes_ Try.func49 (by kernel_rfl) rfl #[v3, .float .f64 (I qb)] (by rfl) rfl rfl (by (try simp only [List.map_toArray, List.map_cons, List.map_nil]); first | done | rfl) ?_
            refine (part_walk w.heap.size v3 (bs2 ++ [hi8 qa, lo8 qa]) qb hqb (by simp; omega) w w2 hsz3 hbel3 (by simpa using hown3)).mono ?_
            rintro e w3 ⟨v4, rfl, hown4, hbel4, hsz4⟩
            refine ⟨_, rfl, ?_⟩
            have hO5 : Pt.Kept (w3.ownsRow w.heap.size 5 1 v4 (bs2 ++ [hi8 qa, lo8 qa, hi8 qb, lo8 qb]).length (B8 (bs2 ++ [hi8 qa, lo8 qa, hi8 qb, lo8 qb]))) := ⟨by simpa [B8] using hown4⟩
            have hB5 := Pt.Kept.mk hbel4
            clear hown3 hbel3 hsz3 hown4 hbel4 hsz4 hHeld2
            refine hK.out _ _ ?_
            clear hK K
            refine norm_ (a' := ?_) ?_ ?_
            rotate_left
            · show Act.put _ (some 73) _ = _
              simp only [Act.put, List.setIfInBounds_toArray, List.set_cons_zero, List.set_cons_succ, i64_w, i32_w]
              rfl
            refine pure_ (i := 21) (N := some 4) (v := ?_) (a' := ?_) #[true, true, true, true, true, true, true, true, true, true, true, true, true, true, true, true, true, true, true, true, true, true] rfl rfl (by kernel_rfl) (fun _ _ _ h => h) (Or.inl ⟨by rfl, ?_⟩) ?_ ?_
            rotate_left
            · intro w'
              have t1 := T1.out
              have t2 := T2.out
              go_simp
              with_reducible rfl
            rotate_left
            · simp only [Act.put, List.setIfInBounds_toArray, List.set_cons_zero, List.set_cons_succ, i64_w, i32_w]
              rfl
            refine done_ (by kernel_rfl) ?_
            clear hOd hBd hHeld
            go_wp2
            go_roundw
            case rel => exact ⟨t + 1, by omega, by go_num, by rw [hms.out]; exact hO5, hB5⟩
            case measure => simp [intOf]; omega
          · have hte : np = t := by omega
            subst hte
            clear ht htl
            go_wp2
            go_roundw
            case rel => exact ⟨k + 1, by omega, by go_num, ⟨by rw [hls.out, ← hnp.out]; exact hO.out⟩, hB⟩
            case measure => simp [intOf]; omega
      · have hke : n = k := by omega
        subst hke
        clear hlt hk
        have hO2 : Pt.Kept (wr.ownsRow w.heap.size 5 1 u4 ((n : Int) :: layS ss).length (B8 ((n : Int) :: layS ss))) := ⟨by rw [← hend.out]; exact hO.out⟩
        clear hO
        go_wp2
        all_goals (go_ret2; exact ⟨_, 0, rfl, hB.out, .inl ⟨HY.out, rfl, hO2.out⟩⟩)
  · rw [decide_eq_false hy] at hM
    have HY := Pt.Kept.mk hy
    clear hy
    go_enter Try.func38, Try.ntmps38
    go_wp2_with (go_at_call 48; (with_reducible refine hM.out.mono ?_); rintro e w0 ⟨rfl, hb⟩; have hB0 := Pt.Kept.mk hb; clear hb)
    all_goals (go_ret2; exact ⟨_, 2, rfl, hB0.out, .inr ⟨HY.out, rfl, rfl⟩⟩)
end Go.Proofs.Ytlffbdfkanibcaa.Sk
