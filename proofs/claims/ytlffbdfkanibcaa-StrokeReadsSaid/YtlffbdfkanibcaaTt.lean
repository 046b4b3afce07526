/-
  The walk of StrokeReads. Condition: bytes.
-/
import Derived.Test.YtlffbdfkanibcaaTs
import Derived.Test.YtlffbdfkanibcaaTp
import Derived.Test.YtlffbdfkanibcaaTn
namespace Go.Proofs.Ytlffbdfkanibcaa.Sk
open Go.RowKit Go.Proofs.YtlffbdfkanibcaaW.PrintWords Go.Proofs.YtlffbdfkanibcaaW.PrintLast Go.Proofs.YtlffbdfkanibcaaW.PrintMore
open Fl Go.Proofs.Ytlffbdfkanibcaa.Pt
set_option linter.unusedSimpArgs false
set_option linter.unusedVariables false

theorem own_cut {w : World} {B g n m cap : Nat} {xs ys : List Value} (h : w.ownsRow B 5 1 (.slice (some ⟨g, 0, none⟩) (n + m) cap) (n + m) (xs ++ ys)) (hx : xs.length = n) : w.ownsRow B 5 1 (.slice (some ⟨g, 0, none⟩) n cap) n xs := by
  rcases h.2 with ⟨h0, _⟩ | ⟨g', cap', cur, e, hb, hg, h1, h2, h3, h4⟩
  · cases h0
  · simp only [Value.slice.injEq, Option.some.injEq, Addr.mk.injEq, and_true, true_and] at e
    obtain ⟨rfl, rfl⟩ := e
    refine ⟨by rw [hx]; omega, .inr ⟨g, cap, cur, rfl, hb, hg, by omega, h2, h3, ?_⟩⟩
    have h5 := congrArg (List.take n) h4
    rw [List.take_append_of_le_length (by omega), List.take_of_length_le (Nat.le_of_eq hx), List.take_take, Nat.min_eq_left (by omega)] at h5
    rw [Nat.mul_one]
    exact h5
theorem own_past {w w1 : World} {B g : Nat} {v : Value} {xs : List (St × Value)} (h : Own w B v xs) (hg : g < B) (hw : w.grownBy w1 (some g)) : Own w1 B v xs := by
  have key : ∀ {e size n : Nat} {u : Value} {l : List Value}, w.ownsRow B e size u n l → u.ownBlock = none ∨ u.ownBlock ≠ some g := fun ho => .inr fun e => by
    have := (ho.lt g e).1
    omega
  exact h.kept hw (key h.row) (fun x hx => key (h.pts x hx))
theorem readR_may {b : List Int} {s : List St} (h : readR b = some s) : may s := by
  unfold readR at h
  split at h
  · rename_i hm
    cases h
    exact hm.1
  · cases h
/-- What both readings come to. -/
theorem both {b : List Int} (hb : ∀ x ∈ b, Byte x) {xs ys : List (St × Value)} {z z' : Int} (h : (readV b = none ∧ xs = [] ∧ z = 5) ∨ (readV b = some (xs.map (·.1)) ∧ z = 0)) (h' : (readR b = none ∧ ys = [] ∧ z' = 5) ∨ (readR b = some (ys.map (·.1)) ∧ z' = 0)) :
    xs.map (·.1) = ys.map (·.1) ∧ z = z' ∧ may (xs.map (·.1)) := by
  rw [read_same b hb] at h
  have h0 : may [] := ⟨by decide, fun x hx => by cases hx⟩
  rcases h with ⟨e, rfl, rfl⟩ | ⟨e, rfl⟩ <;> rcases h' with ⟨e', rfl, rfl⟩ | ⟨e', rfl⟩
  · exact ⟨rfl, rfl, h0⟩
  · rw [e] at e'; cases e'
  · rw [e] at e'; cases e'
  · have := readR_may e
    rw [e] at e'
    exact ⟨Option.some.inj e', rfl, this⟩
theorem bys_cut {w : World} {g : Nat} {b r : List Int} (h : Bys w g (b ++ r)) : Bys w g b := ⟨h.lt, fun j hj => by
  have := h.cell j (by rw [List.length_append]; omega)
  rw [this]
  simp only [List.getD_eq_getElem?_getD, List.getElem?_append_left hj]⟩
set_option maxRecDepth 100000 in
set_option maxHeartbeats 8000000 in
theorem Reads_walk (Q : Option Addr) (n c : Nat) (b : List Int) (hn : b.length = n) (hb : ∀ x ∈ b, Byte x) (hnil : Q = none → c = 0) (w : World) (h : Bt w Q b) :
    Calls Try.prog 8 #[.slice Q n c] w fun e w' => e = .returned (.bool true) ∧ Below w.heap.size w w' := by
  have hAw := Pt.Kept.mk awake2_walk
  by_cases hbig : n ≤ 400
  · have hLend := Pt.Kept.mk (LendBytes_walk Q n c b hn (by omega) w h hnil)
    have HN := Pt.Kept.mk hn
    have Hb := Pt.Kept.mk hb
    have HB := Pt.Kept.mk h
    clear h hn hb hnil
    go_enter Try.func8, Try.ntmps8
    go_upto_region 4 with (go_at_call 19; (with_reducible refine hLend.out.mono ?_); rintro e w1 ⟨g, rfl, ho, hb⟩; have hO1 := Pt.Kept.mk ho; have hB1 := Pt.Kept.mk hb; clear ho hb hLend)
    have hY1 : Pt.Kept (Bys w1 g (b ++ [119, 119, 119])) := ⟨by
      have ho := hO1.out
      obtain ⟨_, _, e, _, _, hg⟩ := own_val ho (by omega)
      cases e
      refine own_bys (B := w.heap.size) (n := n + 3) (c := n + 3) ?_ hg
      rw [List.length_append, HN.out]
      exact ho⟩
    have hW1 : Pt.Kept (Bys w1 g b) := ⟨bys_cut hY1.out⟩
    have hR1 : Pt.Kept (w1.ownsRow w.heap.size 5 1 (.slice (some ⟨g, 0, none⟩) n (n + 3)) n (B8 b)) := ⟨by
      have ho := hO1.out
      rw [show B8 (b ++ [119, 119, 119]) = B8 b ++ B8 [119, 119, 119] from by simp [B8]] at ho
      exact own_cut ho (by simp [B8, HN.out])⟩
    have hP1 := Pt.Kept.mk (HB.out.below hB1.out)
    have hG := Pt.Kept.mk (And.intro (hR1.out.lt g rfl).1 (hR1.out.lt g rfl).2)
    have hread := Pt.Kept.mk (Read_walk g n (n + 3) b (by omega) HN.out (by omega) Hb.out w1 hW1.out)
    clear hO1
    go_upto_region 5 with (go_at_call 20; (with_reducible refine hread.out.mono ?_); rintro e w2 ⟨v, xs, z, rfl, ho, hb, hd⟩; have hO2 := Pt.Kept.mk ho; have hB2 := Pt.Kept.mk hb; have hD := Pt.Kept.mk hd; clear ho hb hd)
    have hP2 := Pt.Kept.mk (hP1.out.below hB2.out)
    have hrread := Pt.Kept.mk (rRead_walk Q n c b HN.out (by omega) Hb.out w2 hP2.out)
    clear hread
    go_upto_region 6 with (go_at_call 21; (with_reducible refine hrread.out.mono ?_); rintro e w3 ⟨v', ys, z', rfl, ho, hb, hd⟩; have hO3 := Pt.Kept.mk ho; have hB3 := Pt.Kept.mk hb; have hE := Pt.Kept.mk hd; clear ho hb hd)
    have hB13 := Pt.Kept.mk (bel_step hB2.out hB3.out)
    have hkept : Pt.Kept (Calls Try.prog 22 #[.slice (some ⟨g, 0, none⟩) n (n + 3), .slice Q n c] w3 fun e w' => e = .returned (.bool true) ∧ ∃ m, w' = w3.drewN m) := ⟨by
      have hY3 := hY1.out.below hB13.out
      have c0 := hY3.cell n (by simp [HN.out])
      have c1 := hY3.cell (n + 1) (by simp [HN.out])
      have c2 := hY3.cell (n + 2) (by simp [HN.out])
      have d0 : (b ++ [119, 119, 119]).getD n 0 = 119 := by rw [← HN.out]; simp
      have d1 : (b ++ [119, 119, 119]).getD (n + 1) 0 = 119 := by rw [← HN.out]; simp
      have d2 : (b ++ [119, 119, 119]).getD (n + 2) 0 = 119 := by rw [← HN.out]; simp
      rw [d0] at c0; rw [d1] at c1; rw [d2] at c2
      have hk := KeptBytes_walk g (n + 3) Q c b (by rw [HN.out]; omega) (by rw [HN.out]; omega) w3 (bys_bt (hW1.out.below hB13.out)) (hP1.out.below hB13.out) (by rw [HN.out]; exact c0) (by rw [HN.out]; exact c1) (by rw [HN.out]; exact c2)
      rw [HN.out] at hk
      exact hk⟩
    clear hrread
    go_upto_region 7 with (go_at_call 22; (with_reducible refine hkept.out.mono ?_); rintro e w4 ⟨rfl, m, hm⟩; have hM := Pt.Kept.mk hm; clear hm)
    have hB4 : Pt.Kept (Below w1.heap.size w1 w4) := ⟨by rw [hM.out]; exact below_drewN hB13.out m⟩
    have hO4 : Pt.Kept (Own w4 w1.heap.size v xs) := ⟨by rw [hM.out]; exact (hO2.out.below hB3.out).drewN m⟩
    have hO4' : Pt.Kept (Own w4 w2.heap.size v' ys) := ⟨by rw [hM.out]; exact hO3.out.drewN m⟩
    have hR4 : Pt.Kept (w4.ownsRow w.heap.size 5 1 (.slice (some ⟨g, 0, none⟩) n (n + 3)) n (B8 b)) := ⟨hR1.out.kept (row := none) ⟨hB4.out.os, hB4.out.tape, hB4.out.output, hB4.out.size, fun k hk _ => hB4.out.block k hk⟩ (by simp [Value.ownBlock])⟩
    have hBW4 := Pt.Kept.mk (bel_step hB1.out hB4.out)
    have hover := Pt.Kept.mk (OverBytes_walk w.heap.size g n (n + 3) (by omega) (B8 b) w4 hBW4.out.size hR4.out)
    clear hkept hM hB13 hB3 hP1 hP2 hW1 hY1 hR1
    go_upto_region 8 with (go_at_call 23; (with_reducible refine hover.out.mono ?_); rintro e w5 ⟨⟨q, rfl⟩, hg⟩; have hG5 := Pt.Kept.mk hg; clear hg)
    have hB5 : Pt.Kept (Below w.heap.size w w5) := ⟨hBW4.out.grown hG5.out hBW4.out.size (fun k hk => by cases hk; exact hG.out.1)⟩
    have hO5 := own_past hO4.out hG.out.2 hG5.out
    have hO5' := own_past hO4'.out (Nat.lt_of_lt_of_le hG.out.2 hB2.out.size) hG5.out
    obtain ⟨hmap, rfl, hmay⟩ := both Hb.out hD.out hE.out
    obtain ⟨A, ca, rfl, hs⟩ := own_sh hO5
    obtain ⟨B, cb, rfl, hs'⟩ := own_sh hO5'
    have hlen : ys.length = xs.length := by have := congrArg List.length hmap; simpa using this.symm
    rw [← hmap] at hs'
    have hss : Pt.Kept (Calls Try.prog 24 #[.slice A xs.length ca, .slice B xs.length cb] w5 fun e w' => e = .returned (.bool true) ∧ ∃ m, w' = w5.drewN m) := ⟨by
      have h := SameSheet_walk A B ca cb (xs.map (·.1)) (by have := hmay.1; omega) (fun x hx => by have := (hmay.2 x hx).2.2.2; omega) w5 hs hs'
      rw [List.length_map] at h
      exact h⟩
    rw [hlen]
    clear hO5 hO5' hmap hmay hs hs' hO2 hD hO3 hE hO4 hO4' hR4 hover hG5 hlen
    have hNum := Pt.Kept.mk Num_walk
    go_wp2_with (first
      | (go_at_call 24; (with_reducible refine hss.out.mono ?_); rintro e w6 ⟨rfl, m6, hm⟩; have hB6 : Pt.Kept (Below w.heap.size w w6) := (by rw [hm]; exact ⟨below_drewN hB5.out m6⟩); clear hm)
      | (go_at_call 25; (with_reducible refine (hNum.out _ _).mono ?_); rintro e w7 ⟨rfl, rfl⟩)
      | (go_at_call 18; (with_reducible refine (hAw.out _).mono ?_); rintro e w8 ⟨rfl, hb⟩; have hB8 := Pt.Kept.mk (bel_step hB6.out hb); clear hb))
    all_goals (go_ret; exact ⟨rfl, hB8.out⟩)
  · clear hn hb hnil h
    go_enter Try.func8, Try.ntmps8
    go_wp2_with (go_at_call 18; (with_reducible refine (hAw.out _).mono ?_); rintro e w1 ⟨rfl, hb⟩; have hB1 := Pt.Kept.mk hb; clear hb)
    all_goals (go_ret; exact ⟨rfl, hB1.out⟩)
theorem bt_row {w : World} {A : Option Addr} {l : List Int} (h : 0 < l.length → ∃ ad, A = some ad ∧ ∀ j, j < l.length → w.cell? (ad.add j) = some (.int .u8 (l.getD j 0))) : Bt w A l := ⟨fun hn => by
  obtain ⟨ad, rfl, hc⟩ := h hn
  have h0 := hc 0 hn
  have e0 : ad.add 0 = ad := by unfold Addr.add; rw [if_pos rfl]
  rw [e0] at h0
  obtain ⟨b, o, s⟩ := ad
  have hs : s = none := by
    cases s with
    | none => rfl
    | some k =>
      unfold World.cell? at h0
      split at h0 <;> simp at h0
  subst hs
  refine ⟨b, o, rfl, World.block_lt_of_cell? _ _ h0, fun j hj => ?_⟩
  have ea : (⟨b, o, none⟩ : Addr).add j = ⟨b, o + j, none⟩ := by unfold Addr.add; split <;> simp_all
  rw [← ea]
  exact hc j hj⟩
end Go.Proofs.Ytlffbdfkanibcaa.Sk
