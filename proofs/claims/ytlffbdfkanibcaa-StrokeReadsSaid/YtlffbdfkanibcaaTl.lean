/-
  The walk of the document's own Read. Condition: at most 1000 bytes.
-/
import Derived.Test.YtlffbdfkanibcaaTk
import Derived.Laws.BytesArg
import Derived.Shelf.Bytes.SlSmallAll
namespace Go.Proofs.Ytlffbdfkanibcaa.Sk
open Go.RowKit Go.Proofs.YtlffbdfkanibcaaW.PrintWords Go.Proofs.YtlffbdfkanibcaaW.PrintLast Go.Proofs.YtlffbdfkanibcaaW.PrintMore
open Fl Go.Proofs.Ytlffbdfkanibcaa.Pt
set_option linter.unusedSimpArgs false
set_option linter.unusedVariables false

theorem str_list {a b : ByteArray} (h : a.toList = b.toList) : a = b := by
  rw [ByteArray.toList_eq, ByteArray.toList_eq] at h
  cases a; cases b
  simp only at h
  rw [Array.ext' h]
theorem layP_bytes (ps : List P2) : ∀ x ∈ layP ps, Byte x := by
  induction ps with
  | nil => intro x hx; cases hx
  | cons p r ih =>
    intro x hx
    simp only [layP, List.mem_cons] at hx
    rcases hx with rfl | rfl | rfl | rfl | hx
    · unfold Byte hi8; omega
    · unfold Byte lo8; omega
    · unfold Byte hi8; omega
    · unfold Byte lo8; omega
    · exact ih x hx
theorem layS_bytes (ss : List St) : ∀ x ∈ layS ss, Byte x := by
  induction ss with
  | nil => intro x hx; cases hx
  | cons p r ih =>
    intro x hx
    simp only [layS, List.mem_cons, List.mem_append] at hx
    rcases hx with rfl | rfl | hx | hx
    · unfold Byte; omega
    · unfold Byte; omega
    · exact layP_bytes _ x hx
    · exact ih x hx
theorem lay_bytes {n : Nat} (ss : List St) (h : may ss) (hn : ss.length = n) : ∀ x ∈ (n : Int) :: layS ss, Byte x := by
  intro x hx
  rcases List.mem_cons.1 hx with rfl | hx
  · have := h.1; unfold Byte; omega
  · exact layS_bytes ss x hx
section
variable {P : Program} {w : World}
theorem wpList_append_at {ops : Array Oper} {rest : List Oper} {o : Oper} {a : Act} {Q : Exit → Act → World → Prop} (hgd : o.guard = none) (s x : Operand) (t : TypeId)
    (ho : o.op = .call { callee := .builtin .append, args := #[s, x], argTypes := #[t, t] })
    (base : Nat) (e : TypeId) (i : TypeInfo) (z : Value) (size bytes : Nat) (ht : P.underlying t = some (.slice e)) (hi : P.info? e = some i) (hz : i.zero = some z)
    (hsize : i.size = size) (hby : i.bytes = bytes) (hzs : z.cells.size = size) (hsz : 0 < size)
    (v : Value) (n : Nat) (xs : List Value) (hs : a.eval s = v) (hown : w.ownsRow base e size v n xs)
    (ad : Addr) (m c : Nat) (news : List Value) (hx : a.eval x = .slice (some ad) m c) (hl : news.length = m * size) (hnews : ∀ j u, news[j]? = some u → w.cell? (ad.add j) = some u) (h1 : ∀ u ∈ news, u.oneCell' = true)
    (h63 : n + m ≤ maxLen) (hbytes : (n + m) * bytes ≤ 140737488355328) (hbase : base ≤ w.heap.size)
    (h : ∀ v' w', w'.ownsRow base e size v' (n + m) (xs ++ news) → w.grownBy w' v.ownBlock → (v'.ownBlock = v.ownBlock ∨ v'.ownBlock = some w.heap.size) → wpList P ops Q rest (a.put o.dst v') w') : wpList P ops Q (o :: rest) a w :=
  wpList_plain hgd fun _ hK => wp_append_at s x t ho base e i z size bytes ht hi hz hsize hby hzs hsz v n xs hs hown ad m c news hx hl hnews h1 h63 hbytes hbase fun v' w' h2 h3 h4 => hK _ _ (h v' w' h2 h3 h4)
end
theorem of_mark {p : Prop} (h : Pt.Kept p) : p := h.out
theorem to_mark {p : Prop} (h : p) : Pt.Kept p := ⟨h⟩
theorem new_struct (w : World) (p q : Int) : w.grownBy (w.alloc (.cells #[.int .i64 p, .int .i64 q, .slice none 0 0] 65)) none ∧ (w.alloc (.cells #[.int .i64 p, .int .i64 q, .slice none 0 0] 65)).heap[w.heap.size]? = some (.cells #[.int .i64 p, .int .i64 q, .slice none 0 0] 65 (0, 0)) :=
  ⟨World.grownBy_alloc _ _ _, by show (w.heap.push _)[w.heap.size]? = _; simp⟩
theorem Two.last {w w1 : World} {B gx : Nat} {v pv : Value} {xs : List (St × Value)} {x : St} (h : Two w B v xs gx x pv) (hg : w.grownBy w1 pv.ownBlock) : w1.cell? ⟨gx, 2, none⟩ = some pv ∧ w1.frozen? ⟨gx, 2, none⟩ = false := by
  have := own_last (xs := []) h.one hg
  simpa using this
theorem i16_num (a b : Int) (ha : Byte a) (hb : Byte b) : IntKind.i16.wrap (a * 256 + b) = num16 a b := by
  unfold Byte at ha hb
  unfold num16
  simp only [IntKind.wrap, IntKind.signed, IntKind.bits]
  simp
  split <;> split <;> omega
theorem Being.last {w0 w1 wr : World} {v v1 pv : Value} {xs : List (St × Value)} {x : St} (h : Being w0 wr v xs) (ho : Own w1 w0.heap.size v1 (xs ++ [(x, pv)])) (hb : Below w0.heap.size w0 w1) (hp : ∀ p ∈ x.pts, InP p) (hl : x.pts.length ≤ 255) : Being w0 w1 v1 (xs ++ [(x, pv)]) := by
  refine ⟨ho, hb, ?_, ?_⟩
  · intro y hy q hq
    obtain ⟨z, hz, rfl⟩ := List.mem_map.1 hy
    rcases List.mem_append.1 hz with hz | hz
    · exact h.pin z.1 (List.mem_map.2 ⟨z, hz, rfl⟩) q hq
    · have : z = (x, pv) := by simpa using hz
      subst this; exact hp q hq
  · intro z hz
    rcases List.mem_append.1 hz with hz | hz
    · exact h.few z hz
    · have : z = (x, pv) := by simpa using hz
      subst this; exact hl
/-- Bytes in memory. -/
structure Bt (w : World) (P : Option Addr) (b : List Int) : Prop where
  ex : 0 < b.length → ∃ g o, P = some ⟨g, o, none⟩ ∧ g < w.heap.size ∧ ∀ j, j < b.length → w.cell? ⟨g, o + j, none⟩ = some (.int .u8 (b.getD j 0))

set_option maxRecDepth 100000 in
set_option maxHeartbeats 16000000 in
theorem rRead_walk (P : Option Addr) (n c : Nat) (b : List Int) (hn : b.length = n) (hn2 : n ≤ 1000) (hb : ∀ x ∈ b, Byte x) (w : World) (hB : Bt w P b) :
    Calls Try.prog 21 #[.slice P n c] w fun e w' => ∃ v xs z, e = .returned (.tuple #[v, .int .i64 z]) ∧ Own w' w.heap.size v xs ∧ Below w.heap.size w w' ∧ ((readR b = none ∧ xs = [] ∧ z = 5) ∨ (readR b = some (xs.map (·.1)) ∧ z = 0)) := by
  have HB := Pt.Kept.mk hB
  have Hb := Pt.Kept.mk hb
  have HN := Pt.Kept.mk hn
  have hu43 := Try.underlying43
  have hu32 := Try.underlying32
  have hu65 := Try.underlying65
  obtain ⟨i0, hi, hz0, hz1, hz2⟩ := info_parts info65
  obtain ⟨i2, hj, hy0', hy1', hy2'⟩ := info_parts info22
  clear hB hb hn
  go_enter Try.func21, Try.ntmps21
  go_wp2
  go_loopw [4, 5] (fun v i wr => ∃ (xs : List (St × Value)) (at_ : Nat), (at_ ≤ n + 1 ∧ xs.length ≤ 7) ∧ i = .int .i64 at_ ∧ Pt.Kept (Being w wr v xs) ∧ Pt.Kept (lenSts 7 (b.drop 1) = xs.map (·.1) ++ lenSts (7 - xs.length) (b.drop at_))) (fun _ i _ => n + 1 - (intOf i).toNat)
  case atStart => exact ⟨[], 1, ⟨by omega, by simp⟩, rfl, ⟨⟨own_nil _ _, Below.refl _ _, by intro x hx; simp at hx, by simp⟩⟩, ⟨rfl⟩⟩
  case round =>
    obtain ⟨xs, at_, ⟨h1, h2⟩, rfl, hBe, hR⟩ := hrel
    by_cases hlt : at_ + 1 < n ∧ xs.length ≤ 6
    · obtain ⟨h3, h4⟩ := hlt
      obtain ⟨g, o, rfl, hgl, hcell⟩ := HB.out.ex (by rw [HN.out]; omega)
      have C0 := Pt.Kept.mk (hcell at_ (by rw [HN.out]; omega))
      have C1 := Pt.Kept.mk (hcell (at_ + 1) (by rw [HN.out]; omega))
      have hy0 := byte_at b Hb.out at_ (by rw [HN.out]; omega)
      have hy1 := byte_at b Hb.out (at_ + 1) (by rw [HN.out]; omega)
      have hcK := Pt.Kept.mk hcell
      obtain ⟨A, cA, rfl, hSh⟩ := own_sh hBe.out.own
      clear hSh hcell
      have hR2 : Pt.Kept (lenSts 7 (b.drop 1) = xs.map (·.1) ++ ⟨b.getD at_ 0 / 16, b.getD at_ 0 % 16, [] ++ (lenPts (b.getD (at_ + 1) 0).toNat (b.drop (at_ + 2))).1⟩ :: lenSts (6 - xs.length) (lenPts (b.getD (at_ + 1) 0).toNat (b.drop (at_ + 2))).2) := ⟨by
        rw [hR.out, drop_one b at_ (by rw [HN.out]; omega), drop_one b (at_ + 1) (by rw [HN.out]; omega), show 7 - xs.length = (6 - xs.length) + 1 from by omega, lenSts_step]⟩
      clear hR
      generalize b.getD at_ 0 = b0 at *
      generalize b.getD (at_ + 1) 0 = b1 at *
      have hdiv : b0.tdiv 16 = b0 / 16 := Int.tdiv_eq_ediv_of_nonneg hy0.1
      have hmod : b0.tmod 16 = b0 % 16 := Int.tmod_eq_emod_of_nonneg hy0.1
      go_wp2
      have hBd : Pt.Kept (Below w.heap.size w wr.drew) := ⟨hBe.out.bel.drew⟩
      have hOd : Pt.Kept (Own wr.drew w.heap.size (.slice A xs.length cA) xs) := ⟨hBe.out.own.drew⟩
      have T1 : Pt.Kept (0 ≤ (at_ : Int) ∧ (at_ : Int) < (n : Int)) := ⟨by omega⟩
      have T2 := Pt.Kept.mk (u8_id (b0 / 16) (by unfold Byte at hy0; omega))
      have T3 := Pt.Kept.mk (w64_id (b0 / 16) (by unfold Byte at hy0; omega) (by unfold Byte at hy0; omega))
      have T4 := Pt.Kept.mk (w64_id (b0 % 16) (by unfold Byte at hy0; omega) (by unfold Byte at hy0; omega))
      refine start_ (n := 15) (S := fun w' => Pt.Kept (Below w.heap.size w w')) (ds := [14]) #[false, false, false, false, false, false, false, false, false, false, false, false, false, false, false] (by kernel_rfl) rfl rfl hBd (fun hHeld => ?_)
      generalize wr.drew = w1 at *
      refine pure_ (i := 0) (N := some 23) (v := ?_) (a' := ?_) #[true, false, false, false, false, false, false, false, false, false, false, false, false, false, false] rfl rfl (by kernel_rfl) (fun _ _ _ h => h) (Or.inl ⟨by rfl, ?_⟩) ?_ ?_
      rotate_left
      · intro w'
        have t1 := T1.out
        have t2 := T2.out
        have t3 := T3.out
        have t4 := T4.out
        go_simp
        with_reducible rfl
      rotate_left
      · simp only [Act.put, List.setIfInBounds_toArray, List.set_cons_zero, List.set_cons_succ, i64_w, i32_w]
        rfl
      refine pure_ (i := 1) (N := some 24) (v := ?_) (a' := ?_) #[true, true, false, false, false, false, false, false, false, false, false, false, false, false, false] rfl rfl (by kernel_rfl) (fun _ _ _ h => h) (Or.inl ⟨by rfl, ?_⟩) ?_ ?_
      rotate_left
      · intro w'
        have t1 := T1.out
        have t2 := T2.out
        have t3 := T3.out
        have t4 := T4.out
        go_simp
        with_reducible rfl
      rotate_left
      · simp only [Act.put, List.setIfInBounds_toArray, List.set_cons_zero, List.set_cons_succ, i64_w, i32_w]
        rfl
      refine pure_ (i := 2) (N := some 25) (v := ?_) (a' := ?_) #[true, true, true, false, false, false, false, false, false, false, false, false, false, false, false] rfl rfl (by kernel_rfl) (fun _ _ _ h => h) (Or.inl ⟨by rfl, ?_⟩) ?_ ?_
      rotate_left
      · intro w'
        have t1 := T1.out
        have t2 := T2.out
        have t3 := T3.out
        have t4 := T4.out
        go_simp
        with_reducible rfl
      rotate_left
      · simp only [Act.put, List.setIfInBounds_toArray, List.set_cons_zero, List.set_cons_succ, i64_w, i32_w]
        rfl
      refine take_ (i := 3) (N := some 26) (v := ?_) (a' := ?_) #[true, true, true, true, false, false, false, false, false, false, false, false, false, false, false] rfl rfl (by kernel_rfl) (fun _ _ _ h => h) (Or.inl ⟨by rfl, ?_⟩) hHeld ?_ ?_
      rotate_left
      · rintro w' hS'; have s0 := (hS'.out.cell (p := _) hgl).trans C0.out
        go_simp
        with_reducible rfl
      rotate_left
      · simp only [Act.put, List.setIfInBounds_toArray, List.set_cons_zero, List.set_cons_succ, i64_w, i32_w]
        rfl
      refine pure_ (i := 4) (N := some 27) (v := ?_) (a' := ?_) #[true, true, true, true, true, false, false, false, false, false, false, false, false, false, false] rfl rfl (by kernel_rfl) (fun _ _ _ h => h) (Or.inl ⟨by rfl, ?_⟩) ?_ ?_
      rotate_left
      · intro w'
        have t1 := T1.out
        have t2 := T2.out
        have t3 := T3.out
        have t4 := T4.out
        go_simp
        with_reducible rfl
      rotate_left
      · simp only [Act.put, List.setIfInBounds_toArray, List.set_cons_zero, List.set_cons_succ, i64_w, i32_w]
        rfl
      refine pure_ (i := 5) (N := some 28) (v := ?_) (a' := ?_) #[true, true, true, true, true, true, false, false, false, false, false, false, false, false, false] rfl rfl (by kernel_rfl) (fun _ _ _ h => h) (Or.inl ⟨by rfl, ?_⟩) ?_ ?_
      rotate_left
      · intro w'
        have t1 := T1.out
        have t2 := T2.out
        have t3 := T3.out
        have t4 := T4.out
        go_simp
        with_reducible rfl
      rotate_left
      · simp only [Act.put, List.setIfInBounds_toArray, List.set_cons_zero, List.set_cons_succ, i64_w, i32_w]
        rfl
      refine pure_ (i := 6) (N := some 29) (v := ?_) (a' := ?_) #[true, true, true, true, true, true, true, false, false, false, false, false, false, false, false] rfl rfl (by kernel_rfl) (fun _ _ _ h => h) (Or.inl ⟨by rfl, ?_⟩) ?_ ?_
      rotate_left
      · intro w'
        have t1 := T1.out
        have t2 := T2.out
        have t3 := T3.out
        have t4 := T4.out
        go_simp
        with_reducible rfl
      rotate_left
      · simp only [Act.put, List.setIfInBounds_toArray, List.set_cons_zero, List.set_cons_succ, i64_w, i32_w]
        rfl
      refine pure_ (i := 7) (N := some 30) (v := ?_) (a' := ?_) #[true, true, true, true, true, true, true, true, false, false, false, false, false, false, false] rfl rfl (by kernel_rfl) (fun _ _ _ h => h) (Or.inl ⟨by rfl, ?_⟩) ?_ ?_
      rotate_left
      · intro w'
        have t1 := T1.out
        have t2 := T2.out
        have t3 := T3.out
        have t4 := T4.out
        go_simp
        with_reducible rfl
      rotate_left
      · simp only [Act.put, List.setIfInBounds_toArray, List.set_cons_zero, List.set_cons_succ, i64_w, i32_w]
        rfl
      refine pure_ (i := 8) (N := some 31) (v := ?_) (a' := ?_) #[true, true, true, true, true, true, true, true, true, false, false, false, false, false, false] rfl rfl (by kernel_rfl) (fun _ _ _ h => h) (Or.inl ⟨by rfl, ?_⟩) ?_ ?_
      rotate_left
      · intro w'
        have t1 := T1.out
        have t2 := T2.out
        have t3 := T3.out
        have t4 := T4.out
        go_simp
        with_reducible rfl
      rotate_left
      · simp only [Act.put, List.setIfInBounds_toArray, List.set_cons_zero, List.set_cons_succ, i64_w, i32_w]
        rfl
      refine take_ (i := 9) (N := some 32) (v := ?_) (a' := ?_) #[true, true, true, true, true, true, true, true, true, true, false, false, false, false, false] rfl rfl (by kernel_rfl) (fun _ _ _ h => h) (Or.inl ⟨by rfl, ?_⟩) hHeld ?_ ?_
      rotate_left
      · rintro w' hS'; have s0 := (hS'.out.cell (p := _) hgl).trans C0.out
        go_simp
        with_reducible rfl
      rotate_left
      · simp only [Act.put, List.setIfInBounds_toArray, List.set_cons_zero, List.set_cons_succ, i64_w, i32_w]
        rfl
      refine pure_ (i := 10) (N := some 33) (v := ?_) (a' := ?_) #[true, true, true, true, true, true, true, true, true, true, true, false, false, false, false] rfl rfl (by kernel_rfl) (fun _ _ _ h => h) (Or.inl ⟨by rfl, ?_⟩) ?_ ?_
      rotate_left
      · intro w'
        have t1 := T1.out
        have t2 := T2.out
        have t3 := T3.out
        have t4 := T4.out
        go_simp
        with_reducible rfl
      rotate_left
      · simp only [Act.put, List.setIfInBounds_toArray, List.set_cons_zero, List.set_cons_succ, i64_w, i32_w]
        rfl
      refine pure_ (i := 11) (N := some 34) (v := ?_) (a' := ?_) #[true, true, true, true, true, true, true, true, true, true, true, true, false, false, false] rfl rfl (by kernel_rfl) (fun _ _ _ h => h) (Or.inl ⟨by rfl, ?_⟩) ?_ ?_
      rotate_left
      · intro w'
        have t1 := T1.out
        have t2 := T2.out
        have t3 := T3.out
        have t4 := T4.out
        go_simp
        with_reducible rfl
      rotate_left
      · simp only [Act.put, List.setIfInBounds_toArray, List.set_cons_zero, List.set_cons_succ, i64_w, i32_w]
        rfl
      refine pure_ (i := 12) (N := some 35) (v := ?_) (a' := ?_) #[true, true, true, true, true, true, true, true, true, true, true, true, true, false, false] rfl rfl (by kernel_rfl) (fun _ _ _ h => h) (Or.inl ⟨by rfl, ?_⟩) ?_ ?_
      rotate_left
      · intro w'
        have t1 := T1.out
        have t2 := T2.out
        have t3 := T3.out
        have t4 := T4.out
        go_simp
        with_reducible rfl
      rotate_left
      · simp only [Act.put, List.setIfInBounds_toArray, List.set_cons_zero, List.set_cons_succ, i64_w, i32_w]
        rfl
      refine one_ (i := 13) (N := some 6) #[true, true, true, true, true, true, true, true, true, true, true, true, true, true, false] rfl rfl (by kernel_rfl) (by decide) (fun K hK => ?_)
      refine event_step (by rfl) (show _ = Result.ok (Next.value (.pointer (some ⟨w1.heap.size, 0, none⟩))) (w1.alloc (.cells #[.int .i64 0, .int .i64 0, .slice none 0 0] 65)) by first | (go_simp; done) | (go_simp; rfl)) ?_
      refine hK.out _ _ ⟨hHeld.out.alloc hHeld.out.size _⟩ (fun _ => ?_)
      clear hK K
      refine norm_ (a' := ?_) ?_ ?_
      rotate_left
      · show Act.put _ (some 6) _ = _
        simp only [Act.put, List.setIfInBounds_toArray, List.set_cons_zero, List.set_cons_succ, i64_w, i32_w]
        rfl
      refine last_ (i := 14) (N := none) #[true, true, true, true, true, true, true, true, true, true, true, true, true, true, true] rfl rfl (by kernel_rfl) (by decide) (fun K hK => ?_)
      rw [if_pos (by rfl)]
      go_simp
      refine hK.out _ _ ?_
      clear hK K
      have hB2 : Pt.Kept (Below w.heap.size w (w1.alloc (.cells #[.int .i64 (b0 / 16), .int .i64 (b0 % 16), .slice none 0 0] 65))) := ⟨hBd.out.alloc hBd.out.size _⟩
      have hT2 := Pt.Kept.mk (Two.new hOd.out (new_struct w1 (b0 / 16) (b0 % 16)).1 hBd.out.size (new_struct w1 (b0 / 16) (b0 % 16)).2)
      refine done_ (by kernel_rfl) ?_
      clear hOd hBd hHeld
      generalize (w1.alloc (.cells #[.int .i64 (b0 / 16), .int .i64 (b0 % 16), .slice none 0 0] 65)) = w2 at *
      generalize w1.heap.size = gx at *
      have D1 := (hB2.out.cell (p := ⟨g, o + (at_ + 1), none⟩) hgl).trans C1.out
      obtain ⟨m0, rfl⟩ : ∃ m0 : Nat, b1 = m0 := ⟨b1.toNat, by unfold Byte at hy1; omega⟩
      have hm0 : m0 < 256 := by unfold Byte at hy1; omega
      rw [Int.toNat_natCast] at hR2
      clear hy1
      go_wp2
      clear D1
      go_loopw [5, 8] (fun a i wr => ∃ (ps : List P2) (pv : Value) (at2 k : Nat), (at2 ≤ n ∧ k ≤ m0 ∧ ps.length = k ∧ at_ + 2 ≤ at2) ∧ a = .int .i64 at2 ∧ i = .int .i64 k ∧ Pt.Kept (Two wr w.heap.size (.slice A xs.length cA) xs gx ⟨b0 / 16, b0 % 16, ps⟩ pv) ∧ Pt.Kept (Below w.heap.size w wr) ∧ Pt.Kept (∀ p ∈ ps, InP p) ∧ Pt.Kept (lenSts 7 (b.drop 1) = xs.map (·.1) ++ ⟨b0 / 16, b0 % 16, ps ++ (lenPts (m0 - k) (b.drop at2)).1⟩ :: lenSts (6 - xs.length) (lenPts (m0 - k) (b.drop at2)).2)) (fun a _ _ => n - (intOf a).toNat)
      case atStart => exact ⟨[], .slice none 0 0, at_ + 2, 0, ⟨by omega, by omega, rfl, Nat.le_refl _⟩, by go_num, rfl, hT2, hB2, ⟨fun p hp => by cases hp⟩, hR2⟩
      case round =>
        clear hT2 hB2 hR2
        obtain ⟨ps, pv, at2, k, ⟨k1, k2, k3, k4⟩, rfl, rfl, hT, hB, hI, hR⟩ := hrel
        by_cases hlt : k < m0 ∧ at2 + 3 < n
        · obtain ⟨l1, l2⟩ := hlt
          have E0 := Pt.Kept.mk ((hB.out.cell (p := ⟨g, o + at2, none⟩) hgl).trans (hcK.out at2 (by rw [HN.out]; omega)))
          have E1 := Pt.Kept.mk ((hB.out.cell (p := ⟨g, o + (at2 + 1), none⟩) hgl).trans (hcK.out (at2 + 1) (by rw [HN.out]; omega)))
          have E2 := Pt.Kept.mk ((hB.out.cell (p := ⟨g, o + (at2 + 2), none⟩) hgl).trans (hcK.out (at2 + 2) (by rw [HN.out]; omega)))
          have E3 := Pt.Kept.mk ((hB.out.cell (p := ⟨g, o + (at2 + 3), none⟩) hgl).trans (hcK.out (at2 + 3) (by rw [HN.out]; omega)))
          have y0 := byte_at b Hb.out at2 (by rw [HN.out]; omega)
          have y1 := byte_at b Hb.out (at2 + 1) (by rw [HN.out]; omega)
          have y2 := byte_at b Hb.out (at2 + 2) (by rw [HN.out]; omega)
          have y3 := byte_at b Hb.out (at2 + 3) (by rw [HN.out]; omega)
          have hR3 : Pt.Kept (lenSts 7 (b.drop 1) = xs.map (·.1) ++ ⟨b0 / 16, b0 % 16, (ps ++ [(num16 (b.getD at2 0) (b.getD (at2 + 1) 0), num16 (b.getD (at2 + 2) 0) (b.getD (at2 + 3) 0))]) ++ (lenPts (m0 - (k + 1)) (b.drop (at2 + 4))).1⟩ :: lenSts (6 - xs.length) (lenPts (m0 - (k + 1)) (b.drop (at2 + 4))).2) := ⟨by
            rw [hR.out, drop_one b at2 (by rw [HN.out]; omega), drop_one b (at2 + 1) (by rw [HN.out]; omega), drop_one b (at2 + 1 + 1) (by rw [HN.out]; omega), drop_one b (at2 + 1 + 1 + 1) (by rw [HN.out]; omega), show m0 - k = (m0 - (k + 1)) + 1 from by omega, lenPts_step, List.append_assoc]; rfl⟩
          clear hR
          generalize b.getD at2 0 = e0 at *
          generalize b.getD (at2 + 1) 0 = e1 at *
          generalize b.getD (at2 + 2) 0 = e2 at *
          generalize b.getD (at2 + 3) 0 = e3 at *
          have N0 := num_in e0 e1 y0 y1
          have N1 := num_in e2 e3 y2 y3
          have M0 : IntKind.i16.wrap (e0 * 256 + e1) = num16 e0 e1 := i16_num e0 e1 y0 y1
          have M1 : IntKind.i16.wrap (e2 * 256 + e3) = num16 e2 e3 := i16_num e2 e3 y2 y3
          have NK := Pt.Kept.mk (show InP (num16 e0 e1, num16 e2 e3) from ⟨N0, N1⟩)
          unfold Byte at y0 y1 y2 y3
          unfold In at N0 N1
          have F0 := E0.out
          have F1 := E1.out
          have F2 := E2.out
          have F3 := E3.out
          clear E0 E1 E2 E3
          go_wp2
          go_quiet (fail)
          have G2 : (wr.drewN nq).cell? ⟨g, o + (at2 + 2), none⟩ = some (.int .u8 e2) := F2
          have G3 : (wr.drewN nq).cell? ⟨g, o + (at2 + 3), none⟩ = some (.int .u8 e3) := F3
          have hTa := Pt.Kept.mk (hT.out.drewN nq)
          have hBa := Pt.Kept.mk (below_drewN hB.out nq)
          clear F0 F1 F2 F3 hT hB
          generalize wr.drewN nq = wa at *
          go_wp2
          go_quiet (fail)
          have hTb := Pt.Kept.mk (hTa.out.drewN nq)
          have hBb := Pt.Kept.mk (below_drewN hBa.out nq)
          clear G2 G3 hTa hBa
          generalize wa.drewN nq = wb at *
          have P2 := hTb.out.cells.2.2.1
          have hpv := Pt.Kept.mk (hTb.out.one.pts (⟨b0 / 16, b0 % 16, ps⟩, pv) (by simp))
          have hps : ps.length ≤ 255 := by omega
          have K3 := Pt.Kept.mk k3
          clear k3
          go_wp2_with (at_builtin; refine wpList_append_at rfl (.tmp 86) (.tmp 92) 32 rfl w.heap.size 22 i2 (.complex .f64 0 0) 1 16 hu32 hj hy0' hy1' hy2' rfl (by decide) _ ps.length _ rfl (hpv.out.alloc _) ⟨wb.heap.size, 0, none⟩ 1 1 [CP (num16 e0 e1, num16 e2 e3)] rfl rfl ?c1 (by intro u hu; simp at hu; subst hu; rfl) (by unfold maxLen; omega) (by omega) (by have := hBb.out.size; simp; omega) ?_)
          case c1 =>
            intro j u hj
            match j, hj with
            | 0, hj => cases hj; first | exact World.cell?_alloc_new _ _ _ _ | rfl
          intro v' w4 hown' hgrow hat'
          obtain ⟨Pp, cp, rfl⟩ := own_slice hown'
          have hbase : wb.heap.size ≤ (wb.alloc (.cells #[CP (num16 e0 e1, num16 e2 e3)] 22)).heap.size := by simp
          have hTc := Pt.Kept.mk (Two.point (p := (num16 e0 e1, num16 e2 e3)) (hTb.out.alloc (.cells #[CP (num16 e0 e1, num16 e2 e3)] 22)) (by rw [List.map_append]; exact hown') hgrow (by rcases hat' with q | q; exact .inl q; exact .inr ⟨_, q, by simp⟩) rfl)
          have hst := (hTb.out.alloc (.cells #[CP (num16 e0 e1, num16 e2 e3)] 22)).last hgrow
          have hstc := hst.1
          have hstf := hst.2
          have hBc : Pt.Kept (Below w.heap.size w (w4.setCell ⟨gx, 2, none⟩ (.slice Pp (ps.length + 1) cp))) := ⟨below_set ((hBb.out.alloc hBb.out.size _).grown hgrow (by have := hBb.out.size; simp; omega) (fun g hg => own_base hpv.out g hg)) hTb.out.base⟩
          clear hown' hgrow hst hat' hpv hTb hBb P2
          go_wp2
          go_roundw
          case rel => exact ⟨ps ++ [(num16 e0 e1, num16 e2 e3)], _, at2 + 4, k + 1, ⟨by omega, by omega, by have := K3.out; simp; omega, by omega⟩, by go_num, by go_num, hTc, hBc, ⟨fun p hp => by
            rcases List.mem_append.1 hp with hp | hp
            · exact hI.out p hp
            · have : p = (num16 e0 e1, num16 e2 e3) := by simpa using hp
              subst this; exact NK.out⟩, hR3⟩
          case measure => simp [intOf]; omega
        · have hE : lenPts (m0 - k) (b.drop at2) = ([], b.drop at2) := by
            by_cases q : k < m0
            · exact lenPts_short _ _ (by rw [List.length_drop, HN.out]; omega)
            · rw [show m0 - k = 0 from by omega]; rfl
          have hR2 : Pt.Kept (lenSts 7 (b.drop 1) = xs.map (·.1) ++ ⟨b0 / 16, b0 % 16, ps⟩ :: lenSts (7 - (xs.length + 1)) (b.drop at2)) := ⟨by rw [hR.out, hE, show 7 - (xs.length + 1) = 6 - xs.length from by omega]; simp⟩
          have hO1 : Pt.Kept (pv.oneCell' = true) := ⟨by
            obtain ⟨P1, c1, e1⟩ := own_slice (hT.out.one.pts (⟨b0 / 16, b0 % 16, ps⟩, pv) (by simp))
            rw [show pv = _ from e1]; rfl⟩
          clear hR hE
          by_cases q : k < m0
          · have q2 : ¬ (at2 + 3 < n) := fun h => hlt ⟨q, h⟩
            clear hlt
            have hO := hT.out.cells
            have z0 := hO.1
            have z1 := hO.2.1
            have z2 := hO.2.2.1
            have K3 := Pt.Kept.mk k3
            have hps : ps.length ≤ 255 := by omega
            clear hO k3
            go_wp2_with (at_builtin; refine of_mark ?_)
            apply to_mark
            refine wpList_append_own _ rfl (.tmp 97) (.tmp 99) 43 rfl w.heap.size 65 i0 zSt 3 40 hu43 hi hz0 hz1 hz2 rfl (by decide) _ xs.length _ rfl (hT.out.own.row.alloc _) ⟨wr.heap.size, 0, none⟩ 1 1 [.int .i64 (b0 / 16), .int .i64 (b0 % 16), pv] rfl rfl ?c1 (by intro u hu; simp at hu; rcases hu with rfl | rfl | rfl; rfl; rfl; exact hO1.out) (by unfold maxLen; omega) (by omega) (by have := hB.out.size; simp; omega) ?_
            case c1 =>
              intro j u hj
              match j, hj with
              | 0, hj => cases hj; first | exact World.cell?_alloc_new _ _ _ _ | rfl
              | 1, hj => cases hj; first | exact World.cell?_alloc_new _ _ _ _ | rfl
              | 2, hj => cases hj; first | exact World.cell?_alloc_new _ _ _ _ | rfl
            intro v' w2 hown' hgrow _
            have hO3 := Pt.Kept.mk ((hT.out.alloc (.cells #[.int .i64 (b0 / 16), .int .i64 (b0 % 16), pv] 65)).join hown' hgrow)
            have hB3 : Pt.Kept (Below w.heap.size w w2) := ⟨(hB.out.alloc hB.out.size _).grown hgrow (by have := hB.out.size; simp; omega) (fun g hg => (hT.out.own.row.lt g hg).1)⟩
            have hBn := Pt.Kept.mk (hBe.out.last hO3.out hB3.out hI.out hps)
            clear hown' hgrow hT hB hO3 hB3 z0 z1 z2 hBe
            go_wp2
            go_roundw
            case rel => exact ⟨xs ++ [(⟨b0 / 16, b0 % 16, ps⟩, pv)], at2, ⟨by omega, by simp; omega⟩, rfl, hBn, by simpa using hR2⟩
            case measure => simp [intOf]; omega
          · clear hlt
            have hO := hT.out.cells
            have z0 := hO.1
            have z1 := hO.2.1
            have z2 := hO.2.2.1
            have K3 := Pt.Kept.mk k3
            have hps : ps.length ≤ 255 := by omega
            clear hO k3
            go_wp2_with (at_builtin; refine of_mark ?_)
            apply to_mark
            refine wpList_append_own _ rfl (.tmp 97) (.tmp 99) 43 rfl w.heap.size 65 i0 zSt 3 40 hu43 hi hz0 hz1 hz2 rfl (by decide) _ xs.length _ rfl (hT.out.own.row.alloc _) ⟨wr.heap.size, 0, none⟩ 1 1 [.int .i64 (b0 / 16), .int .i64 (b0 % 16), pv] rfl rfl ?c1 (by intro u hu; simp at hu; rcases hu with rfl | rfl | rfl; rfl; rfl; exact hO1.out) (by unfold maxLen; omega) (by omega) (by have := hB.out.size; simp; omega) ?_
            case c1 =>
              intro j u hj
              match j, hj with
              | 0, hj => cases hj; first | exact World.cell?_alloc_new _ _ _ _ | rfl
              | 1, hj => cases hj; first | exact World.cell?_alloc_new _ _ _ _ | rfl
              | 2, hj => cases hj; first | exact World.cell?_alloc_new _ _ _ _ | rfl
            intro v' w2 hown' hgrow _
            have hO3 := Pt.Kept.mk ((hT.out.alloc (.cells #[.int .i64 (b0 / 16), .int .i64 (b0 % 16), pv] 65)).join hown' hgrow)
            have hB3 : Pt.Kept (Below w.heap.size w w2) := ⟨(hB.out.alloc hB.out.size _).grown hgrow (by have := hB.out.size; simp; omega) (fun g hg => (hT.out.own.row.lt g hg).1)⟩
            have hBn := Pt.Kept.mk (hBe.out.last hO3.out hB3.out hI.out hps)
            clear hown' hgrow hT hB hO3 hB3 z0 z1 z2 hBe
            go_wp2
            go_roundw
            case rel => exact ⟨xs ++ [(⟨b0 / 16, b0 % 16, ps⟩, pv)], at2, ⟨by omega, by simp; omega⟩, rfl, hBn, by simpa using hR2⟩
            case measure => simp [intOf]; omega
    · have hE : lenSts (7 - xs.length) (b.drop at_) = [] := by
        by_cases q : at_ + 1 < n
        · rw [show 7 - xs.length = 0 from by omega]; rfl
        · exact lenSts_short _ _ (by rw [List.length_drop, HN.out]; omega)
      have hR2 : lenSts 7 (b.drop 1) = xs.map (·.1) := by rw [hR.out, hE]; simp
      have hRR : readR b = if may (xs.map (·.1)) ∧ (((xs.map (·.1)).length : Nat) : Int) :: layS (xs.map (·.1)) = b then some (xs.map (·.1)) else none := by unfold readR; rw [hR2]
      obtain ⟨A, cA, rfl, hSh⟩ := own_sh hBe.out.own
      have hL := Lay_walk A cA (xs.map (·.1)) (by rw [List.length_map]; omega) (fun y hy => by
        obtain ⟨z, hz, rfl⟩ := List.mem_map.1 hy
        have := hBe.out.few z hz; omega) hBe.out.pin wr hSh
      rw [List.length_map] at hL hRR
      have o2 : Pt.Kept (∀ w', Below w.heap.size w w' → (convert 40 9 (.slice P n c)).run Try.prog w' = .ok (.string (strOfNums b)) w') := ⟨fun w' hb => by
        rcases Nat.eq_zero_or_pos n with h0 | h0
        · have hb0 : b = [] := List.length_eq_zero_iff.1 (HN.out.trans h0)
          subst h0
          rw [hb0]
          exact run_convert_bytes_zero w' 40 5 Try.underlying40 Try.underlying5 P c 9 Try.underlying9
        · obtain ⟨g, o, rfl, hgl, hcell⟩ := HB.out.ex (by rw [HN.out]; exact h0)
          exact run_convert_bytes_arg w' 40 5 Try.underlying40 Try.underlying5 g o n c b HN.out (fun i hi => (hb.cell (p := ⟨g, o + i, none⟩) hgl).trans (hcell i (by rw [HN.out]; exact hi))) 9 Try.underlying9⟩
      clear hSh hR hE hR2
      by_cases hy : may (xs.map (·.1))
      · obtain ⟨l, hl⟩ : ∃ l, l = ((xs.length : Nat) : Int) :: layS (xs.map (·.1)) := ⟨_, rfl⟩
        rw [← hl] at hL hRR
        have hlb : ∀ x ∈ l, Byte x := by rw [hl]; exact lay_bytes _ hy (by rw [List.length_map])
        have hL1 : Pt.Kept (Calls Try.prog 38 #[.slice A xs.length cA] wr fun e w' => ∃ v, e = .returned (.tuple #[v, .int .i64 0]) ∧ Below wr.heap.size wr w' ∧ (convert 40 9 v).run Try.prog w' = .ok (.string (strOfNums l)) w') := ⟨hL.mono (by
          rintro e w' ⟨v, z, rfl, hb, ⟨_, rfl, ho⟩ | ⟨hn, _⟩⟩
          · refine ⟨v, rfl, hb, ?_⟩
            have hl0 : 0 < l.length := by rw [hl]; simp
            rcases ho.2 with ⟨_, h0⟩ | ⟨g, cap, cur, rfl, _⟩
            · omega
            · have hc := World.ownsRow.cells ho (g := g) rfl
              exact run_convert_bytes_arg w' 40 5 Try.underlying40 Try.underlying5 g 0 l.length cap l rfl (fun i hi => by
                have ea : (⟨g, 0, none⟩ : Addr).add i = ⟨g, 0 + i, none⟩ := by unfold Addr.add; split <;> simp_all
                rw [← ea]
                exact hc i _ (by rw [List.getElem?_map, List.getElem?_eq_getElem hi, List.getD_eq_getElem?_getD, List.getElem?_eq_getElem hi]; rfl)) 9 Try.underlying9
          · exact absurd hy hn)⟩
        clear hL
        by_cases he : l = b
        · have hRz : Pt.Kept (readR b = some (xs.map (·.1))) := ⟨by rw [hRR, if_pos ⟨hy, he⟩]⟩
          rw [he] at hL1
          clear hRR hl hlb he hy
          generalize strOfNums b = sb at *
          by_cases q : at_ + 1 < n
          · have q2 : ¬ xs.length ≤ 6 := fun h => hlt ⟨q, h⟩
            clear hlt
            go_wp2_with (first | (go_at_call 38; (with_reducible refine hL1.out.mono ?_); rintro e w1 ⟨v, rfl, hb, o1⟩; have hB2 := Pt.Kept.mk (bel_step hBe.out.bel hb); have hO2 := Pt.Kept.mk (hBe.out.own.below hb); have o3 := o2.out _ hB2.out; clear hb) | simp only [o1] | simp only [o3])
            all_goals (go_ret2; exact ⟨_, xs, 0, rfl, hO2.out, hB2.out, .inr ⟨hRz.out, rfl⟩⟩)
          · clear hlt
            go_wp2_with (first | (go_at_call 38; (with_reducible refine hL1.out.mono ?_); rintro e w1 ⟨v, rfl, hb, o1⟩; have hB2 := Pt.Kept.mk (bel_step hBe.out.bel hb); have hO2 := Pt.Kept.mk (hBe.out.own.below hb); have o3 := o2.out _ hB2.out; clear hb) | simp only [o1] | simp only [o3])
            all_goals (go_ret2; exact ⟨_, xs, 0, rfl, hO2.out, hB2.out, .inr ⟨hRz.out, rfl⟩⟩)
        · have hRz : Pt.Kept (readR b = none) := ⟨by rw [hRR, if_neg (fun h => he h.2)]⟩
          have hs : ¬ (strOfNums l).toList = (strOfNums b).toList := fun h => he ((strOf_inj l b hlb Hb.out).1 (str_list h))
          clear hRR hl hlb he hy
          generalize strOfNums b = sb at *
          generalize strOfNums l = sl at *
          by_cases q : at_ + 1 < n
          · have q2 : ¬ xs.length ≤ 6 := fun h => hlt ⟨q, h⟩
            clear hlt
            go_wp2_with (first | (go_at_call 38; (with_reducible refine hL1.out.mono ?_); rintro e w1 ⟨v, rfl, hb, o1⟩; have hB2 := Pt.Kept.mk (bel_step hBe.out.bel hb); have hO2 := Pt.Kept.mk (hBe.out.own.below hb); have o3 := o2.out _ hB2.out; clear hb) | simp only [o1] | simp only [o3])
            all_goals first | (exfalso; revert hs; simp_all; done) | (go_ret2; exact ⟨_, [], 5, rfl, own_nil _ _, hB2.out, .inl ⟨hRz.out, rfl, rfl⟩⟩)
          · clear hlt
            go_wp2_with (first | (go_at_call 38; (with_reducible refine hL1.out.mono ?_); rintro e w1 ⟨v, rfl, hb, o1⟩; have hB2 := Pt.Kept.mk (bel_step hBe.out.bel hb); have hO2 := Pt.Kept.mk (hBe.out.own.below hb); have o3 := o2.out _ hB2.out; clear hb) | simp only [o1] | simp only [o3])
            all_goals first | (exfalso; revert hs; simp_all; done) | (go_ret2; exact ⟨_, [], 5, rfl, own_nil _ _, hB2.out, .inl ⟨hRz.out, rfl, rfl⟩⟩)
      · have hRz : Pt.Kept (readR b = none) := ⟨by rw [hRR, if_neg (fun h => hy h.1)]⟩
        have hL1 : Pt.Kept (Calls Try.prog 38 #[.slice A xs.length cA] wr fun e w' => e = .returned (.tuple #[.slice none 0 0, .int .i64 2]) ∧ Below wr.heap.size wr w') := ⟨hL.mono (by
          rintro e w' ⟨v, z, rfl, hb, ⟨hn, _⟩ | ⟨_, rfl, rfl⟩⟩
          · exact absurd hn hy
          · exact ⟨rfl, hb⟩)⟩
        clear hRR hL hy
        by_cases q : at_ + 1 < n
        · have q2 : ¬ xs.length ≤ 6 := fun h => hlt ⟨q, h⟩
          clear hlt
          go_wp2_with (go_at_call 38; (with_reducible refine hL1.out.mono ?_); rintro e w1 ⟨rfl, hb⟩; have hB2 := Pt.Kept.mk (bel_step hBe.out.bel hb); clear hb)
          all_goals (go_ret2; exact ⟨_, [], 5, rfl, own_nil _ _, hB2.out, .inl ⟨hRz.out, rfl, rfl⟩⟩)
        · clear hlt
          go_wp2_with (go_at_call 38; (with_reducible refine hL1.out.mono ?_); rintro e w1 ⟨rfl, hb⟩; have hB2 := Pt.Kept.mk (bel_step hBe.out.bel hb); clear hb)
          all_goals (go_ret2; exact ⟨_, [], 5, rfl, own_nil _ _, hB2.out, .inl ⟨hRz.out, rfl, rfl⟩⟩)
end Go.Proofs.Ytlffbdfkanibcaa.Sk
