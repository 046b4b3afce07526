/-
  A scope with several labels; the walks of number, SamePoints, SameSheet, SameBytes, Num. No condition beyond the numbers' bounds.
-/
import Derived.Test.YtlffbdfkanibcaaTd
import Derived.WalkMore
import Derived.Scope
import Derived.ScopeJumps
namespace Go.Proofs.Ytlffbdfkanibcaa.Sk
open Go.RowKit Go.Proofs.YtlffbdfkanibcaaW.PrintWords Go.Proofs.YtlffbdfkanibcaaW.PrintLast Go.Proofs.YtlffbdfkanibcaaW.PrintMore
open Fl Go.Proofs.Ytlffbdfkanibcaa.Pt
set_option linter.unusedSimpArgs false
set_option linter.unusedVariables false

/-! ### A scope in which the run jumps to labels -/
/-- As Q; by a goto to label l: J l. -/
def jumps (J : Nat → Act → World → Prop) (Q : Exit → Act → World → Prop) : Exit → Act → World → Prop
  | .goto l, a, w => J l a w
  | e, a, w => Q e a w
section
variable {P : Program} {a : Act} {w : World} {Q : Exit → Act → World → Prop}
theorem wp_scope_labels {c : Code} (rest : Nat → Code) (J : Nat → Act → World → Prop) (μ : Nat → Act → World → Nat) (hf : ∀ l a w, J l a w → findLabel c l = some (rest l))
    (first : c.wp P (jumps J Q) a w)
    (pass : ∀ l a w, J l a w → (rest l).wp P (jumps (fun l' a' w' => J l' a' w' ∧ μ l' a' w' < μ l a w) Q) a w) : (Code.scope c).wp P Q a w := by
  intro b k cs
  have key : ∀ n l a w, μ l a w = n → J l a w → ∃ e a' w', Q e a' w' ∧ Arrives P (lone (b.at a (.code (rest l) :: .inScope c :: k)) cs w) b k cs e a' w' := by
    intro n
    induction n using Nat.strongRecOn with
    | _ n ih =>
      intro l a w hn hJ
      obtain ⟨e, a₁, w₁, hq, harr⟩ := pass l a w hJ b (.inScope c :: k) cs
      cases e with
      | normal => exact ⟨.normal, a₁, w₁, hq, Steps.trans harr (.one step_inScope)⟩
      | exit id => exact ⟨.exit id, a₁, w₁, hq, fun k' hk => harr k' (by simp [exitTo, hk])⟩
      | goto l' =>
        obtain ⟨hJ', hlt⟩ := hq
        have hg : gotoIn l' (.inScope c :: k) = some (.code (rest l') :: .inScope c :: k) := by simp [gotoIn, hf l' a₁ w₁ hJ']
        obtain ⟨e₂, a₂, w₂, hq₂, harr₂⟩ := ih _ (by omega) l' a₁ w₁ rfl hJ'
        exact ⟨e₂, a₂, w₂, hq₂, .of_steps (harr _ hg) harr₂⟩
      | ret => exact ⟨_, a₁, w₁, hq, harr⟩
      | panic ch => exact ⟨_, a₁, w₁, hq, harr⟩
      | outgrown => exact ⟨_, a₁, w₁, hq, harr⟩
  obtain ⟨e, a₁, w₁, hq, harr⟩ := first b (.inScope c :: k) cs
  cases e with
  | normal => exact ⟨.normal, a₁, w₁, hq, .head step_scope (Steps.trans harr (.one step_inScope))⟩
  | exit id => exact ⟨.exit id, a₁, w₁, hq, fun k' hk => .head step_scope (harr k' (by simp [exitTo, hk]))⟩
  | goto l' =>
    have hJ' : J l' a₁ w₁ := hq
    have hg : gotoIn l' (.inScope c :: k) = some (.code (rest l') :: .inScope c :: k) := by simp [gotoIn, hf l' a₁ w₁ hJ']
    obtain ⟨e₂, a₂, w₂, hq₂, harr₂⟩ := key _ l' a₁ w₁ rfl hJ'
    exact ⟨e₂, a₂, w₂, hq₂, .of_steps (.head step_scope (harr _ hg)) harr₂⟩
  | ret => exact ⟨_, a₁, w₁, hq, .of_steps (.one step_scope) harr⟩
  | panic ch => exact ⟨_, a₁, w₁, hq, .of_steps (.one step_scope) harr⟩
  | outgrown => exact ⟨_, a₁, w₁, hq, .of_steps (.one step_scope) harr⟩
theorem wp_weaken {c : Code} {Q' : Exit → Act → World → Prop} (h : c.wp P Q a w) (hq : ∀ e a' w', Q e a' w' → Q' e a' w') : c.wp P Q' a w := by
  intro b k cs
  obtain ⟨e, a₁, w₁, h1, h2⟩ := h b k cs
  exact ⟨e, a₁, w₁, hq _ _ _ h1, h2⟩
end

/-! ### A number out of two bytes -/
theorem or16 (a b : Int) (ha : Byte a) (hb : Byte b) : bits BinOp.or IntKind.u16 (a * 256) b = a * 256 + b := by
  unfold Byte at ha hb
  obtain ⟨x, rfl⟩ : ∃ x : Nat, a = x := ⟨a.toNat, by omega⟩
  obtain ⟨y, rfl⟩ : ∃ y : Nat, b = y := ⟨b.toNat, by omega⟩
  have e : ((x : Nat) : Int) * 256 = ((x * 256 : Nat) : Int) := by omega
  rw [e]
  have h2 : bits BinOp.or IntKind.u16 ((x * 256 : Nat) : Int) ((y : Nat) : Int) = IntKind.u16.wrap ((BitVec.ofInt 16 ((x * 256 : Nat) : Int) ||| BitVec.ofInt 16 ((y : Nat) : Int)).toNat : Int) := rfl
  have h1 : (BitVec.ofInt 16 ((x * 256 : Nat) : Int) ||| BitVec.ofInt 16 ((y : Nat) : Int)).toNat = x * 256 ||| y := by
    rw [BitVec.toNat_or, BitVec.ofInt_natCast, BitVec.ofInt_natCast, BitVec.toNat_ofNat, BitVec.toNat_ofNat, Nat.mod_eq_of_lt (by omega), Nat.mod_eq_of_lt (by omega)]
  have h3 : x * 256 ||| y = x * 256 + y := by
    have := Nat.shiftLeft_add_eq_or_of_lt (b := y) (i := 8) (by omega) x
    rw [Nat.shiftLeft_eq] at this
    exact this.symm
  rw [h2, h1, h3]
  simp only [IntKind.wrap, IntKind.signed, IntKind.bits]
  simp
  omega
set_option maxRecDepth 100000 in
theorem number_walk (g k n c : Nat) (a b : Int) (ha : Byte a) (hb : Byte b) (hn : 2 ≤ n) (w : World) (h1 : w.cell? ⟨g, k, none⟩ = some (.int .u8 a)) (h2 : w.cell? ⟨g, k + 1, none⟩ = some (.int .u8 b)) :
    Calls Try.prog 36 #[.slice (some ⟨g, k, none⟩) n c] w fun e w' => e = .returned (.float .f64 (I (num16 a b))) ∧ ∃ m, w' = w.drewN m := by
  have ho := or16 a b ha hb
  have hi : IntKind.i16.wrap (a * 256 + b) = num16 a b := by
    unfold Byte at ha hb
    unfold num16
    simp only [IntKind.wrap, IntKind.signed, IntKind.bits]
    simp
    split <;> split <;> omega
  unfold Byte at ha hb
  go_enter Try.func36, Try.ntmps36
  go_wp2
  go_quiet (fail)
  go_wp2
  all_goals (go_ret; exact ⟨rfl, nq, rfl⟩)

theorem SP_same (p : P2) (w : World) : Calls Try.prog 12 #[CP p, CP p] w fun e w' => e = .returned (.bool true) ∧ w' = w := SamePoint_same (I p.1) (I p.2) w
set_option maxRecDepth 100000 in
theorem SamePoints_walk (P Q : Option Addr) (c c2 : Nat) (ps : List P2) (hn2 : ps.length ≤ 1000) (w : World) (h : Pts w P ps) (h2 : Pts w Q ps) :
    Calls Try.prog 39 #[.slice P ps.length c, .slice Q ps.length c2] w fun e w' => e = .returned (.bool true) ∧ ∃ m, w' = w.drewN m := by
  have H := Kept.mk h
  have H2 := Kept.mk h2
  obtain ⟨n, hn⟩ : ∃ n, Kept (n = ps.length) := ⟨_, ⟨rfl⟩⟩
  rw [← hn.out] at hn2 ⊢
  clear h h2
  go_enter Try.func39, Try.ntmps39
  go_wp2
  go_loopw [5] (fun i wr => ∃ k : Nat, k ≤ n ∧ i = .int .i64 k ∧ Kept (∃ m, wr = w.drewN m)) (fun i _ => n - (intOf i).toNat)
  case atStart => exact ⟨0, Nat.zero_le _, rfl, ⟨0, rfl⟩⟩
  case round =>
    obtain ⟨k, hk, rfl, hmK⟩ := hrel
    obtain ⟨m, hm0⟩ := hmK.out
    have hm := Kept.mk hm0
    clear hm0 hmK
    by_cases hlt : k < n
    · obtain ⟨g, rfl, _, hc1⟩ := H.out.ex (by rw [← hn.out]; omega)
      obtain ⟨g2, rfl, _, hc2⟩ := H2.out.ex (by rw [← hn.out]; omega)
      have e1 : wr.cell? ⟨g, k, none⟩ = some (CP (ps.getD k (0, 0))) := by rw [hm.out]; exact hc1 k (by rw [← hn.out]; exact hlt)
      have e2 : wr.cell? ⟨g2, k, none⟩ = some (CP (ps.getD k (0, 0))) := by rw [hm.out]; exact hc2 k (by rw [← hn.out]; exact hlt)
      clear hc1 hc2
      generalize ps.getD k (0, 0) = q at *
      go_wp2
      go_quiet (exact Calls.quiet_of_same (SamePoint_same (I q.1) (I q.2) _))
      have hB2 : Kept (∃ m, wr.drewN nq = w.drewN m) := ⟨⟨m + nq, by rw [hm.out, World.drewN_drewN]⟩⟩
      generalize wr.drewN nq = w2 at *
      go_wp2
      go_roundw
      case rel => exact ⟨k + 1, by omega, by go_num, hB2⟩
      case measure => simp [intOf]; omega
    · have hke : n = k := by omega
      subst hke
      clear hlt hk
      go_wp2
      all_goals (go_ret; exact ⟨rfl, m, hm.out⟩)
set_option maxRecDepth 100000 in
set_option maxHeartbeats 4000000 in
theorem SameSheet_walk (A B : Option Addr) (c c2 : Nat) (ss : List St) (hl : ss.length ≤ 1000) (hn2 : ∀ x ∈ ss, x.pts.length ≤ 1000) (w : World) (h : Sh w A ss) (h2 : Sh w B ss) :
    Calls Try.prog 24 #[.slice A ss.length c, .slice B ss.length c2] w fun e w' => e = .returned (.bool true) ∧ ∃ m, w' = w.drewN m := by
  have H := Kept.mk h
  have H2 := Kept.mk h2
  have HN := Kept.mk hn2
  obtain ⟨n, hn⟩ : ∃ n, Kept (n = ss.length) := ⟨_, ⟨rfl⟩⟩
  rw [← hn.out] at hl ⊢
  clear h h2 hn2
  go_enter Try.func24, Try.ntmps24
  go_wp2
  go_loopw [5] (fun i wr => ∃ k : Nat, k ≤ n ∧ i = .int .i64 k ∧ Kept (∃ m, wr = w.drewN m)) (fun i _ => n - (intOf i).toNat)
  case atStart => exact ⟨0, Nat.zero_le _, rfl, ⟨0, rfl⟩⟩
  case round =>
    obtain ⟨k, hk, rfl, hmK⟩ := hrel
    obtain ⟨m, hm0⟩ := hmK.out
    have hm := Kept.mk hm0
    clear hm0 hmK
    by_cases hlt : k < n
    · obtain ⟨g, rfl, _, hc1⟩ := H.out.ex (by rw [← hn.out]; omega)
      obtain ⟨g2, rfl, _, hc2⟩ := H2.out.ex (by rw [← hn.out]; omega)
      obtain ⟨P1, k1, a1, a2, a3, a4⟩ := hc1 k (by rw [← hn.out]; exact hlt)
      obtain ⟨P2, k2, b1, b2, b3, b4⟩ := hc2 k (by rw [← hn.out]; exact hlt)
      have hmem := getD_mem ss noSt k (by rw [← hn.out]; exact hlt)
      have hO := Kept.mk (fun n => SamePoints_walk P1 P2 k1 k2 (ss.getD k noSt).pts (HN.out _ hmem) (wr.drewN n) (by rw [hm.out]; exact ⟨a4.ex⟩) (by rw [hm.out]; exact ⟨b4.ex⟩))
      have a1' : wr.cell? ⟨g, k * 3, none⟩ = some (.int .i64 (ss.getD k noSt).pen) := by rw [hm.out]; exact a1
      have a2' : wr.cell? ⟨g, k * 3 + 1, none⟩ = some (.int .i64 (ss.getD k noSt).wid) := by rw [hm.out]; exact a2
      have a3' : wr.cell? ⟨g, k * 3 + 2, none⟩ = some (.slice P1 (ss.getD k noSt).pts.length k1) := by rw [hm.out]; exact a3
      have b1' : wr.cell? ⟨g2, k * 3, none⟩ = some (.int .i64 (ss.getD k noSt).pen) := by rw [hm.out]; exact b1
      have b2' : wr.cell? ⟨g2, k * 3 + 1, none⟩ = some (.int .i64 (ss.getD k noSt).wid) := by rw [hm.out]; exact b2
      have b3' : wr.cell? ⟨g2, k * 3 + 2, none⟩ = some (.slice P2 (ss.getD k noSt).pts.length k2) := by rw [hm.out]; exact b3
      clear hc1 hc2 a1 a2 a3 a4 b1 b2 b3 b4 hmem
      generalize ss.getD k noSt = x at *
      obtain ⟨pen, wid, ps⟩ := x
      simp only at *
      generalize ps.length = np at *
      go_wp2
      go_quiet (with_reducible exact Calls.quiet_of (hO.out _))
      have hB2 : Kept (∃ m, wr.drewN nq = w.drewN m) := ⟨⟨m + nq, by rw [hm.out, World.drewN_drewN]⟩⟩
      generalize wr.drewN nq = w2 at *
      go_wp2
      go_roundw
      case rel => exact ⟨k + 1, by omega, by go_num, hB2⟩
      case measure => simp [intOf]; omega
    · have hke : n = k := by omega
      subst hke
      clear hlt hk
      go_wp2
      all_goals (go_ret; exact ⟨rfl, m, hm.out⟩)
theorem Num_walk (n : Int) (w : World) : Calls Try.prog 25 #[.int .i64 n] w fun e w' => e = .returned (.int .i64 n) ∧ w = w' := by
  go_enter Try.func25, Try.ntmps25
  go_wp2
  all_goals (go_ret; exact ⟨rfl, rfl⟩)
end Go.Proofs.Ytlffbdfkanibcaa.Sk
