/-
  Where dots begin and end: plain facts, and the walks of both Boxes. Condition: the table of TrailingZeros64 lies where its variable does.
-/
import Derived.Test.YthhhcfipmeganaaDoorTc
namespace Go.Proofs.YthhhcfipmeganaaDoor.Rd
open Go.RowKit Go.Proofs.YthhhcfipmeganaaDoorW.PrintWords Go.Proofs.YthhhcfipmeganaaDoorW.PrintLast Go.Proofs.YthhhcfipmeganaaDoorW.PrintMore
open Fl Ra
set_option linter.unusedSimpArgs false
set_option linter.unusedVariables false

/-- The box of what D holds. -/
structure IsBox (D : Nat → Nat → Prop) (x0 y0 x1 y1 : Nat) : Prop where
  l : ∃ y, D y x0
  t : ∃ x, D y0 x
  r : ∃ y, D y x1
  b : ∃ x, D y1 x
  all : ∀ y x, D y x → x0 ≤ x ∧ y0 ≤ y ∧ x ≤ x1 ∧ y ≤ y1
theorem IsBox.uniq {D : Nat → Nat → Prop} {a b c d a' b' c' d' : Nat} (h : IsBox D a b c d) (k : IsBox D a' b' c' d') : a = a' ∧ b = b' ∧ c = c' ∧ d = d' := by
  obtain ⟨⟨y1, l1⟩, ⟨x1, t1⟩, ⟨y2, r1⟩, ⟨x2, b1⟩, al⟩ := h
  obtain ⟨⟨y3, l2⟩, ⟨x3, t2⟩, ⟨y4, r2⟩, ⟨x4, b2⟩, bl⟩ := k
  have h1 := bl _ _ l1
  have h2 := bl _ _ t1
  have h3 := bl _ _ r1
  have h4 := bl _ _ b1
  have k1 := al _ _ l2
  have k2 := al _ _ t2
  have k3 := al _ _ r2
  have k4 := al _ _ b2
  omega
theorem IsBox.congr {D D' : Nat → Nat → Prop} {a b c d : Nat} (h : IsBox D a b c d) (e : ∀ y x, D y x ↔ D' y x) : IsBox D' a b c d := by
  have : D = D' := by funext y x; exact propext (e y x)
  subst this; exact h
theorem least (P : Nat → Prop) : ∀ N, (∃ i, i < N ∧ P i) → ∃ m, m < N ∧ P m ∧ ∀ i, i < m → ¬ P i
  | 0, ⟨i, h, _⟩ => by omega
  | N + 1, ⟨i, h, hp⟩ => by
    by_cases c : ∃ i, i < N ∧ P i
    · obtain ⟨m, h1, h2, h3⟩ := least P N c
      exact ⟨m, by omega, h2, h3⟩
    · have e : i = N := by
        rcases Nat.lt_or_ge i N with q | q
        · exact absurd ⟨i, q, hp⟩ c
        · omega
      subst e
      exact ⟨i, by omega, hp, fun j hj hq => c ⟨j, hj, hq⟩⟩
theorem most (P : Nat → Prop) : ∀ N, (∃ i, i < N ∧ P i) → ∃ m, m < N ∧ P m ∧ ∀ i, m < i → i < N → ¬ P i
  | 0, ⟨i, h, _⟩ => by omega
  | N + 1, ⟨i, h, hp⟩ => by
    by_cases c : P N
    · exact ⟨N, by omega, c, fun j h1 h2 => by omega⟩
    · have hi : i < N := by
        rcases Nat.lt_or_ge i N with q | q
        · exact q
        · exact absurd (show P N by have : i = N := by omega
                                    subst this; exact hp) c
      obtain ⟨m, h1, h2, h3⟩ := most P N ⟨i, hi, hp⟩
      refine ⟨m, by omega, h2, fun j hj hjn => ?_⟩
      by_cases e : j = N
      · subst e; exact c
      · exact h3 j hj (by omega)
/-- The dots of n rows. -/
def Dot (n : Nat) (p : Pic) (y x : Nat) : Prop := y < n ∧ x < 64 ∧ p y x = true
theorem box_ex (n : Nat) (p : Pic) (h : ∃ y x, Dot n p y x) : ∃ x0 y0 x1 y1, IsBox (Dot n p) x0 y0 x1 y1 := by
  obtain ⟨y, x, hd⟩ := h
  obtain ⟨x0, _, h1, k1⟩ := least (fun x => ∃ y, Dot n p y x) 64 ⟨x, hd.2.1, y, hd⟩
  obtain ⟨y0, _, h2, k2⟩ := least (fun y => ∃ x, Dot n p y x) n ⟨y, hd.1, x, hd⟩
  obtain ⟨x1, _, h3, k3⟩ := most (fun x => ∃ y, Dot n p y x) 64 ⟨x, hd.2.1, y, hd⟩
  obtain ⟨y1, _, h4, k4⟩ := most (fun y => ∃ x, Dot n p y x) n ⟨y, hd.1, x, hd⟩
  refine ⟨x0, y0, x1, y1, h1, h2, h3, h4, fun v u hvu => ⟨?_, ?_, ?_, ?_⟩⟩
  · rcases Nat.lt_or_ge u x0 with c | c
    · exact absurd ⟨v, hvu⟩ (k1 u c)
    · exact c
  · rcases Nat.lt_or_ge v y0 with c | c
    · exact absurd ⟨u, hvu⟩ (k2 v c)
    · exact c
  · rcases Nat.lt_or_ge x1 u with c | c
    · exact absurd ⟨v, hvu⟩ (k3 u c hvu.2.1)
    · exact c
  · rcases Nat.lt_or_ge y1 v with c | c
    · exact absurd ⟨u, hvu⟩ (k4 v c hvu.1)
    · exact c

/-- What both Boxes answer. -/
def BoxAns (n : Nat) (p : Pic) (a b c d : Int) (ok : Bool) : Prop :=
  ((∀ y x, ¬ Dot n p y x) ∧ a = 0 ∧ b = 0 ∧ c = 0 ∧ d = 0 ∧ ok = false) ∨ ∃ x0 y0 x1 y1 : Nat, IsBox (Dot n p) x0 y0 x1 y1 ∧ a = x0 ∧ b = y0 ∧ c = x1 ∧ d = y1 ∧ ok = true
theorem ans_ex (n : Nat) (p : Pic) : ∃ a b c d ok, BoxAns n p a b c d ok := by
  by_cases h : ∃ y x, Dot n p y x
  · obtain ⟨x0, y0, x1, y1, hb⟩ := box_ex n p h
    exact ⟨_, _, _, _, _, .inr ⟨x0, y0, x1, y1, hb, rfl, rfl, rfl, rfl, rfl⟩⟩
  · exact ⟨0, 0, 0, 0, false, .inl ⟨fun y x hd => h ⟨y, x, hd⟩, rfl, rfl, rfl, rfl, rfl⟩⟩
theorem ans_uniq {n : Nat} {p : Pic} {a b c d a' b' c' d' : Int} {ok ok' : Bool} (h : BoxAns n p a b c d ok) (k : BoxAns n p a' b' c' d' ok') : a = a' ∧ b = b' ∧ c = c' ∧ d = d' ∧ ok = ok' := by
  rcases h with ⟨h1, rfl, rfl, rfl, rfl, rfl⟩ | ⟨x0, y0, x1, y1, h1, rfl, rfl, rfl, rfl, rfl⟩
  · rcases k with ⟨k1, rfl, rfl, rfl, rfl, rfl⟩ | ⟨u0, v0, u1, v1, k1, rfl, rfl, rfl, rfl, rfl⟩
    · exact ⟨rfl, rfl, rfl, rfl, rfl⟩
    · obtain ⟨y, hy⟩ := k1.l
      exact absurd hy (h1 _ _)
  · rcases k with ⟨k1, rfl, rfl, rfl, rfl, rfl⟩ | ⟨u0, v0, u1, v1, k1, rfl, rfl, rfl, rfl, rfl⟩
    · obtain ⟨y, hy⟩ := h1.l
      exact absurd hy (k1 _ _)
    · obtain ⟨e1, e2, e3, e4⟩ := h1.uniq k1
      subst e1 e2 e3 e4
      exact ⟨rfl, rfl, rfl, rfl, rfl⟩

/-! ### The document's -/
/-- As far as row k, and column j of it. -/
def DotTo (n : Nat) (p : Pic) (k j y x : Nat) : Prop := Dot n p y x ∧ (y < k ∨ (y = k ∧ x < j))
def InvB (D : Nat → Nat → Prop) (n : Nat) (a b c d : Int) : Prop :=
  ((∀ y x, ¬ D y x) ∧ a = 64 ∧ b = n ∧ c = -1 ∧ d = -1) ∨ ∃ x0 y0 x1 y1 : Nat, IsBox D x0 y0 x1 y1 ∧ a = x0 ∧ b = y0 ∧ c = x1 ∧ d = y1
theorem InvB.congr {D D' : Nat → Nat → Prop} {n : Nat} {a b c d : Int} (h : InvB D n a b c d) (e : ∀ y x, D y x ↔ D' y x) : InvB D' n a b c d := by
  have : D = D' := by funext y x; exact propext (e y x)
  subst this; exact h
theorem InvB.add {D D' : Nat → Nat → Prop} {n : Nat} {a b c d : Int} (h : InvB D n a b c d) (y x : Nat) (hy : y < n) (hx : x < 64) (e : ∀ v u, D' v u ↔ (D v u ∨ (v = y ∧ u = x))) :
    InvB D' n (min a x) (min b y) (max c x) (max d y) := by
  right
  rcases h with ⟨h1, rfl, rfl, rfl, rfl⟩ | ⟨x0, y0, x1, y1, ⟨⟨v1, l⟩, ⟨u1, t⟩, ⟨v2, r⟩, ⟨u2, q⟩, al⟩, rfl, rfl, rfl, rfl⟩
  · refine ⟨x, y, x, y, ⟨⟨y, (e _ _).2 (.inr ⟨rfl, rfl⟩)⟩, ⟨x, (e _ _).2 (.inr ⟨rfl, rfl⟩)⟩, ⟨y, (e _ _).2 (.inr ⟨rfl, rfl⟩)⟩, ⟨x, (e _ _).2 (.inr ⟨rfl, rfl⟩)⟩, ?_⟩, by omega, by omega, by omega, by omega⟩
    intro v u hd
    rcases (e v u).1 hd with hd | ⟨rfl, rfl⟩
    · exact absurd hd (h1 v u)
    · omega
  · have hxy : D' y x := (e _ _).2 (.inr ⟨rfl, rfl⟩)
    refine ⟨min x0 x, min y0 y, max x1 x, max y1 y, ⟨?_, ?_, ?_, ?_, ?_⟩, by omega, by omega, by omega, by omega⟩
    · rcases Nat.le_total x0 x with g | g
      · exact ⟨v1, by rw [Nat.min_eq_left g]; exact (e _ _).2 (.inl l)⟩
      · exact ⟨y, by rw [Nat.min_eq_right g]; exact hxy⟩
    · rcases Nat.le_total y0 y with g | g
      · exact ⟨u1, by rw [Nat.min_eq_left g]; exact (e _ _).2 (.inl t)⟩
      · exact ⟨x, by rw [Nat.min_eq_right g]; exact hxy⟩
    · rcases Nat.le_total x1 x with g | g
      · exact ⟨y, by rw [Nat.max_eq_right g]; exact hxy⟩
      · exact ⟨v2, by rw [Nat.max_eq_left g]; exact (e _ _).2 (.inl r)⟩
    · rcases Nat.le_total y1 y with g | g
      · exact ⟨x, by rw [Nat.max_eq_right g]; exact hxy⟩
      · exact ⟨u2, by rw [Nat.max_eq_left g]; exact (e _ _).2 (.inl q)⟩
    · intro v u hd
      rcases (e v u).1 hd with hd | ⟨rfl, rfl⟩
      · have := al v u hd; omega
      · omega
theorem InvB.bound {D : Nat → Nat → Prop} {n : Nat} {a b c d : Int} (h : InvB D n a b c d) (hD : ∀ y x, D y x → y < n ∧ x < 64) (hn : n ≤ 1000) : (0 ≤ a ∧ a ≤ 64) ∧ (0 ≤ b ∧ b ≤ 1000) ∧ (-1 ≤ c ∧ c ≤ 64) ∧ (-1 ≤ d ∧ d ≤ 1000) := by
  rcases h with ⟨h1, rfl, rfl, rfl, rfl⟩ | ⟨x0, y0, x1, y1, ⟨⟨v1, l⟩, ⟨u1, t⟩, ⟨v2, r⟩, ⟨u2, q⟩, al⟩, rfl, rfl, rfl, rfl⟩
  · omega
  · have h1 := hD _ _ l
    have h2 := hD _ _ t
    have h3 := hD _ _ r
    have h4 := hD _ _ q
    omega

set_option maxRecDepth 100000 in
set_option maxHeartbeats 4000000 in
theorem refbox_walk (A : Option Addr) (n cp : Nat) (p : Pic) (hh : n ≤ 1000) (w : World) (hA : Arr w A n p) (a b c d : Int) (ok : Bool) (hans : BoxAns n p a b c d ok) :
    Calls Tryd.prog 8 #[.slice A n cp] w fun e w' => e = .returned (.tuple #[.int .i64 a, .int .i64 b, .int .i64 c, .int .i64 d, .bool ok]) ∧ w = w' := by
  have hb := Kept.mk (fun x y (hx : x < 64) (hy : y < n) => bit_walk A n cp p x y hx hy hh w hA)
  have hAns := Kept.mk hans
  clear hA hans
  go_enter Tryd.func8, Tryd.ntmps8
  go_wp2
  go_loop [7, 8, 9, 10, 11] (fun va vb vc vd i => ∃ (k : Nat) (a b c d : Int), k ≤ n ∧ va = .int .i64 a ∧ vb = .int .i64 b ∧ vc = .int .i64 c ∧ vd = .int .i64 d ∧ i = .int .i64 k ∧ Kept (InvB (DotTo n p k 0) n a b c d)) (fun _ _ _ _ i => n - (intOf i).toNat)
  case atStart => exact ⟨0, 64, n, -1, -1, Nat.zero_le _, rfl, rfl, rfl, rfl, rfl, ⟨.inl ⟨fun y x h => by have := h.2; omega, rfl, rfl, rfl, rfl⟩⟩⟩
  case round =>
    obtain ⟨k, a1, b1, c1, d1, hk, rfl, rfl, rfl, rfl, rfl, hI⟩ := hrel
    by_cases hlt : k < n
    · clear hAns
      go_wp2
      go_loop [7, 8, 9, 10, 12] (fun va vb vc vd i => ∃ (x : Nat) (a b c d : Int), x ≤ 64 ∧ va = .int .i64 a ∧ vb = .int .i64 b ∧ vc = .int .i64 c ∧ vd = .int .i64 d ∧ i = .int .i64 x ∧ Kept (InvB (DotTo n p k x) n a b c d)) (fun _ _ _ _ i => 64 - (intOf i).toNat)
      case atStart => exact ⟨0, a1, b1, c1, d1, Nat.zero_le _, rfl, rfl, rfl, rfl, rfl, hI⟩
      case round =>
        obtain ⟨x, a2, b2, c2, d2, hx, rfl, rfl, rfl, rfl, rfl, hI2⟩ := hrel
        clear hI
        by_cases hlt2 : x < 64
        · have hO := Kept.mk (hb.out x k hlt2 hlt)
          obtain ⟨hb1, hb2, hb3, hb4⟩ := hI2.out.bound (fun y x h => ⟨h.1.1, h.1.2.1⟩) hh
          cases hpx : p k x
          · rw [hpx] at hO
            have hI3 : Kept (InvB (DotTo n p k (x + 1)) n a2 b2 c2 d2) := ⟨hI2.out.congr (fun v u => by
              unfold DotTo Dot
              constructor
              · rintro ⟨h1, h2⟩; exact ⟨h1, by omega⟩
              · rintro ⟨h1, h2⟩
                refine ⟨h1, ?_⟩
                rcases h2 with h2 | ⟨h2, h3⟩
                · exact .inl h2
                · subst h2
                  by_cases e : u = x
                  · subst e; rw [hpx] at h1; exact absurd h1.2.2 (by simp)
                  · right; omega)⟩
            clear hI2
            go_wp2_with (go_at_call 21; (with_reducible refine hO.out.mono ?_); rintro e w' ⟨rfl, rfl⟩)
            go_round
            case rel => exact ⟨x + 1, a2, b2, c2, d2, by omega, rfl, rfl, rfl, rfl, by go_num, hI3⟩
            case measure => simp [intOf]; omega
          · rw [hpx] at hO
            have hI3 : Kept (InvB (DotTo n p k (x + 1)) n (min a2 x) (min b2 k) (max c2 x) (max d2 k)) := ⟨hI2.out.add k x hlt hlt2 (fun v u => by
              unfold DotTo Dot
              constructor
              · rintro ⟨h1, h2⟩
                by_cases e : v = k ∧ u = x
                · exact .inr e
                · exact .inl ⟨h1, by omega⟩
              · rintro (⟨h1, h2⟩ | ⟨rfl, rfl⟩)
                · exact ⟨h1, by omega⟩
                · exact ⟨⟨hlt, hlt2, hpx⟩, by omega⟩)⟩
            clear hI2
            have o1 := run_min_int a2 (x : Int) _ rfl
            have o2 := run_min_int b2 (k : Int) _ rfl
            have o3 := run_max_int c2 (x : Int) _ rfl
            have o4 := run_max_int d2 (k : Int) _ rfl
            generalize min a2 (x : Int) = a3 at *
            generalize min b2 (k : Int) = b3 at *
            generalize max c2 (x : Int) = c3 at *
            generalize max d2 (k : Int) = d3 at *
            go_wp2_with (first
              | simp only [o1] | simp only [o2] | simp only [o3] | simp only [o4]
              | (go_at_call 21; (with_reducible refine hO.out.mono ?_); rintro e w' ⟨rfl, rfl⟩))
            go_round
            case rel => exact ⟨x + 1, a3, b3, c3, d3, by omega, rfl, rfl, rfl, rfl, by go_num, hI3⟩
            case measure => simp [intOf]; omega
        · have hxe : x = 64 := by omega
          subst hxe
          clear hlt2 hx
          go_wp2
          go_round
          case rel => exact ⟨k + 1, a2, b2, c2, d2, by omega, rfl, rfl, rfl, rfl, by go_num, ⟨hI2.out.congr (fun v u => by
            unfold DotTo Dot
            constructor
            · rintro ⟨h1, h2⟩; exact ⟨h1, by omega⟩
            · rintro ⟨h1, h2⟩; exact ⟨h1, by omega⟩)⟩⟩
          case measure => simp [intOf]; omega
    · have hke : n = k := by omega
      subst hke
      clear hlt hk hb
      have hfull : ∀ y x, DotTo n p n 0 y x ↔ Dot n p y x := fun y x => ⟨fun h => h.1, fun h => ⟨h, .inl h.1⟩⟩
      rcases hI.out.congr hfull with ⟨h1, rfl, rfl, rfl, rfl⟩ | ⟨x0, y0, x1, y1, h1, rfl, rfl, rfl, rfl⟩
      · obtain ⟨rfl, rfl, rfl, rfl, rfl⟩ := ans_uniq hAns.out (.inl ⟨h1, rfl, rfl, rfl, rfl, rfl⟩)
        clear hI hAns hfull h1
        go_wp2
        all_goals (refine bodyPost_ret (results_list (rs := [.tmp 2, .tmp 3, .tmp 4, .tmp 5, .tmp 6]) rfl (by simp) (.tmp (.tmp (.tmp (.tmp (.tmp .nil)))))) rfl ?_; exact ⟨rfl, rfl⟩)
      · obtain ⟨rfl, rfl, rfl, rfl, rfl⟩ := ans_uniq hAns.out (.inr ⟨x0, y0, x1, y1, h1, rfl, rfl, rfl, rfl, rfl⟩)
        clear hI hAns hfull h1
        go_wp2
        all_goals (refine bodyPost_ret (results_list (rs := [.tmp 2, .tmp 3, .tmp 4, .tmp 5, .tmp 6]) rfl (by simp) (.tmp (.tmp (.tmp (.tmp (.tmp .nil)))))) rfl ?_; exact ⟨rfl, rfl⟩)

/-! ### The program's -/
def orP (p : Pic) (k : Nat) : Nat → Bool := fun i => (List.range k).any (fun y => p y i)
theorem orP_true {p : Pic} {k i : Nat} : orP p k i = true ↔ ∃ y, y < k ∧ p y i = true := by
  unfold orP
  rw [List.any_eq_true]
  constructor
  · rintro ⟨y, hy, h⟩; exact ⟨y, List.mem_range.1 hy, h⟩
  · rintro ⟨y, hy, h⟩; exact ⟨y, List.mem_range.2 hy, h⟩
theorem orP_succ (p : Pic) (k i : Nat) : orP p (k + 1) i = (orP p k i || p k i) := by
  unfold orP
  rw [List.range_succ, List.any_append]; simp
theorem num_or2 (f g : Nat → Bool) (n : Nat) : num f n ||| num g n = num (fun i => f i || g i) n := by
  apply Nat.eq_of_testBit_eq
  intro i
  rw [Nat.testBit_or, num_bit, num_bit, num_bit]
  cases decide (i < n) <;> simp
theorem num_nil {f : Nat → Bool} {n : Nat} : num f n = 0 ↔ ∀ i, i < n → f i = false := by
  constructor
  · intro h i hi
    have : (num f n).testBit i = false := by rw [h]; simp
    rw [num_bit] at this
    simpa [hi] using this
  · intro h
    rw [num_congr f (fun _ => false) n h, num_zero]
def nz (p : Pic) (y : Nat) : Prop := ∃ i, i < 64 ∧ p y i = true
def InvT (p : Pic) (k : Nat) (t l : Int) : Prop :=
  ((∀ y, y < k → ¬ nz p y) ∧ t = -1 ∧ l = 0) ∨ ∃ t' l' : Nat, t = t' ∧ l = l' ∧ t' < k ∧ l' < k ∧ nz p t' ∧ nz p l' ∧ ∀ y, y < k → nz p y → t' ≤ y ∧ y ≤ l'
theorem InvT.bound {p : Pic} {k : Nat} {t l : Int} (h : InvT p k t l) (hk : k ≤ 1000) : (-1 ≤ t ∧ t ≤ 1000) ∧ (0 ≤ l ∧ l ≤ 1000) := by
  rcases h with ⟨_, rfl, rfl⟩ | ⟨t', l', rfl, rfl, h1, h2, _⟩ <;> omega
theorem InvT.skip {p : Pic} {k : Nat} {t l : Int} (h : InvT p k t l) (hz : ¬ nz p k) : InvT p (k + 1) t l := by
  rcases h with ⟨h1, rfl, rfl⟩ | ⟨t', l', rfl, rfl, h1, h2, h3, h4, h5⟩
  · refine .inl ⟨fun y hy => ?_, rfl, rfl⟩
    by_cases e : y = k
    · subst e; exact hz
    · exact h1 y (by omega)
  · refine .inr ⟨t', l', rfl, rfl, by omega, by omega, h3, h4, fun y hy hn => ?_⟩
    by_cases e : y = k
    · subst e; exact absurd hn hz
    · exact h5 y (by omega) hn
theorem InvT.add {p : Pic} {k : Nat} {t l : Int} (h : InvT p k t l) (hz : nz p k) : InvT p (k + 1) (if t < 0 then (k : Int) else t) k := by
  rcases h with ⟨h1, rfl, rfl⟩ | ⟨t', l', rfl, rfl, h1, h2, h3, h4, h5⟩
  · refine .inr ⟨k, k, by simp, rfl, by omega, by omega, hz, hz, fun y hy hn => ?_⟩
    by_cases e : y = k
    · omega
    · exact absurd hn (h1 y (by omega))
  · refine .inr ⟨t', k, by rw [if_neg (by omega)], rfl, by omega, by omega, h3, hz, fun y hy hn => ?_⟩
    by_cases e : y = k
    · omega
    · have := h5 y (by omega) hn; omega
theorem num_top (f : Nat → Bool) (m : Nat) (hm : m < 64) (h1 : f m = true) (h2 : ∀ i, m < i → i < 64 → f i = false) : 2 ^ m ≤ num f 64 ∧ num f 64 < 2 ^ (m + 1) := by
  have hb : (num f 64).testBit m = true := by rw [num_bit]; simp [hm, h1]
  constructor
  · exact Nat.ge_two_pow_of_testBit hb
  · apply Nat.lt_pow_two_of_testBit
    intro i hi
    rw [num_bit]
    by_cases c : i < 64
    · simp [h2 i (by omega) c]
    · simp [c]

set_option maxRecDepth 100000 in
set_option maxHeartbeats 4000000 in
theorem box_walk (A : Option Addr) (n cp : Nat) (p : Pic) (hh : n ≤ 1000) (w : World) (hA : Arr w A n p) (hT : TabAt w) (a b c d : Int) (ok : Bool) (hans : BoxAns n p a b c d ok) :
    Calls Tryd.prog 7 #[.slice A n cp] w fun e w' => e = .returned (.tuple #[.int .i64 a, .int .i64 b, .int .i64 c, .int .i64 d, .bool ok]) ∧ w = w' := by
  have H := Kept.mk hA
  have HT := Kept.mk hT
  have hAns := Kept.mk hans
  clear hA hT hans
  go_enter Tryd.func7, Tryd.ntmps7
  go_wp2
  go_loop [7, 8, 9, 14] (fun va vt vl i => ∃ (k : Nat) (t l : Int), k ≤ n ∧ va = .int .u64 ((num (orP p k) 64 : Nat) : Int) ∧ vt = .int .i64 t ∧ vl = .int .i64 l ∧ i = .int .i64 k ∧ Kept (InvT p k t l)) (fun _ _ _ i => n - (intOf i).toNat)
  case atStart => exact ⟨0, -1, 0, Nat.zero_le _, by rw [show num (orP p 0) 64 = 0 from num_nil.2 (fun i _ => rfl)]; rfl, rfl, rfl, rfl, ⟨.inl ⟨fun y h => by omega, rfl, rfl⟩⟩⟩
  case round =>
    obtain ⟨k, t, l, hk, rfl, rfl, rfl, rfl, hI⟩ := hrel
    obtain ⟨hb1, hb2⟩ := hI.out.bound (by omega)
    by_cases hlt : k < n
    · obtain ⟨ad, rfl, _, hc1⟩ := H.out.ex (by omega)
      have hc := hc1 k hlt
      rw [rowV] at hc
      clear hc1
      by_cases hz : num (p k) 64 = 0
      · have hnz : ¬ nz p k := fun ⟨i, hi, h⟩ => by rw [num_nil.1 hz i hi] at h; cases h
        have hI2 := Kept.mk (hI.out.skip hnz)
        have hor : Kept (num (orP p (k + 1)) 64 = num (orP p k) 64) := ⟨num_congr _ _ 64 (fun i hi => by rw [orP_succ, num_nil.1 hz i hi, Bool.or_false])⟩
        rw [hz] at hc
        clear hI hnz hz
        generalize num (orP p k) 64 = al at *
        go_wp2
        go_round
        case rel => exact ⟨k + 1, t, l, by omega, by rw [hor.out], rfl, rfl, by go_num, hI2⟩
        case measure => simp [intOf]; omega
      · have hnz : nz p k := by
          by_cases q : nz p k
          · exact q
          · refine absurd (num_nil.2 (fun i hi => ?_)) hz
            cases hp : p k i
            · rfl
            · exact absurd ⟨i, hi, hp⟩ q
        have hI2 := Kept.mk (hI.out.add hnz)
        have hor : bits BinOp.or IntKind.u64 ((num (orP p k) 64 : Nat) : Int) ((num (p k) 64 : Nat) : Int) = ((num (orP p (k + 1)) 64 : Nat) : Int) := by
          rw [u64_or _ _ (num_lt _ 64) (num_lt _ 64), num_or2, num_congr (fun i => orP p k i || p k i) (orP p (k + 1)) 64 (fun i _ => (orP_succ p k i).symm)]
        have hzi : ¬ ((num (p k) 64 : Nat) : Int) = 0 := by omega
        clear hI hnz hz
        generalize num (orP p k) 64 = al at *
        obtain ⟨al2, hal⟩ : ∃ al2, Kept (al2 = num (orP p (k + 1)) 64) := ⟨_, ⟨rfl⟩⟩
        rw [← hal.out] at hor
        generalize num (p k) 64 = r at *
        by_cases ht : t < 0
        · rw [if_pos ht] at hI2
          go_wp2_with (simp only [hor])
          go_round
          case rel => exact ⟨k + 1, k, k, by omega, by rw [hal.out], rfl, rfl, by go_num, hI2⟩
          case measure => simp [intOf]; omega
        · rw [if_neg ht] at hI2
          go_wp2_with (simp only [hor])
          go_round
          case rel => exact ⟨k + 1, t, k, by omega, by rw [hal.out], rfl, rfl, by go_num, hI2⟩
          case measure => simp [intOf]; omega
    · have hke : n = k := by omega
      subst hke
      clear hlt hk
      rcases hAns.out with ⟨h1, rfl, rfl, rfl, rfl, rfl⟩ | ⟨x0, y0, x1, y1, h1, rfl, rfl, rfl, rfl, rfl⟩
      · have hz : num (orP p n) 64 = 0 := num_nil.2 (fun i hi => by
          cases hp : orP p n i
          · rfl
          · obtain ⟨y, hy, h⟩ := orP_true.1 hp
            exact absurd ⟨hy, hi, h⟩ (h1 y i))
        rw [hz]
        clear hz hI hAns h1
        go_wp2
        all_goals (refine bodyPost_ret (results_list (rs := [.tmp 2, .tmp 3, .tmp 4, .tmp 5, .tmp 6]) rfl (by simp) (.tmp (.tmp (.tmp (.tmp (.tmp .nil)))))) rfl ?_; exact ⟨rfl, rfl⟩)
      · obtain ⟨⟨v1, l1⟩, ⟨u1, t1⟩, ⟨v2, r1⟩, ⟨u2, q1⟩, al⟩ := h1
        have e1 : orP p n x0 = true := orP_true.2 ⟨v1, l1.1, l1.2.2⟩
        have e2 : ∀ i, i < x0 → orP p n i = false := fun i hi => by
          cases hp : orP p n i
          · rfl
          · obtain ⟨y, hy, h⟩ := orP_true.1 hp
            have := al y i ⟨hy, by have := l1.2.1; omega, h⟩; omega
        have e3 : orP p n x1 = true := orP_true.2 ⟨v2, r1.1, r1.2.2⟩
        have e4 : ∀ i, x1 < i → i < 64 → orP p n i = false := fun i hi hi2 => by
          cases hp : orP p n i
          · rfl
          · obtain ⟨y, hy, h⟩ := orP_true.1 hp
            have := al y i ⟨hy, hi2, h⟩; omega
        have hN := Kept.mk (fun w hT => ntz_walk (orP p n) x0 l1.2.1 e1 e2 w hT)
        obtain ⟨hp1, hp2⟩ := num_top (orP p n) x1 r1.2.1 e3 e4
        have hL := Kept.mk (fun w => len_walk (num (orP p n) 64) x1 hp1 hp2 r1.2.1 w)
        have hpos : ¬ ((num (orP p n) 64 : Nat) : Int) = 0 := by
          have : 0 < 2 ^ x1 := Nat.two_pow_pos _
          omega
        have ht : t = y0 ∧ l = y1 := by
          rcases hI.out with ⟨g1, rfl, rfl⟩ | ⟨t', l', rfl, rfl, g1, g2, ⟨i1, g3, g4⟩, ⟨i2, g5, g6⟩, g7⟩
          · exact absurd ⟨u1, t1.2.1, t1.2.2⟩ (g1 y0 t1.1)
          · have k1 := al t' i1 ⟨g1, g3, g4⟩
            have k2 := al l' i2 ⟨g2, g5, g6⟩
            have k3 := g7 y0 t1.1 ⟨u1, t1.2.1, t1.2.2⟩
            have k4 := g7 y1 q1.1 ⟨u2, q1.2.1, q1.2.2⟩
            omega
        obtain ⟨rfl, rfl⟩ := ht
        have hx1 : x1 < 64 := r1.2.1
        clear hp1 hp2 e1 e2 e3 e4 al l1 t1 r1 q1 hI hAns hb1 hb2
        generalize num (orP p n) 64 = al at *
        go_wp2_with (first
          | (go_at_call 19; (with_reducible refine (hN.out _ HT.out).mono ?_); rintro e w' ⟨rfl, rfl⟩)
          | (go_at_call 20; (with_reducible refine (hL.out _).mono ?_); rintro e w' ⟨rfl, rfl⟩))
        all_goals (refine bodyPost_ret (results_list (rs := [.tmp 2, .tmp 3, .tmp 4, .tmp 5, .tmp 6]) rfl (by simp) (.tmp (.tmp (.tmp (.tmp (.tmp .nil)))))) rfl ?_; exact ⟨rfl, rfl⟩)
end Go.Proofs.YthhhcfipmeganaaDoor.Rd
