/-
  The walk of PointBoxes: it returns true. No condition beyond the argument's reading.
-/
import Derived.Test.YtlffbdfkanibcaaQr
import Derived.Test.YtlffbdfkanibcaaWLast
import Derived.Test.YtlffbdfkanibcaaWMore
import Derived.OwnWalk
import Derived.Laws.AppendOwn
namespace Go.Proofs.Ytlffbdfkanibcaa.Pt
open Fl Go.RowKit Go.Proofs.YtlffbdfkanibcaaW.PrintWords Go.Proofs.YtlffbdfkanibcaaW.PrintLast Go.Proofs.YtlffbdfkanibcaaW.PrintMore
set_option linter.unusedSimpArgs false
set_option linter.unusedVariables false

def low0 (x n : Int) : Int := RowKit.wrap64 ((IntKind.u64.wrap x).tmod n)

theorem Low_det (x n : Int) (hn : 0 < n) (hn' : n < 2 ^ 62) (w : World) :
    Calls Try.prog 15 #[.int .i64 x, .int .i64 n] w fun e w' => e = .returned (.int .i64 (low0 x n)) ∧ w' = w := by
  go_enter Try.func15, Try.ntmps15
  go_wp2
  all_goals (go_ret; exact ⟨rfl, rfl⟩)

def pt (x y : Int) : Int × Int := (low0 x 2001 - 1000, low0 y 2001 - 1000)

theorem of_det (x y : Int) (w : World) : Calls Try.prog 9 #[.int .i64 x, .int .i64 y, .int .i64 1000] w fun e w' => e = .returned (CP (pt x y)) ∧ w' = w := by
  have u3 := Try.underlying3
  have u26 := Try.underlying26
  have h1 := low_fact x 2001 (by decide) (by decide)
  have h2 := low_fact y 2001 (by decide) (by decide)
  have k1 : 0 ≤ low0 x 2001 ∧ low0 x 2001 < 2001 := h1
  have k2 : 0 ≤ low0 y 2001 ∧ low0 y 2001 < 2001 := h2
  have L1 := Low_det x 2001 (by decide) (by decide)
  have L2 := Low_det y 2001 (by decide) (by decide)
  have hpt : pt x y = (low0 x 2001 - 1000, low0 y 2001 - 1000) := rfl
  rw [hpt]
  clear hpt h1 h2
  generalize low0 x 2001 = v at *
  generalize low0 y 2001 = u at *
  obtain ⟨k1, k1'⟩ := k1
  obtain ⟨k2, k2'⟩ := k2
  go_enter Try.func9, Try.ntmps9
  go_wp2_with (first
    | (go_at_call 15; (with_reducible refine (L1 _).mono ?_); rintro e w' ⟨rfl, rfl⟩)
    | (go_at_call 15; (with_reducible refine (L2 _).mono ?_); rintro e w' ⟨rfl, rfl⟩))
  all_goals (go_ret; exact ⟨rfl, rfl⟩)

theorem pt_in (x y : Int) : (pt x y).1.natAbs ≤ 1000 ∧ (pt x y).2.natAbs ≤ 1000 := by
  have h1 := low_fact x 2001 (by decide) (by decide)
  have h2 := low_fact y 2001 (by decide) (by decide)
  have k1 : 0 ≤ low0 x 2001 ∧ low0 x 2001 < 2001 := h1
  have k2 : 0 ≤ low0 y 2001 ∧ low0 y 2001 < 2001 := h2
  unfold pt
  constructor <;> simp only <;> omega

def pts (xs : List Int) (m : Nat) : List (Int × Int) := (List.range m).map fun j => pt (xs.getD (2 * j) 0) (xs.getD (2 * j + 1) 0)
theorem pts_len (xs : List Int) (m : Nat) : (pts xs m).length = m := by simp [pts]
theorem pts_succ (xs : List Int) (m : Nat) : pts xs (m + 1) = pts xs m ++ [pt (xs.getD (2 * m) 0) (xs.getD (2 * m + 1) 0)] := by
  simp [pts, List.range_succ]
theorem pts_in (xs : List Int) (m : Nat) : ∀ q ∈ pts xs m, InP q := by
  intro q hq
  simp only [pts, List.mem_map] at hq
  obtain ⟨j, _, rfl⟩ := hq
  have := pt_in (xs.getD (2 * j) 0) (xs.getD (2 * j + 1) 0)
  exact ⟨by unfold In; omega, by unfold In; omega⟩

theorem wrap_id (n : Int) (h1 : -9223372036854775808 ≤ n) (h2 : n < 9223372036854775808) : IntKind.i64.wrap n = n := by
  simp only [IntKind.wrap, IntKind.signed, IntKind.bits]
  simp
  omega

theorem own_from {w : World} {base : Nat} {e : TypeId} {size n : Nat} {v : Value} {xs : List Value} (h : w.ownsRow base e size v n xs) (k : Nat) (hk : v.ownBlock = some k) : base ≤ k := by
  rcases h.2 with ⟨rfl, _⟩ | ⟨g, cap, cur, rfl, hg, _⟩
  · simp [Value.ownBlock] at hk
  · have : g = k := by simpa [Value.ownBlock] using hk
    omega

theorem own_cells {w : World} {base : Nat} {v : Value} {n : Nat} (ps : List (Int × Int)) (h : w.ownsRow base 22 1 v n (ps.map CP)) (hn : 0 < n) :
    ∃ g cap, v = .slice (some ⟨g, 0, none⟩) n cap ∧ base ≤ g ∧ n ≤ cap ∧ cap ≤ maxLen ∧ g < w.heap.size ∧ ∀ j, j < n → w.cell? ⟨g, j, none⟩ = some (CP (ps.getD j (0, 0))) := by
  obtain ⟨hl, h2⟩ := h
  rcases h2 with ⟨_, h0⟩ | ⟨g, cap, cur, rfl, hg, hh, h3, h4, h5, h6⟩
  · omega
  · refine ⟨g, cap, rfl, hg, h3, h4, ?_, ?_⟩
    · exact (Array.getElem?_eq_some_iff.1 hh).1
    · intro j hj
      have hlen : ps.length = n := by simpa using hl
      have e1 : (ps.map CP)[j]? = some (CP (ps.getD j (0, 0))) := by
        rw [List.getElem?_map, List.getElem?_eq_getElem (by omega), List.getD_eq_getElem?_getD, List.getElem?_eq_getElem (by omega)]; rfl
      rw [← h6, List.getElem?_take_of_lt (by omega)] at e1
      unfold World.cell?
      simp only [hh]
      simpa using e1

theorem getD_any {α : Type} (l : List α) (j : Nat) (a b : α) (h : j < l.length) : l.getD j a = l.getD j b := by
  rw [List.getD_eq_getElem?_getD, List.getD_eq_getElem?_getD, List.getElem?_eq_getElem h]; rfl

theorem cells_keep {w w1 : World} {g o n : Nat} {f : Nat → Value} (h : ∀ j, j < n → w.cell? ⟨g, o + j, none⟩ = some (f j)) (hb : Below w.heap.size w w1) (hg : g < w.heap.size) : ∀ j, j < n → w1.cell? ⟨g, o + j, none⟩ = some (f j) :=
  fun j hj => (hb.cell hg).trans (h j hj)

theorem Low_nat (x n : Int) (hn : 0 < n) (hn' : n < 2 ^ 62) (w : World) :
    Calls Try.prog 15 #[.int .i64 x, .int .i64 n] w fun e w' => ∃ q : Nat, (q : Int) < n ∧ e = .returned (.int .i64 (q : Int)) ∧ w' = w := by
  refine (Low_walk x n hn hn' w).mono ?_
  rintro e w' ⟨v, h1, h2, rfl, rfl⟩
  obtain ⟨q, rfl⟩ := Int.eq_ofNat_of_zero_le h1
  exact ⟨q, h2, rfl, rfl⟩

theorem take_getD {α : Type} (l : List α) (n j : Nat) (d : α) (h : j < n) : (l.take n).getD j d = l.getD j d := by
  rw [List.getD_eq_getElem?_getD, List.getD_eq_getElem?_getD, List.getElem?_take_of_lt h]
theorem take_head {α : Type} (l : List α) (q : Nat) (d : α) (h : l.getD 0 d = d) : (l.take (1 + q)).getD 0 d = d := by
  rw [take_getD l _ 0 d (by omega)]; exact h
theorem drop_getD {α : Type} (l : List α) (n j : Nat) (d : α) : (l.drop n).getD j d = l.getD (n + j) d := by
  rw [List.getD_eq_getElem?_getD, List.getD_eq_getElem?_getD, List.getElem?_drop]

theorem headIn (ps : List (Int × Int)) (p0 : Int × Int) (h : ∀ x ∈ ps, InP x) (h0 : ps.getD 0 p0 = p0) (hl : 0 < ps.length) : InP p0 := by
  rw [← h0, List.getD_eq_getElem?_getD, List.getElem?_eq_getElem hl]
  exact h _ (List.getElem_mem _)

/-- Both parts' lesser. -/
def mn (p q : Int × Int) : Int × Int := (min p.1 q.1, min p.2 q.2)
def mx (p q : Int × Int) : Int × Int := (max p.1 q.1, max p.2 q.2)
theorem lo_cons (p q : Int × Int) (t : List (Int × Int)) : lo p (q :: t) = lo (mn p q) t := rfl
theorem hi_cons (p q : Int × Int) (t : List (Int × Int)) : hi p (q :: t) = hi (mx p q) t := rfl
theorem lo_mn (p q : Int × Int) (t : List (Int × Int)) : lo (mn p q) t = mn p (lo q t) := by
  induction t generalizing p q with
  | nil => rfl
  | cons x t ih =>
    rw [lo_cons, lo_cons, ← ih]
    congr 1
    unfold mn
    simp only [Prod.mk.injEq]
    omega
theorem hi_mx (p q : Int × Int) (t : List (Int × Int)) : hi (mx p q) t = mx p (hi q t) := by
  induction t generalizing p q with
  | nil => rfl
  | cons x t ih =>
    rw [hi_cons, hi_cons, ← ih]
    congr 1
    unfold mx
    simp only [Prod.mk.injEq]
    omega
theorem mn_self (p : Int × Int) : mn p p = p := by unfold mn; simp
theorem mx_self (p : Int × Int) : mx p p = p := by unfold mx; simp
theorem lo_append (p : Int × Int) (xs ys : List (Int × Int)) : lo p (xs ++ ys) = lo (lo p xs) ys := by unfold lo; rw [List.foldl_append]
theorem hi_append (p : Int × Int) (xs ys : List (Int × Int)) : hi p (xs ++ ys) = hi (hi p xs) ys := by unfold hi; rw [List.foldl_append]
theorem lo_from (p q : Int × Int) (ys : List (Int × Int)) (hq : ys.getD 0 q = q) (hl : 0 < ys.length) : lo p ys = mn p (lo q ys) := by
  match ys, hl with
  | y :: t, _ =>
    have : y = q := by simpa using hq
    subst this
    rw [lo_cons, lo_mn, lo_cons, mn_self]
theorem hi_from (p q : Int × Int) (ys : List (Int × Int)) (hq : ys.getD 0 q = q) (hl : 0 < ys.length) : hi p ys = mx p (hi q ys) := by
  match ys, hl with
  | y :: t, _ =>
    have : y = q := by simpa using hq
    subst this
    rw [hi_cons, hi_mx, hi_cons, mx_self]
theorem lo_start (p : Int × Int) (t : List (Int × Int)) : (lo p t).1 ≤ p.1 ∧ (lo p t).2 ≤ p.2 := by
  have h := lo_mn p p t
  rw [mn_self] at h
  have h1 := congrArg Prod.fst h
  have h2 := congrArg Prod.snd h
  simp only [mn] at h1 h2
  omega
theorem hi_start (p : Int × Int) (t : List (Int × Int)) : p.1 ≤ (hi p t).1 ∧ p.2 ≤ (hi p t).2 := by
  have h := hi_mx p p t
  rw [mx_self] at h
  have h1 := congrArg Prod.fst h
  have h2 := congrArg Prod.snd h
  simp only [mx] at h1 h2
  omega
theorem lo_le (p : Int × Int) (ps : List (Int × Int)) : ∀ x ∈ ps, (lo p ps).1 ≤ x.1 ∧ (lo p ps).2 ≤ x.2 := by
  induction ps generalizing p with
  | nil => intro x hx; cases hx
  | cons y t ih =>
    intro x hx
    rw [lo_cons]
    rcases List.mem_cons.1 hx with rfl | hx
    · have := lo_start (mn p x) t
      simp only [mn] at this ⊢
      omega
    · exact ih _ x hx
theorem hi_ge (p : Int × Int) (ps : List (Int × Int)) : ∀ x ∈ ps, x.1 ≤ (hi p ps).1 ∧ x.2 ≤ (hi p ps).2 := by
  induction ps generalizing p with
  | nil => intro x hx; cases hx
  | cons y t ih =>
    intro x hx
    rw [hi_cons]
    rcases List.mem_cons.1 hx with rfl | hx
    · have := hi_start (mx p x) t
      simp only [mx] at this ⊢
      omega
    · exact ih _ x hx

theorem four_corners (ps : List (Int × Int)) (p0 p1 : Int × Int) (q : Nat) (h0 : ps.getD 0 p0 = p0) (hq : 1 + q < ps.length) (h1 : p1 = ps.getD (1 + q) p0) :
    lo (lo p0 (ps.take (1 + q))) [lo p0 (ps.take (1 + q)), hi p0 (ps.take (1 + q)), lo p1 (ps.drop (1 + q)), hi p1 (ps.drop (1 + q))] = lo p0 ps ∧
    hi (lo p0 (ps.take (1 + q))) [lo p0 (ps.take (1 + q)), hi p0 (ps.take (1 + q)), lo p1 (ps.drop (1 + q)), hi p1 (ps.drop (1 + q))] = hi p0 ps := by
  have hd : (ps.drop (1 + q)).getD 0 p1 = p1 := by rw [drop_getD, Nat.add_zero, getD_any ps _ p1 p0 hq]; exact h1.symm
  have hdl : 0 < (ps.drop (1 + q)).length := by simp; omega
  have e1 : lo p0 ps = mn (lo p0 (ps.take (1 + q))) (lo p1 (ps.drop (1 + q))) := by
    rw [← lo_from _ p1 _ hd hdl, ← lo_append, List.take_append_drop]
  have e2 : hi p0 ps = mx (hi p0 (ps.take (1 + q))) (hi p1 (ps.drop (1 + q))) := by
    rw [← hi_from _ p1 _ hd hdl, ← hi_append, List.take_append_drop]
  rw [e1, e2]
  have s1 := lo_start p0 (ps.take (1 + q))
  have s2 := hi_start p0 (ps.take (1 + q))
  have s3 := lo_start p1 (ps.drop (1 + q))
  have s4 := hi_start p1 (ps.drop (1 + q))
  generalize lo p0 (ps.take (1 + q)) = a at *
  generalize hi p0 (ps.take (1 + q)) = b at *
  generalize lo p1 (ps.drop (1 + q)) = c at *
  generalize hi p1 (ps.drop (1 + q)) = d at *
  clear e1 e2
  constructor
  · show mn (mn (mn (mn a a) b) c) d = mn a c
    unfold mn
    simp only [Prod.mk.injEq]
    omega
  · show mx (mx (mx (mx a a) b) c) d = mx b d
    unfold mx
    simp only [Prod.mk.injEq]
    omega

theorem lo_some (p : Int × Int) (ps : List (Int × Int)) : ((lo p ps).1 = p.1 ∨ ∃ x ∈ ps, x.1 = (lo p ps).1) ∧ ((lo p ps).2 = p.2 ∨ ∃ x ∈ ps, x.2 = (lo p ps).2) := by
  induction ps generalizing p with
  | nil => exact ⟨.inl rfl, .inl rfl⟩
  | cons y t ih =>
    rw [lo_cons]
    obtain ⟨h1, h2⟩ := ih (mn p y)
    constructor
    · rcases h1 with h | ⟨x, hx, h⟩
      · rw [h]
        simp only [mn]
        by_cases c : p.1 ≤ y.1
        · left; omega
        · right; exact ⟨y, by simp, by omega⟩
      · exact .inr ⟨x, by simp [hx], h⟩
    · rcases h2 with h | ⟨x, hx, h⟩
      · rw [h]
        simp only [mn]
        by_cases c : p.2 ≤ y.2
        · left; omega
        · right; exact ⟨y, by simp, by omega⟩
      · exact .inr ⟨x, by simp [hx], h⟩
theorem hi_some (p : Int × Int) (ps : List (Int × Int)) : ((hi p ps).1 = p.1 ∨ ∃ x ∈ ps, x.1 = (hi p ps).1) ∧ ((hi p ps).2 = p.2 ∨ ∃ x ∈ ps, x.2 = (hi p ps).2) := by
  induction ps generalizing p with
  | nil => exact ⟨.inl rfl, .inl rfl⟩
  | cons y t ih =>
    rw [hi_cons]
    obtain ⟨h1, h2⟩ := ih (mx p y)
    constructor
    · rcases h1 with h | ⟨x, hx, h⟩
      · rw [h]
        simp only [mx]
        by_cases c : y.1 ≤ p.1
        · left; omega
        · right; exact ⟨y, by simp, by omega⟩
      · exact .inr ⟨x, by simp [hx], h⟩
    · rcases h2 with h | ⟨x, hx, h⟩
      · rw [h]
        simp only [mx]
        by_cases c : y.2 ≤ p.2
        · left; omega
        · right; exact ⟨y, by simp, by omega⟩
      · exact .inr ⟨x, by simp [hx], h⟩
theorem touched (ps : List (Int × Int)) (p0 : Int × Int) (h0 : ps.getD 0 p0 = p0) (hl : 0 < ps.length) :
    (ps.any fun x => x.1 == (lo p0 ps).1) = true ∧ (ps.any fun x => x.1 == (hi p0 ps).1) = true ∧ (ps.any fun x => x.2 == (lo p0 ps).2) = true ∧ (ps.any fun x => x.2 == (hi p0 ps).2) = true := by
  have hm : p0 ∈ ps := by
    rw [← h0, List.getD_eq_getElem?_getD, List.getElem?_eq_getElem hl]
    exact List.getElem_mem _
  obtain ⟨a1, a2⟩ := lo_some p0 ps
  obtain ⟨a3, a4⟩ := hi_some p0 ps
  refine ⟨?_, ?_, ?_, ?_⟩ <;> rw [List.any_eq_true]
  · rcases a1 with h | ⟨x, hx, h⟩
    · exact ⟨p0, hm, by simp [h]⟩
    · exact ⟨x, hx, by simp [h]⟩
  · rcases a3 with h | ⟨x, hx, h⟩
    · exact ⟨p0, hm, by simp [h]⟩
    · exact ⟨x, hx, by simp [h]⟩
  · rcases a2 with h | ⟨x, hx, h⟩
    · exact ⟨p0, hm, by simp [h]⟩
    · exact ⟨x, hx, by simp [h]⟩
  · rcases a4 with h | ⟨x, hx, h⟩
    · exact ⟨p0, hm, by simp [h]⟩
    · exact ⟨x, hx, by simp [h]⟩
theorem any_step (ps : List (Int × Int)) (f : Int × Int → Bool) (k : Nat) (d : Int × Int) (hk : k < ps.length) : (ps.take (k + 1)).any f = ((ps.take k).any f || f (ps.getD k d)) := by
  rw [List.take_add_one, List.any_append]
  simp [List.getD, List.getElem?_eq_getElem hk]

theorem ge_not_lt {a b : Int} (h : b ≤ a) : (some (compare a b) == some Ordering.lt) = false := by
  rcases Int.lt_or_eq_of_le h with h | h
  · rw [cmp_gt h]; rfl
  · subst h; rw [cmp_eq]; rfl
theorem le_not_gt {a b : Int} (h : a ≤ b) : (some (compare a b) == some Ordering.gt) = false := by
  rcases Int.lt_or_eq_of_le h with h | h
  · rw [cmp_lt h]; rfl
  · subst h; rw [cmp_eq]; rfl
theorem eq_bool (a b : Int) (ha : a.natAbs < 2 ^ 53) (hb : b.natAbs < 2 ^ 53) : ∃ e : Bool, (FloatKind.f64.format.order (I a) (I b) == some Ordering.eq) = e ∧ (a == b) = e := by
  refine ⟨_, rfl, ?_⟩
  rw [ord a b ha hb]
  rcases Int.lt_trichotomy a b with c | c | c
  · rw [cmp_lt c]; simp; omega
  · subst c; rw [cmp_eq]; simp
  · rw [cmp_gt c]; simp; omega

theorem cell_lt {w : World} {p : Addr} {v : Value} (h : w.cell? p = some v) : p.block < w.heap.size := by
  rcases Nat.lt_or_ge p.block w.heap.size with c | c
  · exact c
  · exfalso
    unfold World.cell? at h
    rw [Array.getElem?_eq_none c] at h
    cases h

theorem info22 : (Try.prog.info? 22).map (fun i => (i.zero, i.size, i.bytes)) = some (some (.complex .f64 0 0), 1, 16) := by kernel_rfl

set_option maxRecDepth 100000 in
set_option maxHeartbeats 4000000 in
theorem Boxes_walk (A : Option Addr) (len cap : Nat) (xs : List Int) (k : Int) (w : World) (hlen : xs.length = len)
    (hc : 0 < len → ∃ ad, A = some ad ∧ ad.block < w.heap.size ∧ ∀ j, j < len → w.cell? (ad.add j) = some (.int .i64 (xs.getD j 0))) :
    Calls Try.prog 4 #[.slice A len cap, .int .i64 k] w fun r w' => r = .returned (.bool true) ∧ Below w.heap.size w w' := by
  obtain ⟨i0, hi, hz0, hz1, hz2⟩ := info_parts info22
  have u32 := Try.underlying32
  by_cases hbig : 60 < len
  · go_enter Try.func4, Try.ntmps4
    go_wp2_with (go_at_call 13; (with_reducible refine (awake_walk _).mono ?_); rintro e w' ⟨rfl, hb⟩; have hB := Kept.mk hb; clear hb)
    all_goals (go_ret; exact ⟨rfl, hB.out⟩)
  · by_cases hsmall : len < 4
    · go_enter Try.func4, Try.ntmps4
      go_wp2_with (go_at_call 13; (with_reducible refine (awake_walk _).mono ?_); rintro e w' ⟨rfl, hb⟩; have hB := Kept.mk hb; clear hb)
      all_goals (go_ret; exact ⟨rfl, hB.out⟩)
    · obtain ⟨ad, rfl, hab, hcell⟩ := hc (by omega)
      have hC := Kept.mk hcell
      clear hc hcell
      go_enter Try.func4, Try.ntmps4
      go_wp2
      go_loopw [5, 6] (fun v i wr => ∃ m : Nat, 2 * m ≤ len ∧ i = .int .i64 ((2 * m : Nat) : Int) ∧ wr.ownsRow w.heap.size 22 1 v m ((pts xs m).map CP) ∧ Below w.heap.size w wr) (fun _ i _ => len - (intOf i).toNat)
      case atStart => exact ⟨0, by omega, rfl, World.ownsRow_nil _ _ _ _, Below.refl _ _⟩
      case round =>
        obtain ⟨m, hm, rfl, hown, hbel⟩ := hrel
        have hO := Kept.mk hown
        have hB := Kept.mk hbel
        clear hown hbel
        by_cases hlt : 2 * m + 1 < len
        · have h1 : wr.cell? (ad.add (2 * m)) = some (.int .i64 (xs.getD (2 * m) 0)) := by
            rw [hB.out.cell (p := ad.add (2 * m)) (by unfold Addr.add; split <;> exact hab)]; exact hC.out _ (by omega)
          have h2 : wr.cell? (ad.add (2 * m + 1)) = some (.int .i64 (xs.getD (2 * m + 1) 0)) := by
            rw [hB.out.cell (p := ad.add (2 * m + 1)) (by unfold Addr.add; split <;> exact hab)]; exact hC.out _ (by omega)
          have hsucc : Kept (pts xs (m + 1) = pts xs m ++ [pt (xs.getD (2 * m) 0) (xs.getD (2 * m + 1) 0)]) := ⟨pts_succ xs m⟩
          have h1d : wr.drew.cell? (ad.add (2 * m)) = some (.int .i64 (xs.getD (2 * m) 0)) := h1
          have h2d : wr.drew.cell? (ad.add (2 * m + 1)) = some (.int .i64 (xs.getD (2 * m + 1) 0)) := h2
          have h2e : wr.drew.cell? ⟨ad.block, ad.off + (2 * m + 1), none⟩ = some (.int .i64 (xs.getD (2 * m + 1) 0)) := h2d
          clear h1 h2
          generalize xs.getD (2 * m) 0 = x1 at *
          generalize xs.getD (2 * m + 1) 0 = x2 at *
          go_wp2
          have hOd : Kept (wr.drew.ownsRow w.heap.size 22 1 u5 m ((pts xs m).map CP)) := ⟨hO.out⟩
          have hBd : Kept (Below w.heap.size w wr.drew) := ⟨hB.out.drew⟩
          have i1 : (0 ≤ 2 * (m : Int) ∧ 2 * (m : Int) < (len : Int)) := by omega
          have i2 : (0 ≤ 2 * (m : Int) + 1 ∧ 2 * (m : Int) + 1 < (len : Int)) := by omega
          have t1 : (2 * (m : Int)).toNat = 2 * m := by omega
          have t2 : (2 * (m : Int) + 1).toNat = 2 * m + 1 := by omega
          have t3 : IntKind.i64.wrap (2 * (m : Int) + 1) = 2 * (m : Int) + 1 := wrap_id _ (by omega) (by omega)
          have hpl := pts_len xs m
          generalize hP : pt x1 x2 = P at *
          have hPK := Kept.mk hP
          clear hP
          refine start_ (n := 14) (S := fun w' => w'.cell? (ad.add (2 * m)) = some (.int .i64 x1) ∧ w'.cell? ⟨ad.block, ad.off + (2 * m + 1), none⟩ = some (.int .i64 x2)) (ds := [11, 12]) #[false, false, false, false, false, false, false, false, false, false, false, false, false, false] (by kernel_rfl) rfl rfl ⟨h1d, h2e⟩ (fun hHeld => ?_)
          generalize wr.drew = w1 at *
          refine pure_ (i := 0) (N := some 42) (v := ?_) (a' := ?_) #[true, false, false, false, false, false, false, false, false, false, false, false, false, false] rfl rfl (by kernel_rfl) (fun _ _ _ h => h) (Or.inl ⟨by rfl, ?_⟩) ?_ ?_
          rotate_left
          · intro w'
            go_simp
            with_reducible rfl
          rotate_left
          · simp only [Act.put, List.setIfInBounds_toArray, List.set_cons_zero, List.set_cons_succ, i64_w, i32_w]
            rfl
          refine pure_ (i := 1) (N := some 43) (v := ?_) (a' := ?_) #[true, true, false, false, false, false, false, false, false, false, false, false, false, false] rfl rfl (by kernel_rfl) (fun _ _ _ h => h) (Or.inl ⟨by rfl, ?_⟩) ?_ ?_
          rotate_left
          · intro w'
            go_simp
            with_reducible rfl
          rotate_left
          · simp only [Act.put, List.setIfInBounds_toArray, List.set_cons_zero, List.set_cons_succ, i64_w, i32_w]
            rfl
          refine pure_ (i := 2) (N := some 44) (v := ?_) (a' := ?_) #[true, true, true, false, false, false, false, false, false, false, false, false, false, false] rfl rfl (by kernel_rfl) (fun _ _ _ h => h) (Or.inl ⟨by rfl, ?_⟩) ?_ ?_
          rotate_left
          · intro w'
            go_simp
            with_reducible rfl
          rotate_left
          · simp only [Act.put, List.setIfInBounds_toArray, List.set_cons_zero, List.set_cons_succ, i64_w, i32_w]
            rfl
          refine pure_ (i := 3) (N := some 45) (v := ?_) (a' := ?_) #[true, true, true, true, false, false, false, false, false, false, false, false, false, false] rfl rfl (by kernel_rfl) (fun _ _ _ h => h) (Or.inl ⟨by rfl, ?_⟩) ?_ ?_
          rotate_left
          · intro w'
            go_simp
            with_reducible rfl
          rotate_left
          · simp only [Act.put, List.setIfInBounds_toArray, List.set_cons_zero, List.set_cons_succ, i64_w, i32_w]
            rfl
          refine take_ (i := 4) (N := some 46) (v := ?_) (a' := ?_) #[true, true, true, true, true, false, false, false, false, false, false, false, false, false] rfl rfl (by kernel_rfl) (fun _ _ _ h => h) (Or.inl ⟨by rfl, ?_⟩) hHeld ?_ ?_
          rotate_left
          · rintro w' ⟨s0, s1⟩
            go_simp
            with_reducible rfl
          rotate_left
          · simp only [Act.put, List.setIfInBounds_toArray, List.set_cons_zero, List.set_cons_succ, i64_w, i32_w]
            rfl
          refine pure_ (i := 5) (N := some 47) (v := ?_) (a' := ?_) #[true, true, true, true, true, true, false, false, false, false, false, false, false, false] rfl rfl (by kernel_rfl) (fun _ _ _ h => h) (Or.inl ⟨by rfl, ?_⟩) ?_ ?_
          rotate_left
          · intro w'
            go_simp
            with_reducible rfl
          rotate_left
          · simp only [Act.put, List.setIfInBounds_toArray, List.set_cons_zero, List.set_cons_succ, i64_w, i32_w]
            rfl
          refine pure_ (i := 6) (N := some 48) (v := ?_) (a' := ?_) #[true, true, true, true, true, true, true, false, false, false, false, false, false, false] rfl rfl (by kernel_rfl) (fun _ _ _ h => h) (Or.inl ⟨by rfl, ?_⟩) ?_ ?_
          rotate_left
          · intro w'
            go_simp
            with_reducible rfl
          rotate_left
          · simp only [Act.put, List.setIfInBounds_toArray, List.set_cons_zero, List.set_cons_succ, i64_w, i32_w]
            rfl
          refine pure_ (i := 7) (N := some 49) (v := ?_) (a' := ?_) #[true, true, true, true, true, true, true, true, false, false, false, false, false, false] rfl rfl (by kernel_rfl) (fun _ _ _ h => h) (Or.inl ⟨by rfl, ?_⟩) ?_ ?_
          rotate_left
          · intro w'
            go_simp
            with_reducible rfl
          rotate_left
          · simp only [Act.put, List.setIfInBounds_toArray, List.set_cons_zero, List.set_cons_succ, i64_w, i32_w]
            rfl
          refine pure_ (i := 8) (N := some 50) (v := ?_) (a' := ?_) #[true, true, true, true, true, true, true, true, true, false, false, false, false, false] rfl rfl (by kernel_rfl) (fun _ _ _ h => h) (Or.inl ⟨by rfl, ?_⟩) ?_ ?_
          rotate_left
          · intro w'
            go_simp
            with_reducible rfl
          rotate_left
          · simp only [Act.put, List.setIfInBounds_toArray, List.set_cons_zero, List.set_cons_succ, i64_w, i32_w]
            rfl
          refine take_ (i := 9) (N := some 51) (v := ?_) (a' := ?_) #[true, true, true, true, true, true, true, true, true, true, false, false, false, false] rfl rfl (by kernel_rfl) (fun _ _ _ h => h) (Or.inl ⟨by rfl, ?_⟩) hHeld ?_ ?_
          rotate_left
          · rintro w' ⟨s0, s1⟩
            go_simp
            with_reducible rfl
          rotate_left
          · simp only [Act.put, List.setIfInBounds_toArray, List.set_cons_zero, List.set_cons_succ, i64_w, i32_w]
            rfl
          refine one_ (i := 10) (N := some 52) #[true, true, true, true, true, true, true, true, true, true, true, false, false, false] rfl rfl (by kernel_rfl) (by decide) (fun K hK => ?_)
          refine goes_ Try.func9 (by kernel_rfl) rfl #[.int .i64 x1, .int .i64 x2, .int .i64 1000] (by rfl) rfl rfl (by (try simp only [List.map_toArray, List.map_cons, List.map_nil]); first | done | rfl) ?_
          have hod := of_det x1 x2 w1
          rw [hPK.out] at hod
          refine hod.mono ?_
          clear hod
          rintro e w' ⟨rfl, rfl⟩
          refine ⟨_, rfl, ?_⟩
          refine hK.out _ _ hHeld (fun _ => ?_)
          clear hK K
          refine norm_ (a' := ?_) ?_ ?_
          rotate_left
          · show Act.put _ (some 52) _ = _
            simp only [Act.put, List.setIfInBounds_toArray, List.set_cons_zero, List.set_cons_succ, i64_w, i32_w]
            rfl
          refine last_ (i := 11) (N := some 53) #[true, true, true, true, true, true, true, true, true, true, true, true, false, false] rfl rfl (by kernel_rfl) (by decide) (fun K hK => ?_)
          refine event_step (by rfl) (show _ = Result.ok (Next.value (.slice (some ⟨w'.heap.size, 0, none⟩) 1 1)) (w'.alloc (.cells #[CP P] 22)) by first | (go_simp; done) | (go_simp; rfl)) ?_
          refine hK.out _ _ ?_
          clear hK K
          refine norm_ (a' := ?_) ?_ ?_
          rotate_left
          · show Act.put _ (some 53) _ = _
            simp only [Act.put, List.setIfInBounds_toArray, List.set_cons_zero, List.set_cons_succ, i64_w, i32_w]
            rfl
          refine last_ (i := 12) (N := some 54) #[true, true, true, true, true, true, true, true, true, true, true, true, true, false] rfl rfl (by kernel_rfl) (by decide) (fun K hK => ?_)
          rw [if_pos (by rfl)]
          refine wp_append_own _ (.tmp 42) (.tmp 53) 32 rfl w.heap.size 22 i0 (.complex .f64 0 0) 1 16 u32 hi hz0 hz1 hz2 rfl (by decide) _ m _ rfl (hOd.out.alloc _) ⟨w'.heap.size, 0, none⟩ 1 1 [CP P] rfl rfl ?_ (by intro u hu; simp at hu; subst hu; rfl) (by unfold maxLen; omega) (by omega) (by have := hBd.out.size; simp; omega) ?_
          · intro j u hj
            match j, hj with
            | 0, hj => cases hj; exact World.cell?_alloc_new _ _ _ _
          intro v' w2 hown' hgrow _
          have hO3 := Kept.mk hown'
          have hB3 : Kept (Below w.heap.size w w2) := ⟨(hBd.out.alloc hBd.out.size _).grown hgrow (by have := hBd.out.size; simp; omega) (fun g hg => own_from hO.out g hg)⟩
          clear hown' hgrow
          refine hK.out _ _ ?_
          clear hK K
          refine norm_ (a' := ?_) ?_ ?_
          rotate_left
          · show Act.put _ (some 54) _ = _
            simp only [Act.put, List.setIfInBounds_toArray, List.set_cons_zero, List.set_cons_succ, i64_w, i32_w]
            rfl
          refine pure_ (i := 13) (N := some 5) (v := ?_) (a' := ?_) #[true, true, true, true, true, true, true, true, true, true, true, true, true, true] rfl rfl (by kernel_rfl) (fun _ _ _ h => h) (Or.inl ⟨by rfl, ?_⟩) ?_ ?_
          rotate_left
          · intro w'
            go_simp
            with_reducible rfl
          rotate_left
          · simp only [Act.put, List.setIfInBounds_toArray, List.set_cons_zero, List.set_cons_succ, i64_w, i32_w]
            rfl
          refine done_ (by kernel_rfl) ?_
          clear h1d h2d h2e i1 i2 t1 t2 t3
          go_wp2
          go_roundw
          case rel => exact ⟨m + 1, by omega, by go_num, by rw [hsucc.out, List.map_append]; exact hO3.out, hB3.out⟩
          case measure => simp [intOf]; omega
        · have hm2 : 2 ≤ m := by omega
          obtain ⟨g, cp, rfl, hgB, hmc, hcm, hgsz, hcells⟩ := own_cells (pts xs m) hO.out (by omega)
          have hpl := pts_len xs m
          have hpi := pts_in xs m
          clear hC
          generalize pts xs m = ps at *
          clear hO
          obtain ⟨p0, hp0⟩ : ∃ p0, p0 = ps.getD 0 (0, 0) := ⟨_, rfl⟩
          have hd : ∀ j, j < m → ps.getD j p0 = ps.getD j (0, 0) := fun j hj => getD_any ps j _ _ (by omega)
          have hc0 : Kept (∀ j, j < m → wr.cell? ⟨g, 0 + j, none⟩ = some (CP (ps.getD j p0))) := ⟨fun j hj => by rw [hd j hj, Nat.zero_add]; exact hcells j hj⟩
          have hh0 : ps.getD 0 p0 = p0 := by rw [hd 0 (by omega)]; exact hp0.symm
          have B1 := Box_walk g 0 m cp ps p0 wr hpl (by omega) (by omega) hh0 hpi hc0.out
          have hKp := Kept.mk hpi
          have hKh := Kept.mk hh0
          have hKl := Kept.mk hpl
          clear hd hcells hp0 hpi hh0 hpl
          have hL1 : 0 < (m : Int) - 1 := by omega
          have hL2 : (m : Int) - 1 < 2 ^ 62 := by omega
          go_wp2_with (first
            | (go_at_call 14; (with_reducible refine B1.mono ?_); rintro e w1 ⟨rfl, hb1⟩; have hB1 := Kept.mk (bel_step hB.out hb1); have hc1 := Kept.mk (cells_keep hc0.out hb1 hgsz); have hg1 := Nat.lt_of_lt_of_le hgsz hb1.size; clear hb1)
            | (go_at_call 15; (with_reducible refine (Low_nat k ((m : Int) - 1) hL1 hL2 _).mono ?_); rintro e w' ⟨q, hq, rfl, rfl⟩))
          have hq1 : 1 + q < m := by omega
          have B2 := Box_walk g 0 (1 + q) cp (ps.take (1 + q)) p0 w' (by simp [hKl.out]; omega) (by omega) (by omega) (take_head ps q p0 hKh.out) (fun x hx => hKp.out x (List.mem_of_mem_take hx))
            (fun j hj => by rw [take_getD ps _ j p0 hj]; exact hc1.out j (by omega))
          go_wp2_with (first
            | (go_at_call 14; (with_reducible refine B2.mono ?_); rintro e w2 ⟨rfl, hb2⟩; have hB2 := Kept.mk (bel_step hB1.out hb2); have hc2 := Kept.mk (cells_keep hc1.out hb2 hg1); have hg2 := Nat.lt_of_lt_of_le hg1 hb2.size; clear hb2))
          obtain ⟨p1, hp1⟩ : ∃ p1, p1 = ps.getD (1 + q) p0 := ⟨_, rfl⟩
          have hpd := hp1
          have B3 := Box_walk g (1 + q) (m - (1 + q)) (cp - (1 + q)) (ps.drop (1 + q)) p1 w2 (by simp [hKl.out]) (by omega) (by omega)
            (by rw [drop_getD, Nat.add_zero, getD_any ps (1 + q) p1 p0 (by rw [hKl.out]; omega)]; exact hp1.symm) (fun x hx => hKp.out x (List.mem_of_mem_drop hx))
            (fun j hj => by
              rw [drop_getD, getD_any ps (1 + q + j) p1 p0 (by rw [hKl.out]; omega)]
              have := hc2.out (1 + q + j) (by omega)
              rw [Nat.zero_add] at this; exact this)
          have hP1 := Kept.mk hp1
          clear hp1 hpd
          go_wp2_with (first
            | (go_at_call 14; (with_reducible refine B3.mono ?_); rintro e w3 ⟨rfl, hb3⟩; have hB3 := Kept.mk (bel_step hB2.out hb3); have hc3 := Kept.mk (cells_keep hc2.out hb3 hg2); have hg3 := Nat.lt_of_lt_of_le hg2 hb3.size; clear hb3))
          clear B1 B2 B3 hB1 hB2 hc1 hc2 hg1 hg2 hc0
          have hfour := Kept.mk (four_corners ps p0 p1 q hKh.out (by rw [hKl.out]; omega) hP1.out)
          have hlo := Kept.mk (lo_le p0 ps)
          have hhi := Kept.mk (hi_ge p0 ps)
          have hat := Kept.mk (touched ps p0 hKh.out (by rw [hKl.out]; omega))
          have iA := Kept.mk (lo_in p0 (ps.take (1 + q)) (headIn ps p0 hKp.out hKh.out (by rw [hKl.out]; omega)) (fun x hx => hKp.out x (List.mem_of_mem_take hx)))
          have iB := Kept.mk (hi_in p0 (ps.take (1 + q)) (headIn ps p0 hKp.out hKh.out (by rw [hKl.out]; omega)) (fun x hx => hKp.out x (List.mem_of_mem_take hx)))
          have ip1 : InP p1 := by
            rw [hP1.out, List.getD_eq_getElem?_getD, List.getElem?_eq_getElem (by rw [hKl.out]; omega)]
            exact hKp.out _ (List.getElem_mem _)
          have iC := Kept.mk (lo_in p1 (ps.drop (1 + q)) ip1 (fun x hx => hKp.out x (List.mem_of_mem_drop hx)))
          have iD := Kept.mk (hi_in p1 (ps.drop (1 + q)) ip1 (fun x hx => hKp.out x (List.mem_of_mem_drop hx)))
          have iL := Kept.mk (lo_in p0 ps (headIn ps p0 hKp.out hKh.out (by rw [hKl.out]; omega)) hKp.out)
          have iH := Kept.mk (hi_in p0 ps (headIn ps p0 hKp.out hKh.out (by rw [hKl.out]; omega)) hKp.out)
          clear ip1 hP1
          generalize lo p0 (ps.take (1 + q)) = a at *
          generalize Pt.hi p0 (ps.take (1 + q)) = b at *
          generalize lo p1 (ps.drop (1 + q)) = c at *
          generalize Pt.hi p1 (ps.drop (1 + q)) = d at *
          generalize lo p0 ps = L at *
          generalize Pt.hi p0 ps = H at *
          go_loopw [16, 17, 18, 19, 20] (fun v1 v2 v3 v4 i w4 => ∃ i' : Nat, i' ≤ m ∧ i = .int .i64 i' ∧ v1 = .bool ((ps.take i').any fun x => x.1 == L.1) ∧ v2 = .bool ((ps.take i').any fun x => x.1 == H.1) ∧
              v3 = .bool ((ps.take i').any fun x => x.2 == L.2) ∧ v4 = .bool ((ps.take i').any fun x => x.2 == H.2) ∧ Kept (∀ j, j < m → w4.cell? ⟨g, 0 + j, none⟩ = some (CP (ps.getD j p0))) ∧ Kept (Below w.heap.size w w4)) (fun _ _ _ _ i _ => m - (intOf i).toNat)
          case atStart => exact ⟨0, by omega, rfl, rfl, rfl, rfl, rfl, hc3, hB3⟩
          case round =>
            obtain ⟨i', hi', rfl, rfl, rfl, rfl, rfl, hcc, hBB⟩ := hrel
            by_cases hlt : i' < m
            · have hcell := hcc.out i' hlt
              have S1 := Kept.mk (any_step ps (fun x => x.1 == L.1) i' p0 (by rw [hKl.out]; exact hlt))
              have S2 := Kept.mk (any_step ps (fun x => x.1 == H.1) i' p0 (by rw [hKl.out]; exact hlt))
              have S3 := Kept.mk (any_step ps (fun x => x.2 == L.2) i' p0 (by rw [hKl.out]; exact hlt))
              have S4 := Kept.mk (any_step ps (fun x => x.2 == H.2) i' p0 (by rw [hKl.out]; exact hlt))
              have hmem : ps.getD i' p0 ∈ ps := by
                rw [List.getD_eq_getElem?_getD, List.getElem?_eq_getElem (by rw [hKl.out]; exact hlt)]
                exact List.getElem_mem _
              have hx1 := hlo.out _ hmem
              have hx2 := hhi.out _ hmem
              have hxi := hKp.out _ hmem
              have iL1 := iL.out
              have iH1 := iH.out
              clear hmem
              generalize ps.getD i' p0 = x at *
              obtain ⟨x1, x2⟩ := x
              obtain ⟨l1, l2⟩ := L
              obtain ⟨h1, h2⟩ := H
              simp only at hx1 hx2 hcell
              have hcell' : wr.cell? ⟨g, i', none⟩ = some (C x1 x2) := by rw [Nat.zero_add] at hcell; exact hcell
              have c1 : (FloatKind.f64.format.order (I x1) (I l1) == some Ordering.lt) = false := by
                rw [ord x1 l1 hxi.1.abs iL1.1.abs]; exact ge_not_lt hx1.1
              have c2 : (FloatKind.f64.format.order (I x1) (I h1) == some Ordering.gt) = false := by
                rw [ord x1 h1 hxi.1.abs iH1.1.abs]; exact le_not_gt hx2.1
              have c3 : (FloatKind.f64.format.order (I x2) (I l2) == some Ordering.lt) = false := by
                rw [ord x2 l2 hxi.2.abs iL1.2.abs]; exact ge_not_lt hx1.2
              have c4 : (FloatKind.f64.format.order (I x2) (I h2) == some Ordering.gt) = false := by
                rw [ord x2 h2 hxi.2.abs iH1.2.abs]; exact le_not_gt hx2.2
              obtain ⟨e1, f1, g1⟩ := eq_bool x1 l1 hxi.1.abs iL1.1.abs
              obtain ⟨e2, f2, g2⟩ := eq_bool x1 h1 hxi.1.abs iH1.1.abs
              obtain ⟨e3, f3, g3⟩ := eq_bool x2 l2 hxi.2.abs iL1.2.abs
              obtain ⟨e4, f4, g4⟩ := eq_bool x2 h2 hxi.2.abs iH1.2.abs
              have T1 : Kept ((ps.take (i' + 1)).any (fun x => x.1 == l1) = ((ps.take i').any (fun x => x.1 == l1) || e1)) := ⟨by rw [S1.out, g1]⟩
              have T2 : Kept ((ps.take (i' + 1)).any (fun x => x.1 == h1) = ((ps.take i').any (fun x => x.1 == h1) || e2)) := ⟨by rw [S2.out, g2]⟩
              have T3 : Kept ((ps.take (i' + 1)).any (fun x => x.2 == l2) = ((ps.take i').any (fun x => x.2 == l2) || e3)) := ⟨by rw [S3.out, g3]⟩
              have T4 : Kept ((ps.take (i' + 1)).any (fun x => x.2 == h2) = ((ps.take i').any (fun x => x.2 == h2) || e4)) := ⟨by rw [S4.out, g4]⟩
              clear S1 S2 S3 S4 g1 g2 g3 g4 hx1 hx2 hxi iL1 iH1 hcell hlo hhi hfour hat iA iB iC iD
              generalize (ps.take i').any (fun x => x.1 == l1) = b1 at *
              generalize (ps.take i').any (fun x => x.1 == h1) = b2 at *
              generalize (ps.take i').any (fun x => x.2 == l2) = b3 at *
              generalize (ps.take i').any (fun x => x.2 == h2) = b4 at *
              go_wp2
              go_quiet (fail)
              have hBB2 : Kept (Below w.heap.size w (wr.drewN nq)) := ⟨below_drewN hBB.out nq⟩
              have hcc2 : Kept (∀ j, j < m → (wr.drewN nq).cell? ⟨g, 0 + j, none⟩ = some (CP (ps.getD j p0))) := ⟨fun j hj => hcc.out j hj⟩
              generalize wr.drewN nq = w5 at *
              clear hcell'
              cases b1 <;> cases b2 <;> cases b3 <;> cases b4
              all_goals
                go_wp2
                go_roundw
                case rel => exact ⟨i' + 1, by omega, by go_num, (congrArg Value.bool T1.out).symm, (congrArg Value.bool T2.out).symm, (congrArg Value.bool T3.out).symm, (congrArg Value.bool T4.out).symm, hcc2, hBB2⟩
                case measure => simp [intOf]; omega
            · have hie : i' = m := by omega
              subst hie
              have e1 : ps.take i' = ps := List.take_of_length_le (by rw [hKl.out]; exact Nat.le_refl _)
              rw [e1]
              obtain ⟨r1, r2, r3, r4⟩ := hat.out
              rw [r1, r2, r3, r4]
              clear e1 r1 r2 r3 r4
              obtain ⟨a1, a2⟩ := a
              obtain ⟨b1, b2⟩ := b
              obtain ⟨c1, c2⟩ := c
              obtain ⟨d1, d2⟩ := d
              obtain ⟨l1, l2⟩ := L
              obtain ⟨h1, h2⟩ := H
              have B4 : ∀ (w : World) (bl : Nat), w.cell? ⟨bl, 0, none⟩ = some (C a1 a2) → w.cell? ⟨bl, 1, none⟩ = some (C b1 b2) → w.cell? ⟨bl, 2, none⟩ = some (C c1 c2) → w.cell? ⟨bl, 3, none⟩ = some (C d1 d2) →
                  Calls Try.prog 14 #[.slice (some ⟨bl, 0, none⟩) 4 4] w fun r w' => r = .returned (.tuple #[C l1 l2, C h1 h2, .bool true]) ∧ Below w.heap.size w w' := by
                intro w bl q1 q2 q3 q4
                have := Box_walk bl 0 4 4 [(a1, a2), (b1, b2), (c1, c2), (d1, d2)] (a1, a2) w rfl (by decide) (by decide) rfl (by
                  intro x hx
                  simp only [List.mem_cons, List.not_mem_nil, or_false] at hx
                  rcases hx with rfl | rfl | rfl | rfl
                  · exact iA.out
                  · exact iB.out
                  · exact iC.out
                  · exact iD.out) (by
                  intro j hj
                  rw [Nat.zero_add]
                  match j, hj with
                  | 0, _ => exact q1
                  | 1, _ => exact q2
                  | 2, _ => exact q3
                  | 3, _ => exact q4)
                rw [hfour.out.1, hfour.out.2] at this
                exact this
              have q1 : (FloatKind.f64.format.order (I l1) (I l1) == some Ordering.eq) = true := by rw [ord l1 l1 iL.out.1.abs iL.out.1.abs, cmp_eq]; rfl
              have q2 : (FloatKind.f64.format.order (I l2) (I l2) == some Ordering.eq) = true := by rw [ord l2 l2 iL.out.2.abs iL.out.2.abs, cmp_eq]; rfl
              have q3 : (FloatKind.f64.format.order (I h1) (I h1) == some Ordering.eq) = true := by rw [ord h1 h1 iH.out.1.abs iH.out.1.abs, cmp_eq]; rfl
              have q4 : (FloatKind.f64.format.order (I h2) (I h2) == some Ordering.eq) = true := by rw [ord h2 h2 iH.out.2.abs iH.out.2.abs, cmp_eq]; rfl
              clear hfour hlo hhi hat iA iB iC iD iL iH hcc hc3 hg3 hB3 hKp hKh hKl
              go_wp2_with (first
                | (go_at_call 14; refine (B4 _ _ (World.cell?_alloc_new _ _ _ _) (World.cell?_alloc_new _ _ _ _) (World.cell?_alloc_new _ _ _ _) (World.cell?_alloc_new _ _ _ _)).mono ?_; rintro e w6 ⟨rfl, hb6⟩; have hB6 := Kept.mk (bel_step (bel_alloc hBB.out _) hb6); clear hb6)
                | (go_at_call 13; (with_reducible refine (awake_walk _).mono ?_); rintro e w7 ⟨rfl, hb7⟩; have hB7 := Kept.mk (bel_step hB6.out hb7); clear hb7))
              all_goals (go_ret; exact ⟨rfl, hB7.out⟩)
end Go.Proofs.Ytlffbdfkanibcaa.Pt
