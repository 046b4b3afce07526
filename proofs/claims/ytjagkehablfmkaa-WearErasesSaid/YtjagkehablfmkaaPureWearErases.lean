/-
  The plain law of WearErases: what the Lean functions of wear and victim compute, and that the law answers true at every input. No condition.
-/
import Derived.Test.YtjagkehablfmkaaPWearErasesx
namespace Go.Proofs.Ytjagkehablfmkaa.PWearErases
open Go.RowKit Go.Proofs.YtjagkehablfmkaaW.PrintWords Go.Proofs.YtjagkehablfmkaaW.PrintLast Go.Proofs.YtjagkehablfmkaaW.PrintMore
set_option linter.unusedVariables false

-- plain facts: the scan for the first one of the least value of s * wear, and what is told of it
theorem wid (x : Int) (h : -9223372036854775808 ≤ x ∧ x ≤ 9223372036854775807) : wrap64 x = x := by unfold wrap64; omega

def goodAt (good : List Bool) (i : Nat) : Bool := good.getD i false
def at_ (ws : List Int) (i : Nat) : Int := ws.getD i 0

def Spec (s : Int) (ws : List Int) (good : List Bool) (k : Nat) (m : Int) : Prop :=
  (m = -1 ∧ ∀ i, i < k → goodAt good i = false) ∨
  (∃ j : Nat, j < k ∧ m = j ∧ goodAt good j = true ∧ ∀ i, i < k → goodAt good i = true → s * at_ ws j ≤ s * at_ ws i ∧ (i < j → s * at_ ws j < s * at_ ws i))

theorem Spec.one {s : Int} {ws : List Int} {good : List Bool} {k : Nat} {m m' : Int} (h : Spec s ws good k m) (h' : Spec s ws good k m') : m = m' := by
  rcases h with ⟨rfl, h⟩ | ⟨j, hj, rfl, hg, h⟩
  · rcases h' with ⟨rfl, _⟩ | ⟨j', hj', rfl, hg', _⟩
    · rfl
    · rw [h j' hj'] at hg'; cases hg'
  · rcases h' with ⟨rfl, h'⟩ | ⟨j', hj', rfl, hg', h'⟩
    · rw [h' j hj] at hg; cases hg
    · have a := h j' hj' hg'
      have b := h' j hj hg
      have : ¬ j < j' := fun c => by have := b.2 c; omega
      have : ¬ j' < j := fun c => by have := a.2 c; omega
      omega

def scanTo (s : Int) (ws : List Int) (good : List Bool) : Nat → Int
  | 0 => -1
  | i + 1 => if goodAt good i = true then (if scanTo s ws good i < 0 then (i : Int) else if s * at_ ws i < s * at_ ws (scanTo s ws good i).toNat then (i : Int) else scanTo s ws good i) else scanTo s ws good i

theorem scan_spec (s : Int) (ws : List Int) (good : List Bool) (k : Nat) : Spec s ws good k (scanTo s ws good k) := by
  induction k with
  | zero => exact .inl ⟨rfl, fun i h => by omega⟩
  | succ k ih =>
    rw [scanTo]
    by_cases hg : goodAt good k = true
    · rw [if_pos hg]
      rcases ih with ⟨e, h⟩ | ⟨j, hj, e, hgj, h⟩
      · rw [e, if_pos (by omega)]
        refine .inr ⟨k, by omega, rfl, hg, fun i hi hgi => ?_⟩
        have : i = k := by
          rcases Nat.lt_or_ge i k with c | c
          · rw [h i c] at hgi; cases hgi
          · omega
        subst this
        exact ⟨Int.le_refl _, fun c => by omega⟩
      · rw [e, if_neg (by omega), Int.toNat_natCast]
        by_cases c : s * at_ ws k < s * at_ ws j
        · rw [if_pos c]
          refine .inr ⟨k, by omega, rfl, hg, fun i hi hgi => ?_⟩
          rcases Nat.lt_or_ge i k with d | d
          · have := (h i d hgi).1; exact ⟨by omega, fun _ => by omega⟩
          · have : i = k := by omega
            subst this
            exact ⟨Int.le_refl _, fun c => by omega⟩
        · rw [if_neg c]
          refine .inr ⟨j, by omega, rfl, hgj, fun i hi hgi => ?_⟩
          rcases Nat.lt_or_ge i k with d | d
          · exact h i d hgi
          · have : i = k := by omega
            subst this
            exact ⟨by omega, fun c => by omega⟩
    · rw [if_neg hg]
      rcases ih with ⟨e, h⟩ | ⟨j, hj, e, hgj, h⟩
      · refine .inl ⟨e, fun i hi => ?_⟩
        rcases Nat.lt_or_ge i k with d | d
        · exact h i d
        · have : i = k := by omega
          subst this
          exact Bool.eq_false_iff.mpr hg
      · refine .inr ⟨j, by omega, e, hgj, fun i hi hgi => ?_⟩
        rcases Nat.lt_or_ge i k with d | d
        · exact h i d hgi
        · have : i = k := by omega
          subst this
          exact absurd hgi hg

theorem scan_range (s : Int) (ws : List Int) (good : List Bool) (k : Nat) : -1 ≤ scanTo s ws good k ∧ scanTo s ws good k < k := by
  rcases scan_spec s ws good k with ⟨e, _⟩ | ⟨j, hj, e, _⟩ <;> rw [e] <;> omega

theorem good_len {good : List Bool} {i : Nat} (h : good.length ≤ i) : goodAt good i = false := by
  unfold goodAt
  rw [List.getD_eq_getElem?_getD, List.getElem?_eq_none h]
  rfl

theorem scan_stop (s : Int) (ws : List Int) (good : List Bool) (k d : Nat) (h : good.length ≤ k) : scanTo s ws good (k + d) = scanTo s ws good k := by
  induction d with
  | zero => rfl
  | succ d ih => rw [← Nat.add_assoc, scanTo, if_neg (by rw [good_len (by omega)]; decide), ih]

theorem bestL_from (ws : List Int) (good : List Bool) (hn : ws.length ≤ 1000) (d : Nat) : ∀ (k i : Nat), i + d = ws.length → d < k → wear_bestL.l0 k ws good (scanTo 1 ws good i) i = some (scanTo 1 ws good ws.length) := by
  induction d with
  | zero =>
    intro k i hi hk
    obtain ⟨k, rfl⟩ : ∃ m, k = m + 1 := ⟨k - 1, by omega⟩
    simp only [wear_bestL.l0]
    rw [if_neg (by omega), show i = ws.length by omega]
  | succ d ih =>
    intro k i hi hk
    obtain ⟨k, rfl⟩ : ∃ m, k = m + 1 := ⟨k - 1, by omega⟩
    have r := scan_range 1 ws good i
    have n := ih k (i + 1) (by omega) (by omega)
    rw [show ((i + 1 : Nat) : Int) = (i : Int) + 1 by omega] at n
    simp only [wear_bestL.l0]
    rw [if_pos (by omega), if_pos (by omega), wid ((i : Int) + 1) (by omega)]
    have e : rdOf false good (i : Int) = goodAt good i := by unfold rdOf goodAt; rw [Int.toNat_natCast]
    by_cases hg : goodAt good i = true
    · have hl : i < good.length := by
        rcases Nat.lt_or_ge i good.length with c | c
        · exact c
        · rw [good_len c] at hg; cases hg
      rw [if_pos (by omega), e, if_pos hg]
      rw [scanTo, if_pos hg] at n
      by_cases c : scanTo 1 ws good i < 0
      · rw [if_pos c] at n ⊢; exact n
      · rw [if_neg c] at n ⊢
        rw [if_pos (by omega)]
        have q : (decide (rd ws (i : Int) < rd ws (scanTo 1 ws good i)) = true) = (1 * at_ ws i < 1 * at_ ws (scanTo 1 ws good i).toNat) := by
          rw [Int.one_mul, Int.one_mul, decide_eq_true_eq]; unfold rd at_; rw [Int.toNat_natCast]
        by_cases c2 : 1 * at_ ws i < 1 * at_ ws (scanTo 1 ws good i).toNat
        · rw [if_pos (q ▸ c2)]; rw [if_pos c2] at n; exact n
        · rw [if_neg (q ▸ c2)]; rw [if_neg c2] at n; exact n
    · rw [scanTo, if_neg hg] at n
      by_cases hl : (i : Int) < (good.length : Int)
      · rw [if_pos hl, e, if_neg hg]; exact n
      · rw [if_neg hl]; exact n

theorem bestM_from (ws : List Int) (good : List Bool) (hn : ws.length ≤ 1000) (d : Nat) : ∀ (k i : Nat), i + d = ws.length → d < k → wear_bestM.l0 k ws good (scanTo (-1) ws good i) i = some (scanTo (-1) ws good ws.length) := by
  induction d with
  | zero =>
    intro k i hi hk
    obtain ⟨k, rfl⟩ : ∃ m, k = m + 1 := ⟨k - 1, by omega⟩
    simp only [wear_bestM.l0]
    rw [if_neg (by omega), show i = ws.length by omega]
  | succ d ih =>
    intro k i hi hk
    obtain ⟨k, rfl⟩ : ∃ m, k = m + 1 := ⟨k - 1, by omega⟩
    have r := scan_range (-1) ws good i
    have n := ih k (i + 1) (by omega) (by omega)
    rw [show ((i + 1 : Nat) : Int) = (i : Int) + 1 by omega] at n
    simp only [wear_bestM.l0]
    rw [if_pos (by omega), if_pos (by omega), wid ((i : Int) + 1) (by omega)]
    have e : rdOf false good (i : Int) = goodAt good i := by unfold rdOf goodAt; rw [Int.toNat_natCast]
    by_cases hg : goodAt good i = true
    · have hl : i < good.length := by
        rcases Nat.lt_or_ge i good.length with c | c
        · exact c
        · rw [good_len c] at hg; cases hg
      rw [if_pos (by omega), e, if_pos hg]
      rw [scanTo, if_pos hg] at n
      by_cases c : scanTo (-1) ws good i < 0
      · rw [if_pos c] at n ⊢; exact n
      · rw [if_neg c] at n ⊢
        rw [if_pos (by omega)]
        have q : (decide (rd ws (i : Int) > rd ws (scanTo (-1) ws good i)) = true) = (-1 * at_ ws i < -1 * at_ ws (scanTo (-1) ws good i).toNat) := by
          rw [decide_eq_true_eq]; unfold rd at_; rw [Int.toNat_natCast]
          exact propext ⟨fun _ => by omega, fun _ => by omega⟩
        by_cases c2 : -1 * at_ ws i < -1 * at_ ws (scanTo (-1) ws good i).toNat
        · rw [if_pos (q ▸ c2)]; rw [if_pos c2] at n; exact n
        · rw [if_neg (q ▸ c2)]; rw [if_neg c2] at n; exact n
    · rw [scanTo, if_neg hg] at n
      by_cases hl : (i : Int) < (good.length : Int)
      · rw [if_pos hl, e, if_neg hg]; exact n
      · rw [if_neg hl]; exact n

def leastV (ws : List Int) (good : List Bool) : Int := scanTo 1 ws good ws.length
def mostV (ws : List Int) (good : List Bool) : Int := scanTo (-1) ws good ws.length
def spreadV (ws : List Int) (good : List Bool) : Int := if leastV ws good < 0 then 0 else at_ ws (mostV ws good).toNat - at_ ws (leastV ws good).toNat

theorem least_f (k : Nat) (ws : List Int) (good : List Bool) (hn : ws.length ≤ 1000) (hk : ws.length < k) : wear_Least.f k ws good = some (leastV ws good) :=
  bestL_from ws good hn ws.length k 0 (by omega) hk
theorem most_f (k : Nat) (ws : List Int) (good : List Bool) (hn : ws.length ≤ 1000) (hk : ws.length < k) : wear_Most.f k ws good = some (mostV ws good) :=
  bestM_from ws good hn ws.length k 0 (by omega) hk

theorem both (ws : List Int) (good : List Bool) : (leastV ws good = -1 ∧ mostV ws good = -1) ∨ (0 ≤ leastV ws good ∧ leastV ws good < ws.length ∧ 0 ≤ mostV ws good ∧ mostV ws good < ws.length) := by
  unfold leastV mostV
  rcases scan_spec 1 ws good ws.length with ⟨e, h⟩ | ⟨j, hj, e, hg, h⟩
  · rcases scan_spec (-1) ws good ws.length with ⟨e', h'⟩ | ⟨j', hj', e', hg', h'⟩
    · exact .inl ⟨e, e'⟩
    · rw [h j' hj'] at hg'; cases hg'
  · rcases scan_spec (-1) ws good ws.length with ⟨e', h'⟩ | ⟨j', hj', e', hg', h'⟩
    · rw [h' j hj] at hg; cases hg
    · rw [e, e']; exact .inr (by omega)

def Small (ws : List Int) : Prop := ∀ i : Nat, 0 ≤ at_ ws i ∧ at_ ws i ≤ 4294967296

theorem spread_f (k : Nat) (ws : List Int) (good : List Bool) (hn : ws.length ≤ 1000) (hk : ws.length < k) (hs : Small ws) : wear_Spread.f k ws good = some (spreadV ws good) := by
  unfold wear_Spread.f spreadV
  rw [least_f k ws good hn hk, Option.bind_some, most_f k ws good hn hk, Option.bind_some]
  rcases both ws good with ⟨a, b⟩ | ⟨a, b, c, d⟩
  · rw [if_pos (show leastV ws good < 0 by omega), if_pos (show leastV ws good < 0 by omega)]
  · rw [if_neg (show ¬ leastV ws good < 0 by omega), if_pos c, if_pos d, if_pos a, if_pos b, if_neg (show ¬ leastV ws good < 0 by omega)]
    have x := hs (mostV ws good).toNat
    have y := hs (leastV ws good).toNat
    unfold at_ at x y
    unfold rd at_
    rw [wid _ (by omega)]

theorem due_f (k : Nat) (ws : List Int) (good : List Bool) (t : Int) (hn : ws.length ≤ 1000) (hk : ws.length < k) (hs : Small ws) : wear_Due.f k ws good t = some (decide (spreadV ws good > t)) := by
  unfold wear_Due.f
  rw [spread_f k ws good hn hk hs]
  rfl

def lowI (n x : Int) : Int := IntKind.u64.wrap x % n
theorem lowI_range (n x : Int) (h : 1 ≤ n) : 0 ≤ lowI n x ∧ lowI n x < n := ⟨Int.emod_nonneg _ (by omega), Int.emod_lt_of_pos _ (by omega)⟩
theorem low_one (x n : Int) (h0 : 1 ≤ n) (h1 : n ≤ 4294967296) : jotterlaw0_Low.f x n = some (lowI n x) := by
  unfold jotterlaw0_Low.f
  have e : IntKind.u64.wrap n = n := by
    show n % 18446744073709551616 = n
    omega
  have hx : 0 ≤ IntKind.u64.wrap x := by
    show 0 ≤ x % 18446744073709551616
    omega
  rw [e, if_neg (by omega), Int.tmod_eq_emod_of_nonneg hx]
  have := lowI_range n x h0
  unfold lowI at this ⊢
  rw [wid _ (by omega)]

theorem small_map (f : Int → Int) (ws : List Int) (h : ∀ x, 0 ≤ f x ∧ f x ≤ 4294967296) : Small (ws.map f) := by
  intro i
  unfold at_
  rw [List.getD_eq_getElem?_getD, List.getElem?_map]
  cases ws[i]? with
  | none => show 0 ≤ (0 : Int) ∧ (0 : Int) ≤ 4294967296; omega
  | some x => exact h x


theorem low_from (ws : List Int) (hn : ws.length ≤ 1000) (d : Nat) : ∀ (k i : Nat), i + d = ws.length → d < k → jotterlaw11_low.l0 k ws ((ws.take i).map (lowI 1073741824)) i = some (ws.map (lowI 1073741824)) := by
  induction d with
  | zero =>
    intro k i hi hk
    obtain ⟨k, rfl⟩ : ∃ m, k = m + 1 := ⟨k - 1, by omega⟩
    simp only [jotterlaw11_low.l0]
    rw [if_neg (by omega), List.take_of_length_le (by omega)]
  | succ d ih =>
    intro k i hi hk
    obtain ⟨k, rfl⟩ : ∃ m, k = m + 1 := ⟨k - 1, by omega⟩
    have n := ih k (i + 1) (by omega) (by omega)
    rw [show ((i + 1 : Nat) : Int) = (i : Int) + 1 by omega, List.take_succ_eq_append_getElem (by omega), List.map_append, List.map_singleton] at n
    simp only [jotterlaw11_low.l0]
    have e : rd ws (i : Int) = ws[i]'(by omega) := by
      unfold rd
      rw [Int.toNat_natCast, List.getD_eq_getElem?_getD, List.getElem?_eq_getElem (by omega)]
      rfl
    rw [if_pos (by omega), if_pos (by omega), low_one _ _ (by omega) (by omega), Option.bind_some, e, if_pos (by rw [List.length_map, List.length_take]; omega), wid _ (by omega)]
    exact n

theorem lows_f (k : Nat) (ws : List Int) (hn : ws.length ≤ 1000) (hk : ws.length < k) : jotterlaw11_low.f k ws = some (ws.map (lowI 1073741824)) :=
  low_from ws hn ws.length k 0 (by omega) hk

theorem lows_small (ws : List Int) : Small (ws.map (lowI 1073741824)) := small_map _ _ fun x => by have := lowI_range 1073741824 x (by omega); omega
theorem lows_len (ws : List Int) : (ws.map (lowI 1073741824)).length = ws.length := List.length_map ..

theorem awake_f (k : Nat) (hk : 10 ≤ k) : jotterlaw11_awake.f k = some true :=
  at_rounds (g := jotterlaw11_awake.f) jotterlaw11_awake.mono hk (by decide +kernel)

theorem at_set (xs : List Int) (i j : Nat) (v : Int) (h : i < xs.length) : at_ (xs.set i v) j = if j = i then v else at_ xs j := by
  unfold at_
  rw [List.getD_eq_getElem?_getD, List.getElem?_set]
  by_cases c : i = j
  · rw [if_pos c, if_pos h, if_pos c.symm]; rfl
  · rw [if_neg c, if_neg (fun h' => c h'.symm), List.getD_eq_getElem?_getD]

theorem at_big (xs : List Int) (j : Nat) (h : xs.length ≤ j) : at_ xs j = 0 := by
  unfold at_
  rw [List.getD_eq_getElem?_getD, List.getElem?_eq_none h]
  rfl

theorem Spec.congr {s : Int} {v a : List Int} {good : List Bool} {n : Nat} {m : Int} (h : Spec s v good n m)
    (hc : ∀ i j, i < n → j < n → goodAt good i = true → goodAt good j = true → s * at_ a j - s * at_ a i = s * at_ v j - s * at_ v i) : Spec s a good n m := by
  rcases h with h | ⟨j, hj, e, hg, h⟩
  · exact .inl h
  · refine .inr ⟨j, hj, e, hg, fun i hi hgi => ?_⟩
    have a := h i hi hgi
    have b := hc i j hi hj hgi hg
    exact ⟨by omega, fun c => by have := a.2 c; omega⟩

theorem least_congr {v a : List Int} {good : List Bool} (hl : a.length = v.length) (hc : ∀ i j, i < v.length → j < v.length → goodAt good i = true → goodAt good j = true → at_ a j - at_ a i = at_ v j - at_ v i) : leastV a good = leastV v good ∧ mostV a good = mostV v good := by
  unfold leastV mostV
  rw [hl]
  exact ⟨Spec.one (scan_spec 1 a good _) ((scan_spec 1 v good _).congr fun i j hi hj gi gj => by have := hc i j hi hj gi gj; omega),
    Spec.one (scan_spec (-1) a good _) ((scan_spec (-1) v good _).congr fun i j hi hj gi gj => by have := hc i j hi hj gi gj; omega)⟩

/-- Either none is good, or the least and the greatest are two good ones between which all good ones lie. -/
theorem ends (v : List Int) (good : List Bool) : (leastV v good = -1 ∧ mostV v good = -1 ∧ spreadV v good = 0 ∧ ∀ i, i < v.length → goodAt good i = false) ∨
    ∃ lo hi : Nat, lo < v.length ∧ hi < v.length ∧ leastV v good = lo ∧ mostV v good = hi ∧ goodAt good lo = true ∧ goodAt good hi = true ∧ spreadV v good = at_ v hi - at_ v lo ∧
      ∀ i, i < v.length → goodAt good i = true → at_ v lo ≤ at_ v i ∧ at_ v i ≤ at_ v hi := by
  unfold spreadV
  rcases both v good with ⟨a, b⟩ | ⟨a, b, c, d⟩
  · refine .inl ⟨a, b, by rw [if_pos (by omega)], ?_⟩
    unfold leastV at a
    rcases scan_spec 1 v good v.length with ⟨_, h⟩ | ⟨j, hj, e, hg, h⟩
    · exact h
    · rw [e] at a; omega
  · unfold leastV mostV at *
    rcases scan_spec 1 v good v.length with ⟨e, h⟩ | ⟨j, hj, e, hg, h⟩
    · omega
    · rcases scan_spec (-1) v good v.length with ⟨e', h'⟩ | ⟨j', hj', e', hg', h'⟩
      · omega
      · refine .inr ⟨j, j', hj, hj', e, e', hg, hg', ?_, fun i hi gi => ?_⟩
        · rw [e, e', if_neg (by omega), Int.toNat_natCast, Int.toNat_natCast]
        · have := (h i hi gi).1
          have := (h' i hi gi).1
          omega

theorem spread_is (v : List Int) (good : List Bool) (lo hi : Nat) (h1 : lo < v.length) (h2 : hi < v.length) (g1 : goodAt good lo = true) (g2 : goodAt good hi = true)
    (h : ∀ i, i < v.length → goodAt good i = true → at_ v lo ≤ at_ v i ∧ at_ v i ≤ at_ v hi) : spreadV v good = at_ v hi - at_ v lo := by
  rcases ends v good with ⟨_, _, _, h'⟩ | ⟨lo', hi', q1, q2, _, _, p1, p2, e, h'⟩
  · rw [h' lo h1] at g1; cases g1
  · have a := h lo' q1 p1
    have b := h hi' q2 p2
    have c := h' lo h1 g1
    have d := h' hi h2 g2
    omega


def cnt (good : List Bool) : Nat → Nat
  | 0 => 0
  | i + 1 => cnt good i + if goodAt good i = true then 1 else 0

theorem cnt_le (good : List Bool) (k : Nat) : cnt good k ≤ k := by
  induction k with
  | zero => exact Nat.le_refl _
  | succ k ih => rw [cnt]; split <;> omega

theorem cnt_stop (good : List Bool) (k d : Nat) (h : good.length ≤ k) : cnt good (k + d) = cnt good k := by
  induction d with
  | zero => rfl
  | succ d ih => rw [← Nat.add_assoc, cnt, if_neg (by rw [good_len (by omega)]; decide), ih]; rfl

theorem cnt_none (good : List Bool) (k : Nat) (h : cnt good k = 0) : ∀ i, i < k → goodAt good i = false := by
  induction k with
  | zero => intro i hi; omega
  | succ k ih =>
    intro i hi
    rw [cnt] at h
    by_cases g : goodAt good k = true
    · rw [if_pos g] at h; omega
    · rw [if_neg g] at h
      rcases Nat.lt_or_ge i k with c | c
      · exact ih (by omega) i c
      · have : i = k := by omega
        subst this
        exact Bool.eq_false_iff.mpr g

theorem cnt_few (good : List Bool) (k : Nat) (h : cnt good k < 2) : ∀ i j, i < k → j < k → goodAt good i = true → goodAt good j = true → i = j := by
  induction k with
  | zero => intro i j hi; omega
  | succ k ih =>
    intro i j hi hj gi gj
    rw [cnt] at h
    by_cases g : goodAt good k = true
    · rw [if_pos g] at h
      have z := cnt_none good k (by omega)
      have : ¬ i < k := fun c => by rw [z i c] at gi; cases gi
      have : ¬ j < k := fun c => by rw [z j c] at gj; cases gj
      omega
    · rw [if_neg g] at h
      have : i ≠ k := fun c => g (c ▸ gi)
      have : j ≠ k := fun c => g (c ▸ gj)
      exact ih (by omega) i j (by omega) (by omega) gi gj

theorem cnt_one (good : List Bool) (k : Nat) (h : 1 ≤ cnt good k) : ∃ j, j < k ∧ goodAt good j = true := by
  induction k with
  | zero => rw [cnt] at h; omega
  | succ k ih =>
    rw [cnt] at h
    by_cases g : goodAt good k = true
    · exact ⟨k, by omega, g⟩
    · rw [if_neg g] at h
      obtain ⟨j, hj, gj⟩ := ih (by omega)
      exact ⟨j, by omega, gj⟩

theorem cnt_many (good : List Bool) (k : Nat) (h : 2 ≤ cnt good k) (i : Nat) : ∃ j, j < k ∧ j ≠ i ∧ goodAt good j = true := by
  induction k with
  | zero => rw [cnt] at h; omega
  | succ k ih =>
    rw [cnt] at h
    by_cases g : goodAt good k = true
    · rw [if_pos g] at h
      by_cases c : k = i
      · obtain ⟨j, hj, gj⟩ := cnt_one good k (by omega)
        exact ⟨j, by omega, by omega, gj⟩
      · exact ⟨k, by omega, c, g⟩
    · rw [if_neg g] at h
      obtain ⟨j, hj, ne, gj⟩ := ih (by omega)
      exact ⟨j, by omega, ne, gj⟩

theorem last (k : Nat) (v a b : List Int) (good : List Bool) (lo hi : Nat) (hk : 100 ≤ k) (hn : v.length ≤ 40) (hv : ∀ i, 0 ≤ at_ v i ∧ at_ v i ≤ 1073741824)
    (q1 : lo < v.length) (q2 : hi < v.length) (g1 : goodAt good lo = true) (g2 : goodAt good hi = true) (e3 : spreadV v good = at_ v hi - at_ v lo) (h : ∀ i, i < v.length → goodAt good i = true → at_ v lo ≤ at_ v i ∧ at_ v i ≤ at_ v hi)
    (ha : a.length = v.length) (hb : b.length = v.length) (ha' : ∀ j, at_ a j = if j = lo then at_ v lo + 1 else at_ v j) (hb' : ∀ j, at_ b j = if j = hi then at_ v hi + 1 else at_ v j) :
    jotterlaw11_WearErases.l0 (k + 1) v good lo hi (spreadV v good) a b (cnt good v.length) (mn (v.length : Int) (good.length : Int)) = some true := by
  have sa : Small a := fun i => by rw [ha' i]; have := hv i; have := hv lo; split <;> omega
  have sb : Small b := fun i => by rw [hb' i]; have := hv i; have := hv hi; split <;> omega
  have x := hv lo
  have y := hv hi
  have pa : spreadV a good ≤ mx (spreadV v good) 1 := by
    unfold mx
    rcases ends a good with ⟨_, _, e, _⟩ | ⟨l, m, r1, r2, _, _, p1, p2, e, _⟩
    · rw [e]; split <;> omega
    · have b1 := h l (by omega) p1
      have b2 := h m (by omega) p2
      have : at_ v lo ≤ at_ a l := by rw [ha' l]; split <;> omega
      have : at_ a m ≤ at_ v hi ∨ at_ a m = at_ v lo + 1 := by
        rw [ha' m]
        split
        · exact .inr rfl
        · exact .inl (by omega)
      rw [e]
      split <;> omega
  conv => lhs; unfold jotterlaw11_WearErases.l0
  rw [if_neg (by omega), if_pos (by omega), if_pos (by omega), if_pos (by omega), if_pos (by omega)]
  have er : ∀ i : Nat, rd v (i : Int) = at_ v i := fun i => by unfold rd at_; rw [Int.toNat_natCast]
  rw [er, er, wid (at_ v hi - at_ v lo) (by omega), if_pos e3, spread_f k a good (by omega) (by omega) sa, Option.bind_some, if_pos pa, spread_f k b good (by omega) (by omega) sb, awake_f k (by omega), wid (spreadV v good + 1) (by omega)]
  by_cases c : cnt good v.length < 2
  · rw [if_pos (by omega), Option.bind_some, if_pos, Option.bind_some]
    have : hi = lo := cnt_few good v.length c hi lo q2 q1 g2 g1
    rw [spread_is b good lo lo (by omega) (by omega) g1 g1 (fun i hi' gi => by
      have : i = lo := cnt_few good v.length c i lo (by omega) q1 gi g1
      subst this
      exact ⟨Int.le_refl _, Int.le_refl _⟩)]
    omega
  · rw [if_neg (by omega), if_pos (by omega), Option.bind_some, if_pos, Option.bind_some]
    have top : at_ b hi = at_ v hi + 1 := by rw [hb' hi, if_pos rfl]
    by_cases d : lo = hi
    · obtain ⟨j, hj, ne, gj⟩ := cnt_many good v.length (by omega) hi
      have bj : at_ b j = at_ v j := by rw [hb' j, if_neg ne]
      have := h j hj gj
      rw [spread_is b good j hi (by omega) (by omega) gj g2 (fun i hi' gi => by
        have := h i (by omega) gi
        rw [top, bj, hb' i]
        subst d
        split <;> omega), top, bj, e3]
      subst d
      omega
    · have bl : at_ b lo = at_ v lo := by rw [hb' lo, if_neg d]
      rw [spread_is b good lo hi (by omega) (by omega) g1 g2 (fun i hi' gi => by
        have := h i (by omega) gi
        rw [top, bl, hb' i]
        split <;> omega), top, bl, e3]
      omega

theorem loop_f (v a b : List Int) (good : List Bool) (lo hi : Nat) (hn : v.length ≤ 40) (hv : ∀ i, 0 ≤ at_ v i ∧ at_ v i ≤ 1073741824)
    (q1 : lo < v.length) (q2 : hi < v.length) (g1 : goodAt good lo = true) (g2 : goodAt good hi = true) (e3 : spreadV v good = at_ v hi - at_ v lo) (h : ∀ i, i < v.length → goodAt good i = true → at_ v lo ≤ at_ v i ∧ at_ v i ≤ at_ v hi)
    (ha : a.length = v.length) (hb : b.length = v.length) (ha' : ∀ j, at_ a j = if j = lo then at_ v lo + 1 else at_ v j) (hb' : ∀ j, at_ b j = if j = hi then at_ v hi + 1 else at_ v j) (d : Nat) :
    ∀ (k i : Nat), ((i + d : Nat) : Int) = mn (v.length : Int) (good.length : Int) → d + 100 < k → jotterlaw11_WearErases.l0 k v good lo hi (spreadV v good) a b (cnt good i) i = some true := by
  have er : ∀ i : Nat, rd v (i : Int) = at_ v i := fun i => by unfold rd at_; rw [Int.toNat_natCast]
  have hmn : mn (v.length : Int) (good.length : Int) ≤ v.length ∧ mn (v.length : Int) (good.length : Int) ≤ good.length ∧ (mn (v.length : Int) (good.length : Int) = v.length ∨ mn (v.length : Int) (good.length : Int) = good.length) := by unfold mn; split <;> omega
  induction d with
  | zero =>
    intro k i hi' hk
    obtain ⟨k, rfl⟩ : ∃ m, k = m + 1 := ⟨k - 1, by omega⟩
    have hc : cnt good i = cnt good v.length := by
      rcases hmn.2.2 with e | e
      · rw [show i = v.length by omega]
      · have := cnt_stop good i (v.length - i) (by omega)
        rw [show i + (v.length - i) = v.length by omega] at this
        exact this.symm
    rw [hc, show (i : Int) = mn (v.length : Int) (good.length : Int) by omega]
    exact last k v a b good lo hi (by omega) hn hv q1 q2 g1 g2 e3 h ha hb ha' hb'
  | succ d ih =>
    intro k i hi' hk
    obtain ⟨k, rfl⟩ : ∃ m, k = m + 1 := ⟨k - 1, by omega⟩
    have n := ih k (i + 1) (by omega) (by omega)
    have hc := cnt_le good i
    rw [cnt, show ((i + 1 : Nat) : Int) = (i : Int) + 1 by omega] at n
    conv => lhs; unfold jotterlaw11_WearErases.l0
    have e0 : rdOf false good (i : Int) = goodAt good i := by unfold rdOf goodAt; rw [Int.toNat_natCast]
    rw [if_pos (by omega), if_pos (by omega), if_pos (by omega), e0, wid ((i : Int) + 1) (by omega)]
    by_cases g : goodAt good i = true
    · have hb := h i (by omega) g
      rw [if_pos g, if_pos (by omega), if_pos (by omega), if_pos (by omega), er, er, er, if_neg (by omega), if_pos (by omega), if_pos (by omega), if_neg (by omega), wid (((cnt good i : Nat) : Int) + 1) (by omega)]
      rw [if_pos g, show ((cnt good i + 1 : Nat) : Int) = (cnt good i : Int) + 1 by omega] at n
      exact n
    · rw [if_neg g]
      rw [if_neg g, Nat.add_zero] at n
      exact n

theorem j0_f (k : Nat) (ws : List Int) (good : List Bool) (b : Bool) (h : b = false → ws.length ≤ 40) (hk : 400 ≤ k) : jotterlaw11_WearErases.j0 (k + 1) ws good b = some true := by
  simp only [jotterlaw11_WearErases.j0]
  cases b with
  | true => rw [if_pos rfl, awake_f k (by omega)]; rfl
  | false =>
    have hn := h rfl
    have hl := lows_len ws
    have hs : ∀ i, 0 ≤ at_ (ws.map (lowI 1073741824)) i ∧ at_ (ws.map (lowI 1073741824)) i ≤ 1073741824 := fun i => by
      unfold at_
      rw [List.getD_eq_getElem?_getD, List.getElem?_map]
      cases ws[i]? with
      | none => show 0 ≤ (0 : Int) ∧ (0 : Int) ≤ 1073741824; omega
      | some x => have := lowI_range 1073741824 x (by omega); exact ⟨this.1, by show lowI 1073741824 x ≤ 1073741824; omega⟩
    rw [if_neg (by decide), lows_f k ws (by omega) (by omega), Option.bind_some]
    generalize ws.map (lowI 1073741824) = v at hl hs
    have sv : Small v := fun i => by have := hs i; omega
    rw [least_f k v good (by omega) (by omega), most_f k v good (by omega) (by omega)]
    simp only [Option.bind_some]
    obtain ⟨k, rfl⟩ : ∃ m, k = m + 1 := ⟨k - 1, by omega⟩
    rcases ends v good with ⟨e1, e2, e3, _⟩ | ⟨lo, hi, q1, q2, e1, e2, g1, g2, e3, h⟩
    · rw [e1, e2, if_pos (by omega)]
      simp only [jotterlaw11_WearErases.j1]
      rw [if_pos trivial, if_pos trivial, if_pos trivial, spread_f k v good (by omega) (by omega) sv, Option.bind_some, if_pos e3, awake_f k (by omega)]
      rfl
    · rw [e1, e2, if_neg (by omega), if_neg (by omega), if_neg (by omega), decide_eq_false (by omega)]
      simp only [jotterlaw11_WearErases.j1]
      have er : ∀ i : Nat, rd v (i : Int) = at_ v i := fun i => by unfold rd at_; rw [Int.toNat_natCast]
      have x := hs lo
      have y := hs hi
      rw [if_neg (by decide), spread_f k v good (by omega) (by omega) sv, Option.bind_some, if_pos (by rw [List.length_nil]; omega), List.nil_append, Option.bind_some, if_pos (by omega), if_pos (by omega), Option.bind_some, if_pos (by omega), if_pos (by omega), er, er, wid (at_ v lo + 1) (by omega), wid (at_ v hi + 1) (by omega), Int.toNat_natCast, Int.toNat_natCast]
      obtain ⟨d, hd⟩ : ∃ d : Nat, (d : Int) = mn (v.length : Int) (good.length : Int) := ⟨(mn (v.length : Int) (good.length : Int)).toNat, by unfold mn; split <;> omega⟩
      have hd' : d ≤ v.length := by unfold mn at hd; split at hd <;> omega
      exact loop_f v _ _ good lo hi (by omega) hs q1 q2 g1 g2 e3 h (List.length_set ..) (List.length_set ..) (fun j => at_set v lo j _ q1) (fun j => at_set v hi j _ q2) d k 0 (by omega) (by omega)

theorem pure (ws : List Int) (good : List Bool) : ∃ k, jotterlaw11_WearErases.f k ws good = some true := by
  refine ⟨401, ?_⟩
  unfold jotterlaw11_WearErases.f
  by_cases c : (ws.length : Int) > 40
  · rw [if_pos c]
    exact j0_f 400 ws good true (fun h => by cases h) (by omega)
  · rw [if_neg c]
    exact j0_f 400 ws good _ (fun _ => by omega) (by omega)

end Go.Proofs.Ytjagkehablfmkaa.PWearErases
