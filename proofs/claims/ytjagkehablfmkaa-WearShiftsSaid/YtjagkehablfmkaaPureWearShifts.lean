/-
  The plain law of WearShifts: what the Lean functions of wear and victim compute, and that the law answers true at every input. No condition.
-/
import Derived.Test.YtjagkehablfmkaaPWearShiftsx
namespace Go.Proofs.Ytjagkehablfmkaa.PWearShifts
open Go.RowKit Go.Proofs.YtjagkehablfmkaaW.PrintWords Go.Proofs.YtjagkehablfmkaaW.PrintLast Go.Proofs.YtjagkehablfmkaaW.PrintMore
set_option linter.unusedVariables false

-- plain facts: the scan for the first one of the least value of s * wear, and what is told of it
theorem wid (x : Int) (h : -9223372036854775808 ≤ x ∧ x ≤ 9223372036854775807) : wrap64 x = x := by unfold wrap64; omega

def goodAt (good : List Bool) (i : Nat) : Bool := good.getD i false
def at_ (ws : List Int) (i : Nat) : Int := ws.getD i 0

def Spec (s : Int) (ws : List Int) (good : List Bool) (k : Nat) (m : Int) : Prop :=
  (m = -1 ∧ ∀ i, i < k → goodAt good i = false) ∨
  (∃ j : Nat, j < k ∧ m = j ∧ goodAt good j = true ∧ ∀ i, i < k → goodAt good i = true → s * at_ ws j ≤ s * at_ ws i ∧ (i < j → s * at_ ws j < s * at_ ws i))

theorem Spec.one {s : Int} {ws : List Int} {good : List Bool} {k : Nat} {m m' : Int} (h : Spec s ws good k m) (h' : Spec s ws good k m') : m = m' := by
  rcases h with ⟨rfl, h⟩ | ⟨j, hj, rfl, hg, h⟩
  · rcases h' with ⟨rfl, _⟩ | ⟨j', hj', rfl, hg', _⟩
    · rfl
    · rw [h j' hj'] at hg'; cases hg'
  · rcases h' with ⟨rfl, h'⟩ | ⟨j', hj', rfl, hg', h'⟩
    · rw [h' j hj] at hg; cases hg
    · have a := h j' hj' hg'
      have b := h' j hj hg
      have : ¬ j < j' := fun c => by have := b.2 c; omega
      have : ¬ j' < j := fun c => by have := a.2 c; omega
      omega

def scanTo (s : Int) (ws : List Int) (good : List Bool) : Nat → Int
  | 0 => -1
  | i + 1 => if goodAt good i = true then (if scanTo s ws good i < 0 then (i : Int) else if s * at_ ws i < s * at_ ws (scanTo s ws good i).toNat then (i : Int) else scanTo s ws good i) else scanTo s ws good i

theorem scan_spec (s : Int) (ws : List Int) (good : List Bool) (k : Nat) : Spec s ws good k (scanTo s ws good k) := by
  induction k with
  | zero => exact .inl ⟨rfl, fun i h => by omega⟩
  | succ k ih =>
    rw [scanTo]
    by_cases hg : goodAt good k = true
    · rw [if_pos hg]
      rcases ih with ⟨e, h⟩ | ⟨j, hj, e, hgj, h⟩
      · rw [e, if_pos (by omega)]
        refine .inr ⟨k, by omega, rfl, hg, fun i hi hgi => ?_⟩
        have : i = k := by
          rcases Nat.lt_or_ge i k with c | c
          · rw [h i c] at hgi; cases hgi
          · omega
        subst this
        exact ⟨Int.le_refl _, fun c => by omega⟩
      · rw [e, if_neg (by omega), Int.toNat_natCast]
        by_cases c : s * at_ ws k < s * at_ ws j
        · rw [if_pos c]
          refine .inr ⟨k, by omega, rfl, hg, fun i hi hgi => ?_⟩
          rcases Nat.lt_or_ge i k with d | d
          · have := (h i d hgi).1; exact ⟨by omega, fun _ => by omega⟩
          · have : i = k := by omega
            subst this
            exact ⟨Int.le_refl _, fun c => by omega⟩
        · rw [if_neg c]
          refine .inr ⟨j, by omega, rfl, hgj, fun i hi hgi => ?_⟩
          rcases Nat.lt_or_ge i k with d | d
          · exact h i d hgi
          · have : i = k := by omega
            subst this
            exact ⟨by omega, fun c => by omega⟩
    · rw [if_neg hg]
      rcases ih with ⟨e, h⟩ | ⟨j, hj, e, hgj, h⟩
      · refine .inl ⟨e, fun i hi => ?_⟩
        rcases Nat.lt_or_ge i k with d | d
        · exact h i d
        · have : i = k := by omega
          subst this
          exact Bool.eq_false_iff.mpr hg
      · refine .inr ⟨j, by omega, e, hgj, fun i hi hgi => ?_⟩
        rcases Nat.lt_or_ge i k with d | d
        · exact h i d hgi
        · have : i = k := by omega
          subst this
          exact absurd hgi hg

theorem scan_range (s : Int) (ws : List Int) (good : List Bool) (k : Nat) : -1 ≤ scanTo s ws good k ∧ scanTo s ws good k < k := by
  rcases scan_spec s ws good k with ⟨e, _⟩ | ⟨j, hj, e, _⟩ <;> rw [e] <;> omega

theorem good_len {good : List Bool} {i : Nat} (h : good.length ≤ i) : goodAt good i = false := by
  unfold goodAt
  rw [List.getD_eq_getElem?_getD, List.getElem?_eq_none h]
  rfl

theorem scan_stop (s : Int) (ws : List Int) (good : List Bool) (k d : Nat) (h : good.length ≤ k) : scanTo s ws good (k + d) = scanTo s ws good k := by
  induction d with
  | zero => rfl
  | succ d ih => rw [← Nat.add_assoc, scanTo, if_neg (by rw [good_len (by omega)]; decide), ih]

theorem bestL_from (ws : List Int) (good : List Bool) (hn : ws.length ≤ 1000) (d : Nat) : ∀ (k i : Nat), i + d = ws.length → d < k → wear_bestL.l0 k ws good (scanTo 1 ws good i) i = some (scanTo 1 ws good ws.length) := by
  induction d with
  | zero =>
    intro k i hi hk
    obtain ⟨k, rfl⟩ : ∃ m, k = m + 1 := ⟨k - 1, by omega⟩
    simp only [wear_bestL.l0]
    rw [if_neg (by omega), show i = ws.length by omega]
  | succ d ih =>
    intro k i hi hk
    obtain ⟨k, rfl⟩ : ∃ m, k = m + 1 := ⟨k - 1, by omega⟩
    have r := scan_range 1 ws good i
    have n := ih k (i + 1) (by omega) (by omega)
    rw [show ((i + 1 : Nat) : Int) = (i : Int) + 1 by omega] at n
    simp only [wear_bestL.l0]
    rw [if_pos (by omega), if_pos (by omega), wid ((i : Int) + 1) (by omega)]
    have e : rdOf false good (i : Int) = goodAt good i := by unfold rdOf goodAt; rw [Int.toNat_natCast]
    by_cases hg : goodAt good i = true
    · have hl : i < good.length := by
        rcases Nat.lt_or_ge i good.length with c | c
        · exact c
        · rw [good_len c] at hg; cases hg
      rw [if_pos (by omega), e, if_pos hg]
      rw [scanTo, if_pos hg] at n
      by_cases c : scanTo 1 ws good i < 0
      · rw [if_pos c] at n ⊢; exact n
      · rw [if_neg c] at n ⊢
        rw [if_pos (by omega)]
        have q : (decide (rd ws (i : Int) < rd ws (scanTo 1 ws good i)) = true) = (1 * at_ ws i < 1 * at_ ws (scanTo 1 ws good i).toNat) := by
          rw [Int.one_mul, Int.one_mul, decide_eq_true_eq]; unfold rd at_; rw [Int.toNat_natCast]
        by_cases c2 : 1 * at_ ws i < 1 * at_ ws (scanTo 1 ws good i).toNat
        · rw [if_pos (q ▸ c2)]; rw [if_pos c2] at n; exact n
        · rw [if_neg (q ▸ c2)]; rw [if_neg c2] at n; exact n
    · rw [scanTo, if_neg hg] at n
      by_cases hl : (i : Int) < (good.length : Int)
      · rw [if_pos hl, e, if_neg hg]; exact n
      · rw [if_neg hl]; exact n

theorem bestM_from (ws : List Int) (good : List Bool) (hn : ws.length ≤ 1000) (d : Nat) : ∀ (k i : Nat), i + d = ws.length → d < k → wear_bestM.l0 k ws good (scanTo (-1) ws good i) i = some (scanTo (-1) ws good ws.length) := by
  induction d with
  | zero =>
    intro k i hi hk
    obtain ⟨k, rfl⟩ : ∃ m, k = m + 1 := ⟨k - 1, by omega⟩
    simp only [wear_bestM.l0]
    rw [if_neg (by omega), show i = ws.length by omega]
  | succ d ih =>
    intro k i hi hk
    obtain ⟨k, rfl⟩ : ∃ m, k = m + 1 := ⟨k - 1, by omega⟩
    have r := scan_range (-1) ws good i
    have n := ih k (i + 1) (by omega) (by omega)
    rw [show ((i + 1 : Nat) : Int) = (i : Int) + 1 by omega] at n
    simp only [wear_bestM.l0]
    rw [if_pos (by omega), if_pos (by omega), wid ((i : Int) + 1) (by omega)]
    have e : rdOf false good (i : Int) = goodAt good i := by unfold rdOf goodAt; rw [Int.toNat_natCast]
    by_cases hg : goodAt good i = true
    · have hl : i < good.length := by
        rcases Nat.lt_or_ge i good.length with c | c
        · exact c
        · rw [good_len c] at hg; cases hg
      rw [if_pos (by omega), e, if_pos hg]
      rw [scanTo, if_pos hg] at n
      by_cases c : scanTo (-1) ws good i < 0
      · rw [if_pos c] at n ⊢; exact n
      · rw [if_neg c] at n ⊢
        rw [if_pos (by omega)]
        have q : (decide (rd ws (i : Int) > rd ws (scanTo (-1) ws good i)) = true) = (-1 * at_ ws i < -1 * at_ ws (scanTo (-1) ws good i).toNat) := by
          rw [decide_eq_true_eq]; unfold rd at_; rw [Int.toNat_natCast]
          exact propext ⟨fun _ => by omega, fun _ => by omega⟩
        by_cases c2 : -1 * at_ ws i < -1 * at_ ws (scanTo (-1) ws good i).toNat
        · rw [if_pos (q ▸ c2)]; rw [if_pos c2] at n; exact n
        · rw [if_neg (q ▸ c2)]; rw [if_neg c2] at n; exact n
    · rw [scanTo, if_neg hg] at n
      by_cases hl : (i : Int) < (good.length : Int)
      · rw [if_pos hl, e, if_neg hg]; exact n
      · rw [if_neg hl]; exact n

def leastV (ws : List Int) (good : List Bool) : Int := scanTo 1 ws good ws.length
def mostV (ws : List Int) (good : List Bool) : Int := scanTo (-1) ws good ws.length
def spreadV (ws : List Int) (good : List Bool) : Int := if leastV ws good < 0 then 0 else at_ ws (mostV ws good).toNat - at_ ws (leastV ws good).toNat

theorem least_f (k : Nat) (ws : List Int) (good : List Bool) (hn : ws.length ≤ 1000) (hk : ws.length < k) : wear_Least.f k ws good = some (leastV ws good) :=
  bestL_from ws good hn ws.length k 0 (by omega) hk
theorem most_f (k : Nat) (ws : List Int) (good : List Bool) (hn : ws.length ≤ 1000) (hk : ws.length < k) : wear_Most.f k ws good = some (mostV ws good) :=
  bestM_from ws good hn ws.length k 0 (by omega) hk

theorem both (ws : List Int) (good : List Bool) : (leastV ws good = -1 ∧ mostV ws good = -1) ∨ (0 ≤ leastV ws good ∧ leastV ws good < ws.length ∧ 0 ≤ mostV ws good ∧ mostV ws good < ws.length) := by
  unfold leastV mostV
  rcases scan_spec 1 ws good ws.length with ⟨e, h⟩ | ⟨j, hj, e, hg, h⟩
  · rcases scan_spec (-1) ws good ws.length with ⟨e', h'⟩ | ⟨j', hj', e', hg', h'⟩
    · exact .inl ⟨e, e'⟩
    · rw [h j' hj'] at hg'; cases hg'
  · rcases scan_spec (-1) ws good ws.length with ⟨e', h'⟩ | ⟨j', hj', e', hg', h'⟩
    · rw [h' j hj] at hg; cases hg
    · rw [e, e']; exact .inr (by omega)

def Small (ws : List Int) : Prop := ∀ i : Nat, 0 ≤ at_ ws i ∧ at_ ws i ≤ 4294967296

theorem spread_f (k : Nat) (ws : List Int) (good : List Bool) (hn : ws.length ≤ 1000) (hk : ws.length < k) (hs : Small ws) : wear_Spread.f k ws good = some (spreadV ws good) := by
  unfold wear_Spread.f spreadV
  rw [least_f k ws good hn hk, Option.bind_some, most_f k ws good hn hk, Option.bind_some]
  rcases both ws good with ⟨a, b⟩ | ⟨a, b, c, d⟩
  · rw [if_pos (show leastV ws good < 0 by omega), if_pos (show leastV ws good < 0 by omega)]
  · rw [if_neg (show ¬ leastV ws good < 0 by omega), if_pos c, if_pos d, if_pos a, if_pos b, if_neg (show ¬ leastV ws good < 0 by omega)]
    have x := hs (mostV ws good).toNat
    have y := hs (leastV ws good).toNat
    unfold at_ at x y
    unfold rd at_
    rw [wid _ (by omega)]

theorem due_f (k : Nat) (ws : List Int) (good : List Bool) (t : Int) (hn : ws.length ≤ 1000) (hk : ws.length < k) (hs : Small ws) : wear_Due.f k ws good t = some (decide (spreadV ws good > t)) := by
  unfold wear_Due.f
  rw [spread_f k ws good hn hk hs]
  rfl

def lowI (n x : Int) : Int := IntKind.u64.wrap x % n
theorem lowI_range (n x : Int) (h : 1 ≤ n) : 0 ≤ lowI n x ∧ lowI n x < n := ⟨Int.emod_nonneg _ (by omega), Int.emod_lt_of_pos _ (by omega)⟩
theorem low_one (x n : Int) (h0 : 1 ≤ n) (h1 : n ≤ 4294967296) : jotterlaw0_Low.f x n = some (lowI n x) := by
  unfold jotterlaw0_Low.f
  have e : IntKind.u64.wrap n = n := by
    show n % 18446744073709551616 = n
    omega
  have hx : 0 ≤ IntKind.u64.wrap x := by
    show 0 ≤ x % 18446744073709551616
    omega
  rw [e, if_neg (by omega), Int.tmod_eq_emod_of_nonneg hx]
  have := lowI_range n x h0
  unfold lowI at this ⊢
  rw [wid _ (by omega)]

theorem small_map (f : Int → Int) (ws : List Int) (h : ∀ x, 0 ≤ f x ∧ f x ≤ 4294967296) : Small (ws.map f) := by
  intro i
  unfold at_
  rw [List.getD_eq_getElem?_getD, List.getElem?_map]
  cases ws[i]? with
  | none => show 0 ≤ (0 : Int) ∧ (0 : Int) ≤ 4294967296; omega
  | some x => exact h x


theorem low_from (ws : List Int) (hn : ws.length ≤ 1000) (d : Nat) : ∀ (k i : Nat), i + d = ws.length → d < k → jotterlaw11_low.l0 k ws ((ws.take i).map (lowI 1073741824)) i = some (ws.map (lowI 1073741824)) := by
  induction d with
  | zero =>
    intro k i hi hk
    obtain ⟨k, rfl⟩ : ∃ m, k = m + 1 := ⟨k - 1, by omega⟩
    simp only [jotterlaw11_low.l0]
    rw [if_neg (by omega), List.take_of_length_le (by omega)]
  | succ d ih =>
    intro k i hi hk
    obtain ⟨k, rfl⟩ : ∃ m, k = m + 1 := ⟨k - 1, by omega⟩
    have n := ih k (i + 1) (by omega) (by omega)
    rw [show ((i + 1 : Nat) : Int) = (i : Int) + 1 by omega, List.take_succ_eq_append_getElem (by omega), List.map_append, List.map_singleton] at n
    simp only [jotterlaw11_low.l0]
    have e : rd ws (i : Int) = ws[i]'(by omega) := by
      unfold rd
      rw [Int.toNat_natCast, List.getD_eq_getElem?_getD, List.getElem?_eq_getElem (by omega)]
      rfl
    rw [if_pos (by omega), if_pos (by omega), low_one _ _ (by omega) (by omega), Option.bind_some, e, if_pos (by rw [List.length_map, List.length_take]; omega), wid _ (by omega)]
    exact n

theorem lows_f (k : Nat) (ws : List Int) (hn : ws.length ≤ 1000) (hk : ws.length < k) : jotterlaw11_low.f k ws = some (ws.map (lowI 1073741824)) :=
  low_from ws hn ws.length k 0 (by omega) hk

theorem lows_small (ws : List Int) : Small (ws.map (lowI 1073741824)) := small_map _ _ fun x => by have := lowI_range 1073741824 x (by omega); omega
theorem lows_len (ws : List Int) : (ws.map (lowI 1073741824)).length = ws.length := List.length_map ..

theorem awake_f (k : Nat) (hk : 10 ≤ k) : jotterlaw11_awake.f k = some true :=
  at_rounds (g := jotterlaw11_awake.f) jotterlaw11_awake.mono hk (by decide +kernel)

theorem at_set (xs : List Int) (i j : Nat) (v : Int) (h : i < xs.length) : at_ (xs.set i v) j = if j = i then v else at_ xs j := by
  unfold at_
  rw [List.getD_eq_getElem?_getD, List.getElem?_set]
  by_cases c : i = j
  · rw [if_pos c, if_pos h, if_pos c.symm]; rfl
  · rw [if_neg c, if_neg (fun h' => c h'.symm), List.getD_eq_getElem?_getD]

theorem at_big (xs : List Int) (j : Nat) (h : xs.length ≤ j) : at_ xs j = 0 := by
  unfold at_
  rw [List.getD_eq_getElem?_getD, List.getElem?_eq_none h]
  rfl

theorem Spec.congr {s : Int} {v a : List Int} {good : List Bool} {n : Nat} {m : Int} (h : Spec s v good n m)
    (hc : ∀ i j, i < n → j < n → goodAt good i = true → goodAt good j = true → s * at_ a j - s * at_ a i = s * at_ v j - s * at_ v i) : Spec s a good n m := by
  rcases h with h | ⟨j, hj, e, hg, h⟩
  · exact .inl h
  · refine .inr ⟨j, hj, e, hg, fun i hi hgi => ?_⟩
    have a := h i hi hgi
    have b := hc i j hi hj hgi hg
    exact ⟨by omega, fun c => by have := a.2 c; omega⟩

theorem least_congr {v a : List Int} {good : List Bool} (hl : a.length = v.length) (hc : ∀ i j, i < v.length → j < v.length → goodAt good i = true → goodAt good j = true → at_ a j - at_ a i = at_ v j - at_ v i) : leastV a good = leastV v good ∧ mostV a good = mostV v good := by
  unfold leastV mostV
  rw [hl]
  exact ⟨Spec.one (scan_spec 1 a good _) ((scan_spec 1 v good _).congr fun i j hi hj gi gj => by have := hc i j hi hj gi gj; omega),
    Spec.one (scan_spec (-1) a good _) ((scan_spec (-1) v good _).congr fun i j hi hj gi gj => by have := hc i j hi hj gi gj; omega)⟩

/-- Either none is good, or the least and the greatest are two good ones between which all good ones lie. -/
theorem ends (v : List Int) (good : List Bool) : (leastV v good = -1 ∧ mostV v good = -1 ∧ spreadV v good = 0 ∧ ∀ i, i < v.length → goodAt good i = false) ∨
    ∃ lo hi : Nat, lo < v.length ∧ hi < v.length ∧ leastV v good = lo ∧ mostV v good = hi ∧ goodAt good lo = true ∧ goodAt good hi = true ∧ spreadV v good = at_ v hi - at_ v lo ∧
      ∀ i, i < v.length → goodAt good i = true → at_ v lo ≤ at_ v i ∧ at_ v i ≤ at_ v hi := by
  unfold spreadV
  rcases both v good with ⟨a, b⟩ | ⟨a, b, c, d⟩
  · refine .inl ⟨a, b, by rw [if_pos (by omega)], ?_⟩
    unfold leastV at a
    rcases scan_spec 1 v good v.length with ⟨_, h⟩ | ⟨j, hj, e, hg, h⟩
    · exact h
    · rw [e] at a; omega
  · unfold leastV mostV at *
    rcases scan_spec 1 v good v.length with ⟨e, h⟩ | ⟨j, hj, e, hg, h⟩
    · omega
    · rcases scan_spec (-1) v good v.length with ⟨e', h'⟩ | ⟨j', hj', e', hg', h'⟩
      · omega
      · refine .inr ⟨j, j', hj, hj', e, e', hg, hg', ?_, fun i hi gi => ?_⟩
        · rw [e, e', if_neg (by omega), Int.toNat_natCast, Int.toNat_natCast]
        · have := (h i hi gi).1
          have := (h' i hi gi).1
          omega

theorem spread_is (v : List Int) (good : List Bool) (lo hi : Nat) (h1 : lo < v.length) (h2 : hi < v.length) (g1 : goodAt good lo = true) (g2 : goodAt good hi = true)
    (h : ∀ i, i < v.length → goodAt good i = true → at_ v lo ≤ at_ v i ∧ at_ v i ≤ at_ v hi) : spreadV v good = at_ v hi - at_ v lo := by
  rcases ends v good with ⟨_, _, _, h'⟩ | ⟨lo', hi', q1, q2, _, _, p1, p2, e, h'⟩
  · rw [h' lo h1] at g1; cases g1
  · have a := h lo' q1 p1
    have b := h hi' q2 p2
    have c := h' lo h1 g1
    have d := h' hi h2 g2
    omega


theorem halve (v : List Int) (good : List Bool) (m t : Int) (hn : v.length ≤ 40) (hv : ∀ i, 0 ≤ at_ v i ∧ at_ v i ≤ 1073741824) (d : Nat) : ∀ (k i : Nat) (x : List Int), i + d = v.length → d < k → x.length = v.length → (∀ j, at_ x j = if j < i then at_ v j / 2 else at_ v j) →
    ∃ y : List Int, y.length = v.length ∧ (∀ j, at_ y j = at_ v j / 2) ∧ jotterlaw11_WearShifts.l0 k x good m t i = jotterlaw11_WearShifts.l0 (k - d) y good m t v.length := by
  induction d with
  | zero =>
    intro k i x hi hk hx hj
    refine ⟨x, hx, fun j => ?_, by rw [show i = v.length by omega]; rfl⟩
    rw [hj j]
    by_cases c : j < i
    · rw [if_pos c]
    · rw [if_neg c, at_big v j (by omega)]; rfl
  | succ d ih =>
    intro k i x hi hk hx hj
    obtain ⟨k, rfl⟩ : ∃ m, k = m + 1 := ⟨k - 1, by omega⟩
    have hr : rd x (i : Int) = at_ v i := by
      have := hj i
      rw [if_neg (by omega)] at this
      rw [← this]
      unfold rd at_
      rw [Int.toNat_natCast]
    have b := hv i
    obtain ⟨y, hy, hy', e⟩ := ih k (i + 1) (x.set i (at_ v i / 2)) (by omega) (by omega) (by rw [List.length_set]; exact hx) (fun j => by
      rw [at_set x i j _ (by omega), hj j]
      by_cases c : j = i
      · rw [if_pos c, if_pos (by omega), c]
      · rw [if_neg c]
        by_cases c2 : j < i
        · rw [if_pos c2, if_pos (by omega)]
        · rw [if_neg c2, if_neg (by omega)])
    refine ⟨y, hy, hy', ?_⟩
    rw [show k + 1 - (d + 1) = k - d by omega, ← e, show ((i + 1 : Nat) : Int) = (i : Int) + 1 by omega]
    conv => lhs; unfold jotterlaw11_WearShifts.l0
    rw [if_pos (by omega), if_pos (by omega), wid ((i : Int) + 1) (by omega), hr, Int.tdiv_eq_ediv_of_nonneg (by omega), wid (at_ v i / 2) (by omega), Int.toNat_natCast]

theorem shift (v : List Int) (good : List Bool) (m t : Int) (hn : v.length ≤ 40) (hv : ∀ i, 0 ≤ at_ v i ∧ at_ v i ≤ 1073741824) (hm : 0 ≤ m ∧ m ≤ 1073741824) (d : Nat) : ∀ (k i : Nat) (x y : List Int), i + d = v.length → d < k → x.length = v.length → y.length = v.length → (∀ j, at_ x j = if j < i then at_ v j + m else at_ v j) → (∀ j, at_ y j = if j < i ∧ goodAt good j = false then m else at_ v j) →
    ∃ a b : List Int, a.length = v.length ∧ b.length = v.length ∧ (∀ j, j < v.length → at_ a j = at_ v j + m) ∧ (∀ j, at_ b j = if j < v.length ∧ goodAt good j = false then m else at_ v j) ∧ jotterlaw11_WearShifts.l1 k v good m t x y i = jotterlaw11_WearShifts.l1 (k - d) v good m t a b v.length := by
  induction d with
  | zero =>
    intro k i x y hi hk hx hy hj hj'
    obtain rfl : i = v.length := by omega
    exact ⟨x, y, hx, hy, fun j h => by rw [hj j, if_pos h], hj', rfl⟩
  | succ d ih =>
    intro k i x y hi hk hx hy hj hj'
    obtain ⟨k, rfl⟩ : ∃ m, k = m + 1 := ⟨k - 1, by omega⟩
    have hr : rd x (i : Int) = at_ v i := by
      have := hj i
      rw [if_neg (by omega)] at this
      rw [← this]
      unfold rd at_
      rw [Int.toNat_natCast]
    have b := hv i
    have hx1 : ∀ j, at_ (x.set i (at_ v i + m)) j = if j < i + 1 then at_ v j + m else at_ v j := fun j => by
      rw [at_set x i j _ (by omega), hj j]
      by_cases c : j = i
      · rw [if_pos c, if_pos (by omega), c]
      · rw [if_neg c]
        by_cases c2 : j < i
        · rw [if_pos c2, if_pos (by omega)]
        · rw [if_neg c2, if_neg (by omega)]
    have e0 : rdOf false good (i : Int) = goodAt good i := by unfold rdOf goodAt; rw [Int.toNat_natCast]
    by_cases hg : goodAt good i = true
    · have hl : i < good.length := by
        rcases Nat.lt_or_ge i good.length with c | c
        · exact c
        · rw [good_len c] at hg; cases hg
      obtain ⟨a, b', h1, h2, h3, h4, e⟩ := ih k (i + 1) (x.set i (at_ v i + m)) y (by omega) (by omega) (by rw [List.length_set]; exact hx) hy hx1 (fun j => by
        rw [hj' j]
        by_cases c : j = i
        · subst c
          rw [if_neg (fun h => by omega), if_neg (fun h => by rw [hg] at h; cases h.2)]
        · by_cases c2 : j < i ∧ goodAt good j = false
          · rw [if_pos c2, if_pos ⟨by omega, c2.2⟩]
          · rw [if_neg c2, if_neg (fun h => c2 ⟨by omega, h.2⟩)])
      refine ⟨a, b', h1, h2, h3, h4, ?_⟩
      rw [show k + 1 - (d + 1) = k - d by omega, ← e, show ((i + 1 : Nat) : Int) = (i : Int) + 1 by omega]
      conv => lhs; unfold jotterlaw11_WearShifts.l1
      rw [if_pos (by omega), if_pos (by omega), Option.bind_some, if_neg (by omega), if_pos (by omega), e0, if_pos hg, hr, wid ((i : Int) + 1) (by omega), wid (at_ v i + m) (by omega), Int.toNat_natCast]
    · have hg' : goodAt good i = false := Bool.eq_false_iff.mpr hg
      obtain ⟨a, b', h1, h2, h3, h4, e⟩ := ih k (i + 1) (x.set i (at_ v i + m)) (y.set i m) (by omega) (by omega) (by rw [List.length_set]; exact hx) (by rw [List.length_set]; exact hy) hx1 (fun j => by
        rw [at_set y i j _ (by omega), hj' j]
        by_cases c : j = i
        · subst c
          rw [if_pos rfl, if_pos ⟨by omega, hg'⟩]
        · rw [if_neg c]
          by_cases c2 : j < i ∧ goodAt good j = false
          · rw [if_pos c2, if_pos ⟨by omega, c2.2⟩]
          · rw [if_neg c2, if_neg (fun h => c2 ⟨by omega, h.2⟩)])
      refine ⟨a, b', h1, h2, h3, h4, ?_⟩
      rw [show k + 1 - (d + 1) = k - d by omega, ← e, show ((i + 1 : Nat) : Int) = (i : Int) + 1 by omega]
      conv => lhs; unfold jotterlaw11_WearShifts.l1
      rw [if_pos (by omega), if_pos (by omega), Option.bind_some]
      by_cases c : (i : Int) ≥ (good.length : Int)
      · rw [if_pos c, if_pos (by omega), hr, wid ((i : Int) + 1) (by omega), wid (at_ v i + m) (by omega), Int.toNat_natCast]
      · rw [if_neg c, if_pos (by omega), e0, if_neg hg, if_pos (by omega), hr, wid ((i : Int) + 1) (by omega), wid (at_ v i + m) (by omega), Int.toNat_natCast]

theorem last (k : Nat) (v a b : List Int) (good : List Bool) (m t : Int) (hk : 100 ≤ k) (hn : v.length ≤ 40) (hv : ∀ i, 0 ≤ at_ v i ∧ at_ v i ≤ 1073741824) (hm : 0 ≤ m ∧ m ≤ 1073741824)
    (ha : a.length = v.length) (hb : b.length = v.length) (ha' : ∀ j, j < v.length → at_ a j = at_ v j + m) (hb' : ∀ j, at_ b j = if j < v.length ∧ goodAt good j = false then m else at_ v j) :
    jotterlaw11_WearShifts.l1 (k + 1) v good m t a b v.length = some true := by
  have sv : Small v := fun i => by have := hv i; omega
  have sa : Small a := fun i => by
    rcases Nat.lt_or_ge i v.length with c | c
    · rw [ha' i c]; have := hv i; omega
    · rw [at_big a i (by omega)]; omega
  have sb : Small b := fun i => by
    rw [hb' i]
    have := hv i
    split <;> omega
  have ca : ∀ i j, i < v.length → j < v.length → goodAt good i = true → goodAt good j = true → at_ a j - at_ a i = at_ v j - at_ v i := fun i j hi hj _ _ => by rw [ha' i hi, ha' j hj]; omega
  have gb : ∀ i, goodAt good i = true → at_ b i = at_ v i := fun i gi => by rw [hb' i, if_neg (fun h => by rw [gi] at h; cases h.2)]
  have cb : ∀ i j, i < v.length → j < v.length → goodAt good i = true → goodAt good j = true → at_ b j - at_ b i = at_ v j - at_ v i := fun i j _ _ gi gj => by rw [gb i gi, gb j gj]
  have la := least_congr (good := good) ha ca
  have lb := least_congr (good := good) hb cb
  have pa : spreadV a good = spreadV v good := by
    rcases ends v good with ⟨e1, e2, e3, h⟩ | ⟨lo, hi, q1, q2, e1, e2, g1, g2, e3, h⟩
    · unfold spreadV; rw [la.1, e1]; rfl
    · rw [e3, spread_is a good lo hi (by omega) (by omega) g1 g2 (fun i hi' gi => by have := h i (by omega) gi; rw [ha' i (by omega), ha' lo q1, ha' hi q2]; omega), ha' lo q1, ha' hi q2]; omega
  have pb : spreadV b good = spreadV v good := by
    rcases ends v good with ⟨e1, e2, e3, h⟩ | ⟨lo, hi, q1, q2, e1, e2, g1, g2, e3, h⟩
    · unfold spreadV; rw [lb.1, e1]; rfl
    · rw [e3, spread_is b good lo hi (by omega) (by omega) g1 g2 (fun i hi' gi => by have := h i (by omega) gi; rw [gb i gi, gb lo g1, gb hi g2]; omega), gb lo g1, gb hi g2]
  conv => lhs; unfold jotterlaw11_WearShifts.l1
  rw [if_neg (by omega), spread_f k v good (by omega) (by omega) sv, least_f k v good (by omega) (by omega), most_f k v good (by omega) (by omega), spread_f k a good (by omega) (by omega) sa, least_f k a good (by omega) (by omega), most_f k a good (by omega) (by omega), spread_f k b good (by omega) (by omega) sb, least_f k b good (by omega) (by omega), most_f k b good (by omega) (by omega), due_f k v good t (by omega) (by omega) sv, awake_f k (by omega), pa, pb, la.1, la.2, lb.1, lb.2]
  simp only [Option.bind_some, if_true, beq_self_eq_true]

theorem j0_f (k : Nat) (ws : List Int) (good : List Bool) (more t : Int) (b : Bool) (h : b = false → ws.length ≤ 40) (hk : 400 ≤ k) : jotterlaw11_WearShifts.j0 (k + 1) ws good more t b = some true := by
  simp only [jotterlaw11_WearShifts.j0]
  cases b with
  | true => rw [if_pos rfl, awake_f k (by omega)]; rfl
  | false =>
    have hn := h rfl
    have hl := lows_len ws
    have hs : ∀ i, 0 ≤ at_ (ws.map (lowI 1073741824)) i ∧ at_ (ws.map (lowI 1073741824)) i ≤ 1073741824 := fun i => by
      unfold at_
      rw [List.getD_eq_getElem?_getD, List.getElem?_map]
      cases ws[i]? with
      | none => show 0 ≤ (0 : Int) ∧ (0 : Int) ≤ 1073741824; omega
      | some x => have := lowI_range 1073741824 x (by omega); exact ⟨this.1, by show lowI 1073741824 x ≤ 1073741824; omega⟩
    rw [if_neg (by decide), lows_f k ws (by omega) (by omega), Option.bind_some]
    generalize ws.map (lowI 1073741824) = v at hl hs
    obtain ⟨y, hy, hy', e⟩ := halve v good more t (by omega) hs v.length k 0 v (by omega) (by omega) rfl (fun j => by rw [if_neg (by omega)])
    rw [show ((0 : Nat) : Int) = 0 from rfl] at e
    rw [e]
    obtain ⟨k1, hk1⟩ : ∃ k1, k - v.length = k1 + 1 := ⟨k - v.length - 1, by omega⟩
    rw [hk1]
    conv => lhs; unfold jotterlaw11_WearShifts.l0
    rw [if_neg (by omega), low_one more 536870912 (by omega) (by omega), Option.bind_some, if_pos (by rw [List.length_nil]; omega), List.nil_append]
    have hm := lowI_range 536870912 more (by omega)
    have ys : ∀ i, 0 ≤ at_ y i ∧ at_ y i ≤ 1073741824 := fun i => by rw [hy' i]; have := hs i; omega
    obtain ⟨a, b', h1, h2, h3, h4, e'⟩ := shift y good (lowI 536870912 more) t (by omega) ys (by omega) y.length k1 0 y y (by omega) (by omega) rfl rfl (fun j => by rw [if_neg (by omega)]) (fun j => by rw [if_neg (fun h => by omega)])
    rw [show ((0 : Nat) : Int) = 0 from rfl] at e'
    rw [e']
    obtain ⟨k2, hk2⟩ : ∃ k2, k1 - y.length = k2 + 1 := ⟨k1 - y.length - 1, by omega⟩
    rw [hk2]
    exact last k2 y a b' good _ t (by omega) (by omega) ys (by omega) h1 h2 h3 h4

theorem pure (ws : List Int) (good : List Bool) (more t : Int) : ∃ k, jotterlaw11_WearShifts.f k ws good more t = some true := by
  refine ⟨401, ?_⟩
  unfold jotterlaw11_WearShifts.f
  by_cases c : (ws.length : Int) > 40
  · rw [if_pos c]
    exact j0_f 400 ws good more t true (fun h => by cases h) (by omega)
  · rw [if_neg c]
    exact j0_f 400 ws good more t _ (fun _ => by omega) (by omega)

end Go.Proofs.Ytjagkehablfmkaa.PWearShifts
