/-
  The plain law of VictimShifts: what the Lean functions of wear and victim compute, and that the law answers true at every input. No condition.
-/
import Derived.Test.YtjagkehablfmkaaPVictimShiftsx
namespace Go.Proofs.Ytjagkehablfmkaa.PVictimShifts
open Go.RowKit Go.Proofs.YtjagkehablfmkaaW.PrintWords Go.Proofs.YtjagkehablfmkaaW.PrintLast Go.Proofs.YtjagkehablfmkaaW.PrintMore
set_option linter.unusedVariables false

-- plain facts: the scan for the first one of the least value of s * wear, and what is told of it
theorem wid (x : Int) (h : -9223372036854775808 ≤ x ∧ x ≤ 9223372036854775807) : wrap64 x = x := by unfold wrap64; omega

def goodAt (good : List Bool) (i : Nat) : Bool := good.getD i false
def at_ (ws : List Int) (i : Nat) : Int := ws.getD i 0

def Spec (s : Int) (ws : List Int) (good : List Bool) (k : Nat) (m : Int) : Prop :=
  (m = -1 ∧ ∀ i, i < k → goodAt good i = false) ∨
  (∃ j : Nat, j < k ∧ m = j ∧ goodAt good j = true ∧ ∀ i, i < k → goodAt good i = true → s * at_ ws j ≤ s * at_ ws i ∧ (i < j → s * at_ ws j < s * at_ ws i))

theorem Spec.one {s : Int} {ws : List Int} {good : List Bool} {k : Nat} {m m' : Int} (h : Spec s ws good k m) (h' : Spec s ws good k m') : m = m' := by
  rcases h with ⟨rfl, h⟩ | ⟨j, hj, rfl, hg, h⟩
  · rcases h' with ⟨rfl, _⟩ | ⟨j', hj', rfl, hg', _⟩
    · rfl
    · rw [h j' hj'] at hg'; cases hg'
  · rcases h' with ⟨rfl, h'⟩ | ⟨j', hj', rfl, hg', h'⟩
    · rw [h' j hj] at hg; cases hg
    · have a := h j' hj' hg'
      have b := h' j hj hg
      have : ¬ j < j' := fun c => by have := b.2 c; omega
      have : ¬ j' < j := fun c => by have := a.2 c; omega
      omega

def scanTo (s : Int) (ws : List Int) (good : List Bool) : Nat → Int
  | 0 => -1
  | i + 1 => if goodAt good i = true then (if scanTo s ws good i < 0 then (i : Int) else if s * at_ ws i < s * at_ ws (scanTo s ws good i).toNat then (i : Int) else scanTo s ws good i) else scanTo s ws good i

theorem scan_spec (s : Int) (ws : List Int) (good : List Bool) (k : Nat) : Spec s ws good k (scanTo s ws good k) := by
  induction k with
  | zero => exact .inl ⟨rfl, fun i h => by omega⟩
  | succ k ih =>
    rw [scanTo]
    by_cases hg : goodAt good k = true
    · rw [if_pos hg]
      rcases ih with ⟨e, h⟩ | ⟨j, hj, e, hgj, h⟩
      · rw [e, if_pos (by omega)]
        refine .inr ⟨k, by omega, rfl, hg, fun i hi hgi => ?_⟩
        have : i = k := by
          rcases Nat.lt_or_ge i k with c | c
          · rw [h i c] at hgi; cases hgi
          · omega
        subst this
        exact ⟨Int.le_refl _, fun c => by omega⟩
      · rw [e, if_neg (by omega), Int.toNat_natCast]
        by_cases c : s * at_ ws k < s * at_ ws j
        · rw [if_pos c]
          refine .inr ⟨k, by omega, rfl, hg, fun i hi hgi => ?_⟩
          rcases Nat.lt_or_ge i k with d | d
          · have := (h i d hgi).1; exact ⟨by omega, fun _ => by omega⟩
          · have : i = k := by omega
            subst this
            exact ⟨Int.le_refl _, fun c => by omega⟩
        · rw [if_neg c]
          refine .inr ⟨j, by omega, rfl, hgj, fun i hi hgi => ?_⟩
          rcases Nat.lt_or_ge i k with d | d
          · exact h i d hgi
          · have : i = k := by omega
            subst this
            exact ⟨by omega, fun c => by omega⟩
    · rw [if_neg hg]
      rcases ih with ⟨e, h⟩ | ⟨j, hj, e, hgj, h⟩
      · refine .inl ⟨e, fun i hi => ?_⟩
        rcases Nat.lt_or_ge i k with d | d
        · exact h i d
        · have : i = k := by omega
          subst this
          exact Bool.eq_false_iff.mpr hg
      · refine .inr ⟨j, by omega, e, hgj, fun i hi hgi => ?_⟩
        rcases Nat.lt_or_ge i k with d | d
        · exact h i d hgi
        · have : i = k := by omega
          subst this
          exact absurd hgi hg

theorem scan_range (s : Int) (ws : List Int) (good : List Bool) (k : Nat) : -1 ≤ scanTo s ws good k ∧ scanTo s ws good k < k := by
  rcases scan_spec s ws good k with ⟨e, _⟩ | ⟨j, hj, e, _⟩ <;> rw [e] <;> omega

theorem good_len {good : List Bool} {i : Nat} (h : good.length ≤ i) : goodAt good i = false := by
  unfold goodAt
  rw [List.getD_eq_getElem?_getD, List.getElem?_eq_none h]
  rfl

theorem scan_stop (s : Int) (ws : List Int) (good : List Bool) (k d : Nat) (h : good.length ≤ k) : scanTo s ws good (k + d) = scanTo s ws good k := by
  induction d with
  | zero => rfl
  | succ d ih => rw [← Nat.add_assoc, scanTo, if_neg (by rw [good_len (by omega)]; decide), ih]

theorem bestL_from (ws : List Int) (good : List Bool) (hn : ws.length ≤ 1000) (d : Nat) : ∀ (k i : Nat), i + d = ws.length → d < k → wear_bestL.l0 k ws good (scanTo 1 ws good i) i = some (scanTo 1 ws good ws.length) := by
  induction d with
  | zero =>
    intro k i hi hk
    obtain ⟨k, rfl⟩ : ∃ m, k = m + 1 := ⟨k - 1, by omega⟩
    simp only [wear_bestL.l0]
    rw [if_neg (by omega), show i = ws.length by omega]
  | succ d ih =>
    intro k i hi hk
    obtain ⟨k, rfl⟩ : ∃ m, k = m + 1 := ⟨k - 1, by omega⟩
    have r := scan_range 1 ws good i
    have n := ih k (i + 1) (by omega) (by omega)
    rw [show ((i + 1 : Nat) : Int) = (i : Int) + 1 by omega] at n
    simp only [wear_bestL.l0]
    rw [if_pos (by omega), if_pos (by omega), wid ((i : Int) + 1) (by omega)]
    have e : rdOf false good (i : Int) = goodAt good i := by unfold rdOf goodAt; rw [Int.toNat_natCast]
    by_cases hg : goodAt good i = true
    · have hl : i < good.length := by
        rcases Nat.lt_or_ge i good.length with c | c
        · exact c
        · rw [good_len c] at hg; cases hg
      rw [if_pos (by omega), e, if_pos hg]
      rw [scanTo, if_pos hg] at n
      by_cases c : scanTo 1 ws good i < 0
      · rw [if_pos c] at n ⊢; exact n
      · rw [if_neg c] at n ⊢
        rw [if_pos (by omega)]
        have q : (decide (rd ws (i : Int) < rd ws (scanTo 1 ws good i)) = true) = (1 * at_ ws i < 1 * at_ ws (scanTo 1 ws good i).toNat) := by
          rw [Int.one_mul, Int.one_mul, decide_eq_true_eq]; unfold rd at_; rw [Int.toNat_natCast]
        by_cases c2 : 1 * at_ ws i < 1 * at_ ws (scanTo 1 ws good i).toNat
        · rw [if_pos (q ▸ c2)]; rw [if_pos c2] at n; exact n
        · rw [if_neg (q ▸ c2)]; rw [if_neg c2] at n; exact n
    · rw [scanTo, if_neg hg] at n
      by_cases hl : (i : Int) < (good.length : Int)
      · rw [if_pos hl, e, if_neg hg]; exact n
      · rw [if_neg hl]; exact n

theorem bestM_from (ws : List Int) (good : List Bool) (hn : ws.length ≤ 1000) (d : Nat) : ∀ (k i : Nat), i + d = ws.length → d < k → wear_bestM.l0 k ws good (scanTo (-1) ws good i) i = some (scanTo (-1) ws good ws.length) := by
  induction d with
  | zero =>
    intro k i hi hk
    obtain ⟨k, rfl⟩ : ∃ m, k = m + 1 := ⟨k - 1, by omega⟩
    simp only [wear_bestM.l0]
    rw [if_neg (by omega), show i = ws.length by omega]
  | succ d ih =>
    intro k i hi hk
    obtain ⟨k, rfl⟩ : ∃ m, k = m + 1 := ⟨k - 1, by omega⟩
    have r := scan_range (-1) ws good i
    have n := ih k (i + 1) (by omega) (by omega)
    rw [show ((i + 1 : Nat) : Int) = (i : Int) + 1 by omega] at n
    simp only [wear_bestM.l0]
    rw [if_pos (by omega), if_pos (by omega), wid ((i : Int) + 1) (by omega)]
    have e : rdOf false good (i : Int) = goodAt good i := by unfold rdOf goodAt; rw [Int.toNat_natCast]
    by_cases hg : goodAt good i = true
    · have hl : i < good.length := by
        rcases Nat.lt_or_ge i good.length with c | c
        · exact c
        · rw [good_len c] at hg; cases hg
      rw [if_pos (by omega), e, if_pos hg]
      rw [scanTo, if_pos hg] at n
      by_cases c : scanTo (-1) ws good i < 0
      · rw [if_pos c] at n ⊢; exact n
      · rw [if_neg c] at n ⊢
        rw [if_pos (by omega)]
        have q : (decide (rd ws (i : Int) > rd ws (scanTo (-1) ws good i)) = true) = (-1 * at_ ws i < -1 * at_ ws (scanTo (-1) ws good i).toNat) := by
          rw [decide_eq_true_eq]; unfold rd at_; rw [Int.toNat_natCast]
          exact propext ⟨fun _ => by omega, fun _ => by omega⟩
        by_cases c2 : -1 * at_ ws i < -1 * at_ ws (scanTo (-1) ws good i).toNat
        · rw [if_pos (q ▸ c2)]; rw [if_pos c2] at n; exact n
        · rw [if_neg (q ▸ c2)]; rw [if_neg c2] at n; exact n
    · rw [scanTo, if_neg hg] at n
      by_cases hl : (i : Int) < (good.length : Int)
      · rw [if_pos hl, e, if_neg hg]; exact n
      · rw [if_neg hl]; exact n

def leastV (ws : List Int) (good : List Bool) : Int := scanTo 1 ws good ws.length
def mostV (ws : List Int) (good : List Bool) : Int := scanTo (-1) ws good ws.length
def spreadV (ws : List Int) (good : List Bool) : Int := if leastV ws good < 0 then 0 else at_ ws (mostV ws good).toNat - at_ ws (leastV ws good).toNat

theorem least_f (k : Nat) (ws : List Int) (good : List Bool) (hn : ws.length ≤ 1000) (hk : ws.length < k) : wear_Least.f k ws good = some (leastV ws good) :=
  bestL_from ws good hn ws.length k 0 (by omega) hk
theorem most_f (k : Nat) (ws : List Int) (good : List Bool) (hn : ws.length ≤ 1000) (hk : ws.length < k) : wear_Most.f k ws good = some (mostV ws good) :=
  bestM_from ws good hn ws.length k 0 (by omega) hk

theorem both (ws : List Int) (good : List Bool) : (leastV ws good = -1 ∧ mostV ws good = -1) ∨ (0 ≤ leastV ws good ∧ leastV ws good < ws.length ∧ 0 ≤ mostV ws good ∧ mostV ws good < ws.length) := by
  unfold leastV mostV
  rcases scan_spec 1 ws good ws.length with ⟨e, h⟩ | ⟨j, hj, e, hg, h⟩
  · rcases scan_spec (-1) ws good ws.length with ⟨e', h'⟩ | ⟨j', hj', e', hg', h'⟩
    · exact .inl ⟨e, e'⟩
    · rw [h j' hj'] at hg'; cases hg'
  · rcases scan_spec (-1) ws good ws.length with ⟨e', h'⟩ | ⟨j', hj', e', hg', h'⟩
    · rw [h' j hj] at hg; cases hg
    · rw [e, e']; exact .inr (by omega)

def Small (ws : List Int) : Prop := ∀ i : Nat, 0 ≤ at_ ws i ∧ at_ ws i ≤ 4294967296

theorem spread_f (k : Nat) (ws : List Int) (good : List Bool) (hn : ws.length ≤ 1000) (hk : ws.length < k) (hs : Small ws) : wear_Spread.f k ws good = some (spreadV ws good) := by
  unfold wear_Spread.f spreadV
  rw [least_f k ws good hn hk, Option.bind_some, most_f k ws good hn hk, Option.bind_some]
  rcases both ws good with ⟨a, b⟩ | ⟨a, b, c, d⟩
  · rw [if_pos (show leastV ws good < 0 by omega), if_pos (show leastV ws good < 0 by omega)]
  · rw [if_neg (show ¬ leastV ws good < 0 by omega), if_pos c, if_pos d, if_pos a, if_pos b, if_neg (show ¬ leastV ws good < 0 by omega)]
    have x := hs (mostV ws good).toNat
    have y := hs (leastV ws good).toNat
    unfold at_ at x y
    unfold rd at_
    rw [wid _ (by omega)]

theorem due_f (k : Nat) (ws : List Int) (good : List Bool) (t : Int) (hn : ws.length ≤ 1000) (hk : ws.length < k) (hs : Small ws) : wear_Due.f k ws good t = some (decide (spreadV ws good > t)) := by
  unfold wear_Due.f
  rw [spread_f k ws good hn hk hs]
  rfl

def lowI (n x : Int) : Int := IntKind.u64.wrap x % n
theorem lowI_range (n x : Int) (h : 1 ≤ n) : 0 ≤ lowI n x ∧ lowI n x < n := ⟨Int.emod_nonneg _ (by omega), Int.emod_lt_of_pos _ (by omega)⟩
theorem low_one (x n : Int) (h0 : 1 ≤ n) (h1 : n ≤ 4294967296) : jotterlaw0_Low.f x n = some (lowI n x) := by
  unfold jotterlaw0_Low.f
  have e : IntKind.u64.wrap n = n := by
    show n % 18446744073709551616 = n
    omega
  have hx : 0 ≤ IntKind.u64.wrap x := by
    show 0 ≤ x % 18446744073709551616
    omega
  rw [e, if_neg (by omega), Int.tmod_eq_emod_of_nonneg hx]
  have := lowI_range n x h0
  unfold lowI at this ⊢
  rw [wid _ (by omega)]

theorem small_map (f : Int → Int) (ws : List Int) (h : ∀ x, 0 ≤ f x ∧ f x ≤ 4294967296) : Small (ws.map f) := by
  intro i
  unfold at_
  rw [List.getD_eq_getElem?_getD, List.getElem?_map]
  cases ws[i]? with
  | none => show 0 ≤ (0 : Int) ∧ (0 : Int) ≤ 4294967296; omega
  | some x => exact h x

theorem at_set (xs : List Int) (i j : Nat) (v : Int) (h : i < xs.length) : at_ (xs.set i v) j = if j = i then v else at_ xs j := by
  unfold at_
  rw [List.getD_eq_getElem?_getD, List.getElem?_set]
  by_cases c : i = j
  · rw [if_pos c, if_pos h, if_pos c.symm]; rfl
  · rw [if_neg c, if_neg (fun h' => c h'.symm), List.getD_eq_getElem?_getD]

theorem at_big (xs : List Int) (j : Nat) (h : xs.length ≤ j) : at_ xs j = 0 := by
  unfold at_
  rw [List.getD_eq_getElem?_getD, List.getElem?_eq_none h]
  rfl

theorem Spec.congr {s : Int} {v a : List Int} {good : List Bool} {n : Nat} {m : Int} (h : Spec s v good n m)
    (hc : ∀ i j, i < n → j < n → goodAt good i = true → goodAt good j = true → s * at_ a j - s * at_ a i = s * at_ v j - s * at_ v i) : Spec s a good n m := by
  rcases h with h | ⟨j, hj, e, hg, h⟩
  · exact .inl h
  · refine .inr ⟨j, hj, e, hg, fun i hi hgi => ?_⟩
    have a := h i hi hgi
    have b := hc i j hi hj hgi hg
    exact ⟨by omega, fun c => by have := a.2 c; omega⟩

theorem least_congr {v a : List Int} {good : List Bool} (hl : a.length = v.length) (hc : ∀ i j, i < v.length → j < v.length → goodAt good i = true → goodAt good j = true → at_ a j - at_ a i = at_ v j - at_ v i) : leastV a good = leastV v good ∧ mostV a good = mostV v good := by
  unfold leastV mostV
  rw [hl]
  exact ⟨Spec.one (scan_spec 1 a good _) ((scan_spec 1 v good _).congr fun i j hi hj gi gj => by have := hc i j hi hj gi gj; omega),
    Spec.one (scan_spec (-1) a good _) ((scan_spec (-1) v good _).congr fun i j hi hj gi gj => by have := hc i j hi hj gi gj; omega)⟩

/-- Either none is good, or the least and the greatest are two good ones between which all good ones lie. -/
theorem ends (v : List Int) (good : List Bool) : (leastV v good = -1 ∧ mostV v good = -1 ∧ spreadV v good = 0 ∧ ∀ i, i < v.length → goodAt good i = false) ∨
    ∃ lo hi : Nat, lo < v.length ∧ hi < v.length ∧ leastV v good = lo ∧ mostV v good = hi ∧ goodAt good lo = true ∧ goodAt good hi = true ∧ spreadV v good = at_ v hi - at_ v lo ∧
      ∀ i, i < v.length → goodAt good i = true → at_ v lo ≤ at_ v i ∧ at_ v i ≤ at_ v hi := by
  unfold spreadV
  rcases both v good with ⟨a, b⟩ | ⟨a, b, c, d⟩
  · refine .inl ⟨a, b, by rw [if_pos (by omega)], ?_⟩
    unfold leastV at a
    rcases scan_spec 1 v good v.length with ⟨_, h⟩ | ⟨j, hj, e, hg, h⟩
    · exact h
    · rw [e] at a; omega
  · unfold leastV mostV at *
    rcases scan_spec 1 v good v.length with ⟨e, h⟩ | ⟨j, hj, e, hg, h⟩
    · omega
    · rcases scan_spec (-1) v good v.length with ⟨e', h'⟩ | ⟨j', hj', e', hg', h'⟩
      · omega
      · refine .inr ⟨j, j', hj, hj', e, e', hg, hg', ?_, fun i hi gi => ?_⟩
        · rw [e, e', if_neg (by omega), Int.toNat_natCast, Int.toNat_natCast]
        · have := (h i hi gi).1
          have := (h' i hi gi).1
          omega

theorem spread_is (v : List Int) (good : List Bool) (lo hi : Nat) (h1 : lo < v.length) (h2 : hi < v.length) (g1 : goodAt good lo = true) (g2 : goodAt good hi = true)
    (h : ∀ i, i < v.length → goodAt good i = true → at_ v lo ≤ at_ v i ∧ at_ v i ≤ at_ v hi) : spreadV v good = at_ v hi - at_ v lo := by
  rcases ends v good with ⟨_, _, _, h'⟩ | ⟨lo', hi', q1, q2, _, _, p1, p2, e, h'⟩
  · rw [h' lo h1] at g1; cases g1
  · have a := h lo' q1 p1
    have b := h hi' q2 p2
    have c := h' lo h1 g1
    have d := h' hi h2 g2
    omega


theorem low_from (n : Int) (h0 : 1 ≤ n) (h1 : n ≤ 4294967296) (ws : List Int) (hn : ws.length ≤ 1000) (d : Nat) : ∀ (k i : Nat), i + d = ws.length → d < k → jotterlaw12_low.l0 k ws n ((ws.take i).map (lowI n)) i = some (ws.map (lowI n)) := by
  induction d with
  | zero =>
    intro k i hi hk
    obtain ⟨k, rfl⟩ : ∃ m, k = m + 1 := ⟨k - 1, by omega⟩
    simp only [jotterlaw12_low.l0]
    rw [if_neg (by omega), List.take_of_length_le (by omega)]
  | succ d ih =>
    intro k i hi hk
    obtain ⟨k, rfl⟩ : ∃ m, k = m + 1 := ⟨k - 1, by omega⟩
    have n := ih k (i + 1) (by omega) (by omega)
    rw [show ((i + 1 : Nat) : Int) = (i : Int) + 1 by omega, List.take_succ_eq_append_getElem (by omega), List.map_append, List.map_singleton] at n
    simp only [jotterlaw12_low.l0]
    have e : rd ws (i : Int) = ws[i]'(by omega) := by
      unfold rd
      rw [Int.toNat_natCast, List.getD_eq_getElem?_getD, List.getElem?_eq_getElem (by omega)]
      rfl
    rw [if_pos (by omega), if_pos (by omega), low_one _ _ h0 h1, Option.bind_some, e, if_pos (by rw [List.length_map, List.length_take]; omega), wid ((i : Int) + 1) (by omega)]
    exact n

theorem lows_f (k : Nat) (n : Int) (h0 : 1 ≤ n) (h1 : n ≤ 4294967296) (ws : List Int) (hn : ws.length ≤ 1000) (hk : ws.length < k) : jotterlaw12_low.f k ws n = some (ws.map (lowI n)) :=
  low_from n h0 h1 ws hn ws.length k 0 (by omega) hk

theorem lows_range (n : Int) (h0 : 1 ≤ n) (ws : List Int) (i : Nat) : 0 ≤ at_ (ws.map (lowI n)) i ∧ at_ (ws.map (lowI n)) i < n := by
  unfold at_
  rw [List.getD_eq_getElem?_getD, List.getElem?_map]
  cases ws[i]? with
  | none => show 0 ≤ (0 : Int) ∧ (0 : Int) < n; omega
  | some x => exact lowI_range n x h0
theorem lows_len (n : Int) (ws : List Int) : (ws.map (lowI n)).length = ws.length := List.length_map ..

theorem awake_f (k : Nat) (hk : 10 ≤ k) : jotterlaw12_awake.f k = some true :=
  at_rounds (g := jotterlaw12_awake.f) jotterlaw12_awake.mono hk (by decide +kernel)

def low3 (a b c : Nat) : Nat := min (min a b) c
theorem mn3 (a b c : Nat) : mn (mn (a : Int) (b : Int)) (c : Int) = (low3 a b c : Int) := by
  unfold mn low3
  split <;> split <;> omega
theorem low3_le (a b c : Nat) : low3 a b c ≤ a ∧ low3 a b c ≤ b ∧ low3 a b c ≤ c := by unfold low3; omega

def pickTo (live ws : List Int) (good : List Bool) : Nat → Int
  | 0 => -1
  | i + 1 => if goodAt good i = true then (if pickTo live ws good i < 0 then (i : Int) else if at_ live i < at_ live (pickTo live ws good i).toNat then (i : Int) else if at_ live i = at_ live (pickTo live ws good i).toNat then (if at_ ws i < at_ ws (pickTo live ws good i).toNat then (i : Int) else pickTo live ws good i) else pickTo live ws good i) else pickTo live ws good i

def Best (live ws : List Int) (j i : Nat) : Prop := at_ live j < at_ live i ∨ (at_ live j = at_ live i ∧ (at_ ws j < at_ ws i ∨ (at_ ws j = at_ ws i ∧ j ≤ i)))
def PSpec (live ws : List Int) (good : List Bool) (k : Nat) (m : Int) : Prop :=
  (m = -1 ∧ ∀ i, i < k → goodAt good i = false) ∨ (∃ j : Nat, j < k ∧ m = j ∧ goodAt good j = true ∧ ∀ i, i < k → goodAt good i = true → Best live ws j i)

theorem pick_spec (live ws : List Int) (good : List Bool) (k : Nat) : PSpec live ws good k (pickTo live ws good k) := by
  induction k with
  | zero => exact .inl ⟨rfl, fun i h => by omega⟩
  | succ k ih =>
    rw [pickTo]
    by_cases hg : goodAt good k = true
    · rw [if_pos hg]
      rcases ih with ⟨e, h⟩ | ⟨j, hj, e, hgj, h⟩
      · rw [e, if_pos (by omega)]
        refine .inr ⟨k, by omega, rfl, hg, fun i hi hgi => ?_⟩
        have : i = k := by
          rcases Nat.lt_or_ge i k with c | c
          · rw [h i c] at hgi; cases hgi
          · omega
        subst this
        exact .inr ⟨rfl, .inr ⟨rfl, Nat.le_refl _⟩⟩
      · rw [e, if_neg (by omega), Int.toNat_natCast]
        have new : (at_ live k < at_ live j ∨ (at_ live k = at_ live j ∧ at_ ws k < at_ ws j)) → PSpec live ws good (k + 1) (k : Int) := fun c => by
          refine .inr ⟨k, by omega, rfl, hg, fun i hi hgi => ?_⟩
          rcases Nat.lt_or_ge i k with d | d
          · have := h i d hgi
            unfold Best at this ⊢
            omega
          · have : i = k := by omega
            subst this
            exact .inr ⟨rfl, .inr ⟨rfl, Nat.le_refl _⟩⟩
        have old : ¬ (at_ live k < at_ live j ∨ (at_ live k = at_ live j ∧ at_ ws k < at_ ws j)) → PSpec live ws good (k + 1) (j : Int) := fun c => by
          refine .inr ⟨j, by omega, rfl, hgj, fun i hi hgi => ?_⟩
          rcases Nat.lt_or_ge i k with d | d
          · exact h i d hgi
          · have : i = k := by omega
            subst this
            unfold Best
            omega
        by_cases c : at_ live k < at_ live j
        · rw [if_pos c]; exact new (.inl c)
        · rw [if_neg c]
          by_cases c2 : at_ live k = at_ live j
          · rw [if_pos c2]
            by_cases c3 : at_ ws k < at_ ws j
            · rw [if_pos c3]; exact new (.inr ⟨c2, c3⟩)
            · rw [if_neg c3]; exact old (by omega)
          · rw [if_neg c2]; exact old (by omega)
    · rw [if_neg hg]
      rcases ih with ⟨e, h⟩ | ⟨j, hj, e, hgj, h⟩
      · refine .inl ⟨e, fun i hi => ?_⟩
        rcases Nat.lt_or_ge i k with d | d
        · exact h i d
        · have : i = k := by omega
          subst this
          exact Bool.eq_false_iff.mpr hg
      · refine .inr ⟨j, by omega, e, hgj, fun i hi hgi => ?_⟩
        rcases Nat.lt_or_ge i k with d | d
        · exact h i d hgi
        · have : i = k := by omega
          subst this
          exact absurd hgi hg

theorem PSpec.one {live ws : List Int} {good : List Bool} {k : Nat} {m m' : Int} (h : PSpec live ws good k m) (h' : PSpec live ws good k m') : m = m' := by
  rcases h with ⟨rfl, h⟩ | ⟨j, hj, rfl, hg, h⟩
  · rcases h' with ⟨rfl, _⟩ | ⟨j', hj', rfl, hg', _⟩
    · rfl
    · rw [h j' hj'] at hg'; cases hg'
  · rcases h' with ⟨rfl, h'⟩ | ⟨j', hj', rfl, hg', h'⟩
    · rw [h' j hj] at hg; cases hg
    · have a := h j' hj' hg'
      have b := h' j hj hg
      unfold Best at a b
      omega

theorem pick_range (live ws : List Int) (good : List Bool) (k : Nat) : -1 ≤ pickTo live ws good k ∧ pickTo live ws good k < k := by
  rcases pick_spec live ws good k with ⟨e, _⟩ | ⟨j, hj, e, _⟩ <;> rw [e] <;> omega

theorem pick_from (live ws : List Int) (good : List Bool) (n : Nat) (h1 : n ≤ live.length) (h2 : n ≤ ws.length) (h3 : n ≤ good.length) (hn : n ≤ 1000) (d : Nat) : ∀ (k i : Nat), i + d = n → d < k → victim_Pick.l0 k live ws good (pickTo live ws good i) n i = some (pickTo live ws good n) := by
  induction d with
  | zero =>
    intro k i hi hk
    obtain ⟨k, rfl⟩ : ∃ m, k = m + 1 := ⟨k - 1, by omega⟩
    simp only [victim_Pick.l0]
    rw [if_neg (by omega), show i = n by omega]
  | succ d ih =>
    intro k i hi hk
    obtain ⟨k, rfl⟩ : ∃ m, k = m + 1 := ⟨k - 1, by omega⟩
    have r := pick_range live ws good i
    have nx := ih k (i + 1) (by omega) (by omega)
    rw [show ((i + 1 : Nat) : Int) = (i : Int) + 1 by omega] at nx
    have e : rdOf false good (i : Int) = goodAt good i := by unfold rdOf goodAt; rw [Int.toNat_natCast]
    have er : ∀ xs : List Int, rd xs (i : Int) = at_ xs i := fun xs => by unfold rd at_; rw [Int.toNat_natCast]
    have ep : ∀ xs : List Int, rd xs (pickTo live ws good i) = at_ xs (pickTo live ws good i).toNat := fun xs => rfl
    simp only [victim_Pick.l0]
    rw [if_pos (by omega), if_pos (by omega), if_pos (by omega), wid ((i : Int) + 1) (by omega), e]
    by_cases hg : goodAt good i = true
    · rw [if_pos hg]
      rw [pickTo, if_pos hg] at nx
      by_cases c : pickTo live ws good i < 0
      · rw [if_pos c] at nx ⊢; exact nx
      · rw [if_neg c] at nx ⊢
        rw [if_pos (by omega), if_pos (by omega), if_pos (by omega), er, er, ep, ep]
        by_cases c1 : at_ live i < at_ live (pickTo live ws good i).toNat
        · rw [if_pos c1] at nx ⊢; exact nx
        · rw [if_neg c1] at nx ⊢
          by_cases c2 : at_ live i = at_ live (pickTo live ws good i).toNat
          · rw [if_pos c2] at nx ⊢
            rw [if_pos (by omega), if_pos (by omega)]
            by_cases c3 : at_ ws i < at_ ws (pickTo live ws good i).toNat
            · rw [if_pos c3] at nx ⊢; exact nx
            · rw [if_neg c3] at nx ⊢; exact nx
          · rw [if_neg c2] at nx ⊢; exact nx
    · rw [if_neg hg]
      rw [pickTo, if_neg hg] at nx
      exact nx

def pickV (live ws : List Int) (good : List Bool) : Int := pickTo live ws good (low3 live.length ws.length good.length)
theorem pick_f (k : Nat) (live ws : List Int) (good : List Bool) (hn : ws.length ≤ 1000) (hk : 1001 ≤ k) : victim_Pick.f k live ws good = some (pickV live ws good) := by
  unfold victim_Pick.f pickV
  rw [mn3]
  have := low3_le live.length ws.length good.length
  exact pick_from live ws good _ this.1 this.2.1 this.2.2 (by omega) _ k 0 (Nat.zero_add _) (by omega)

theorem at_take (xs : List Int) (n i : Nat) : at_ (xs.take n) i = if i < n then at_ xs i else 0 := by
  unfold at_
  rw [List.getD_eq_getElem?_getD, List.getElem?_take]
  split
  · rw [List.getD_eq_getElem?_getD]
  · rfl
theorem good_take (good : List Bool) (n i : Nat) : goodAt (good.take n) i = if i < n then goodAt good i else false := by
  unfold goodAt
  rw [List.getD_eq_getElem?_getD, List.getElem?_take]
  split
  · rw [List.getD_eq_getElem?_getD]
  · rfl
theorem small_take {xs : List Int} (h : Small xs) (n : Nat) : Small (xs.take n) := fun i => by
  rw [at_take]
  have := h i
  split <;> omega

def coldV (live ws : List Int) (good : List Bool) (t : Int) : Int :=
  let n := low3 live.length ws.length good.length
  if leastV (ws.take n) (good.take n) < 0 then -1 else if spreadV (ws.take n) (good.take n) > t then (if at_ live (leastV (ws.take n) (good.take n)).toNat = 0 then -1 else leastV (ws.take n) (good.take n)) else -1

theorem cold_f (k : Nat) (live ws : List Int) (good : List Bool) (t : Int) (hn : ws.length ≤ 1000) (hs : Small ws) (hk : 1001 ≤ k) : victim_Cold.f k live ws good t = some (coldV live ws good t) := by
  unfold victim_Cold.f coldV
  have h3 := low3_le live.length ws.length good.length
  rw [mn3]
  generalize low3 live.length ws.length good.length = n at h3
  have hl : (ws.take n).length = n := by rw [List.length_take]; omega
  rw [if_pos (by omega), if_pos (by omega), if_pos (by omega), Int.toNat_natCast, least_f k _ _ (by omega) (by omega), Option.bind_some, due_f k _ _ t (by omega) (by omega) (small_take hs n)]
  rcases both (ws.take n) (good.take n) with ⟨a, _⟩ | ⟨a, b, _⟩
  · simp only
    rw [if_pos (show leastV (ws.take n) (good.take n) < 0 by omega), if_pos (show leastV (ws.take n) (good.take n) < 0 by omega)]
  · simp only
    rw [if_neg (show ¬ leastV (ws.take n) (good.take n) < 0 by omega), if_neg (show ¬ leastV (ws.take n) (good.take n) < 0 by omega), Option.bind_some]
    by_cases c : spreadV (ws.take n) (good.take n) > t
    · rw [decide_eq_true c, if_pos rfl, if_pos c, if_pos a, if_pos (by omega)]
      show (if at_ live (leastV (ws.take n) (good.take n)).toNat = 0 then some (-1) else some _) = _
      split <;> rfl
    · rw [decide_eq_false c, if_neg c]
      rfl


theorem at_map (f : Int → Int) (xs : List Int) (i : Nat) (h : i < xs.length) : at_ (xs.map f) i = f (at_ xs i) := by
  unfold at_
  rw [List.getD_eq_getElem?_getD, List.getD_eq_getElem?_getD, List.getElem?_map, List.getElem?_eq_getElem h]
  rfl

def upL (L : List Int) : List Int := L.map (fun x => x + 1)
def upW (W : List Int) (m : Int) : List Int := W.map (fun x => x + m)

section
variable (L W : List Int) (ok : List Bool) (m : Int) (n : Nat) (hL : L.length = n) (hW : W.length = n) (hok : ok.length = n) (hn : n ≤ 40)
  (sL : ∀ i, 0 ≤ at_ L i ∧ at_ L i ≤ 1000) (sW : ∀ i, 0 ≤ at_ W i ∧ at_ W i ≤ 1000) (hm : 0 ≤ m ∧ m ≤ 1000)
include hL hW hok hn sL sW hm

theorem lenL : (upL L).length = n := by have := hL; have := hW; have := hok; have := hn; have := sL; have := sW; have := hm; unfold upL; rw [List.length_map]; exact hL
theorem lenW : (upW W m).length = n := by have := hL; have := hW; have := hok; have := hn; have := sL; have := sW; have := hm; unfold upW; rw [List.length_map]; exact hW
theorem atL (i : Nat) (h : i < n) : at_ (upL L) i = at_ L i + 1 := by have := hL; have := hW; have := hok; have := hn; have := sL; have := sW; have := hm; exact at_map _ L i (by omega)
theorem atW (i : Nat) (h : i < n) : at_ (upW W m) i = at_ W i + m := by have := hL; have := hW; have := hok; have := hn; have := sL; have := sW; have := hm; exact at_map _ W i (by omega)

theorem pick_same : pickV (upL L) (upW W m) ok = pickV L W ok := by
  have e1 := lenL L W ok m n hL hW hok hn sL sW hm
  have e2 := lenW L W ok m n hL hW hok hn sL sW hm
  unfold pickV
  rw [show low3 (upL L).length (upW W m).length ok.length = n by unfold low3; omega, show low3 L.length W.length ok.length = n by unfold low3; omega]
  refine PSpec.one (pick_spec _ _ ok n) ?_
  rcases pick_spec L W ok n with h | ⟨j, hj, e, hg, h⟩
  · exact .inl h
  · refine .inr ⟨j, hj, e, hg, fun i hi hgi => ?_⟩
    have b := h i hi hgi
    unfold Best at b ⊢
    rw [atL L W ok m n hL hW hok hn sL sW hm i hi, atL L W ok m n hL hW hok hn sL sW hm j hj, atW L W ok m n hL hW hok hn sL sW hm i hi, atW L W ok m n hL hW hok hn sL sW hm j hj]
    omega

theorem least_same : leastV (upW W m) ok = leastV W ok ∧ mostV (upW W m) ok = mostV W ok :=
  least_congr (by rw [lenW L W ok m n hL hW hok hn sL sW hm, hW]) fun i j hi hj _ _ => by
    rw [atW L W ok m n hL hW hok hn sL sW hm i (by omega), atW L W ok m n hL hW hok hn sL sW hm j (by omega)]
    omega

theorem spread_same : spreadV (upW W m) ok = spreadV W ok := by
  obtain ⟨a, b⟩ := least_same L W ok m n hL hW hok hn sL sW hm
  unfold spreadV
  rw [a, b]
  rcases both W ok with ⟨c, _⟩ | ⟨c1, c2, c3, c4⟩
  · rw [if_pos (by omega), if_pos (by omega)]
  · rw [if_neg (by omega), if_neg (by omega), atW L W ok m n hL hW hok hn sL sW hm _ (by omega), atW L W ok m n hL hW hok hn sL sW hm _ (by omega)]
    omega

theorem smallW : Small (upW W m) := fun i => by
  rcases Nat.lt_or_ge i n with h | h
  · rw [atW L W ok m n hL hW hok hn sL sW hm i h]
    have := sW i
    omega
  · rw [at_big _ _ (by rw [lenW L W ok m n hL hW hok hn sL sW hm]; exact h)]
    omega

theorem cold_same (t : Int) : coldV (upL L) (upW W m) ok t = coldV (upL L) W ok t := by
  have e1 := lenL L W ok m n hL hW hok hn sL sW hm
  have e2 := lenW L W ok m n hL hW hok hn sL sW hm
  unfold coldV
  simp only
  rw [show low3 (upL L).length (upW W m).length ok.length = n by unfold low3; omega, show low3 (upL L).length W.length ok.length = n by unfold low3; omega, List.take_of_length_le (show (upW W m).length ≤ n by omega), List.take_of_length_le (show W.length ≤ n by omega), List.take_of_length_le (show ok.length ≤ n by omega), (least_same L W ok m n hL hW hok hn sL sW hm).1, spread_same L W ok m n hL hW hok hn sL sW hm]

theorem last (k : Nat) (which : Int) (hk : 2000 ≤ k) : jotterlaw12_VictimShifts.j2 (k + 1) L W ok which n (upL L) (upW W m) false = some true := by
  have e1 := lenL L W ok m n hL hW hok hn sL sW hm
  have e2 := lenW L W ok m n hL hW hok hn sL sW hm
  simp only [jotterlaw12_VictimShifts.j2]
  rw [if_neg (by decide)]
  by_cases z : n = 0
  · rw [if_pos (by omega), pick_f k L W ok (by omega) (by omega), Option.bind_some]
    have : pickV L W ok = -1 := by
      unfold pickV
      rw [show low3 L.length W.length ok.length = 0 by unfold low3; omega]
      rfl
    rw [if_pos this, awake_f k (by omega)]
    rfl
  · have r := lowI_range (n : Int) which (by omega)
    rw [if_neg (by omega), low_one which (n : Int) (by omega) (by omega), Option.bind_some]
    obtain ⟨t, ht⟩ : ∃ t : Nat, lowI (n : Int) which = (t : Int) := ⟨(lowI (n : Int) which).toNat, by omega⟩
    rw [ht] at r ⊢
    rw [if_pos (by omega), if_pos (by omega), Option.bind_some, if_pos (by omega), Int.toNat_natCast]
    have e3 : ((upL L).set t 0).length = n := by rw [List.length_set]; exact e1
    have p := pick_spec ((upL L).set t 0) (upW W m) ok n
    have q : victim_Pick.f k ((upL L).set t 0) (upW W m) ok = some (pickTo ((upL L).set t 0) (upW W m) ok n) := by
      rw [pick_f k _ _ ok (by omega) (by omega)]
      unfold pickV
      rw [show low3 ((upL L).set t 0).length (upW W m).length ok.length = n by unfold low3; omega]
    rw [q, Option.bind_some, show rdOf false ok (t : Int) = goodAt ok t by unfold rdOf goodAt; rw [Int.toNat_natCast]]
    by_cases g : goodAt ok t = true
    · rw [if_pos g, PSpec.one p (m' := (t : Int)) (.inr ⟨t, by omega, rfl, g, fun i hi _ => ?_⟩), if_pos rfl, awake_f k (by omega)]
      · rfl
      · unfold Best
        rw [at_set _ t t 0 (by omega), if_pos rfl, at_set _ t i 0 (by omega)]
        by_cases c : i = t
        · rw [if_pos c, c]
          exact .inr ⟨rfl, .inr ⟨rfl, Nat.le_refl _⟩⟩
        · rw [if_neg c, atL L W ok m n hL hW hok hn sL sW hm i hi]
          have := sL i
          exact .inl (by omega)
    · rw [if_neg g, Option.bind_some, if_neg, awake_f k (by omega)]
      · rfl
      · rcases p with ⟨e, _⟩ | ⟨j, hj, e, hg, _⟩
        · rw [e]; omega
        · rw [e]
          intro c
          have : j = t := by omega
          subst this
          exact g hg

theorem fin (k : Nat) (which : Int) (hk : 2002 ≤ k) : jotterlaw12_VictimShifts.l0 (k + 1) L W ok m which n (upL L) (upW W m) n = some true := by
  have e1 := lenL L W ok m n hL hW hok hn sL sW hm
  have e2 := lenW L W ok m n hL hW hok hn sL sW hm
  have sW' : Small W := fun i => by have := sW i; omega
  conv => lhs; unfold jotterlaw12_VictimShifts.l0
  rw [if_neg (by omega), pick_f k _ _ ok (by omega) (by omega), Option.bind_some, pick_f k L W ok (by omega) (by omega), Option.bind_some, if_pos (pick_same L W ok m n hL hW hok hn sL sW hm)]
  have f : ∀ V : List Int, V.length = n → victim_Free.f k V ok = some (leastV V ok) := fun V hV => by
    unfold victim_Free.f
    rw [least_f k V ok (by omega) (by omega)]
    rfl
  rw [f _ e2, Option.bind_some, f W hW, Option.bind_some, if_pos (least_same L W ok m n hL hW hok hn sL sW hm).1, cold_f k _ _ ok 7 (by omega) (smallW L W ok m n hL hW hok hn sL sW hm) (by omega), Option.bind_some, cold_f k _ W ok 7 (by omega) sW' (by omega), Option.bind_some, cold_same L W ok m n hL hW hok hn sL sW hm, bne_self_eq_false]
  obtain ⟨k, rfl⟩ : ∃ q, k = q + 1 := ⟨k - 1, by omega⟩
  exact last L W ok m n hL hW hok hn sL sW hm k which (by omega)

theorem loop (which : Int) (d : Nat) : ∀ (k i : Nat), i + d = n → d + 2002 < k → jotterlaw12_VictimShifts.l0 k L W ok m which n ((upL L).take i) ((upW W m).take i) i = some true := by
  have e1 := lenL L W ok m n hL hW hok hn sL sW hm
  have e2 := lenW L W ok m n hL hW hok hn sL sW hm
  induction d with
  | zero =>
    intro k i hi hk
    obtain ⟨k, rfl⟩ : ∃ q, k = q + 1 := ⟨k - 1, by omega⟩
    rw [show i = n by omega, List.take_of_length_le (by omega), List.take_of_length_le (by omega)]
    exact fin L W ok m n hL hW hok hn sL sW hm k which (by omega)
  | succ d ih =>
    intro k i hi hk
    obtain ⟨k, rfl⟩ : ∃ q, k = q + 1 := ⟨k - 1, by omega⟩
    have nx := ih k (i + 1) (by omega) (by omega)
    have g : ∀ xs : List Int, (h : i < xs.length) → xs[i] = at_ xs i := fun xs h => by
      unfold at_
      rw [List.getD_eq_getElem?_getD, List.getElem?_eq_getElem h]
      rfl
    rw [show ((i + 1 : Nat) : Int) = (i : Int) + 1 by omega, List.take_succ_eq_append_getElem (show i < (upL L).length by omega), List.take_succ_eq_append_getElem (show i < (upW W m).length by omega), g _ (by omega), g _ (by omega), atL L W ok m n hL hW hok hn sL sW hm i (by omega), atW L W ok m n hL hW hok hn sL sW hm i (by omega)] at nx
    have er : ∀ xs : List Int, rd xs (i : Int) = at_ xs i := fun xs => by unfold rd at_; rw [Int.toNat_natCast]
    have a := sL i
    have b := sW i
    conv => lhs; unfold jotterlaw12_VictimShifts.l0
    rw [if_pos (by omega), if_pos (by omega), if_pos (by omega), er, er, wid (at_ L i + 1) (by omega), wid (at_ W i + m) (by omega), Option.bind_some, if_pos (by rw [List.length_take, List.length_singleton]; omega), if_pos (by omega), Option.bind_some, if_pos (by rw [List.length_take, List.length_singleton]; omega), wid ((i : Int) + 1) (by omega)]
    exact nx
end

theorem j0_f (k : Nat) (live ws : List Int) (may : List Bool) (more which : Int) (b : Bool) (h : b = false → live.length ≤ 40 ∧ ws.length ≤ 40 ∧ may.length ≤ 40) (hk : 3000 ≤ k) : jotterlaw12_VictimShifts.j0 (k + 1) live ws may more which b = some true := by
  simp only [jotterlaw12_VictimShifts.j0]
  cases b with
  | true => rw [if_pos rfl, awake_f k (by omega)]; rfl
  | false =>
    have hn := h rfl
    have h3 := low3_le live.length ws.length may.length
    rw [mn3]
    generalize low3 live.length ws.length may.length = n at h3
    have hl : (live.take n).length = n := by rw [List.length_take]; omega
    have hw : (ws.take n).length = n := by rw [List.length_take]; omega
    have hm : (may.take n).length = n := by rw [List.length_take]; omega
    rw [if_neg (by decide), if_pos (by omega), if_pos (by omega), Int.toNat_natCast, lows_f k 9 (by omega) (by omega) _ (by omega) (by omega), Option.bind_some, if_pos (by omega), lows_f k 1000 (by omega) (by omega) _ (by omega) (by omega), Option.bind_some, low_one more 1000 (by omega) (by omega), Option.bind_some, if_pos (by omega)]
    have l1 := lows_len 9 (live.take n)
    have l2 := lows_len 1000 (ws.take n)
    have s1 : ∀ i, 0 ≤ at_ ((live.take n).map (lowI 9)) i ∧ at_ ((live.take n).map (lowI 9)) i ≤ 1000 := fun i => by have := lows_range 9 (by omega) (live.take n) i; omega
    have s2 : ∀ i, 0 ≤ at_ ((ws.take n).map (lowI 1000)) i ∧ at_ ((ws.take n).map (lowI 1000)) i ≤ 1000 := fun i => by have := lows_range 1000 (by omega) (ws.take n) i; omega
    have s3 := lowI_range 1000 more (by omega)
    generalize (ws.take n).map (lowI 1000) = W at l2 s2
    generalize (live.take n).map (lowI 9) = L at l1 s1
    generalize may.take n = ok at hm
    generalize lowI 1000 more = m at s3
    exact loop L W ok m n (by omega) (by omega) hm (by omega) s1 s2 (by omega) which n k 0 (Nat.zero_add _) (by omega)

theorem pure (live ws : List Int) (may : List Bool) (more which : Int) : ∃ k, jotterlaw12_VictimShifts.f k live ws may more which = some true := by
  refine ⟨3001, ?_⟩
  unfold jotterlaw12_VictimShifts.f
  by_cases c : (live.length : Int) > 40
  · rw [if_pos c]
    exact j0_f 3000 live ws may more which true (fun h => by cases h) (by omega)
  · rw [if_neg c]
    by_cases c2 : (ws.length : Int) > 40
    · rw [if_pos c2]
      exact j0_f 3000 live ws may more which true (fun h => by cases h) (by omega)
    · rw [if_neg c2]
      exact j0_f 3000 live ws may more which _ (fun h => by have := of_decide_eq_false h; omega) (by omega)

end Go.Proofs.Ytjagkehablfmkaa.PVictimShifts
