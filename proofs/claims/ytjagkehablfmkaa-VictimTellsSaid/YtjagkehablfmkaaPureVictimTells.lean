/-
  The plain law of VictimTells: what the Lean functions of wear and victim compute, and that the law answers true at every input. No condition.
-/
import Derived.Test.YtjagkehablfmkaaPVictimTellsx
namespace Go.Proofs.Ytjagkehablfmkaa.PVictimTells
open Go.RowKit Go.Proofs.YtjagkehablfmkaaW.PrintWords Go.Proofs.YtjagkehablfmkaaW.PrintLast Go.Proofs.YtjagkehablfmkaaW.PrintMore
set_option linter.unusedVariables false

-- plain facts: the scan for the first one of the least value of s * wear, and what is told of it
theorem wid (x : Int) (h : -9223372036854775808 ≤ x ∧ x ≤ 9223372036854775807) : wrap64 x = x := by unfold wrap64; omega

def goodAt (good : List Bool) (i : Nat) : Bool := good.getD i false
def at_ (ws : List Int) (i : Nat) : Int := ws.getD i 0

def Spec (s : Int) (ws : List Int) (good : List Bool) (k : Nat) (m : Int) : Prop :=
  (m = -1 ∧ ∀ i, i < k → goodAt good i = false) ∨
  (∃ j : Nat, j < k ∧ m = j ∧ goodAt good j = true ∧ ∀ i, i < k → goodAt good i = true → s * at_ ws j ≤ s * at_ ws i ∧ (i < j → s * at_ ws j < s * at_ ws i))

theorem Spec.one {s : Int} {ws : List Int} {good : List Bool} {k : Nat} {m m' : Int} (h : Spec s ws good k m) (h' : Spec s ws good k m') : m = m' := by
  rcases h with ⟨rfl, h⟩ | ⟨j, hj, rfl, hg, h⟩
  · rcases h' with ⟨rfl, _⟩ | ⟨j', hj', rfl, hg', _⟩
    · rfl
    · rw [h j' hj'] at hg'; cases hg'
  · rcases h' with ⟨rfl, h'⟩ | ⟨j', hj', rfl, hg', h'⟩
    · rw [h' j hj] at hg; cases hg
    · have a := h j' hj' hg'
      have b := h' j hj hg
      have : ¬ j < j' := fun c => by have := b.2 c; omega
      have : ¬ j' < j := fun c => by have := a.2 c; omega
      omega

def scanTo (s : Int) (ws : List Int) (good : List Bool) : Nat → Int
  | 0 => -1
  | i + 1 => if goodAt good i = true then (if scanTo s ws good i < 0 then (i : Int) else if s * at_ ws i < s * at_ ws (scanTo s ws good i).toNat then (i : Int) else scanTo s ws good i) else scanTo s ws good i

theorem scan_spec (s : Int) (ws : List Int) (good : List Bool) (k : Nat) : Spec s ws good k (scanTo s ws good k) := by
  induction k with
  | zero => exact .inl ⟨rfl, fun i h => by omega⟩
  | succ k ih =>
    rw [scanTo]
    by_cases hg : goodAt good k = true
    · rw [if_pos hg]
      rcases ih with ⟨e, h⟩ | ⟨j, hj, e, hgj, h⟩
      · rw [e, if_pos (by omega)]
        refine .inr ⟨k, by omega, rfl, hg, fun i hi hgi => ?_⟩
        have : i = k := by
          rcases Nat.lt_or_ge i k with c | c
          · rw [h i c] at hgi; cases hgi
          · omega
        subst this
        exact ⟨Int.le_refl _, fun c => by omega⟩
      · rw [e, if_neg (by omega), Int.toNat_natCast]
        by_cases c : s * at_ ws k < s * at_ ws j
        · rw [if_pos c]
          refine .inr ⟨k, by omega, rfl, hg, fun i hi hgi => ?_⟩
          rcases Nat.lt_or_ge i k with d | d
          · have := (h i d hgi).1; exact ⟨by omega, fun _ => by omega⟩
          · have : i = k := by omega
            subst this
            exact ⟨Int.le_refl _, fun c => by omega⟩
        · rw [if_neg c]
          refine .inr ⟨j, by omega, rfl, hgj, fun i hi hgi => ?_⟩
          rcases Nat.lt_or_ge i k with d | d
          · exact h i d hgi
          · have : i = k := by omega
            subst this
            exact ⟨by omega, fun c => by omega⟩
    · rw [if_neg hg]
      rcases ih with ⟨e, h⟩ | ⟨j, hj, e, hgj, h⟩
      · refine .inl ⟨e, fun i hi => ?_⟩
        rcases Nat.lt_or_ge i k with d | d
        · exact h i d
        · have : i = k := by omega
          subst this
          exact Bool.eq_false_iff.mpr hg
      · refine .inr ⟨j, by omega, e, hgj, fun i hi hgi => ?_⟩
        rcases Nat.lt_or_ge i k with d | d
        · exact h i d hgi
        · have : i = k := by omega
          subst this
          exact absurd hgi hg

theorem scan_range (s : Int) (ws : List Int) (good : List Bool) (k : Nat) : -1 ≤ scanTo s ws good k ∧ scanTo s ws good k < k := by
  rcases scan_spec s ws good k with ⟨e, _⟩ | ⟨j, hj, e, _⟩ <;> rw [e] <;> omega

theorem good_len {good : List Bool} {i : Nat} (h : good.length ≤ i) : goodAt good i = false := by
  unfold goodAt
  rw [List.getD_eq_getElem?_getD, List.getElem?_eq_none h]
  rfl

theorem scan_stop (s : Int) (ws : List Int) (good : List Bool) (k d : Nat) (h : good.length ≤ k) : scanTo s ws good (k + d) = scanTo s ws good k := by
  induction d with
  | zero => rfl
  | succ d ih => rw [← Nat.add_assoc, scanTo, if_neg (by rw [good_len (by omega)]; decide), ih]

theorem bestL_from (ws : List Int) (good : List Bool) (hn : ws.length ≤ 1000) (d : Nat) : ∀ (k i : Nat), i + d = ws.length → d < k → wear_bestL.l0 k ws good (scanTo 1 ws good i) i = some (scanTo 1 ws good ws.length) := by
  induction d with
  | zero =>
    intro k i hi hk
    obtain ⟨k, rfl⟩ : ∃ m, k = m + 1 := ⟨k - 1, by omega⟩
    simp only [wear_bestL.l0]
    rw [if_neg (by omega), show i = ws.length by omega]
  | succ d ih =>
    intro k i hi hk
    obtain ⟨k, rfl⟩ : ∃ m, k = m + 1 := ⟨k - 1, by omega⟩
    have r := scan_range 1 ws good i
    have n := ih k (i + 1) (by omega) (by omega)
    rw [show ((i + 1 : Nat) : Int) = (i : Int) + 1 by omega] at n
    simp only [wear_bestL.l0]
    rw [if_pos (by omega), if_pos (by omega), wid ((i : Int) + 1) (by omega)]
    have e : rdOf false good (i : Int) = goodAt good i := by unfold rdOf goodAt; rw [Int.toNat_natCast]
    by_cases hg : goodAt good i = true
    · have hl : i < good.length := by
        rcases Nat.lt_or_ge i good.length with c | c
        · exact c
        · rw [good_len c] at hg; cases hg
      rw [if_pos (by omega), e, if_pos hg]
      rw [scanTo, if_pos hg] at n
      by_cases c : scanTo 1 ws good i < 0
      · rw [if_pos c] at n ⊢; exact n
      · rw [if_neg c] at n ⊢
        rw [if_pos (by omega)]
        have q : (decide (rd ws (i : Int) < rd ws (scanTo 1 ws good i)) = true) = (1 * at_ ws i < 1 * at_ ws (scanTo 1 ws good i).toNat) := by
          rw [Int.one_mul, Int.one_mul, decide_eq_true_eq]; unfold rd at_; rw [Int.toNat_natCast]
        by_cases c2 : 1 * at_ ws i < 1 * at_ ws (scanTo 1 ws good i).toNat
        · rw [if_pos (q ▸ c2)]; rw [if_pos c2] at n; exact n
        · rw [if_neg (q ▸ c2)]; rw [if_neg c2] at n; exact n
    · rw [scanTo, if_neg hg] at n
      by_cases hl : (i : Int) < (good.length : Int)
      · rw [if_pos hl, e, if_neg hg]; exact n
      · rw [if_neg hl]; exact n

theorem bestM_from (ws : List Int) (good : List Bool) (hn : ws.length ≤ 1000) (d : Nat) : ∀ (k i : Nat), i + d = ws.length → d < k → wear_bestM.l0 k ws good (scanTo (-1) ws good i) i = some (scanTo (-1) ws good ws.length) := by
  induction d with
  | zero =>
    intro k i hi hk
    obtain ⟨k, rfl⟩ : ∃ m, k = m + 1 := ⟨k - 1, by omega⟩
    simp only [wear_bestM.l0]
    rw [if_neg (by omega), show i = ws.length by omega]
  | succ d ih =>
    intro k i hi hk
    obtain ⟨k, rfl⟩ : ∃ m, k = m + 1 := ⟨k - 1, by omega⟩
    have r := scan_range (-1) ws good i
    have n := ih k (i + 1) (by omega) (by omega)
    rw [show ((i + 1 : Nat) : Int) = (i : Int) + 1 by omega] at n
    simp only [wear_bestM.l0]
    rw [if_pos (by omega), if_pos (by omega), wid ((i : Int) + 1) (by omega)]
    have e : rdOf false good (i : Int) = goodAt good i := by unfold rdOf goodAt; rw [Int.toNat_natCast]
    by_cases hg : goodAt good i = true
    · have hl : i < good.length := by
        rcases Nat.lt_or_ge i good.length with c | c
        · exact c
        · rw [good_len c] at hg; cases hg
      rw [if_pos (by omega), e, if_pos hg]
      rw [scanTo, if_pos hg] at n
      by_cases c : scanTo (-1) ws good i < 0
      · rw [if_pos c] at n ⊢; exact n
      · rw [if_neg c] at n ⊢
        rw [if_pos (by omega)]
        have q : (decide (rd ws (i : Int) > rd ws (scanTo (-1) ws good i)) = true) = (-1 * at_ ws i < -1 * at_ ws (scanTo (-1) ws good i).toNat) := by
          rw [decide_eq_true_eq]; unfold rd at_; rw [Int.toNat_natCast]
          exact propext ⟨fun _ => by omega, fun _ => by omega⟩
        by_cases c2 : -1 * at_ ws i < -1 * at_ ws (scanTo (-1) ws good i).toNat
        · rw [if_pos (q ▸ c2)]; rw [if_pos c2] at n; exact n
        · rw [if_neg (q ▸ c2)]; rw [if_neg c2] at n; exact n
    · rw [scanTo, if_neg hg] at n
      by_cases hl : (i : Int) < (good.length : Int)
      · rw [if_pos hl, e, if_neg hg]; exact n
      · rw [if_neg hl]; exact n

def leastV (ws : List Int) (good : List Bool) : Int := scanTo 1 ws good ws.length
def mostV (ws : List Int) (good : List Bool) : Int := scanTo (-1) ws good ws.length
def spreadV (ws : List Int) (good : List Bool) : Int := if leastV ws good < 0 then 0 else at_ ws (mostV ws good).toNat - at_ ws (leastV ws good).toNat

theorem least_f (k : Nat) (ws : List Int) (good : List Bool) (hn : ws.length ≤ 1000) (hk : ws.length < k) : wear_Least.f k ws good = some (leastV ws good) :=
  bestL_from ws good hn ws.length k 0 (by omega) hk
theorem most_f (k : Nat) (ws : List Int) (good : List Bool) (hn : ws.length ≤ 1000) (hk : ws.length < k) : wear_Most.f k ws good = some (mostV ws good) :=
  bestM_from ws good hn ws.length k 0 (by omega) hk

theorem both (ws : List Int) (good : List Bool) : (leastV ws good = -1 ∧ mostV ws good = -1) ∨ (0 ≤ leastV ws good ∧ leastV ws good < ws.length ∧ 0 ≤ mostV ws good ∧ mostV ws good < ws.length) := by
  unfold leastV mostV
  rcases scan_spec 1 ws good ws.length with ⟨e, h⟩ | ⟨j, hj, e, hg, h⟩
  · rcases scan_spec (-1) ws good ws.length with ⟨e', h'⟩ | ⟨j', hj', e', hg', h'⟩
    · exact .inl ⟨e, e'⟩
    · rw [h j' hj'] at hg'; cases hg'
  · rcases scan_spec (-1) ws good ws.length with ⟨e', h'⟩ | ⟨j', hj', e', hg', h'⟩
    · rw [h' j hj] at hg; cases hg
    · rw [e, e']; exact .inr (by omega)

def Small (ws : List Int) : Prop := ∀ i : Nat, 0 ≤ at_ ws i ∧ at_ ws i ≤ 4294967296

theorem spread_f (k : Nat) (ws : List Int) (good : List Bool) (hn : ws.length ≤ 1000) (hk : ws.length < k) (hs : Small ws) : wear_Spread.f k ws good = some (spreadV ws good) := by
  unfold wear_Spread.f spreadV
  rw [least_f k ws good hn hk, Option.bind_some, most_f k ws good hn hk, Option.bind_some]
  rcases both ws good with ⟨a, b⟩ | ⟨a, b, c, d⟩
  · rw [if_pos (show leastV ws good < 0 by omega), if_pos (show leastV ws good < 0 by omega)]
  · rw [if_neg (show ¬ leastV ws good < 0 by omega), if_pos c, if_pos d, if_pos a, if_pos b, if_neg (show ¬ leastV ws good < 0 by omega)]
    have x := hs (mostV ws good).toNat
    have y := hs (leastV ws good).toNat
    unfold at_ at x y
    unfold rd at_
    rw [wid _ (by omega)]

theorem due_f (k : Nat) (ws : List Int) (good : List Bool) (t : Int) (hn : ws.length ≤ 1000) (hk : ws.length < k) (hs : Small ws) : wear_Due.f k ws good t = some (decide (spreadV ws good > t)) := by
  unfold wear_Due.f
  rw [spread_f k ws good hn hk hs]
  rfl

def lowI (n x : Int) : Int := IntKind.u64.wrap x % n
theorem lowI_range (n x : Int) (h : 1 ≤ n) : 0 ≤ lowI n x ∧ lowI n x < n := ⟨Int.emod_nonneg _ (by omega), Int.emod_lt_of_pos _ (by omega)⟩
theorem low_one (x n : Int) (h0 : 1 ≤ n) (h1 : n ≤ 4294967296) : jotterlaw0_Low.f x n = some (lowI n x) := by
  unfold jotterlaw0_Low.f
  have e : IntKind.u64.wrap n = n := by
    show n % 18446744073709551616 = n
    omega
  have hx : 0 ≤ IntKind.u64.wrap x := by
    show 0 ≤ x % 18446744073709551616
    omega
  rw [e, if_neg (by omega), Int.tmod_eq_emod_of_nonneg hx]
  have := lowI_range n x h0
  unfold lowI at this ⊢
  rw [wid _ (by omega)]

theorem small_map (f : Int → Int) (ws : List Int) (h : ∀ x, 0 ≤ f x ∧ f x ≤ 4294967296) : Small (ws.map f) := by
  intro i
  unfold at_
  rw [List.getD_eq_getElem?_getD, List.getElem?_map]
  cases ws[i]? with
  | none => show 0 ≤ (0 : Int) ∧ (0 : Int) ≤ 4294967296; omega
  | some x => exact h x

theorem extreme_from (s : Int) (hs1 : s = 1 ∨ s = -1) (ws : List Int) (good : List Bool) (hn : ws.length ≤ 1000) (hs : Small ws) (d : Nat) : ∀ (k i : Nat), i + d = ws.length → 2 * d + 1 < k → jotterref11_extreme.l0 k ws good s (scanTo s ws good i) i = some (scanTo s ws good ws.length) := by
  induction d with
  | zero =>
    intro k i hi hk
    obtain ⟨k, rfl⟩ : ∃ m, k = m + 2 := ⟨k - 2, by omega⟩
    simp only [jotterref11_extreme.l0, jotterref11_extreme.j1]
    rw [if_neg (by omega), if_neg (by decide), show i = ws.length by omega]
  | succ d ih =>
    intro k i hi hk
    obtain ⟨k, rfl⟩ : ∃ m, k = m + 2 := ⟨k - 2, by omega⟩
    have r := scan_range s ws good i
    have n := ih k (i + 1) (by omega) (by omega)
    rw [show ((i + 1 : Nat) : Int) = (i : Int) + 1 by omega] at n
    simp only [jotterref11_extreme.l0, jotterref11_extreme.j1]
    rw [if_pos (by omega)]
    have e : rdOf false good (i : Int) = goodAt good i := by unfold rdOf goodAt; rw [Int.toNat_natCast]
    by_cases hl : (i : Int) < (good.length : Int)
    · rw [decide_eq_true hl, if_pos rfl, if_pos (by omega), if_pos hl, e, wid ((i : Int) + 1) (by omega)]
      by_cases hg : goodAt good i = true
      · rw [if_pos hg]
        rw [scanTo, if_pos hg] at n
        by_cases c : scanTo s ws good i < 0
        · rw [if_pos c] at n ⊢; exact n
        · rw [if_neg c] at n ⊢
          rw [if_pos (by omega), if_pos (by omega), if_pos (by omega)]
          have x := hs i
          have y := hs (scanTo s ws good i).toNat
          have q : wrap64 (s * rd ws (i : Int)) = s * at_ ws i ∧ wrap64 (s * rd ws (scanTo s ws good i)) = s * at_ ws (scanTo s ws good i).toNat := by
            unfold rd
            rw [Int.toNat_natCast]
            unfold at_ at x y ⊢
            rcases hs1 with rfl | rfl <;> exact ⟨wid _ (by omega), wid _ (by omega)⟩
          rw [q.1, q.2]
          by_cases c2 : s * at_ ws i < s * at_ ws (scanTo s ws good i).toNat
          · rw [if_pos c2] at n ⊢; exact n
          · rw [if_neg c2] at n ⊢; exact n
      · rw [if_neg hg]
        rw [scanTo, if_neg hg] at n
        exact n
    · rw [decide_eq_false hl, if_neg (by decide)]
      have := scan_stop s ws good i (ws.length - i) (by omega)
      rw [show i + (ws.length - i) = ws.length by omega] at this
      rw [this]

theorem rleast_f (k : Nat) (ws : List Int) (good : List Bool) (hn : ws.length ≤ 1000) (hs : Small ws) (hk : 2 * ws.length + 1 < k) : jotterref11_Least.f k ws good = some (leastV ws good) := by
  unfold jotterref11_Least.f jotterref11_extreme.f
  have := extreme_from 1 (.inl rfl) ws good hn hs ws.length k 0 (by omega) hk
  rw [show ((0 : Nat) : Int) = 0 from rfl] at this
  rw [show (-1 : Int) = scanTo 1 ws good 0 from rfl, this]
  rfl
theorem rmost_f (k : Nat) (ws : List Int) (good : List Bool) (hn : ws.length ≤ 1000) (hs : Small ws) (hk : 2 * ws.length + 1 < k) : jotterref11_Most.f k ws good = some (mostV ws good) := by
  unfold jotterref11_Most.f jotterref11_extreme.f
  have := extreme_from (-1) (.inr rfl) ws good hn hs ws.length k 0 (by omega) hk
  rw [show ((0 : Nat) : Int) = 0 from rfl, show scanTo (-1) ws good 0 = -1 from rfl] at this
  rw [this]
  rfl

theorem rspread_f (k : Nat) (ws : List Int) (good : List Bool) (hn : ws.length ≤ 1000) (hs : Small ws) (hk : 2 * ws.length + 1 < k) : jotterref11_Spread.f k ws good = some (spreadV ws good) := by
  have h := spread_f k ws good hn (by omega) hs
  unfold wear_Spread.f at h
  rw [least_f k ws good hn (by omega), Option.bind_some, most_f k ws good hn (by omega), Option.bind_some] at h
  unfold jotterref11_Spread.f
  rw [rleast_f k ws good hn hs hk, Option.bind_some, rmost_f k ws good hn hs hk, Option.bind_some]
  exact h



theorem low_from (n : Int) (h0 : 1 ≤ n) (h1 : n ≤ 4294967296) (ws : List Int) (hn : ws.length ≤ 1000) (d : Nat) : ∀ (k i : Nat), i + d = ws.length → d < k → jotterlaw12_low.l0 k ws n ((ws.take i).map (lowI n)) i = some (ws.map (lowI n)) := by
  induction d with
  | zero =>
    intro k i hi hk
    obtain ⟨k, rfl⟩ : ∃ m, k = m + 1 := ⟨k - 1, by omega⟩
    simp only [jotterlaw12_low.l0]
    rw [if_neg (by omega), List.take_of_length_le (by omega)]
  | succ d ih =>
    intro k i hi hk
    obtain ⟨k, rfl⟩ : ∃ m, k = m + 1 := ⟨k - 1, by omega⟩
    have n := ih k (i + 1) (by omega) (by omega)
    rw [show ((i + 1 : Nat) : Int) = (i : Int) + 1 by omega, List.take_succ_eq_append_getElem (by omega), List.map_append, List.map_singleton] at n
    simp only [jotterlaw12_low.l0]
    have e : rd ws (i : Int) = ws[i]'(by omega) := by
      unfold rd
      rw [Int.toNat_natCast, List.getD_eq_getElem?_getD, List.getElem?_eq_getElem (by omega)]
      rfl
    rw [if_pos (by omega), if_pos (by omega), low_one _ _ h0 h1, Option.bind_some, e, if_pos (by rw [List.length_map, List.length_take]; omega), wid ((i : Int) + 1) (by omega)]
    exact n

theorem lows_f (k : Nat) (n : Int) (h0 : 1 ≤ n) (h1 : n ≤ 4294967296) (ws : List Int) (hn : ws.length ≤ 1000) (hk : ws.length < k) : jotterlaw12_low.f k ws n = some (ws.map (lowI n)) :=
  low_from n h0 h1 ws hn ws.length k 0 (by omega) hk

theorem lows_range (n : Int) (h0 : 1 ≤ n) (ws : List Int) (i : Nat) : 0 ≤ at_ (ws.map (lowI n)) i ∧ at_ (ws.map (lowI n)) i < n := by
  unfold at_
  rw [List.getD_eq_getElem?_getD, List.getElem?_map]
  cases ws[i]? with
  | none => show 0 ≤ (0 : Int) ∧ (0 : Int) < n; omega
  | some x => exact lowI_range n x h0
theorem lows_len (n : Int) (ws : List Int) : (ws.map (lowI n)).length = ws.length := List.length_map ..

theorem awake_f (k : Nat) (hk : 10 ≤ k) : jotterlaw12_awake.f k = some true :=
  at_rounds (g := jotterlaw12_awake.f) jotterlaw12_awake.mono hk (by decide +kernel)

def low3 (a b c : Nat) : Nat := min (min a b) c
theorem mn3 (a b c : Nat) : mn (mn (a : Int) (b : Int)) (c : Int) = (low3 a b c : Int) := by
  unfold mn low3
  split <;> split <;> omega
theorem low3_le (a b c : Nat) : low3 a b c ≤ a ∧ low3 a b c ≤ b ∧ low3 a b c ≤ c := by unfold low3; omega

def pickTo (live ws : List Int) (good : List Bool) : Nat → Int
  | 0 => -1
  | i + 1 => if goodAt good i = true then (if pickTo live ws good i < 0 then (i : Int) else if at_ live i < at_ live (pickTo live ws good i).toNat then (i : Int) else if at_ live i = at_ live (pickTo live ws good i).toNat then (if at_ ws i < at_ ws (pickTo live ws good i).toNat then (i : Int) else pickTo live ws good i) else pickTo live ws good i) else pickTo live ws good i

def Best (live ws : List Int) (j i : Nat) : Prop := at_ live j < at_ live i ∨ (at_ live j = at_ live i ∧ (at_ ws j < at_ ws i ∨ (at_ ws j = at_ ws i ∧ j ≤ i)))
def PSpec (live ws : List Int) (good : List Bool) (k : Nat) (m : Int) : Prop :=
  (m = -1 ∧ ∀ i, i < k → goodAt good i = false) ∨ (∃ j : Nat, j < k ∧ m = j ∧ goodAt good j = true ∧ ∀ i, i < k → goodAt good i = true → Best live ws j i)

theorem pick_spec (live ws : List Int) (good : List Bool) (k : Nat) : PSpec live ws good k (pickTo live ws good k) := by
  induction k with
  | zero => exact .inl ⟨rfl, fun i h => by omega⟩
  | succ k ih =>
    rw [pickTo]
    by_cases hg : goodAt good k = true
    · rw [if_pos hg]
      rcases ih with ⟨e, h⟩ | ⟨j, hj, e, hgj, h⟩
      · rw [e, if_pos (by omega)]
        refine .inr ⟨k, by omega, rfl, hg, fun i hi hgi => ?_⟩
        have : i = k := by
          rcases Nat.lt_or_ge i k with c | c
          · rw [h i c] at hgi; cases hgi
          · omega
        subst this
        exact .inr ⟨rfl, .inr ⟨rfl, Nat.le_refl _⟩⟩
      · rw [e, if_neg (by omega), Int.toNat_natCast]
        have new : (at_ live k < at_ live j ∨ (at_ live k = at_ live j ∧ at_ ws k < at_ ws j)) → PSpec live ws good (k + 1) (k : Int) := fun c => by
          refine .inr ⟨k, by omega, rfl, hg, fun i hi hgi => ?_⟩
          rcases Nat.lt_or_ge i k with d | d
          · have := h i d hgi
            unfold Best at this ⊢
            omega
          · have : i = k := by omega
            subst this
            exact .inr ⟨rfl, .inr ⟨rfl, Nat.le_refl _⟩⟩
        have old : ¬ (at_ live k < at_ live j ∨ (at_ live k = at_ live j ∧ at_ ws k < at_ ws j)) → PSpec live ws good (k + 1) (j : Int) := fun c => by
          refine .inr ⟨j, by omega, rfl, hgj, fun i hi hgi => ?_⟩
          rcases Nat.lt_or_ge i k with d | d
          · exact h i d hgi
          · have : i = k := by omega
            subst this
            unfold Best
            omega
        by_cases c : at_ live k < at_ live j
        · rw [if_pos c]; exact new (.inl c)
        · rw [if_neg c]
          by_cases c2 : at_ live k = at_ live j
          · rw [if_pos c2]
            by_cases c3 : at_ ws k < at_ ws j
            · rw [if_pos c3]; exact new (.inr ⟨c2, c3⟩)
            · rw [if_neg c3]; exact old (by omega)
          · rw [if_neg c2]; exact old (by omega)
    · rw [if_neg hg]
      rcases ih with ⟨e, h⟩ | ⟨j, hj, e, hgj, h⟩
      · refine .inl ⟨e, fun i hi => ?_⟩
        rcases Nat.lt_or_ge i k with d | d
        · exact h i d
        · have : i = k := by omega
          subst this
          exact Bool.eq_false_iff.mpr hg
      · refine .inr ⟨j, by omega, e, hgj, fun i hi hgi => ?_⟩
        rcases Nat.lt_or_ge i k with d | d
        · exact h i d hgi
        · have : i = k := by omega
          subst this
          exact absurd hgi hg

theorem PSpec.one {live ws : List Int} {good : List Bool} {k : Nat} {m m' : Int} (h : PSpec live ws good k m) (h' : PSpec live ws good k m') : m = m' := by
  rcases h with ⟨rfl, h⟩ | ⟨j, hj, rfl, hg, h⟩
  · rcases h' with ⟨rfl, _⟩ | ⟨j', hj', rfl, hg', _⟩
    · rfl
    · rw [h j' hj'] at hg'; cases hg'
  · rcases h' with ⟨rfl, h'⟩ | ⟨j', hj', rfl, hg', h'⟩
    · rw [h' j hj] at hg; cases hg
    · have a := h j' hj' hg'
      have b := h' j hj hg
      unfold Best at a b
      omega

theorem pick_range (live ws : List Int) (good : List Bool) (k : Nat) : -1 ≤ pickTo live ws good k ∧ pickTo live ws good k < k := by
  rcases pick_spec live ws good k with ⟨e, _⟩ | ⟨j, hj, e, _⟩ <;> rw [e] <;> omega

theorem pick_from (live ws : List Int) (good : List Bool) (n : Nat) (h1 : n ≤ live.length) (h2 : n ≤ ws.length) (h3 : n ≤ good.length) (hn : n ≤ 1000) (d : Nat) : ∀ (k i : Nat), i + d = n → d < k → victim_Pick.l0 k live ws good (pickTo live ws good i) n i = some (pickTo live ws good n) := by
  induction d with
  | zero =>
    intro k i hi hk
    obtain ⟨k, rfl⟩ : ∃ m, k = m + 1 := ⟨k - 1, by omega⟩
    simp only [victim_Pick.l0]
    rw [if_neg (by omega), show i = n by omega]
  | succ d ih =>
    intro k i hi hk
    obtain ⟨k, rfl⟩ : ∃ m, k = m + 1 := ⟨k - 1, by omega⟩
    have r := pick_range live ws good i
    have nx := ih k (i + 1) (by omega) (by omega)
    rw [show ((i + 1 : Nat) : Int) = (i : Int) + 1 by omega] at nx
    have e : rdOf false good (i : Int) = goodAt good i := by unfold rdOf goodAt; rw [Int.toNat_natCast]
    have er : ∀ xs : List Int, rd xs (i : Int) = at_ xs i := fun xs => by unfold rd at_; rw [Int.toNat_natCast]
    have ep : ∀ xs : List Int, rd xs (pickTo live ws good i) = at_ xs (pickTo live ws good i).toNat := fun xs => rfl
    simp only [victim_Pick.l0]
    rw [if_pos (by omega), if_pos (by omega), if_pos (by omega), wid ((i : Int) + 1) (by omega), e]
    by_cases hg : goodAt good i = true
    · rw [if_pos hg]
      rw [pickTo, if_pos hg] at nx
      by_cases c : pickTo live ws good i < 0
      · rw [if_pos c] at nx ⊢; exact nx
      · rw [if_neg c] at nx ⊢
        rw [if_pos (by omega), if_pos (by omega), if_pos (by omega), er, er, ep, ep]
        by_cases c1 : at_ live i < at_ live (pickTo live ws good i).toNat
        · rw [if_pos c1] at nx ⊢; exact nx
        · rw [if_neg c1] at nx ⊢
          by_cases c2 : at_ live i = at_ live (pickTo live ws good i).toNat
          · rw [if_pos c2] at nx ⊢
            rw [if_pos (by omega), if_pos (by omega)]
            by_cases c3 : at_ ws i < at_ ws (pickTo live ws good i).toNat
            · rw [if_pos c3] at nx ⊢; exact nx
            · rw [if_neg c3] at nx ⊢; exact nx
          · rw [if_neg c2] at nx ⊢; exact nx
    · rw [if_neg hg]
      rw [pickTo, if_neg hg] at nx
      exact nx

def pickV (live ws : List Int) (good : List Bool) : Int := pickTo live ws good (low3 live.length ws.length good.length)
theorem pick_f (k : Nat) (live ws : List Int) (good : List Bool) (hn : ws.length ≤ 1000) (hk : 1001 ≤ k) : victim_Pick.f k live ws good = some (pickV live ws good) := by
  unfold victim_Pick.f pickV
  rw [mn3]
  have := low3_le live.length ws.length good.length
  exact pick_from live ws good _ this.1 this.2.1 this.2.2 (by omega) _ k 0 (Nat.zero_add _) (by omega)

theorem at_take (xs : List Int) (n i : Nat) : at_ (xs.take n) i = if i < n then at_ xs i else 0 := by
  unfold at_
  rw [List.getD_eq_getElem?_getD, List.getElem?_take]
  split
  · rw [List.getD_eq_getElem?_getD]
  · rfl
theorem good_take (good : List Bool) (n i : Nat) : goodAt (good.take n) i = if i < n then goodAt good i else false := by
  unfold goodAt
  rw [List.getD_eq_getElem?_getD, List.getElem?_take]
  split
  · rw [List.getD_eq_getElem?_getD]
  · rfl
theorem small_take {xs : List Int} (h : Small xs) (n : Nat) : Small (xs.take n) := fun i => by
  rw [at_take]
  have := h i
  split <;> omega

def coldV (live ws : List Int) (good : List Bool) (t : Int) : Int :=
  let n := low3 live.length ws.length good.length
  if leastV (ws.take n) (good.take n) < 0 then -1 else if spreadV (ws.take n) (good.take n) > t then (if at_ live (leastV (ws.take n) (good.take n)).toNat = 0 then -1 else leastV (ws.take n) (good.take n)) else -1

theorem cold_f (k : Nat) (live ws : List Int) (good : List Bool) (t : Int) (hn : ws.length ≤ 1000) (hs : Small ws) (hk : 1001 ≤ k) : victim_Cold.f k live ws good t = some (coldV live ws good t) := by
  unfold victim_Cold.f coldV
  have h3 := low3_le live.length ws.length good.length
  rw [mn3]
  generalize low3 live.length ws.length good.length = n at h3
  have hl : (ws.take n).length = n := by rw [List.length_take]; omega
  rw [if_pos (by omega), if_pos (by omega), if_pos (by omega), Int.toNat_natCast, least_f k _ _ (by omega) (by omega), Option.bind_some, due_f k _ _ t (by omega) (by omega) (small_take hs n)]
  rcases both (ws.take n) (good.take n) with ⟨a, _⟩ | ⟨a, b, _⟩
  · simp only
    rw [if_pos (show leastV (ws.take n) (good.take n) < 0 by omega), if_pos (show leastV (ws.take n) (good.take n) < 0 by omega)]
  · simp only
    rw [if_neg (show ¬ leastV (ws.take n) (good.take n) < 0 by omega), if_neg (show ¬ leastV (ws.take n) (good.take n) < 0 by omega), Option.bind_some]
    by_cases c : spreadV (ws.take n) (good.take n) > t
    · rw [decide_eq_true c, if_pos rfl, if_pos c, if_pos a, if_pos (by omega)]
      show (if at_ live (leastV (ws.take n) (good.take n)).toNat = 0 then some (-1) else some _) = _
      split <;> rfl
    · rw [decide_eq_false c, if_neg c]
      rfl


theorem rpick_from (live ws : List Int) (good : List Bool) (n : Nat) (hl : n = low3 live.length ws.length good.length) (hn : n ≤ 1000) (d : Nat) : ∀ (k i : Nat), i + d = n → 2 * d + 1 < k → jotterref12_Pick.l0 k live ws good (pickTo live ws good i) i = some (pickTo live ws good n) := by
  have h3 := low3_le live.length ws.length good.length
  have h4 : n = live.length ∨ n = ws.length ∨ n = good.length := by rw [hl]; unfold low3; omega
  rw [← hl] at h3
  induction d with
  | zero =>
    intro k i hi hk
    obtain ⟨k, rfl⟩ : ∃ m, k = m + 2 := ⟨k - 2, by omega⟩
    simp only [jotterref12_Pick.l0, jotterref12_Pick.j1]
    rw [show i = n by omega]
    by_cases c1 : (n : Int) < (live.length : Int)
    · rw [if_pos c1]
      by_cases c2 : (n : Int) < (ws.length : Int)
      · rw [if_pos c2, decide_eq_false (by omega), if_neg (by decide)]
      · rw [if_neg c2, if_neg (by decide)]
    · rw [if_neg c1, if_neg (by decide)]
  | succ d ih =>
    intro k i hi hk
    obtain ⟨k, rfl⟩ : ∃ m, k = m + 2 := ⟨k - 2, by omega⟩
    have r := pick_range live ws good i
    have nx := ih k (i + 1) (by omega) (by omega)
    rw [show ((i + 1 : Nat) : Int) = (i : Int) + 1 by omega] at nx
    have e : rdOf false good (i : Int) = goodAt good i := by unfold rdOf goodAt; rw [Int.toNat_natCast]
    have er : ∀ xs : List Int, rd xs (i : Int) = at_ xs i := fun xs => by unfold rd at_; rw [Int.toNat_natCast]
    have ep : ∀ xs : List Int, rd xs (pickTo live ws good i) = at_ xs (pickTo live ws good i).toNat := fun xs => rfl
    simp only [jotterref12_Pick.l0, jotterref12_Pick.j1]
    rw [if_pos (by omega), if_pos (by omega), decide_eq_true (show (i : Int) < (good.length : Int) by omega), if_pos rfl, if_pos (by omega), if_pos (by omega), wid ((i : Int) + 1) (by omega), e]
    by_cases hg : goodAt good i = true
    · rw [if_pos hg]
      rw [pickTo, if_pos hg] at nx
      by_cases c : pickTo live ws good i < 0
      · rw [if_pos c] at nx ⊢; exact nx
      · rw [if_neg c] at nx ⊢
        rw [if_pos (by omega), if_pos (by omega), if_pos (by omega), er, er, ep, ep]
        by_cases c1 : at_ live i < at_ live (pickTo live ws good i).toNat
        · rw [if_pos c1] at nx ⊢; exact nx
        · rw [if_neg c1] at nx ⊢
          by_cases c2 : at_ live i = at_ live (pickTo live ws good i).toNat
          · rw [if_pos c2] at nx ⊢
            rw [if_pos (by omega), if_pos (by omega)]
            by_cases c3 : at_ ws i < at_ ws (pickTo live ws good i).toNat
            · rw [if_pos c3] at nx ⊢; exact nx
            · rw [if_neg c3] at nx ⊢; exact nx
          · rw [if_neg c2] at nx ⊢; exact nx
    · rw [if_neg hg]
      rw [pickTo, if_neg hg] at nx
      exact nx

theorem rpick_f (k : Nat) (live ws : List Int) (good : List Bool) (hn : ws.length ≤ 1000) (hk : 3001 ≤ k) : jotterref12_Pick.f k live ws good = some (pickV live ws good) := by
  unfold jotterref12_Pick.f pickV
  have := low3_le live.length ws.length good.length
  exact rpick_from live ws good _ rfl (by omega) _ k 0 (Nat.zero_add _) (by omega)

theorem rcold_f (k : Nat) (live ws : List Int) (good : List Bool) (t : Int) (hn : ws.length ≤ 1000) (hs : Small ws) (hk : 3001 ≤ k) : jotterref12_Cold.f k live ws good t = some (coldV live ws good t) := by
  unfold jotterref12_Cold.f coldV
  have h3 := low3_le live.length ws.length good.length
  rw [mn3]
  generalize low3 live.length ws.length good.length = n at h3
  have hl : (ws.take n).length = n := by rw [List.length_take]; omega
  have st := small_take hs n
  have d : jotterref11_Due.f k (ws.take n) (good.take n) t = some (decide (spreadV (ws.take n) (good.take n) > t)) := by
    unfold jotterref11_Due.f
    rw [rspread_f k _ _ (by omega) st (by omega)]
    rfl
  rw [if_pos (by omega), if_pos (by omega), if_pos (by omega), Int.toNat_natCast, d, Option.bind_some, rleast_f k _ _ (by omega) st (by omega)]
  rcases both (ws.take n) (good.take n) with ⟨a, _⟩ | ⟨a, b, _⟩
  · simp only
    rw [Option.bind_some, if_pos (show leastV (ws.take n) (good.take n) < 0 by omega), if_pos (show leastV (ws.take n) (good.take n) < 0 by omega)]
    split <;> rfl
  · simp only
    rw [Option.bind_some, if_neg (show ¬ leastV (ws.take n) (good.take n) < 0 by omega), if_neg (show ¬ leastV (ws.take n) (good.take n) < 0 by omega)]
    by_cases c : spreadV (ws.take n) (good.take n) > t
    · rw [decide_eq_true c, if_pos rfl, if_pos c, if_pos a, if_pos (by omega)]
      show (if at_ live (leastV (ws.take n) (good.take n)).toNat = 0 then some (-1) else some _) = _
      split <;> rfl
    · rw [decide_eq_false c, if_neg c]
      rfl

theorem j0_f (k : Nat) (live ws : List Int) (good : List Bool) (t : Int) (b : Bool) (h : b = false → live.length ≤ 40 ∧ ws.length ≤ 40) (hk : 4000 ≤ k) : jotterlaw12_VictimTells.j0 (k + 1) live ws good t b = some true := by
  simp only [jotterlaw12_VictimTells.j0]
  cases b with
  | true => rw [if_pos rfl, awake_f k (by omega)]; rfl
  | false =>
    have hn := h rfl
    rw [if_neg (by decide), lows_f k 9 (by omega) (by omega) live (by omega) (by omega), Option.bind_some, lows_f k 1073741824 (by omega) (by omega) ws (by omega) (by omega), Option.bind_some]
    have l2 := lows_len 1073741824 ws
    have s2 : Small (ws.map (lowI 1073741824)) := fun i => by have := lows_range 1073741824 (by omega) ws i; omega
    generalize ws.map (lowI 1073741824) = v at l2 s2
    generalize live.map (lowI 9) = u
    have fr : victim_Free.f k v good = some (leastV v good) := by unfold victim_Free.f; rw [least_f k v good (by omega) (by omega)]; rfl
    have rfr : jotterref12_Free.f k v good = some (leastV v good) := by unfold jotterref12_Free.f; rw [rleast_f k v good (by omega) s2 (by omega)]; rfl
    rw [pick_f k u v good (by omega) (by omega), rpick_f k u v good (by omega) (by omega), fr, rfr, cold_f k u v good t (by omega) s2 (by omega), rcold_f k u v good t (by omega) s2 (by omega), awake_f k (by omega)]
    simp only [Option.bind_some, if_true]

theorem pure (live ws : List Int) (good : List Bool) (t : Int) : ∃ k, jotterlaw12_VictimTells.f k live ws good t = some true := by
  refine ⟨4001, ?_⟩
  unfold jotterlaw12_VictimTells.f
  by_cases c : (live.length : Int) > 40
  · rw [if_pos c]
    exact j0_f 4000 live ws good t true (fun h => by cases h) (by omega)
  · rw [if_neg c]
    by_cases c2 : (ws.length : Int) > 40
    · rw [if_pos c2]
      exact j0_f 4000 live ws good t true (fun h => by cases h) (by omega)
    · rw [if_neg c2]
      exact j0_f 4000 live ws good t _ (fun _ => by omega) (by omega)

end Go.Proofs.Ytjagkehablfmkaa.PVictimTells
