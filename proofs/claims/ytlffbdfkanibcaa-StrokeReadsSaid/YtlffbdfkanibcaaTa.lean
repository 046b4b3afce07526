/-
  Sheets as bytes, in plain words: what both readings of bytes come to is the same. No program in sight.
-/
import Derived.Test.YtlffbdfkanibcaaBx
namespace Go.Proofs.Ytlffbdfkanibcaa.Sk
open Go.Proofs.Ytlffbdfkanibcaa.Pt
set_option linter.unusedSimpArgs false
set_option linter.unusedVariables false

abbrev P2 := Int × Int
structure St where
  pen : Int
  wid : Int
  pts : List P2

/-- Two bytes as a number. -/
def num16 (a b : Int) : Int := if 32768 ≤ a * 256 + b then a * 256 + b - 65536 else a * 256 + b
def hi8 (x : Int) : Int := x % 65536 / 256
def lo8 (x : Int) : Int := x % 256
theorem num_hi_lo (x : Int) (h : In x) : num16 (hi8 x) (lo8 x) = x := by unfold In at h; unfold num16 hi8 lo8; split <;> omega
def Byte (x : Int) : Prop := 0 ≤ x ∧ x < 256
theorem hi_num (a b : Int) (ha : Byte a) (hb : Byte b) : hi8 (num16 a b) = a := by unfold Byte at *; unfold num16 hi8; split <;> omega
theorem lo_num (a b : Int) (ha : Byte a) (hb : Byte b) : lo8 (num16 a b) = b := by unfold Byte at *; unfold num16 lo8; split <;> omega
theorem num_in (a b : Int) (ha : Byte a) (hb : Byte b) : In (num16 a b) := by unfold Byte at *; unfold In num16; split <;> omega

def mayS (x : St) : Prop := (0 ≤ x.pen ∧ x.pen ≤ 7) ∧ (1 ≤ x.wid ∧ x.wid ≤ 9) ∧ (1 ≤ x.pts.length ∧ x.pts.length ≤ 10)
/-- May a sheet be (its points may)? -/
def may (s : List St) : Prop := s.length ≤ 6 ∧ ∀ x ∈ s, mayS x
instance (x : St) : Decidable (mayS x) := by unfold mayS; infer_instance
instance (s : List St) : Decidable (may s) := by unfold may; infer_instance
def ptsIn (s : List St) : Prop := ∀ x ∈ s, ∀ p ∈ x.pts, InP p

def layP : List P2 → List Int
  | [] => []
  | p :: r => hi8 p.1 :: lo8 p.1 :: hi8 p.2 :: lo8 p.2 :: layP r
def layS : List St → List Int
  | [] => []
  | x :: r => (16 * x.pen + x.wid) % 256 :: ((x.pts.length : Nat) : Int) % 256 :: (layP x.pts ++ layS r)
def takePts : Nat → List Int → Option (List P2 × List Int)
  | 0, b => some ([], b)
  | n + 1, a :: b :: c :: d :: r => (takePts n r).map (fun x => ((num16 a b, num16 c d) :: x.1, x.2))
  | _ + 1, _ => none
def takeSts : Nat → List Int → Option (List St × List Int)
  | 0, b => some ([], b)
  | n + 1, h :: k :: r => (takePts k.toNat r).bind (fun x => (takeSts n x.2).map (fun y => (⟨h / 16, h % 16, x.1⟩ :: y.1, y.2)))
  | _ + 1, _ => none
def lenPts : Nat → List Int → List P2 × List Int
  | n + 1, a :: b :: c :: d :: r => ((num16 a b, num16 c d) :: (lenPts n r).1, (lenPts n r).2)
  | _, r => ([], r)
def lenSts : Nat → List Int → List St
  | f + 1, h :: k :: r => ⟨h / 16, h % 16, (lenPts k.toNat r).1⟩ :: lenSts f (lenPts k.toNat r).2
  | _, _ => []
/-- What is left over behind n strokes, s being there. -/
def fin (s : List St) (x : Option (List St × List Int)) : Option (List St) := x.bind fun y => if y.2 = [] ∧ may (s ++ y.1) then some (s ++ y.1) else none
/-- The program's reading. -/
def readV (b : List Int) : Option (List St) := match b with
  | [] => none
  | k :: r => fin [] (takeSts k.toNat r)
/-- The document's. -/
def readR (b : List Int) : Option (List St) := if may (lenSts 7 (b.drop 1)) ∧ (((lenSts 7 (b.drop 1)).length : Nat) : Int) :: layS (lenSts 7 (b.drop 1)) = b then some (lenSts 7 (b.drop 1)) else none

theorem take_pts (n : Nat) (r r' : List Int) (ps : List P2) (hb : ∀ x ∈ r, Byte x) (h : takePts n r = some (ps, r')) : r = layP ps ++ r' ∧ ps.length = n ∧ (∀ x ∈ r', Byte x) ∧ ∀ p ∈ ps, InP p := by
  induction n generalizing r ps with
  | zero =>
    simp only [takePts, Option.some.injEq, Prod.mk.injEq] at h
    obtain ⟨rfl, rfl⟩ := h
    exact ⟨rfl, rfl, hb, fun p hp => by cases hp⟩
  | succ n ih =>
    match r, h with
    | a :: b :: c :: d :: r, h =>
      simp only [takePts, Option.map_eq_some_iff, Prod.mk.injEq] at h
      obtain ⟨⟨qs, r2⟩, h1, rfl, rfl⟩ := h
      have ha := hb a (by simp)
      have hbb := hb b (by simp)
      have hc := hb c (by simp)
      have hd := hb d (by simp)
      obtain ⟨e1, e2, e3, e4⟩ := ih r qs (fun x hx => hb x (by simp [hx])) h1
      refine ⟨?_, by simp [e2], e3, ?_⟩
      · show _ = hi8 (num16 a b) :: lo8 (num16 a b) :: hi8 (num16 c d) :: lo8 (num16 c d) :: (layP qs ++ r2)
        rw [hi_num a b ha hbb, lo_num a b ha hbb, hi_num c d hc hd, lo_num c d hc hd, ← e1]
      · intro p hp
        rcases List.mem_cons.1 hp with rfl | hp
        · exact ⟨num_in a b ha hbb, num_in c d hc hd⟩
        · exact e4 p hp
    | [], h => simp [takePts] at h
    | [_], h => simp [takePts] at h
    | [_, _], h => simp [takePts] at h
    | [_, _, _], h => simp [takePts] at h
theorem take_sts (n : Nat) (r r' : List Int) (ss : List St) (hb : ∀ x ∈ r, Byte x) (h : takeSts n r = some (ss, r')) : r = layS ss ++ r' ∧ ss.length = n ∧ ptsIn ss := by
  induction n generalizing r ss with
  | zero =>
    simp only [takeSts, Option.some.injEq, Prod.mk.injEq] at h
    obtain ⟨rfl, rfl⟩ := h
    exact ⟨rfl, rfl, fun x hx => by cases hx⟩
  | succ n ih =>
    match r, h with
    | a :: k :: r, h =>
      simp only [takeSts, Option.bind_eq_some_iff, Option.map_eq_some_iff, Prod.mk.injEq] at h
      obtain ⟨⟨ps, r2⟩, h1, ⟨ts, r3⟩, h2, rfl, rfl⟩ := h
      have ha := hb a (by simp)
      have hk := hb k (by simp)
      obtain ⟨e1, e2, e3, e4⟩ := take_pts _ r r2 ps (fun x hx => hb x (by simp [hx])) h1
      obtain ⟨g1, g2, g3⟩ := ih r2 ts e3 h2
      unfold Byte at ha hk
      refine ⟨?_, by simp [g2], ?_⟩
      · show a :: k :: r = (16 * (a / 16) + a % 16) % 256 :: ((ps.length : Nat) : Int) % 256 :: (layP ps ++ layS ts ++ r3)
        rw [e1, g1, e2, List.append_assoc]
        congr 1
        · omega
        · congr 1; omega
      · intro x hx p hp
        rcases List.mem_cons.1 hx with rfl | hx
        · exact e4 p hp
        · exact g3 x hx p hp
    | [], h => simp [takeSts] at h
    | [_], h => simp [takeSts] at h
theorem takePts_lay (ps : List P2) (r : List Int) (h : ∀ p ∈ ps, InP p) : takePts ps.length (layP ps ++ r) = some (ps, r) := by
  induction ps with
  | nil => rfl
  | cons p ps ih =>
    show (takePts ps.length (layP ps ++ r)).map _ = _
    rw [ih (fun q hq => h q (by simp [hq]))]
    have hp := h p (by simp)
    simp [num_hi_lo p.1 hp.1, num_hi_lo p.2 hp.2]
theorem lenPts_lay (ps : List P2) (r : List Int) (h : ∀ p ∈ ps, InP p) : lenPts ps.length (layP ps ++ r) = (ps, r) := by
  induction ps with
  | nil => cases r <;> rfl
  | cons p ps ih =>
    show ((num16 (hi8 p.1) (lo8 p.1), num16 (hi8 p.2) (lo8 p.2)) :: (lenPts ps.length (layP ps ++ r)).1, (lenPts ps.length (layP ps ++ r)).2) = _
    rw [ih (fun q hq => h q (by simp [hq]))]
    have hp := h p (by simp)
    simp [num_hi_lo p.1 hp.1, num_hi_lo p.2 hp.2]
theorem head_of (x : St) (h : mayS x) : (16 * x.pen + x.wid) % 256 / 16 = x.pen ∧ (16 * x.pen + x.wid) % 256 % 16 = x.wid ∧ (((x.pts.length : Nat) : Int) % 256).toNat = x.pts.length := by
  obtain ⟨h1, h2, h3⟩ := h
  omega
theorem takeSts_lay (ss : List St) (h : ∀ x ∈ ss, mayS x) (hp : ptsIn ss) : takeSts ss.length (layS ss) = some (ss, []) := by
  induction ss with
  | nil => rfl
  | cons x ss ih =>
    obtain ⟨e1, e2, e3⟩ := head_of x (h x (by simp))
    show (takePts (((x.pts.length : Nat) : Int) % 256).toNat (layP x.pts ++ layS ss)).bind _ = _
    rw [e3, takePts_lay x.pts _ (fun p hq => hp x (by simp) p hq)]
    simp only [Option.bind_some]
    rw [ih (fun y hy => h y (by simp [hy])) (fun y hy => hp y (by simp [hy]))]
    simp [e1, e2]
theorem lenSts_lay (ss : List St) (f : Nat) (hf : ss.length ≤ f) (h : ∀ x ∈ ss, mayS x) (hp : ptsIn ss) : lenSts f (layS ss) = ss := by
  induction ss generalizing f with
  | nil => cases f <;> rfl
  | cons x ss ih =>
    obtain ⟨e1, e2, e3⟩ := head_of x (h x (by simp))
    match f, hf with
    | f + 1, hf =>
      show (⟨_, _, (lenPts (((x.pts.length : Nat) : Int) % 256).toNat (layP x.pts ++ layS ss)).1⟩ : St) :: lenSts f (lenPts (((x.pts.length : Nat) : Int) % 256).toNat (layP x.pts ++ layS ss)).2 = _
      rw [e3, lenPts_lay x.pts _ (fun p hq => hp x (by simp) p hq), e1, e2]
      simp only
      rw [ih f (by simpa using hf) (fun y hy => h y (by simp [hy])) (fun y hy => hp y (by simp [hy]))]
theorem lenPts_in (n : Nat) (r : List Int) (hb : ∀ x ∈ r, Byte x) : (∀ p ∈ (lenPts n r).1, InP p) ∧ ∀ x ∈ (lenPts n r).2, Byte x := by
  induction n generalizing r with
  | zero => exact ⟨fun p hp => by simp [lenPts] at hp, by simpa [lenPts] using hb⟩
  | succ n ih =>
    match r, hb with
    | a :: b :: c :: d :: r, hb =>
      obtain ⟨h1, h2⟩ := ih r (fun x hx => hb x (by simp [hx]))
      refine ⟨fun p hp => ?_, h2⟩
      rcases List.mem_cons.1 hp with rfl | hp
      · exact ⟨num_in a b (hb a (by simp)) (hb b (by simp)), num_in c d (hb c (by simp)) (hb d (by simp))⟩
      · exact h1 p hp
    | [], hb => exact ⟨fun p hp => by simp [lenPts] at hp, hb⟩
    | [_], hb => exact ⟨fun p hp => by simp [lenPts] at hp, by simpa [lenPts] using hb⟩
    | [_, _], hb => exact ⟨fun p hp => by simp [lenPts] at hp, by simpa [lenPts] using hb⟩
    | [_, _, _], hb => exact ⟨fun p hp => by simp [lenPts] at hp, by simpa [lenPts] using hb⟩
theorem lenSts_in (f : Nat) (r : List Int) (hb : ∀ x ∈ r, Byte x) : ptsIn (lenSts f r) := by
  induction f generalizing r with
  | zero => intro x hx; simp [lenSts] at hx
  | succ f ih =>
    match r, hb with
    | a :: k :: r, hb =>
      obtain ⟨h1, h2⟩ := lenPts_in k.toNat r (fun x hx => hb x (by simp [hx]))
      intro x hx p hp
      rcases List.mem_cons.1 hx with rfl | hx
      · exact h1 p hp
      · exact ih _ h2 x hx p hp
    | [], hb => intro x hx; simp [lenSts] at hx
    | [_], hb => intro x hx; simp [lenSts] at hx
theorem read_same (b : List Int) (hb : ∀ x ∈ b, Byte x) : readV b = readR b := by
  match b, hb with
  | [], hb =>
    have : ¬ (may (lenSts 7 (([] : List Int).drop 1)) ∧ (((lenSts 7 (([] : List Int).drop 1)).length : Nat) : Int) :: layS (lenSts 7 (([] : List Int).drop 1)) = []) := by intro h; cases h.2
    unfold readR
    rw [if_neg this]; rfl
  | k :: r, hb =>
    have hk := hb k (by simp)
    have hr : ∀ x ∈ r, Byte x := fun x hx => hb x (by simp [hx])
    unfold Byte at hk
    cases hq : readV (k :: r) with
    | some s =>
      obtain ⟨⟨ss, r'⟩, h1, h2⟩ := Option.bind_eq_some_iff.1 hq
      simp only [List.nil_append] at h2
      split at h2
      · rename_i hm
        obtain ⟨hm1, hm2⟩ := hm
        subst hm1
        obtain rfl := Option.some.inj h2
        obtain ⟨e1, e2, e3⟩ := take_sts _ r [] ss hr h1
        rw [List.append_nil] at e1
        have e4 : lenSts 7 r = ss := by rw [e1]; exact lenSts_lay ss 7 (by have := hm2.1; omega) hm2.2 e3
        unfold readR
        simp only [List.drop_succ_cons, List.drop_zero]
        rw [e4, if_pos ⟨hm2, by rw [e1]; congr 1; omega⟩]
      · cases h2
    | none =>
      unfold readR
      simp only [List.drop_succ_cons, List.drop_zero]
      split
      · rename_i hm
        obtain ⟨hm1, hm2⟩ := hm
        exfalso
        have hp := lenSts_in 7 r hr
        generalize lenSts 7 r = ss at *
        injection hm2 with g1 g2
        have : readV (k :: r) = some ss := by
          show fin [] (takeSts k.toNat r) = some ss
          rw [← g2, ← g1, Int.toNat_natCast, takeSts_lay ss hm1.2 hp]
          simp [fin, hm1]
        rw [hq] at this; cases this
      · rfl
end Go.Proofs.Ytlffbdfkanibcaa.Sk
