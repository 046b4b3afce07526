/-
  Towards the walk of stroke.Read: laws of steps, and how what is left to be read shrinks. No condition beyond the numbers' bounds.
-/
import Derived.Test.YtlffbdfkanibcaaTe
import Derived.Maps.AppendAt
import Derived.Laws.OwnMore
namespace Go.Proofs.Ytlffbdfkanibcaa.Sk
open Go.RowKit Go.Proofs.YtlffbdfkanibcaaW.PrintWords Go.Proofs.YtlffbdfkanibcaaW.PrintLast Go.Proofs.YtlffbdfkanibcaaW.PrintMore
open Fl Go.Proofs.Ytlffbdfkanibcaa.Pt
set_option linter.unusedSimpArgs false
set_option linter.unusedVariables false

section
variable {P : Program} {Q : Exit → Act → World → Prop} {a : Act} {w : World}
theorem wp_skip_seq {c : Code} (h : c.wp P Q a w) : (Code.skip.seq c).wp P Q a w := by
  apply wp_seq_k
  intro K hK
  apply wp_skip
  exact hK _ _ h
/-- Four labels. -/
theorem wp_scope_four {c r0 r1 r2 r3 : Code} (J0 J1 J2 J3 : Act → World → Prop) (μ0 μ1 μ2 μ3 : Act → World → Nat)
    (h0 : findLabel c 0 = some r0) (h1 : findLabel c 1 = some r1) (h2 : findLabel c 2 = some (Code.skip.seq r2)) (h3 : findLabel c 3 = some (Code.skip.seq r3))
    (p0 : ∀ m a w, J0 a w → m = μ0 a w → r0.wp P (jumps (fun l a' w' => (match l with | 0 => J0 a' w' | 1 => J1 a' w' | 2 => J2 a' w' | 3 => J3 a' w' | _ => False) ∧ (match l with | 0 => μ0 a' w' | 1 => μ1 a' w' | 2 => μ2 a' w' | _ => μ3 a' w') < m) Q) a w)
    (p1 : ∀ m a w, J1 a w → m = μ1 a w → r1.wp P (jumps (fun l a' w' => (match l with | 0 => J0 a' w' | 1 => J1 a' w' | 2 => J2 a' w' | 3 => J3 a' w' | _ => False) ∧ (match l with | 0 => μ0 a' w' | 1 => μ1 a' w' | 2 => μ2 a' w' | _ => μ3 a' w') < m) Q) a w)
    (p3 : ∀ m a w, J3 a w → m = μ3 a w → r3.wp P (jumps (fun l a' w' => (match l with | 0 => J0 a' w' | 1 => J1 a' w' | 2 => J2 a' w' | 3 => J3 a' w' | _ => False) ∧ (match l with | 0 => μ0 a' w' | 1 => μ1 a' w' | 2 => μ2 a' w' | _ => μ3 a' w') < m) Q) a w)
    (p2 : (∀ m a w, J3 a w → μ3 a w ≤ m → r3.wp P (jumps (fun l a' w' => (match l with | 0 => J0 a' w' | 1 => J1 a' w' | 2 => J2 a' w' | 3 => J3 a' w' | _ => False) ∧ (match l with | 0 => μ0 a' w' | 1 => μ1 a' w' | 2 => μ2 a' w' | _ => μ3 a' w') < m) Q) a w) →
      ∀ m a w, J2 a w → m = μ2 a w → r2.wp P (jumps (fun l a' w' => (match l with | 0 => J0 a' w' | 1 => J1 a' w' | 2 => J2 a' w' | 3 => J3 a' w' | _ => False) ∧ (match l with | 0 => μ0 a' w' | 1 => μ1 a' w' | 2 => μ2 a' w' | _ => μ3 a' w') < m) Q) a w)
    (first : (∀ a w, J2 a w → r2.wp P (jumps (fun l a' w' => match l with | 0 => J0 a' w' | 1 => J1 a' w' | 2 => J2 a' w' | 3 => J3 a' w' | _ => False) Q) a w) →
      c.wp P (jumps (fun l a' w' => match l with | 0 => J0 a' w' | 1 => J1 a' w' | 2 => J2 a' w' | 3 => J3 a' w' | _ => False) Q) a w) : (Code.scope c).wp P Q a w := by
  have p3' : ∀ m a w, J3 a w → μ3 a w ≤ m → r3.wp P (jumps (fun l a' w' => (match l with | 0 => J0 a' w' | 1 => J1 a' w' | 2 => J2 a' w' | 3 => J3 a' w' | _ => False) ∧ (match l with | 0 => μ0 a' w' | 1 => μ1 a' w' | 2 => μ2 a' w' | _ => μ3 a' w') < m) Q) a w := by
    intro m a w hJ hm
    refine wp_weaken (p3 _ a w hJ rfl) (fun e a' w' h => ?_)
    cases e with
    | goto l => exact ⟨h.1, Nat.lt_of_lt_of_le h.2 hm⟩
    | _ => exact h
  refine wp_scope_labels (fun l => match l with | 0 => r0 | 1 => r1 | 2 => Code.skip.seq r2 | _ => Code.skip.seq r3) (fun l a' w' => match l with | 0 => J0 a' w' | 1 => J1 a' w' | 2 => J2 a' w' | 3 => J3 a' w' | _ => False) (fun l a' w' => match l with | 0 => μ0 a' w' | 1 => μ1 a' w' | 2 => μ2 a' w' | _ => μ3 a' w') ?_ (first fun a w hJ => ?_) ?_
  · intro l a w hJ
    match l, hJ with
    | 0, _ => exact h0
    | 1, _ => exact h1
    | 2, _ => exact h2
    | 3, _ => exact h3
    | l + 4, hJ => exact hJ.elim
  · refine wp_weaken (p2 p3' _ a w hJ rfl) (fun e a' w' h => ?_)
    cases e with
    | goto l => exact h.1
    | _ => exact h
  · intro l a w hJ
    match l, hJ with
    | 0, hJ => exact p0 _ a w hJ rfl
    | 1, hJ => exact p1 _ a w hJ rfl
    | 2, hJ => exact wp_skip_seq (p2 p3' _ a w hJ rfl)
    | 3, hJ => exact wp_skip_seq (p3 _ a w hJ rfl)
    | l + 4, hJ => exact hJ.elim
theorem wp_append_at {o : Oper} {K : Act → World → Prop} (s x : Operand) (t : TypeId)
    (ho : o.op = .call { callee := .builtin .append, args := #[s, x], argTypes := #[t, t] })
    (base : Nat) (e : TypeId) (i : TypeInfo) (z : Value) (size bytes : Nat) (ht : P.underlying t = some (.slice e)) (hi : P.info? e = some i) (hz : i.zero = some z)
    (hsize : i.size = size) (hby : i.bytes = bytes) (hzs : z.cells.size = size) (hsz : 0 < size)
    (v : Value) (n : Nat) (xs : List Value) (hs : a.eval s = v) (hown : w.ownsRow base e size v n xs)
    (ad : Addr) (m c : Nat) (news : List Value) (hx : a.eval x = .slice (some ad) m c) (hl : news.length = m * size) (hnews : ∀ j u, news[j]? = some u → w.cell? (ad.add j) = some u) (h1 : ∀ u ∈ news, u.oneCell' = true)
    (h63 : n + m ≤ maxLen) (hbytes : (n + m) * bytes ≤ 140737488355328) (hbase : base ≤ w.heap.size)
    (h : ∀ v' w', w'.ownsRow base e size v' (n + m) (xs ++ news) → w.grownBy w' v.ownBlock → (v'.ownBlock = v.ownBlock ∨ v'.ownBlock = some w.heap.size) → K (a.put o.dst v') w') : o.wp P a w K Q := by
  obtain ⟨v', w', hr, h2, h3, _, h5⟩ := run_append_own_at (P := P) w base t o.type e i z size bytes ht hi hz hsize hby hzs hsz v n xs hown ad m c news hl hnews h1 h63 hbytes hbase
  unfold Oper.wp execOp
  simp only [ho, resolve, invoke, builtin, Sem.run_bind, Sem.run_pure, Result.andThen_ok, List.map_toArray, List.map_cons, List.map_nil, hs, hx, hr]
  exact h v' w' h2 h3 h5
end
theorem own_slice {w : World} {B n size : Nat} {e : TypeId} {v : Value} {xs : List Value} (h : w.ownsRow B e size v n xs) : ∃ P c, v = .slice P n c := by
  rcases h.2 with ⟨rfl, rfl⟩ | ⟨g, cap, cur, rfl, _⟩
  · exact ⟨none, 0, rfl⟩
  · exact ⟨_, _, rfl⟩
theorem own_last {w w1 : World} {B g n cap : Nat} {xs : List (St × Value)} {x : St} {pv : Value} (h : Own w B (.slice (some ⟨g, 0, none⟩) n cap) (xs ++ [(x, pv)])) (hg : w.grownBy w1 pv.ownBlock) :
    w1.cell? ⟨g, xs.length * 3 + 2, none⟩ = some pv ∧ w1.frozen? ⟨g, xs.length * 3 + 2, none⟩ = false := by
  have hrow := h.row.kept hg (ne_other (ne_symm (h.far (x := (x, pv)) (by simp))))
  have hn : n = (xs ++ [(x, pv)]).length := by
    rcases h.row.2 with ⟨h0, _⟩ | ⟨g', cap', cur, e, _⟩
    · cases h0
    · injection e with e1 e2 e3
  subst hn
  refine ⟨?_, World.ownsRow.frozenAt hrow _⟩
  have e := (cellsOf_at (xs ++ [(x, pv)]) xs.length (by simp)).2.2
  have ea : (⟨g, 0, none⟩ : Addr).add (xs.length * 3 + 2) = ⟨g, xs.length * 3 + 2, none⟩ := by unfold Addr.add; split <;> simp_all
  have q := World.ownsRow.cells hrow (g := g) rfl _ _ e
  rw [ea] at q
  simpa using q
theorem Own.below {w w1 : World} {B : Nat} {v : Value} {xs : List (St × Value)} (h : Own w B v xs) (hb : Below w.heap.size w w1) : Own w1 B v xs :=
  h.kept (row := none) ⟨hb.os, hb.tape, hb.output, hb.size, fun k hk _ => hb.block k hk⟩ (by generalize v.ownBlock = q; rcases q with _ | q <;> simp) (fun x _ => by generalize x.2.ownBlock = q; rcases q with _ | q <;> simp)
theorem Own.drewN {w : World} {B : Nat} {v : Value} {xs : List (St × Value)} (h : Own w B v xs) (n : Nat) : Own (w.drewN n) B v xs := ⟨h.row, h.pts, h.ne⟩
theorem Own.drew {w : World} {B : Nat} {v : Value} {xs : List (St × Value)} (h : Own w B v xs) : Own w.drew B v xs := ⟨h.row, h.pts, h.ne⟩

/-! ### What is left to be read -/
theorem drop_one (b : List Int) (k : Nat) (h : k < b.length) : b.drop k = b.getD k 0 :: b.drop (k + 1) := by
  rw [List.drop_eq_getElem_cons h, List.getD_eq_getElem?_getD, List.getElem?_eq_getElem h]; rfl
theorem byte_at (b : List Int) (hb : ∀ x ∈ b, Byte x) (k : Nat) (h : k < b.length) : Byte (b.getD k 0) := hb _ (getD_mem b 0 k h)
theorem takeSts_short (k : Nat) (r : List Int) (h : r.length < 2) : takeSts (k + 1) r = none := by
  match r, h with
  | [], _ => rfl
  | [_], _ => rfl
  | _ :: _ :: _, h => exact absurd h (by simp)
theorem takePts_short (k : Nat) (r : List Int) (h : r.length < 4) : takePts (k + 1) r = none := by
  match r, h with
  | [], _ => rfl
  | [_], _ => rfl
  | [_, _], _ => rfl
  | [_, _, _], _ => rfl
  | _ :: _ :: _ :: _ :: _, h => exact absurd h (by simp)
theorem fin_long (s : List St) (x : Option (List St × List Int)) (h : 6 < s.length) : fin s x = none := by
  cases x with
  | none => rfl
  | some y =>
    unfold fin
    simp only [Option.bind_some]
    rw [if_neg]
    rintro ⟨_, hm⟩
    have := hm.1
    simp at this
    omega
theorem fin_step (s : List St) (k : Nat) (a c : Int) (r : List Int) : fin s (takeSts (k + 1) (a :: c :: r)) = (takePts c.toNat r).bind fun y => fin (s ++ [⟨a / 16, a % 16, [] ++ y.1⟩]) (takeSts k y.2) := by
  show fin s ((takePts c.toNat r).bind _) = _
  cases takePts c.toNat r with
  | none => rfl
  | some y =>
    simp only [Option.bind_some]
    cases takeSts k y.2 with
    | none => rfl
    | some z => simp [fin]
theorem pts_step (s : List St) (pen wid : Int) (ps : List P2) (k np : Nat) (a b c d : Int) (r : List Int) :
    ((takePts (np + 1) (a :: b :: c :: d :: r)).bind fun y => fin (s ++ [⟨pen, wid, ps ++ y.1⟩]) (takeSts k y.2)) = (takePts np r).bind fun y => fin (s ++ [⟨pen, wid, (ps ++ [(num16 a b, num16 c d)]) ++ y.1⟩]) (takeSts k y.2) := by
  show (((takePts np r).map _).bind _) = _
  cases takePts np r with
  | none => rfl
  | some y => simp
end Go.Proofs.Ytlffbdfkanibcaa.Sk
