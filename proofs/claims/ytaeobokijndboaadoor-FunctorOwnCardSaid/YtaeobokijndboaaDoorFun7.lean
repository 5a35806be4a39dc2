/- Functors: Text, String. -/
import Derived.Test.YtaeobokijndboaaDoorFun6
set_option linter.unusedSimpArgs false
set_option linter.unusedVariables false
set_option maxRecDepth 100000
namespace Go.Proofs.YtaeobokijndboaaDoor
open Go Go.Proofs.Abs

mutual
def shapeF : Fun → Prop
  | .mk k n l => (¬ k < 0 ∧ ¬ 7 < k ∧ (l.length : Int) = arityK k ∧ ¬ n < minK k ∧ ¬ mostK k < n) ∧ shapeL l
def shapeL : List Fun → Prop
  | [] => True
  | f :: l => shapeF f ∧ shapeL l
end
mutual
theorem shape_of_valid : ∀ (f : Fun) (left deep : Int), (validF f left deep).1 = true → shapeF f ∧ (validF f left deep).2 = left - f.size ∧ (f.size : Int) ≤ left
  | .mk k n l, left, deep, h => by
    simp only [validF] at h ⊢
    by_cases hb : badF k n l.length left deep = true
    · rw [if_pos hb] at h; cases h
    · rw [if_neg hb] at h ⊢
      have := shapeL_of_valid l (left - 1) (deep + 1) h
      simp only [Bool.not_eq_true] at hb
      simp only [badF, Bool.or_eq_false_iff, decide_eq_false_iff_not, Bool.not_eq_eq_eq_not, Bool.not_false, decide_eq_true_eq] at hb
      obtain ⟨⟨⟨⟨⟨⟨h1, h2⟩, h3⟩, h4⟩, h5⟩, h6⟩, h7⟩ := hb
      simp only [shapeF, Fun.size]
      refine ⟨⟨⟨h3, h4, h5, h6, h7⟩, this.1⟩, by omega, ?_⟩
      rcases this.2.2 with h8 | h8
      · omega
      · subst h8; simp only [sizeL]; omega
theorem shapeL_of_valid : ∀ (l : List Fun) (left deep : Int), (validL l left deep).1 = true → shapeL l ∧ (validL l left deep).2 = left - sizeL l ∧ ((sizeL l : Int) ≤ left ∨ l = [])
  | [], left, deep, h => by simp [shapeL, validL, sizeL]
  | f :: l, left, deep, h => by
    simp only [validL] at h ⊢
    by_cases hb : (validF f left deep).1 = true
    · rw [if_pos hb] at h ⊢
      have h1 := shape_of_valid f left deep hb
      have h2 := shapeL_of_valid l _ deep h
      simp only [shapeL, sizeL]
      refine ⟨⟨h1.1, h2.1⟩, by omega, .inl ?_⟩
      rcases h2.2.2 with h3 | h3
      · omega
      · subst h3; simp only [sizeL]; omega
    · rw [if_neg hb] at h; cases h
end
theorem ok_shape {f : Fun} (h : okF f = true) : shapeF f ∧ f.size ≤ 20 := by
  have := shape_of_valid f 20 1 h
  exact ⟨this.1, by omega⟩

def sX : List UInt8 := [88]
def pbd (k : Int) : List UInt8 := if k = 5 then [80] else if k = 6 then [66] else [68]
def textF : Fun → Bool → List UInt8
  | .mk k n [], _ => if k = 0 then [88] else dec2 n.toNat
  | .mk k n [a], _ =>
    if k = 4 then (((if a.kind = 4 then 40 :: textF a false ++ [41] else textF a false) ++ [32, 94, 32]) ++ dec2 n.toNat)
    else pbd k ++ [40] ++ textF a true ++ [41]
  | .mk k n (a :: b :: _), top =>
    if top = true then textF a false ++ (if k = 3 then [32, 43, 32] else [32, 42, 32]) ++ textF b false
    else 40 :: (textF a false ++ (if k = 3 then [32, 43, 32] else [32, 42, 32]) ++ textF b false) ++ [41]
termination_by f => SizeOf.sizeOf f

theorem text_len : ∀ (f : Fun) (top : Bool), (textF f top).length ≤ 10 * f.size
  | .mk k n [], top => by
    have := dec2_len n.toNat
    simp only [textF, Fun.size, sizeL]; split <;> simp <;> omega
  | .mk k n [a], top => by
    have h1 := text_len a false
    have h2 := text_len a true
    have := dec2_len n.toNat
    simp only [textF, Fun.size, sizeL]
    split
    · split <;> simp <;> omega
    · have : (pbd k).length = 1 := by unfold pbd; split <;> (try split) <;> rfl
      simp; omega
  | .mk k n (a :: b :: l), top => by
    have h1 := text_len a false
    have h2 := text_len b false
    simp only [textF, Fun.size, sizeL]
    split <;> split <;> simp <;> omega
termination_by f => SizeOf.sizeOf f

section
variable {G : Glob}
theorem text_spec : ∀ (f : Fun) (top : Bool) (S : St) (R : AEnd → St → Prop), shapeF f → f.size ≤ 1000 → R (.ret (str (textF f top))) S → ACalls Tryd.prog G 16 [.agg (encF f), bool top] S R
  | .mk k n l, top, S, R, hsh, hsz, h => by
    simp only [shapeF] at hsh
    obtain ⟨⟨k0, k7, hlen, hn0, hn1⟩, hshl⟩ := hsh
    refine acalls_of_awp Tryd.func16 rfl (by rw [Tryd.ntmps16]; simp) ?_; rw [Tryd.ntmps16, Tryd.results16]
    rw [encF_eq]
    simp only [Fun.kind, Fun.n, Fun.args]
    simp only [go_sem, List.take_length, Nat.le_refl, Nat.add_zero, Nat.zero_add, ↓reduceIte, Nat.reduceEqDiff, Nat.reduceLT, Nat.reduceLeDiff, Nat.reduceAdd, Nat.reduceMul, Nat.reduceSub, Int.reduceNeg, Int.reduceToNat, Int.reduceAdd, Int.reduceSub, Int.reduceMul, Int.reduceLE, Int.reduceLT, Int.reduceEq, Int.reduceNe, true_and, and_true, reduceCtorEq, eq_self, not_true, not_false_iff, false_or, or_false, true_or, or_true, ne_eq, forall_const, implies_true, Bool.false_eq_true, Bool.true_eq_false, not_false_eq_true]
    intro b vs hb; try simp only [upd_none, set_none, del_none] at hb
    simp only [go_sem, List.take_length, Nat.le_refl, Nat.add_zero, Nat.zero_add, ↓reduceIte, Nat.reduceEqDiff, Nat.reduceLT, Nat.reduceLeDiff, Nat.reduceAdd, Nat.reduceMul, Nat.reduceSub, Int.reduceNeg, Int.reduceToNat, Int.reduceAdd, Int.reduceSub, Int.reduceMul, Int.reduceLE, Int.reduceLT, Int.reduceEq, Int.reduceNe, true_and, and_true, reduceCtorEq, eq_self, not_true, not_false_iff, false_or, or_false, true_or, or_true, ne_eq, forall_const, implies_true, Bool.false_eq_true, Bool.true_eq_false, not_false_eq_true]
    rcases kinds k0 k7 with rfl | rfl | rfl | rfl | rfl | rfl | rfl | rfl
    · have : l = [] := by simpa [arityK] using hlen
      subst this
      simp only [go_sem, List.take_length, Nat.le_refl, Nat.add_zero, Nat.zero_add, ↓reduceIte, Nat.reduceEqDiff, Nat.reduceLT, Nat.reduceLeDiff, Nat.reduceAdd, Nat.reduceMul, Nat.reduceSub, Int.reduceNeg, Int.reduceToNat, Int.reduceAdd, Int.reduceSub, Int.reduceMul, Int.reduceLE, Int.reduceLT, Int.reduceEq, Int.reduceNe, true_and, and_true, reduceCtorEq, eq_self, not_true, not_false_iff, false_or, or_false, true_or, or_true, ne_eq, forall_const, implies_true, Bool.false_eq_true, Bool.true_eq_false, not_false_eq_true]
      simp only [textF, if_true] at h
      exact aret_same h (by (repeat' (first | exact Sub.refl _ | (with_reducible apply sub_upd_l; focus (simp only [hb, go_sem, ↓reduceIte]; done)) | (with_reducible apply sub_upd_r; focus (first | assumption | (simp only [hb, upd_none, set_none, true_and, and_true, not_false_iff]; done))))))
    · have : l = [] := by simpa [arityK] using hlen
      subst this
      simp only [go_sem, List.take_length, Nat.le_refl, Nat.add_zero, Nat.zero_add, ↓reduceIte, Nat.reduceEqDiff, Nat.reduceLT, Nat.reduceLeDiff, Nat.reduceAdd, Nat.reduceMul, Nat.reduceSub, Int.reduceNeg, Int.reduceToNat, Int.reduceAdd, Int.reduceSub, Int.reduceMul, Int.reduceLE, Int.reduceLT, Int.reduceEq, Int.reduceNe, true_and, and_true, reduceCtorEq, eq_self, not_true, not_false_iff, false_or, or_false, true_or, or_true, ne_eq, forall_const, implies_true, Bool.false_eq_true, Bool.true_eq_false, not_false_eq_true]
      simp only [textF, if_neg (show ¬ (1 : Int) = 0 by omega)] at h
      have hm : minK 1 = 1 ∧ mostK 1 = 16 := by decide
      obtain ⟨m, rfl⟩ : ∃ m : Nat, n = m := ⟨n.toNat, by omega⟩
      refine Itoa_small m (by omega) ?_
      simp only [go_sem, List.take_length, Nat.le_refl, Nat.add_zero, Nat.zero_add, ↓reduceIte, Nat.reduceEqDiff, Nat.reduceLT, Nat.reduceLeDiff, Nat.reduceAdd, Nat.reduceMul, Nat.reduceSub, Int.reduceNeg, Int.reduceToNat, Int.reduceAdd, Int.reduceSub, Int.reduceMul, Int.reduceLE, Int.reduceLT, Int.reduceEq, Int.reduceNe, true_and, and_true, reduceCtorEq, eq_self, not_true, not_false_iff, false_or, or_false, true_or, or_true, ne_eq, forall_const, implies_true, Bool.false_eq_true, Bool.true_eq_false, not_false_eq_true]
      exact aret_same h (by (repeat' (first | exact Sub.refl _ | (with_reducible apply sub_upd_l; focus (simp only [hb, go_sem, ↓reduceIte]; done)) | (with_reducible apply sub_upd_r; focus (first | assumption | (simp only [hb, upd_none, set_none, true_and, and_true, not_false_iff]; done))))))
    · obtain ⟨x, y, rfl⟩ : ∃ x y, l = [x, y] := by
        match l, hlen with
        | [x, y], _ => exact ⟨x, y, rfl⟩
        | [], h | [_], h => simp [arityK] at h
        | _ :: _ :: _ :: _, h => simp [arityK] at h; omega
      simp only [go_sem, List.take_length, Nat.le_refl, Nat.add_zero, Nat.zero_add, ↓reduceIte, Nat.reduceEqDiff, Nat.reduceLT, Nat.reduceLeDiff, Nat.reduceAdd, Nat.reduceMul, Nat.reduceSub, Int.reduceNeg, Int.reduceToNat, Int.reduceAdd, Int.reduceSub, Int.reduceMul, Int.reduceLE, Int.reduceLT, Int.reduceEq, Int.reduceNe, true_and, and_true, reduceCtorEq, eq_self, not_true, not_false_iff, false_or, or_false, true_or, or_true, ne_eq, forall_const, implies_true, Bool.false_eq_true, Bool.true_eq_false, not_false_eq_true]
      refine awp_drawL (by kernel_rfl) (.take 0 (.take 1 (.take 2 (.take 3 (.take 5 (.take 7 (.take 8 (.take 9 (.take 10 (.all [(4, (.take 6 (.all [(11, (.take 12 (.take 13 .done)))])))])))))))))) [b] (by kernel_rfl) ?_
      simp only [go_sem, List.take_length, Nat.le_refl, Nat.add_zero, Nat.zero_add, ↓reduceIte, Nat.reduceEqDiff, Nat.reduceLT, Nat.reduceLeDiff, Nat.reduceAdd, Nat.reduceMul, Nat.reduceSub, Int.reduceNeg, Int.reduceToNat, Int.reduceAdd, Int.reduceSub, Int.reduceMul, Int.reduceLE, Int.reduceLT, Int.reduceEq, Int.reduceNe, true_and, and_true, reduceCtorEq, eq_self, not_true, not_false_iff, false_or, or_false, true_or, or_true, ne_eq, forall_const, implies_true, Bool.false_eq_true, Bool.true_eq_false, not_false_eq_true]
      have hx := text_len x false
      have hy := text_len y false
      have hs : x.size + y.size ≤ 1000 := by simp only [Fun.size, sizeL] at hsz; omega
      simp only [shapeL] at hshl
      refine text_spec x false _ _ hshl.1 (by omega) ?_
      simp only [hb, go_sem, List.take_length, Nat.le_refl, Nat.add_zero, Nat.zero_add, ↓reduceIte, Nat.reduceEqDiff, Nat.reduceLT, Nat.reduceLeDiff, Nat.reduceAdd, Nat.reduceMul, Nat.reduceSub, Int.reduceNeg, Int.reduceToNat, Int.reduceAdd, Int.reduceSub, Int.reduceMul, Int.reduceLE, Int.reduceLT, Int.reduceEq, Int.reduceNe, true_and, and_true, reduceCtorEq, eq_self, not_true, not_false_iff, false_or, or_false, true_or, or_true, ne_eq, forall_const, implies_true, Bool.false_eq_true, Bool.true_eq_false, not_false_eq_true]
      refine ⟨by omega, ?_⟩
      refine text_spec y false _ _ hshl.2.1 (by omega) ?_
      simp only [hb, go_sem, List.take_length, Nat.le_refl, Nat.add_zero, Nat.zero_add, ↓reduceIte, Nat.reduceEqDiff, Nat.reduceLT, Nat.reduceLeDiff, Nat.reduceAdd, Nat.reduceMul, Nat.reduceSub, Int.reduceNeg, Int.reduceToNat, Int.reduceAdd, Int.reduceSub, Int.reduceMul, Int.reduceLE, Int.reduceLT, Int.reduceEq, Int.reduceNe, true_and, and_true, reduceCtorEq, eq_self, not_true, not_false_iff, false_or, or_false, true_or, or_true, ne_eq, forall_const, implies_true, Bool.false_eq_true, Bool.true_eq_false, not_false_eq_true]
      refine ⟨by simp; omega, ?_⟩
      cases top with
      | true =>
        simp only [hb, go_sem, List.take_length, Nat.le_refl, Nat.add_zero, Nat.zero_add, ↓reduceIte, Nat.reduceEqDiff, Nat.reduceLT, Nat.reduceLeDiff, Nat.reduceAdd, Nat.reduceMul, Nat.reduceSub, Int.reduceNeg, Int.reduceToNat, Int.reduceAdd, Int.reduceSub, Int.reduceMul, Int.reduceLE, Int.reduceLT, Int.reduceEq, Int.reduceNe, true_and, and_true, reduceCtorEq, eq_self, not_true, not_false_iff, false_or, or_false, true_or, or_true, ne_eq, forall_const, implies_true, Bool.false_eq_true, Bool.true_eq_false, not_false_eq_true]
        simp only [textF, if_true, if_neg (show ¬ (2 : Int) = 3 by omega)] at h
        exact aret_same h (by (repeat' (first | exact Sub.refl _ | (with_reducible apply sub_upd_l; focus (simp only [hb, go_sem, ↓reduceIte]; done)) | (with_reducible apply sub_upd_r; focus (first | assumption | (simp only [hb, upd_none, set_none, true_and, and_true, not_false_iff]; done))))))
      | false =>
        simp only [hb, go_sem, List.take_length, Nat.le_refl, Nat.add_zero, Nat.zero_add, ↓reduceIte, Nat.reduceEqDiff, Nat.reduceLT, Nat.reduceLeDiff, Nat.reduceAdd, Nat.reduceMul, Nat.reduceSub, Int.reduceNeg, Int.reduceToNat, Int.reduceAdd, Int.reduceSub, Int.reduceMul, Int.reduceLE, Int.reduceLT, Int.reduceEq, Int.reduceNe, true_and, and_true, reduceCtorEq, eq_self, not_true, not_false_iff, false_or, or_false, true_or, or_true, ne_eq, forall_const, implies_true, Bool.false_eq_true, Bool.true_eq_false, not_false_eq_true]
        simp only [textF, Bool.false_eq_true, if_false, if_neg (show ¬ (2 : Int) = 3 by omega)] at h
        refine ⟨by simp; omega, by simp; omega, ?_⟩
        exact aret_same h (by (repeat' (first | exact Sub.refl _ | (with_reducible apply sub_upd_l; focus (simp only [hb, go_sem, ↓reduceIte]; done)) | (with_reducible apply sub_upd_r; focus (first | assumption | (simp only [hb, upd_none, set_none, true_and, and_true, not_false_iff]; done))))))
    · obtain ⟨x, y, rfl⟩ : ∃ x y, l = [x, y] := by
        match l, hlen with
        | [x, y], _ => exact ⟨x, y, rfl⟩
        | [], h | [_], h => simp [arityK] at h
        | _ :: _ :: _ :: _, h => simp [arityK] at h; omega
      simp only [go_sem, List.take_length, Nat.le_refl, Nat.add_zero, Nat.zero_add, ↓reduceIte, Nat.reduceEqDiff, Nat.reduceLT, Nat.reduceLeDiff, Nat.reduceAdd, Nat.reduceMul, Nat.reduceSub, Int.reduceNeg, Int.reduceToNat, Int.reduceAdd, Int.reduceSub, Int.reduceMul, Int.reduceLE, Int.reduceLT, Int.reduceEq, Int.reduceNe, true_and, and_true, reduceCtorEq, eq_self, not_true, not_false_iff, false_or, or_false, true_or, or_true, ne_eq, forall_const, implies_true, Bool.false_eq_true, Bool.true_eq_false, not_false_eq_true]
      refine awp_drawL (by kernel_rfl) (.take 0 (.take 1 (.take 2 (.take 3 (.take 5 (.take 7 (.take 8 (.take 9 (.take 10 (.all [(4, (.take 6 (.all [(11, (.take 12 (.take 13 .done)))])))])))))))))) [b] (by kernel_rfl) ?_
      simp only [go_sem, List.take_length, Nat.le_refl, Nat.add_zero, Nat.zero_add, ↓reduceIte, Nat.reduceEqDiff, Nat.reduceLT, Nat.reduceLeDiff, Nat.reduceAdd, Nat.reduceMul, Nat.reduceSub, Int.reduceNeg, Int.reduceToNat, Int.reduceAdd, Int.reduceSub, Int.reduceMul, Int.reduceLE, Int.reduceLT, Int.reduceEq, Int.reduceNe, true_and, and_true, reduceCtorEq, eq_self, not_true, not_false_iff, false_or, or_false, true_or, or_true, ne_eq, forall_const, implies_true, Bool.false_eq_true, Bool.true_eq_false, not_false_eq_true]
      have hx := text_len x false
      have hy := text_len y false
      have hs : x.size + y.size ≤ 1000 := by simp only [Fun.size, sizeL] at hsz; omega
      simp only [shapeL] at hshl
      refine text_spec x false _ _ hshl.1 (by omega) ?_
      simp only [hb, go_sem, List.take_length, Nat.le_refl, Nat.add_zero, Nat.zero_add, ↓reduceIte, Nat.reduceEqDiff, Nat.reduceLT, Nat.reduceLeDiff, Nat.reduceAdd, Nat.reduceMul, Nat.reduceSub, Int.reduceNeg, Int.reduceToNat, Int.reduceAdd, Int.reduceSub, Int.reduceMul, Int.reduceLE, Int.reduceLT, Int.reduceEq, Int.reduceNe, true_and, and_true, reduceCtorEq, eq_self, not_true, not_false_iff, false_or, or_false, true_or, or_true, ne_eq, forall_const, implies_true, Bool.false_eq_true, Bool.true_eq_false, not_false_eq_true]
      refine ⟨by omega, ?_⟩
      refine text_spec y false _ _ hshl.2.1 (by omega) ?_
      simp only [hb, go_sem, List.take_length, Nat.le_refl, Nat.add_zero, Nat.zero_add, ↓reduceIte, Nat.reduceEqDiff, Nat.reduceLT, Nat.reduceLeDiff, Nat.reduceAdd, Nat.reduceMul, Nat.reduceSub, Int.reduceNeg, Int.reduceToNat, Int.reduceAdd, Int.reduceSub, Int.reduceMul, Int.reduceLE, Int.reduceLT, Int.reduceEq, Int.reduceNe, true_and, and_true, reduceCtorEq, eq_self, not_true, not_false_iff, false_or, or_false, true_or, or_true, ne_eq, forall_const, implies_true, Bool.false_eq_true, Bool.true_eq_false, not_false_eq_true]
      refine ⟨by simp; omega, ?_⟩
      cases top with
      | true =>
        simp only [hb, go_sem, List.take_length, Nat.le_refl, Nat.add_zero, Nat.zero_add, ↓reduceIte, Nat.reduceEqDiff, Nat.reduceLT, Nat.reduceLeDiff, Nat.reduceAdd, Nat.reduceMul, Nat.reduceSub, Int.reduceNeg, Int.reduceToNat, Int.reduceAdd, Int.reduceSub, Int.reduceMul, Int.reduceLE, Int.reduceLT, Int.reduceEq, Int.reduceNe, true_and, and_true, reduceCtorEq, eq_self, not_true, not_false_iff, false_or, or_false, true_or, or_true, ne_eq, forall_const, implies_true, Bool.false_eq_true, Bool.true_eq_false, not_false_eq_true]
        simp only [textF, if_true] at h
        exact aret_same h (by (repeat' (first | exact Sub.refl _ | (with_reducible apply sub_upd_l; focus (simp only [hb, go_sem, ↓reduceIte]; done)) | (with_reducible apply sub_upd_r; focus (first | assumption | (simp only [hb, upd_none, set_none, true_and, and_true, not_false_iff]; done))))))
      | false =>
        simp only [hb, go_sem, List.take_length, Nat.le_refl, Nat.add_zero, Nat.zero_add, ↓reduceIte, Nat.reduceEqDiff, Nat.reduceLT, Nat.reduceLeDiff, Nat.reduceAdd, Nat.reduceMul, Nat.reduceSub, Int.reduceNeg, Int.reduceToNat, Int.reduceAdd, Int.reduceSub, Int.reduceMul, Int.reduceLE, Int.reduceLT, Int.reduceEq, Int.reduceNe, true_and, and_true, reduceCtorEq, eq_self, not_true, not_false_iff, false_or, or_false, true_or, or_true, ne_eq, forall_const, implies_true, Bool.false_eq_true, Bool.true_eq_false, not_false_eq_true]
        simp only [textF, Bool.false_eq_true, if_false, if_true] at h
        refine ⟨by simp; omega, by simp; omega, ?_⟩
        exact aret_same h (by (repeat' (first | exact Sub.refl _ | (with_reducible apply sub_upd_l; focus (simp only [hb, go_sem, ↓reduceIte]; done)) | (with_reducible apply sub_upd_r; focus (first | assumption | (simp only [hb, upd_none, set_none, true_and, and_true, not_false_iff]; done))))))
    · obtain ⟨x, rfl⟩ : ∃ x, l = [x] := by
        match l, hlen with
        | [x], _ => exact ⟨x, rfl⟩
        | [], h => simp [arityK] at h
        | _ :: _ :: _, h => simp [arityK] at h; omega
      simp only [go_sem, List.take_length, Nat.le_refl, Nat.add_zero, Nat.zero_add, ↓reduceIte, Nat.reduceEqDiff, Nat.reduceLT, Nat.reduceLeDiff, Nat.reduceAdd, Nat.reduceMul, Nat.reduceSub, Int.reduceNeg, Int.reduceToNat, Int.reduceAdd, Int.reduceSub, Int.reduceMul, Int.reduceLE, Int.reduceLT, Int.reduceEq, Int.reduceNe, true_and, and_true, reduceCtorEq, eq_self, not_true, not_false_iff, false_or, or_false, true_or, or_true, ne_eq, forall_const, implies_true, Bool.false_eq_true, Bool.true_eq_false, not_false_eq_true]
      have hx := text_len x false
      have hs : x.size ≤ 1000 := by simp only [Fun.size, sizeL] at hsz; omega
      simp only [shapeL] at hshl
      refine text_spec x false _ _ hshl.1 (by omega) ?_
      have hm : minK 4 = 1 ∧ mostK 4 = 4 := by decide
      obtain ⟨m, rfl⟩ : ∃ m : Nat, n = m := ⟨n.toNat, by omega⟩
      have hd := dec2_len m
      simp only [textF, if_true, Int.toNat_natCast] at h
      by_cases hk : x.kind = 4
      · simp only [hb, hk, decide_true, go_sem, List.take_length, Nat.le_refl, Nat.add_zero, Nat.zero_add, ↓reduceIte, Nat.reduceEqDiff, Nat.reduceLT, Nat.reduceLeDiff, Nat.reduceAdd, Nat.reduceMul, Nat.reduceSub, Int.reduceNeg, Int.reduceToNat, Int.reduceAdd, Int.reduceSub, Int.reduceMul, Int.reduceLE, Int.reduceLT, Int.reduceEq, Int.reduceNe, true_and, and_true, reduceCtorEq, eq_self, not_true, not_false_iff, false_or, or_false, true_or, or_true, ne_eq, forall_const, implies_true, Bool.false_eq_true, Bool.true_eq_false, not_false_eq_true]
        refine ⟨by (first | omega | (simp; omega)), by (first | omega | (simp; omega)), by (first | omega | (simp; omega)), ?_⟩
        refine Itoa_small m (by omega) ?_
        simp only [go_sem, List.take_length, Nat.le_refl, Nat.add_zero, Nat.zero_add, ↓reduceIte, Nat.reduceEqDiff, Nat.reduceLT, Nat.reduceLeDiff, Nat.reduceAdd, Nat.reduceMul, Nat.reduceSub, Int.reduceNeg, Int.reduceToNat, Int.reduceAdd, Int.reduceSub, Int.reduceMul, Int.reduceLE, Int.reduceLT, Int.reduceEq, Int.reduceNe, true_and, and_true, reduceCtorEq, eq_self, not_true, not_false_iff, false_or, or_false, true_or, or_true, ne_eq, forall_const, implies_true, Bool.false_eq_true, Bool.true_eq_false, not_false_eq_true]
        refine ⟨by simp; omega, ?_⟩
        rw [if_pos hk] at h
        exact aret_same h (by (repeat' (first | exact Sub.refl _ | (with_reducible apply sub_upd_l; focus (simp only [hb, go_sem, ↓reduceIte]; done)) | (with_reducible apply sub_upd_r; focus (first | assumption | (simp only [hb, upd_none, set_none, true_and, and_true, not_false_iff]; done))))))
      · simp only [hb, hk, decide_false, go_sem, List.take_length, Nat.le_refl, Nat.add_zero, Nat.zero_add, ↓reduceIte, Nat.reduceEqDiff, Nat.reduceLT, Nat.reduceLeDiff, Nat.reduceAdd, Nat.reduceMul, Nat.reduceSub, Int.reduceNeg, Int.reduceToNat, Int.reduceAdd, Int.reduceSub, Int.reduceMul, Int.reduceLE, Int.reduceLT, Int.reduceEq, Int.reduceNe, true_and, and_true, reduceCtorEq, eq_self, not_true, not_false_iff, false_or, or_false, true_or, or_true, ne_eq, forall_const, implies_true, Bool.false_eq_true, Bool.true_eq_false, not_false_eq_true]
        refine ⟨by (first | omega | (simp; omega)), ?_⟩
        refine Itoa_small m (by omega) ?_
        simp only [go_sem, List.take_length, Nat.le_refl, Nat.add_zero, Nat.zero_add, ↓reduceIte, Nat.reduceEqDiff, Nat.reduceLT, Nat.reduceLeDiff, Nat.reduceAdd, Nat.reduceMul, Nat.reduceSub, Int.reduceNeg, Int.reduceToNat, Int.reduceAdd, Int.reduceSub, Int.reduceMul, Int.reduceLE, Int.reduceLT, Int.reduceEq, Int.reduceNe, true_and, and_true, reduceCtorEq, eq_self, not_true, not_false_iff, false_or, or_false, true_or, or_true, ne_eq, forall_const, implies_true, Bool.false_eq_true, Bool.true_eq_false, not_false_eq_true]
        refine ⟨by simp; omega, ?_⟩
        rw [if_neg hk] at h
        exact aret_same h (by (repeat' (first | exact Sub.refl _ | (with_reducible apply sub_upd_l; focus (simp only [hb, go_sem, ↓reduceIte]; done)) | (with_reducible apply sub_upd_r; focus (first | assumption | (simp only [hb, upd_none, set_none, true_and, and_true, not_false_iff]; done))))))
    all_goals
      obtain ⟨x, rfl⟩ : ∃ x, l = [x] := by
        match l, hlen with
        | [x], _ => exact ⟨x, rfl⟩
        | [], h => simp [arityK] at h
        | _ :: _ :: _, h => simp [arityK] at h; omega
      simp only [go_sem, List.take_length, Nat.le_refl, Nat.add_zero, Nat.zero_add, ↓reduceIte, Nat.reduceEqDiff, Nat.reduceLT, Nat.reduceLeDiff, Nat.reduceAdd, Nat.reduceMul, Nat.reduceSub, Int.reduceNeg, Int.reduceToNat, Int.reduceAdd, Int.reduceSub, Int.reduceMul, Int.reduceLE, Int.reduceLT, Int.reduceEq, Int.reduceNe, true_and, and_true, reduceCtorEq, eq_self, not_true, not_false_iff, false_or, or_false, true_or, or_true, ne_eq, forall_const, implies_true, Bool.false_eq_true, Bool.true_eq_false, not_false_eq_true]
      refine awp_drawL (by kernel_rfl) (.take 0 (.take 1 (.take 2 (.take 3 (.take 4 (.take 5 (.take 6 (.take 7 (.take 8 (.take 9 (.take 10 (.take 11 (.take 12 (.all [(13, (.take 14 (.take 15 (.take 16 .done))))])))))))))))))) [b] (by kernel_rfl) ?_
      have hx := text_len x true
      have hs : x.size ≤ 1000 := by simp only [Fun.size, sizeL] at hsz; omega
      simp only [shapeL] at hshl
      simp only [hb, go_sem, List.take_length, Nat.le_refl, Nat.add_zero, Nat.zero_add, ↓reduceIte, Nat.reduceEqDiff, Nat.reduceLT, Nat.reduceLeDiff, Nat.reduceAdd, Nat.reduceMul, Nat.reduceSub, Int.reduceNeg, Int.reduceToNat, Int.reduceAdd, Int.reduceSub, Int.reduceMul, Int.reduceLE, Int.reduceLT, Int.reduceEq, Int.reduceNe, true_and, and_true, reduceCtorEq, eq_self, not_true, not_false_iff, false_or, or_false, true_or, or_true, ne_eq, forall_const, implies_true, Bool.false_eq_true, Bool.true_eq_false, not_false_eq_true]
      refine text_spec x true _ _ hshl.1 (by omega) ?_
      simp only [hb, go_sem, List.take_length, Nat.le_refl, Nat.add_zero, Nat.zero_add, ↓reduceIte, Nat.reduceEqDiff, Nat.reduceLT, Nat.reduceLeDiff, Nat.reduceAdd, Nat.reduceMul, Nat.reduceSub, Int.reduceNeg, Int.reduceToNat, Int.reduceAdd, Int.reduceSub, Int.reduceMul, Int.reduceLE, Int.reduceLT, Int.reduceEq, Int.reduceNe, true_and, and_true, reduceCtorEq, eq_self, not_true, not_false_iff, false_or, or_false, true_or, or_true, ne_eq, forall_const, implies_true, Bool.false_eq_true, Bool.true_eq_false, not_false_eq_true]
      simp only [textF] at h
      refine ⟨by (first | omega | (simp; omega)), by (first | omega | (simp; omega)), ?_⟩
      exact aret_same (by simpa [pbd] using h) (by (repeat' (first | exact Sub.refl _ | (with_reducible apply sub_upd_l; focus (simp only [hb, go_sem, ↓reduceIte]; done)) | (with_reducible apply sub_upd_r; focus (first | assumption | (simp only [hb, upd_none, set_none, true_and, and_true, not_false_iff]; done))))))
termination_by f => SizeOf.sizeOf f

theorem String_spec (hG : G 0 = some formsA) {S : St} {R : AEnd → St → Prop} (f : Fun) (h : R (.ret (.tup (if okF f = true then [str (textF f true), int .i64 0] else [str [], int .i64 10]))) S) : ACalls Tryd.prog G 7 [.agg (encF f)] S R := by
  refine acalls_of_awp Tryd.func7 rfl (by rw [Tryd.ntmps7]; simp) ?_; rw [Tryd.ntmps7, Tryd.results7]
  rw [encF_eq]
  simp only [go_sem, List.take_length, Nat.le_refl, Nat.add_zero, Nat.zero_add, ↓reduceIte, Nat.reduceEqDiff, Nat.reduceLT, Nat.reduceLeDiff, Nat.reduceAdd, Nat.reduceMul, Nat.reduceSub, Int.reduceNeg, Int.reduceToNat, Int.reduceAdd, Int.reduceSub, Int.reduceMul, Int.reduceLE, Int.reduceLT, Int.reduceEq, Int.reduceNe, true_and, and_true, reduceCtorEq, eq_self, not_true, not_false_iff, false_or, or_false, true_or, or_true, ne_eq, forall_const, implies_true, Bool.false_eq_true, Bool.true_eq_false, not_false_eq_true]
  intro b vs hb; try simp only [upd_none, set_none, del_none] at hb
  simp only [go_sem, List.take_length, Nat.le_refl, Nat.add_zero, Nat.zero_add, ↓reduceIte, Nat.reduceEqDiff, Nat.reduceLT, Nat.reduceLeDiff, Nat.reduceAdd, Nat.reduceMul, Nat.reduceSub, Int.reduceNeg, Int.reduceToNat, Int.reduceAdd, Int.reduceSub, Int.reduceMul, Int.reduceLE, Int.reduceLT, Int.reduceEq, Int.reduceNe, true_and, and_true, reduceCtorEq, eq_self, not_true, not_false_iff, false_or, or_false, true_or, or_true, ne_eq, forall_const, implies_true, Bool.false_eq_true, Bool.true_eq_false, not_false_eq_true]
  rw [← encF_eq]
  refine Valid_spec hG f ?_
  cases hv : okF f with
  | false =>
    rw [hv] at h
    simp only [go_sem, List.take_length, Nat.le_refl, Nat.add_zero, Nat.zero_add, ↓reduceIte, Nat.reduceEqDiff, Nat.reduceLT, Nat.reduceLeDiff, Nat.reduceAdd, Nat.reduceMul, Nat.reduceSub, Int.reduceNeg, Int.reduceToNat, Int.reduceAdd, Int.reduceSub, Int.reduceMul, Int.reduceLE, Int.reduceLT, Int.reduceEq, Int.reduceNe, true_and, and_true, reduceCtorEq, eq_self, not_true, not_false_iff, false_or, or_false, true_or, or_true, ne_eq, forall_const, implies_true, Bool.false_eq_true, Bool.true_eq_false, not_false_eq_true]
    exact aret_same h (by (repeat' (first | exact Sub.refl _ | (with_reducible apply sub_upd_l; focus (simp only [hb, go_sem, ↓reduceIte]; done)) | (with_reducible apply sub_upd_r; focus (first | assumption | (simp only [hb, upd_none, set_none, true_and, and_true, not_false_iff]; done))))))
  | true =>
    rw [hv] at h
    have hs := ok_shape hv
    simp only [go_sem, List.take_length, Nat.le_refl, Nat.add_zero, Nat.zero_add, ↓reduceIte, Nat.reduceEqDiff, Nat.reduceLT, Nat.reduceLeDiff, Nat.reduceAdd, Nat.reduceMul, Nat.reduceSub, Int.reduceNeg, Int.reduceToNat, Int.reduceAdd, Int.reduceSub, Int.reduceMul, Int.reduceLE, Int.reduceLT, Int.reduceEq, Int.reduceNe, true_and, and_true, reduceCtorEq, eq_self, not_true, not_false_iff, false_or, or_false, true_or, or_true, ne_eq, forall_const, implies_true, Bool.false_eq_true, Bool.true_eq_false, not_false_eq_true]
    refine text_spec f true _ _ hs.1 (by omega) ?_
    simp only [go_sem, List.take_length, Nat.le_refl, Nat.add_zero, Nat.zero_add, ↓reduceIte, Nat.reduceEqDiff, Nat.reduceLT, Nat.reduceLeDiff, Nat.reduceAdd, Nat.reduceMul, Nat.reduceSub, Int.reduceNeg, Int.reduceToNat, Int.reduceAdd, Int.reduceSub, Int.reduceMul, Int.reduceLE, Int.reduceLT, Int.reduceEq, Int.reduceNe, true_and, and_true, reduceCtorEq, eq_self, not_true, not_false_iff, false_or, or_false, true_or, or_true, ne_eq, forall_const, implies_true, Bool.false_eq_true, Bool.true_eq_false, not_false_eq_true]
    exact aret_same h (by (repeat' (first | exact Sub.refl _ | (with_reducible apply sub_upd_l; focus (simp only [hb, go_sem, ↓reduceIte]; done)) | (with_reducible apply sub_upd_r; focus (first | assumption | (simp only [hb, upd_none, set_none, true_and, and_true, not_false_iff]; done))))))
end
end Go.Proofs.YtaeobokijndboaaDoor
