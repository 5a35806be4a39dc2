/- Functors: the reference's counting of nodes. -/
import Derived.Test.YtaeobokijndboaaDoorFun0
set_option linter.unusedSimpArgs false
set_option linter.unusedVariables false
set_option maxRecDepth 100000
namespace Go.Proofs.YtaeobokijndboaaDoor
open Go Go.Proofs.Abs

mutual
def leftF : Fun → Int → Int
  | .mk _ _ l, m => max (leftL l (m - 1)) 0
def leftL : List Fun → Int → Int
  | [], m => m
  | f :: fs, m => if 0 < m then leftL fs (leftF f m) else m
end
theorem leftF_eq (f : Fun) (m : Int) : leftF f m = max (leftL f.args (m - 1)) 0 := by cases f; simp [leftF, Fun.args]

mutual
theorem leftF_bd : ∀ (f : Fun) (m : Int), 0 ≤ m → 0 ≤ leftF f m ∧ leftF f m ≤ m
  | .mk k n l, m, h => by
    have := leftL_bd l (m - 1)
    simp only [leftF]
    omega
theorem leftL_bd : ∀ (l : List Fun) (m : Int), leftL l m ≤ max m 0 ∧ min m 0 ≤ leftL l m
  | [], m => by simp only [leftL]; omega
  | f :: fs, m => by
    simp only [leftL]
    split
    · have h1 := leftF_bd f m (by omega)
      have h2 := leftL_bd fs (leftF f m)
      omega
    · omega
end

section
variable {G : Glob} {S : St} {R : AEnd → St → Prop}

set_option maxHeartbeats 1000000 in
theorem left_spec : ∀ (f : Fun) (S : St) (R : AEnd → St → Prop) (m : Int), 0 ≤ m → m ≤ 1000000 → R (.ret (int .i64 (leftF f m))) S → ACalls Tryd.prog G 14 [.agg (encF f), int .i64 m] S R
  | .mk k n l, S, R, m, h0, h1, h => by
    refine acalls_of_awp Tryd.func14 rfl (by rw [Tryd.ntmps14]; simp) ?_; rw [Tryd.ntmps14, Tryd.results14]
    rw [encF_eq]
    simp only [Fun.kind, Fun.n, Fun.args]
    simp only [go_sem, List.take_length, Nat.le_refl, Nat.add_zero, Nat.zero_add, ↓reduceIte, Nat.reduceEqDiff, Nat.reduceLT, Nat.reduceLeDiff, Nat.reduceAdd, Nat.reduceMul, Nat.reduceSub, Int.reduceNeg, Int.reduceToNat, Int.reduceAdd, Int.reduceSub, Int.reduceMul, Int.reduceLE, Int.reduceLT, Int.reduceEq, Int.reduceNe, true_and, and_true, reduceCtorEq, eq_self, not_true, not_false_iff, false_or, or_false, true_or, or_true, ne_eq, forall_const, implies_true, Bool.false_eq_true, Bool.true_eq_false, not_false_eq_true]
    intro b vs hb
    simp only [go_sem, List.take_length, Nat.le_refl, Nat.add_zero, Nat.zero_add, ↓reduceIte, Nat.reduceEqDiff, Nat.reduceLT, Nat.reduceLeDiff, Nat.reduceAdd, Nat.reduceMul, Nat.reduceSub, Int.reduceNeg, Int.reduceToNat, Int.reduceAdd, Int.reduceSub, Int.reduceMul, Int.reduceLE, Int.reduceLT, Int.reduceEq, Int.reduceNe, true_and, and_true, reduceCtorEq, eq_self, not_true, not_false_iff, false_or, or_false, true_or, or_true, ne_eq, forall_const, implies_true, Bool.false_eq_true, Bool.true_eq_false, not_false_eq_true]
    rw [wrap_i64 (by omega) (by omega)]
    have hl := leftL_bd l (m - 1)
    refine ALoop_start (σ := Nat × Int) (fun s => l.length - s.1) (fun s => ⟨[(2, ptr b 0), (1, int .i64 s.2), (5, int .i64 s.1)], []⟩) (fun _ => S.upd b (.box [int .i64 k, int .i64 n, .sl 3 (l.map encF) .unk] vs))
      (fun s => -1 ≤ s.2 ∧ s.2 ≤ m ∧ leftL (l.drop s.1) s.2 = leftL l (m - 1)) (0, m - 1) ?_ (Sub.refl _) ⟨by omega, by omega, by simp⟩ ?_
    · (refine le_of_leOn ?_; simp only [leOn, Int.natCast_add, Int.cast_ofNat_Int, go_sem, List.take_length, Nat.le_refl, Nat.add_zero, Nat.zero_add, ↓reduceIte, Nat.reduceEqDiff, Nat.reduceLT, Nat.reduceLeDiff, Nat.reduceAdd, Nat.reduceMul, Nat.reduceSub, Int.reduceNeg, Int.reduceToNat, Int.reduceAdd, Int.reduceSub, Int.reduceMul, Int.reduceLE, Int.reduceLT, Int.reduceEq, Int.reduceNe, true_and, and_true, reduceCtorEq, eq_self, not_true, not_false_iff, false_or, or_false, true_or, or_true, ne_eq, forall_const, implies_true, Bool.false_eq_true, Bool.true_eq_false, not_false_eq_true]; try simp)
    · rintro ⟨i, x⟩ ⟨hx0, hx1, hx2⟩ Again ih
      simp only at hx0 hx1 hx2 ih ⊢
      cases hd : l.drop i with
      | nil =>
        have h2 := drop_ge hd
        have h3 : ¬ i < l.length := by omega
        simp only [List.length_map, Int.ofNat_lt, h3, decide_false, go_sem, List.take_length, Nat.le_refl, Nat.add_zero, Nat.zero_add, ↓reduceIte, Nat.reduceEqDiff, Nat.reduceLT, Nat.reduceLeDiff, Nat.reduceAdd, Nat.reduceMul, Nat.reduceSub, Int.reduceNeg, Int.reduceToNat, Int.reduceAdd, Int.reduceSub, Int.reduceMul, Int.reduceLE, Int.reduceLT, Int.reduceEq, Int.reduceNe, true_and, and_true, reduceCtorEq, eq_self, not_true, not_false_iff, false_or, or_false, true_or, or_true, ne_eq, forall_const, implies_true, Bool.false_eq_true, Bool.true_eq_false, not_false_eq_true]
        intro hlen
        simp only [maxLen] at hlen
        rw [hd] at hx2
        simp only [leftL] at hx2
        refine aret_same (S' := S) ?_ ((Sub.refl S).upd hb)
        rw [leftF_eq] at h
        simp only [Fun.args, ← hx2] at h
        rw [show (if 0 > x then 0 else x) = max x 0 by omega]
        exact h
      | cons f fs =>
        have h2 := drop_lt hd
        simp only [List.length_map, Int.ofNat_lt, h2, decide_true, go_sem, List.take_length, Nat.le_refl, Nat.add_zero, Nat.zero_add, ↓reduceIte, Nat.reduceEqDiff, Nat.reduceLT, Nat.reduceLeDiff, Nat.reduceAdd, Nat.reduceMul, Nat.reduceSub, Int.reduceNeg, Int.reduceToNat, Int.reduceAdd, Int.reduceSub, Int.reduceMul, Int.reduceLE, Int.reduceLT, Int.reduceEq, Int.reduceNe, true_and, and_true, reduceCtorEq, eq_self, not_true, not_false_iff, false_or, or_false, true_or, or_true, ne_eq, forall_const, implies_true, Bool.false_eq_true, Bool.true_eq_false, not_false_eq_true]
        intro hlen
        simp only [maxLen] at hlen
        by_cases h4 : x > 0
        · simp only [h4, decide_true, go_sem, List.take_length, Nat.le_refl, Nat.add_zero, Nat.zero_add, ↓reduceIte, Nat.reduceEqDiff, Nat.reduceLT, Nat.reduceLeDiff, Nat.reduceAdd, Nat.reduceMul, Nat.reduceSub, Int.reduceNeg, Int.reduceToNat, Int.reduceAdd, Int.reduceSub, Int.reduceMul, Int.reduceLE, Int.reduceLT, Int.reduceEq, Int.reduceNe, true_and, and_true, reduceCtorEq, eq_self, not_true, not_false_iff, false_or, or_false, true_or, or_true, ne_eq, forall_const, implies_true, Bool.false_eq_true, Bool.true_eq_false, not_false_eq_true]
          refine ⟨by omega, aget_map (drop_get hd).1 ?_⟩
          simp only [go_sem, List.take_length, Nat.le_refl, Nat.add_zero, Nat.zero_add, ↓reduceIte, Nat.reduceEqDiff, Nat.reduceLT, Nat.reduceLeDiff, Nat.reduceAdd, Nat.reduceMul, Nat.reduceSub, Int.reduceNeg, Int.reduceToNat, Int.reduceAdd, Int.reduceSub, Int.reduceMul, Int.reduceLE, Int.reduceLT, Int.reduceEq, Int.reduceNe, true_and, and_true, reduceCtorEq, eq_self, not_true, not_false_iff, false_or, or_false, true_or, or_true, ne_eq, forall_const, implies_true, Bool.false_eq_true, Bool.true_eq_false, not_false_eq_true]
          refine left_spec f _ _ x (by omega) (by omega) ?_
          simp only [go_sem, List.take_length, Nat.le_refl, Nat.add_zero, Nat.zero_add, ↓reduceIte, Nat.reduceEqDiff, Nat.reduceLT, Nat.reduceLeDiff, Nat.reduceAdd, Nat.reduceMul, Nat.reduceSub, Int.reduceNeg, Int.reduceToNat, Int.reduceAdd, Int.reduceSub, Int.reduceMul, Int.reduceLE, Int.reduceLT, Int.reduceEq, Int.reduceNe, true_and, and_true, reduceCtorEq, eq_self, not_true, not_false_iff, false_or, or_false, true_or, or_true, ne_eq, forall_const, implies_true, Bool.false_eq_true, Bool.true_eq_false, not_false_eq_true]
          rw [wrap_i64 (by omega) (by omega)]
          have h6 := leftF_bd f x (by omega)
          rw [hd] at hx2
          simp only [leftL, if_pos (show 0 < x by omega)] at hx2
          refine ih (i + 1, leftF f x) ⟨by omega, by omega, ?_⟩ (by simp only; omega) _ _ ?_ (Sub.refl _)
          · rw [(drop_get hd).2]; exact hx2
          · (refine le_of_leOn ?_; simp only [leOn, Int.natCast_add, Int.cast_ofNat_Int, go_sem, List.take_length, Nat.le_refl, Nat.add_zero, Nat.zero_add, ↓reduceIte, Nat.reduceEqDiff, Nat.reduceLT, Nat.reduceLeDiff, Nat.reduceAdd, Nat.reduceMul, Nat.reduceSub, Int.reduceNeg, Int.reduceToNat, Int.reduceAdd, Int.reduceSub, Int.reduceMul, Int.reduceLE, Int.reduceLT, Int.reduceEq, Int.reduceNe, true_and, and_true, reduceCtorEq, eq_self, not_true, not_false_iff, false_or, or_false, true_or, or_true, ne_eq, forall_const, implies_true, Bool.false_eq_true, Bool.true_eq_false, not_false_eq_true]; try simp)
        · simp only [h4, decide_false, go_sem, List.take_length, Nat.le_refl, Nat.add_zero, Nat.zero_add, ↓reduceIte, Nat.reduceEqDiff, Nat.reduceLT, Nat.reduceLeDiff, Nat.reduceAdd, Nat.reduceMul, Nat.reduceSub, Int.reduceNeg, Int.reduceToNat, Int.reduceAdd, Int.reduceSub, Int.reduceMul, Int.reduceLE, Int.reduceLT, Int.reduceEq, Int.reduceNe, true_and, and_true, reduceCtorEq, eq_self, not_true, not_false_iff, false_or, or_false, true_or, or_true, ne_eq, forall_const, implies_true, Bool.false_eq_true, Bool.true_eq_false, not_false_eq_true]
          rw [hd] at hx2
          simp only [leftL, if_neg (show ¬ 0 < x by omega)] at hx2
          refine aret_same (S' := S) ?_ ((Sub.refl S).upd hb)
          rw [leftF_eq] at h
          simp only [Fun.args, ← hx2] at h
          rw [show (if 0 > x then 0 else x) = max x 0 by omega]
          exact h
termination_by f _ _ _ => SizeOf.sizeOf f
decreasing_by
  have h5 : f ∈ l := List.mem_of_mem_drop (hd ▸ List.mem_cons_self : f ∈ l.drop i)
  have := List.sizeOf_lt_of_mem h5
  simp; omega
end
end Go.Proofs.YtaeobokijndboaaDoor
