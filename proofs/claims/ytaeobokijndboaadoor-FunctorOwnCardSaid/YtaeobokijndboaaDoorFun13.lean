/- Functors: what the law needs of Parse; awake. -/
import Derived.Test.YtaeobokijndboaaDoorFun12
set_option linter.unusedSimpArgs false
set_option linter.unusedVariables false
set_option maxRecDepth 100000
namespace Go.Proofs.YtaeobokijndboaaDoor
open Go Go.Proofs.Abs

theorem parse_text {f : Fun} (h : okF f = true) : parseS 200 (textF f true) = some (f, 0) := by
  obtain ⟨hs, hz⟩ := ok_shape h
  have hl := text_len f true
  obtain ⟨r, h1, h2⟩ := all_text 200 f [] hs (by omega) ⟨⟨rfl, by decide⟩, by decide, by decide⟩
  rw [List.append_nil] at h1
  unfold parseS
  rw [if_neg (by omega), h1]
  simp only
  rw [if_neg (by rw [h2]; simp [trimL]), if_pos h]
theorem parse_empty : parseS 200 [] = some (zeroF, 11) := by rfl
def f1 : Fun := .mk 3 0 [.mk 1 1 [], .mk 2 0 [.mk 1 3 [], .mk 0 0 []]]
theorem parse_a1 : parseS 200 [49, 43, 40, 51, 42, 88, 41] = some (f1, 0) := by rfl
theorem parse_a2 : parseS 200 [40, 40, 88, 41, 41] = some (zeroF, 0) := by rfl
theorem parse_a3 : parseS 200 [50, 42, 88, 42, 88] = some (zeroF, 11) := by rfl
theorem parse_a4 : parseS 200 [48, 32, 43, 32, 88] = some (zeroF, 10) := by rfl
theorem ok_f1 : okF f1 = true := by rfl
theorem text_f1 : textF f1 true = [49, 32, 43, 32, 40, 51, 32, 42, 32, 88, 41] := by simp [textF, f1, dec2]
theorem has_f1 : hasF 5 f1 = false := by rfl

section
variable {G : Glob}
theorem awake_spec (hG : G 0 = some formsA) (S : St) (R : AEnd → St → Prop) (h : R (.ret (bool true)) S) : ACalls Tryd.prog G 5 [] S R := by
  refine acalls_of_awp Tryd.func5 rfl (by rw [Tryd.ntmps5]; simp) ?_; rw [Tryd.ntmps5, Tryd.results5]
  simp only [go_sem, List.take_length, Nat.le_refl, Nat.add_zero, Nat.zero_add, ↓reduceIte, Nat.reduceEqDiff, Nat.reduceLT, Nat.reduceLeDiff, Nat.reduceAdd, Nat.reduceMul, Nat.reduceSub, Int.reduceNeg, Int.reduceToNat, Int.reduceAdd, Int.reduceSub, Int.reduceMul, Int.reduceLE, Int.reduceLT, Int.reduceEq, Int.reduceNe, true_and, and_true, reduceCtorEq, eq_self, not_true, not_false_iff, false_or, or_false, true_or, or_true, ne_eq, forall_const, implies_true, Bool.false_eq_true, Bool.true_eq_false, not_false_eq_true]
  refine Parse_spec hG 200 _ _ _ (by simp) f1 0 parse_a1 ?_
  simp only [go_sem, List.take_length, Nat.le_refl, Nat.add_zero, Nat.zero_add, ↓reduceIte, Nat.reduceEqDiff, Nat.reduceLT, Nat.reduceLeDiff, Nat.reduceAdd, Nat.reduceMul, Nat.reduceSub, Int.reduceNeg, Int.reduceToNat, Int.reduceAdd, Int.reduceSub, Int.reduceMul, Int.reduceLE, Int.reduceLT, Int.reduceEq, Int.reduceNe, true_and, and_true, reduceCtorEq, eq_self, not_true, not_false_iff, false_or, or_false, true_or, or_true, ne_eq, forall_const, implies_true, Bool.false_eq_true, Bool.true_eq_false, not_false_eq_true]
  intro b1 vs1 hb1; try simp only [upd_none, set_none, del_none] at hb1
  simp only [hb1, go_sem, List.take_length, Nat.le_refl, Nat.add_zero, Nat.zero_add, ↓reduceIte, Nat.reduceEqDiff, Nat.reduceLT, Nat.reduceLeDiff, Nat.reduceAdd, Nat.reduceMul, Nat.reduceSub, Int.reduceNeg, Int.reduceToNat, Int.reduceAdd, Int.reduceSub, Int.reduceMul, Int.reduceLE, Int.reduceLT, Int.reduceEq, Int.reduceNe, true_and, and_true, reduceCtorEq, eq_self, not_true, not_false_iff, false_or, or_false, true_or, or_true, ne_eq, forall_const, implies_true, Bool.false_eq_true, Bool.true_eq_false, not_false_eq_true]
  intro u1
  refine acalls_weak (args := [.agg (encF f1)]) ⟨weakPF f1, trivial⟩ ?_
  refine String_spec hG f1 ?_
  rw [if_pos ok_f1, text_f1]
  simp only [hb1, go_sem, List.take_length, Nat.le_refl, Nat.add_zero, Nat.zero_add, ↓reduceIte, Nat.reduceEqDiff, Nat.reduceLT, Nat.reduceLeDiff, Nat.reduceAdd, Nat.reduceMul, Nat.reduceSub, Int.reduceNeg, Int.reduceToNat, Int.reduceAdd, Int.reduceSub, Int.reduceMul, Int.reduceLE, Int.reduceLT, Int.reduceEq, Int.reduceNe, true_and, and_true, reduceCtorEq, eq_self, not_true, not_false_iff, false_or, or_false, true_or, or_true, ne_eq, forall_const, implies_true, Bool.false_eq_true, Bool.true_eq_false, not_false_eq_true]
  refine Parse_spec hG 200 _ _ _ (by simp) zeroF 0 parse_a2 ?_
  simp only [hb1, go_sem, List.take_length, Nat.le_refl, Nat.add_zero, Nat.zero_add, ↓reduceIte, Nat.reduceEqDiff, Nat.reduceLT, Nat.reduceLeDiff, Nat.reduceAdd, Nat.reduceMul, Nat.reduceSub, Int.reduceNeg, Int.reduceToNat, Int.reduceAdd, Int.reduceSub, Int.reduceMul, Int.reduceLE, Int.reduceLT, Int.reduceEq, Int.reduceNe, true_and, and_true, reduceCtorEq, eq_self, not_true, not_false_iff, false_or, or_false, true_or, or_true, ne_eq, forall_const, implies_true, Bool.false_eq_true, Bool.true_eq_false, not_false_eq_true]
  intro b2 vs2 hb2; try simp only [upd_none, set_none, del_none] at hb2
  simp only [hb1, hb2, go_sem, List.take_length, Nat.le_refl, Nat.add_zero, Nat.zero_add, ↓reduceIte, Nat.reduceEqDiff, Nat.reduceLT, Nat.reduceLeDiff, Nat.reduceAdd, Nat.reduceMul, Nat.reduceSub, Int.reduceNeg, Int.reduceToNat, Int.reduceAdd, Int.reduceSub, Int.reduceMul, Int.reduceLE, Int.reduceLT, Int.reduceEq, Int.reduceNe, true_and, and_true, reduceCtorEq, eq_self, not_true, not_false_iff, false_or, or_false, true_or, or_true, ne_eq, forall_const, implies_true, Bool.false_eq_true, Bool.true_eq_false, not_false_eq_true]
  intro u2
  refine Parse_spec hG 200 _ _ _ (by simp) zeroF 11 parse_a3 ?_
  simp only [hb1, hb2, go_sem, List.take_length, Nat.le_refl, Nat.add_zero, Nat.zero_add, ↓reduceIte, Nat.reduceEqDiff, Nat.reduceLT, Nat.reduceLeDiff, Nat.reduceAdd, Nat.reduceMul, Nat.reduceSub, Int.reduceNeg, Int.reduceToNat, Int.reduceAdd, Int.reduceSub, Int.reduceMul, Int.reduceLE, Int.reduceLT, Int.reduceEq, Int.reduceNe, true_and, and_true, reduceCtorEq, eq_self, not_true, not_false_iff, false_or, or_false, true_or, or_true, ne_eq, forall_const, implies_true, Bool.false_eq_true, Bool.true_eq_false, not_false_eq_true]
  intro b3 vs3 hb3; try simp only [upd_none, set_none, del_none] at hb3
  simp only [hb1, hb2, hb3, go_sem, List.take_length, Nat.le_refl, Nat.add_zero, Nat.zero_add, ↓reduceIte, Nat.reduceEqDiff, Nat.reduceLT, Nat.reduceLeDiff, Nat.reduceAdd, Nat.reduceMul, Nat.reduceSub, Int.reduceNeg, Int.reduceToNat, Int.reduceAdd, Int.reduceSub, Int.reduceMul, Int.reduceLE, Int.reduceLT, Int.reduceEq, Int.reduceNe, true_and, and_true, reduceCtorEq, eq_self, not_true, not_false_iff, false_or, or_false, true_or, or_true, ne_eq, forall_const, implies_true, Bool.false_eq_true, Bool.true_eq_false, not_false_eq_true]
  intro u3
  refine Parse_spec hG 200 _ _ _ (by simp) zeroF 10 parse_a4 ?_
  simp only [hb1, hb2, hb3, go_sem, List.take_length, Nat.le_refl, Nat.add_zero, Nat.zero_add, ↓reduceIte, Nat.reduceEqDiff, Nat.reduceLT, Nat.reduceLeDiff, Nat.reduceAdd, Nat.reduceMul, Nat.reduceSub, Int.reduceNeg, Int.reduceToNat, Int.reduceAdd, Int.reduceSub, Int.reduceMul, Int.reduceLE, Int.reduceLT, Int.reduceEq, Int.reduceNe, true_and, and_true, reduceCtorEq, eq_self, not_true, not_false_iff, false_or, or_false, true_or, or_true, ne_eq, forall_const, implies_true, Bool.false_eq_true, Bool.true_eq_false, not_false_eq_true]
  intro b4 vs4 hb4; try simp only [upd_none, set_none, del_none] at hb4
  simp only [hb1, hb2, hb3, hb4, go_sem, List.take_length, Nat.le_refl, Nat.add_zero, Nat.zero_add, ↓reduceIte, Nat.reduceEqDiff, Nat.reduceLT, Nat.reduceLeDiff, Nat.reduceAdd, Nat.reduceMul, Nat.reduceSub, Int.reduceNeg, Int.reduceToNat, Int.reduceAdd, Int.reduceSub, Int.reduceMul, Int.reduceLE, Int.reduceLT, Int.reduceEq, Int.reduceNe, true_and, and_true, reduceCtorEq, eq_self, not_true, not_false_iff, false_or, or_false, true_or, or_true, ne_eq, forall_const, implies_true, Bool.false_eq_true, Bool.true_eq_false, not_false_eq_true]
  intro u4
  refine acalls_weak (args := [.agg (encF f1)]) ⟨weakPF f1, trivial⟩ ?_
  refine Polynomial_spec hG f1 ?_
  rw [ok_f1, has_f1]
  simp only [hb1, hb2, hb3, hb4, if_true, go_sem, List.take_length, Nat.le_refl, Nat.add_zero, Nat.zero_add, ↓reduceIte, Nat.reduceEqDiff, Nat.reduceLT, Nat.reduceLeDiff, Nat.reduceAdd, Nat.reduceMul, Nat.reduceSub, Int.reduceNeg, Int.reduceToNat, Int.reduceAdd, Int.reduceSub, Int.reduceMul, Int.reduceLE, Int.reduceLT, Int.reduceEq, Int.reduceNe, true_and, and_true, reduceCtorEq, eq_self, not_true, not_false_iff, false_or, or_false, true_or, or_true, ne_eq, forall_const, implies_true, Bool.false_eq_true, Bool.true_eq_false, not_false_eq_true]
  refine acalls_weak (args := [.agg (encF zeroF), .agg (encF zeroF)]) ⟨weakPF zeroF, fun r u h => weakPF (mk := 0) zeroF r u (weak_fun0 r u h), trivial⟩ ?_
  refine same_spec zeroF zeroF _ _ ?_
  rw [sameF_self]
  simp only [hb1, hb2, hb3, hb4, Bool.and_self, go_sem, List.take_length, Nat.le_refl, Nat.add_zero, Nat.zero_add, ↓reduceIte, Nat.reduceEqDiff, Nat.reduceLT, Nat.reduceLeDiff, Nat.reduceAdd, Nat.reduceMul, Nat.reduceSub, Int.reduceNeg, Int.reduceToNat, Int.reduceAdd, Int.reduceSub, Int.reduceMul, Int.reduceLE, Int.reduceLT, Int.reduceEq, Int.reduceNe, true_and, and_true, reduceCtorEq, eq_self, not_true, not_false_iff, false_or, or_false, true_or, or_true, ne_eq, forall_const, implies_true, Bool.false_eq_true, Bool.true_eq_false, not_false_eq_true]
  exact aret_same h (by (repeat' (first | exact Sub.refl _ | (with_reducible apply sub_upd_l; focus (simp only [hb1, hb2, hb3, hb4, go_sem, ↓reduceIte]; done)) | (with_reducible apply sub_upd_r; focus (first | assumption | (simp only [hb1, hb2, hb3, hb4, upd_none, set_none, true_and, and_true, not_false_iff]; done))))))
end
end Go.Proofs.YtaeobokijndboaaDoor
