/- Functors: numbers under 100 as text. -/
import Derived.Test.YtaeobokijndboaaDoorFun5
set_option linter.unusedSimpArgs false
set_option linter.unusedVariables false
set_option maxRecDepth 100000
namespace Go.Proofs.YtaeobokijndboaaDoor
open Go Go.Proofs.Abs

def dec2 (n : Nat) : List UInt8 := if n < 10 then [48 + n.toUInt8] else [48 + (n / 10).toUInt8, 48 + (n % 10).toUInt8]

def digitsL : List UInt8 := [48, 49, 50, 51, 52, 53, 54, 55, 56, 57, 97, 98, 99, 100, 101, 102, 103, 104, 105, 106, 107, 108, 109, 110, 111, 112, 113, 114, 115, 116, 117, 118, 119, 120, 121, 122]
def smallsL : List UInt8 := [48, 48, 48, 49, 48, 50, 48, 51, 48, 52, 48, 53, 48, 54, 48, 55, 48, 56, 48, 57, 49, 48, 49, 49, 49, 50, 49, 51, 49, 52, 49, 53, 49, 54, 49, 55, 49, 56, 49, 57, 50, 48, 50, 49, 50, 50, 50, 51, 50, 52, 50, 53, 50, 54, 50, 55, 50, 56, 50, 57, 51, 48, 51, 49, 51, 50, 51, 51, 51, 52, 51, 53, 51, 54, 51, 55, 51, 56, 51, 57, 52, 48, 52, 49, 52, 50, 52, 51, 52, 52, 52, 53, 52, 54, 52, 55, 52, 56, 52, 57, 53, 48, 53, 49, 53, 50, 53, 51, 53, 52, 53, 53, 53, 54, 53, 55, 53, 56, 53, 57, 54, 48, 54, 49, 54, 50, 54, 51, 54, 52, 54, 53, 54, 54, 54, 55, 54, 56, 54, 57, 55, 48, 55, 49, 55, 50, 55, 51, 55, 52, 55, 53, 55, 54, 55, 55, 55, 56, 55, 57, 56, 48, 56, 49, 56, 50, 56, 51, 56, 52, 56, 53, 56, 54, 56, 55, 56, 56, 56, 57, 57, 48, 57, 49, 57, 50, 57, 51, 57, 52, 57, 53, 57, 54, 57, 55, 57, 56, 57, 57]
theorem digits_cut : ∀ m : Nat, m < 10 → List.drop m (List.take (m + 1) digitsL) = dec2 m := by decide
theorem smalls_cut : ∀ m : Nat, m < 100 → 10 ≤ m → List.drop (m * 2) (List.take (m * 2 + 2) smallsL) = dec2 m := by decide
theorem dec2_len (m : Nat) : (dec2 m).length ≤ 2 := by unfold dec2; split <;> simp

section
variable {G : Glob}
theorem small_spec (n : Nat) (hn : n < 100) {S : St} {R : AEnd → St → Prop} (h : R (.ret (str (dec2 n))) S) : ACalls Tryd.prog G 45 [int .i64 n] S R := by
  refine acalls_of_awp Tryd.func45 rfl (by rw [Tryd.ntmps45]; simp) ?_; rw [Tryd.ntmps45, Tryd.results45]
  simp only [go_sem, List.take_length, Nat.le_refl, Nat.add_zero, Nat.zero_add, ↓reduceIte, Nat.reduceEqDiff, Nat.reduceLT, Nat.reduceLeDiff, Nat.reduceAdd, Nat.reduceMul, Nat.reduceSub, Int.reduceNeg, Int.reduceToNat, Int.reduceAdd, Int.reduceSub, Int.reduceMul, Int.reduceLE, Int.reduceLT, Int.reduceEq, Int.reduceNe, true_and, and_true, reduceCtorEq, eq_self, not_true, not_false_iff, false_or, or_false, true_or, or_true, ne_eq, forall_const, implies_true, Bool.false_eq_true, Bool.true_eq_false, not_false_eq_true]
  by_cases h10 : (n : Int) < 10
  · simp only [h10, decide_true, go_sem, List.take_length, Nat.le_refl, Nat.add_zero, Nat.zero_add, ↓reduceIte, Nat.reduceEqDiff, Nat.reduceLT, Nat.reduceLeDiff, Nat.reduceAdd, Nat.reduceMul, Nat.reduceSub, Int.reduceNeg, Int.reduceToNat, Int.reduceAdd, Int.reduceSub, Int.reduceMul, Int.reduceLE, Int.reduceLT, Int.reduceEq, Int.reduceNe, true_and, and_true, reduceCtorEq, eq_self, not_true, not_false_iff, false_or, or_false, true_or, or_true, ne_eq, forall_const, implies_true, Bool.false_eq_true, Bool.true_eq_false, not_false_eq_true]
    rw [wrap_i64 (by omega) (by omega)]
    rw [show ((n : Int) + 1).toNat = n + 1 by omega]
    refine ⟨by omega, by omega, by omega, by omega, ?_⟩
    show aret R (str (List.drop n (List.take (n + 1) digitsL))) S
    rw [digits_cut n (by omega)]
    exact aret_same h (Sub.refl _)
  · simp only [h10, decide_false, go_sem, List.take_length, Nat.le_refl, Nat.add_zero, Nat.zero_add, ↓reduceIte, Nat.reduceEqDiff, Nat.reduceLT, Nat.reduceLeDiff, Nat.reduceAdd, Nat.reduceMul, Nat.reduceSub, Int.reduceNeg, Int.reduceToNat, Int.reduceAdd, Int.reduceSub, Int.reduceMul, Int.reduceLE, Int.reduceLT, Int.reduceEq, Int.reduceNe, true_and, and_true, reduceCtorEq, eq_self, not_true, not_false_iff, false_or, or_false, true_or, or_true, ne_eq, forall_const, implies_true, Bool.false_eq_true, Bool.true_eq_false, not_false_eq_true]
    rw [wrap_i64 (x := n * 2) (by omega) (by omega)]
    rw [wrap_i64 (by omega) (by omega)]
    rw [show ((n : Int) * 2 + 2).toNat = n * 2 + 2 by omega, show ((n : Int) * 2).toNat = n * 2 by omega]
    refine ⟨by omega, by omega, by omega, ?_, ?_⟩
    · show n * 2 + 2 ≤ smallsL.length
      have : smallsL.length = 200 := rfl
      omega
    show aret R (str (List.drop (n * 2) (List.take (n * 2 + 2) smallsL))) S
    rw [smalls_cut n hn (by omega)]
    exact aret_same h (Sub.refl _)

theorem Itoa_small (n : Nat) (hn : n < 100) {S : St} {R : AEnd → St → Prop} (h : R (.ret (str (dec2 n))) S) : ACalls Tryd.prog G 24 [int .i64 n] S R := by
  refine acalls_of_awp Tryd.func24 rfl (by rw [Tryd.ntmps24]; simp) ?_; rw [Tryd.ntmps24, Tryd.results24]
  simp only [go_sem, List.take_length, Nat.le_refl, Nat.add_zero, Nat.zero_add, ↓reduceIte, Nat.reduceEqDiff, Nat.reduceLT, Nat.reduceLeDiff, Nat.reduceAdd, Nat.reduceMul, Nat.reduceSub, Int.reduceNeg, Int.reduceToNat, Int.reduceAdd, Int.reduceSub, Int.reduceMul, Int.reduceLE, Int.reduceLT, Int.reduceEq, Int.reduceNe, true_and, and_true, reduceCtorEq, eq_self, not_true, not_false_iff, false_or, or_false, true_or, or_true, ne_eq, forall_const, implies_true, Bool.false_eq_true, Bool.true_eq_false, not_false_eq_true]
  refine acalls_of_awp Tryd.func30 rfl (by rw [Tryd.ntmps30]; simp) ?_; rw [Tryd.ntmps30, Tryd.results30]
  simp only [go_sem, List.take_length, Nat.le_refl, Nat.add_zero, Nat.zero_add, ↓reduceIte, Nat.reduceEqDiff, Nat.reduceLT, Nat.reduceLeDiff, Nat.reduceAdd, Nat.reduceMul, Nat.reduceSub, Int.reduceNeg, Int.reduceToNat, Int.reduceAdd, Int.reduceSub, Int.reduceMul, Int.reduceLE, Int.reduceLT, Int.reduceEq, Int.reduceNe, true_and, and_true, reduceCtorEq, eq_self, not_true, not_false_iff, false_or, or_false, true_or, or_true, ne_eq, forall_const, implies_true, Bool.false_eq_true, Bool.true_eq_false, not_false_eq_true]
  refine acalls_of_awp Tryd.func38 rfl (by rw [Tryd.ntmps38]; simp) ?_; rw [Tryd.ntmps38, Tryd.results38]
  simp only [go_sem, List.take_length, Nat.le_refl, Nat.add_zero, Nat.zero_add, ↓reduceIte, Nat.reduceEqDiff, Nat.reduceLT, Nat.reduceLeDiff, Nat.reduceAdd, Nat.reduceMul, Nat.reduceSub, Int.reduceNeg, Int.reduceToNat, Int.reduceAdd, Int.reduceSub, Int.reduceMul, Int.reduceLE, Int.reduceLT, Int.reduceEq, Int.reduceNe, true_and, and_true, reduceCtorEq, eq_self, not_true, not_false_iff, false_or, or_false, true_or, or_true, ne_eq, forall_const, implies_true, Bool.false_eq_true, Bool.true_eq_false, not_false_eq_true]
  have h1 : (0 : Int) ≤ n := by omega
  have h2 : (n : Int) < 100 := by omega
  simp only [h1, h2, decide_true, go_sem, List.take_length, Nat.le_refl, Nat.add_zero, Nat.zero_add, ↓reduceIte, Nat.reduceEqDiff, Nat.reduceLT, Nat.reduceLeDiff, Nat.reduceAdd, Nat.reduceMul, Nat.reduceSub, Int.reduceNeg, Int.reduceToNat, Int.reduceAdd, Int.reduceSub, Int.reduceMul, Int.reduceLE, Int.reduceLT, Int.reduceEq, Int.reduceNe, true_and, and_true, reduceCtorEq, eq_self, not_true, not_false_iff, false_or, or_false, true_or, or_true, ne_eq, forall_const, implies_true, Bool.false_eq_true, Bool.true_eq_false, not_false_eq_true]
  refine small_spec n hn ?_
  simp only [go_sem, List.take_length, Nat.le_refl, Nat.add_zero, Nat.zero_add, ↓reduceIte, Nat.reduceEqDiff, Nat.reduceLT, Nat.reduceLeDiff, Nat.reduceAdd, Nat.reduceMul, Nat.reduceSub, Int.reduceNeg, Int.reduceToNat, Int.reduceAdd, Int.reduceSub, Int.reduceMul, Int.reduceLE, Int.reduceLT, Int.reduceEq, Int.reduceNe, true_and, and_true, reduceCtorEq, eq_self, not_true, not_false_iff, false_or, or_false, true_or, or_true, ne_eq, forall_const, implies_true, Bool.false_eq_true, Bool.true_eq_false, not_false_eq_true]
  refine aret_same ?_ (Sub.refl _)
  simp only [go_sem, List.take_length, Nat.le_refl, Nat.add_zero, Nat.zero_add, ↓reduceIte, Nat.reduceEqDiff, Nat.reduceLT, Nat.reduceLeDiff, Nat.reduceAdd, Nat.reduceMul, Nat.reduceSub, Int.reduceNeg, Int.reduceToNat, Int.reduceAdd, Int.reduceSub, Int.reduceMul, Int.reduceLE, Int.reduceLT, Int.reduceEq, Int.reduceNe, true_and, and_true, reduceCtorEq, eq_self, not_true, not_false_iff, false_or, or_false, true_or, or_true, ne_eq, forall_const, implies_true, Bool.false_eq_true, Bool.true_eq_false, not_false_eq_true]
  refine aret_same ?_ (Sub.refl _)
  simp only [go_sem, List.take_length, Nat.le_refl, Nat.add_zero, Nat.zero_add, ↓reduceIte, Nat.reduceEqDiff, Nat.reduceLT, Nat.reduceLeDiff, Nat.reduceAdd, Nat.reduceMul, Nat.reduceSub, Int.reduceNeg, Int.reduceToNat, Int.reduceAdd, Int.reduceSub, Int.reduceMul, Int.reduceLE, Int.reduceLT, Int.reduceEq, Int.reduceNe, true_and, and_true, reduceCtorEq, eq_self, not_true, not_false_iff, false_or, or_false, true_or, or_true, ne_eq, forall_const, implies_true, Bool.false_eq_true, Bool.true_eq_false, not_false_eq_true]
  exact aret_same h (Sub.refl _)
end
end Go.Proofs.YtaeobokijndboaaDoor
