/- Functors: valid, Valid, Check. -/
import Derived.Test.YtaeobokijndboaaDoorFun3
set_option linter.unusedSimpArgs false
set_option linter.unusedVariables false
set_option maxRecDepth 100000
namespace Go.Proofs.YtaeobokijndboaaDoor
open Go Go.Proofs.Abs

def mostK (k : Int) : Int := if k = 1 then 16 else if k = 4 then 4 else 0
def arityK (k : Int) : Int := if k = 2 then 2 else if k = 3 then 2 else if 4 ≤ k ∧ k ≤ 7 then 1 else 0
def formsA : List AVal := [int .i64 0, int .i64 0, int .i64 16, int .i64 0, int .i64 0, int .i64 2, int .i64 0, int .i64 2, int .i64 4, int .i64 1, int .i64 0, int .i64 1, int .i64 0, int .i64 1, int .i64 0, int .i64 1]
theorem kinds {k : Int} (h0 : ¬ k < 0) (h7 : ¬ 7 < k) : k = 0 ∨ k = 1 ∨ k = 2 ∨ k = 3 ∨ k = 4 ∨ k = 5 ∨ k = 6 ∨ k = 7 := by omega
theorem aget_forms0 {k : Int} (h0 : ¬ k < 0) (h7 : ¬ 7 < k) {K : AVal → Prop} : aget formsA (k.toNat * 2) K = K (.lit (.int .i64 (mostK k))) := by
  rcases kinds h0 h7 with rfl | rfl | rfl | rfl | rfl | rfl | rfl | rfl <;> simp [formsA, aget, mostK, int]
theorem aget_forms1 {k : Int} (h0 : ¬ k < 0) (h7 : ¬ 7 < k) {K : AVal → Prop} : aget formsA (k.toNat * 2 + 1) K = K (.lit (.int .i64 (arityK k))) := by
  rcases kinds h0 h7 with rfl | rfl | rfl | rfl | rfl | rfl | rfl | rfl <;> simp [formsA, aget, arityK, int]
theorem mostK_bd (k : Int) : 0 ≤ mostK k ∧ mostK k ≤ 16 := by unfold mostK; split <;> (try split) <;> omega

def minK (k : Int) : Int := if mostK k < 1 then mostK k else 1
def badF (k n len left deep : Int) : Bool := decide (left - 1 < 0) || decide (8 < deep) || decide (k < 0) || decide (7 < k) || !decide (len = arityK k) || decide (n < minK k) || decide (mostK k < n)
mutual
def validF : Fun → Int → Int → Bool × Int
  | .mk k n l, left, deep => if badF k n l.length left deep = true then (false, left - 1) else validL l (left - 1) (deep + 1)
def validL : List Fun → Int → Int → Bool × Int
  | [], left, _ => (true, left)
  | f :: l, left, deep => if (validF f left deep).1 = true then validL l (validF f left deep).2 deep else (false, (validF f left deep).2)
end
mutual
theorem validF_bd : ∀ (f : Fun) (left deep : Int), 0 ≤ left → (-1 ≤ (validF f left deep).2 ∧ (validF f left deep).2 ≤ left) ∧ ((validF f left deep).1 = true → 0 ≤ (validF f left deep).2)
  | .mk k n l, left, deep, h => by
    simp only [validF]
    by_cases hb : badF k n l.length left deep = true
    · rw [if_pos hb]; exact ⟨⟨by simp only; omega, by simp only; omega⟩, by simp⟩
    · rw [if_neg hb]
      have h2 : ¬ left - 1 < 0 := fun h2 => hb (by simp [badF, h2])
      have := validL_bd l (left - 1) (deep + 1) (by omega)
      exact ⟨⟨this.1.1, by omega⟩, this.2⟩
theorem validL_bd : ∀ (l : List Fun) (left deep : Int), 0 ≤ left → (-1 ≤ (validL l left deep).2 ∧ (validL l left deep).2 ≤ left) ∧ ((validL l left deep).1 = true → 0 ≤ (validL l left deep).2)
  | [], left, deep, h => by simp only [validL]; omega
  | f :: l, left, deep, h => by
    have h1 := validF_bd f left deep h
    simp only [validL]
    by_cases h2 : (validF f left deep).1 = true
    · rw [if_pos h2]
      have h3 := validL_bd l (validF f left deep).2 deep (h1.2 h2)
      exact ⟨⟨h3.1.1, by omega⟩, h3.2⟩
    · rw [if_neg h2]; exact ⟨h1.1, by simp⟩
end

section
variable {G : Glob}

theorem valid_spec (hG : G 0 = some formsA) : ∀ (f : Fun) (S : St) (R : AEnd → St → Prop) (b : Nat) (left deep : Int) (us : Array Value), S.get b = some (.box [int .i64 left] us) → 0 ≤ left → left ≤ 1000000 → 0 ≤ deep → deep ≤ 1000000 →
    (∀ us', R (.ret (bool (validF f left deep).1)) (S.set b (.box [int .i64 (validF f left deep).2] us'))) → ACalls Tryd.prog G 23 [.agg (encF f), ptr b 0, int .i64 deep] S R
  | .mk k n l, S, R, b, left, deep, us, hS, h0, h1, d0, d1, h => by
    refine acalls_of_awp Tryd.func23 rfl (by rw [Tryd.ntmps23]; simp) ?_; rw [Tryd.ntmps23, Tryd.results23]
    rw [encF_eq]
    simp only [Fun.kind, Fun.n, Fun.args]
    simp only [go_sem, List.take_length, Nat.le_refl, Nat.add_zero, Nat.zero_add, ↓reduceIte, Nat.reduceEqDiff, Nat.reduceLT, Nat.reduceLeDiff, Nat.reduceAdd, Nat.reduceMul, Nat.reduceSub, Int.reduceNeg, Int.reduceToNat, Int.reduceAdd, Int.reduceSub, Int.reduceMul, Int.reduceLE, Int.reduceLT, Int.reduceEq, Int.reduceNe, true_and, and_true, reduceCtorEq, eq_self, not_true, not_false_iff, false_or, or_false, true_or, or_true, ne_eq, forall_const, implies_true, Bool.false_eq_true, Bool.true_eq_false, not_false_eq_true]
    intro b2 vs hb; try simp only [upd_none, set_none, del_none] at hb
    have hbb : ¬ b = b2 ∧ ¬ b2 = b := by
      have : ¬ b = b2 := by rintro rfl; rw [St.get] at hS; rw [hS] at hb; cases hb
      exact ⟨this, fun h => this h.symm⟩
    simp only [hS, hb, hbb, go_sem, List.take_length, Nat.le_refl, Nat.add_zero, Nat.zero_add, ↓reduceIte, Nat.reduceEqDiff, Nat.reduceLT, Nat.reduceLeDiff, Nat.reduceAdd, Nat.reduceMul, Nat.reduceSub, Int.reduceNeg, Int.reduceToNat, Int.reduceAdd, Int.reduceSub, Int.reduceMul, Int.reduceLE, Int.reduceLT, Int.reduceEq, Int.reduceNe, true_and, and_true, reduceCtorEq, eq_self, not_true, not_false_iff, false_or, or_false, true_or, or_true, ne_eq, forall_const, implies_true, Bool.false_eq_true, Bool.true_eq_false, not_false_eq_true]
    rw [wrap_i64 (by omega) (by omega)]
    intro us1
    refine awp_drawL (by kernel_rfl) (.take 0 (.take 1 (.take 2 (.take 3 (.take 4 (.take 5 (.take 6 (.take 7 (.take 8 (.take 9 (.take 10 (.take 11 (.take 12 (.take 13 (.take 14 (.take 15 (.take 16 (.take 17 (.take 18 (.take 19 (.take 20 (.take 21 (.take 22 (.take 23 (.take 24 (.take 25 (.take 26 (.take 27 (.take 28 .done))))))))))))))))))))))))))))) [b, b2] (by kernel_rfl) ?_
    simp only [hS, hb, hbb, go_sem, List.take_length, Nat.le_refl, Nat.add_zero, Nat.zero_add, ↓reduceIte, Nat.reduceEqDiff, Nat.reduceLT, Nat.reduceLeDiff, Nat.reduceAdd, Nat.reduceMul, Nat.reduceSub, Int.reduceNeg, Int.reduceToNat, Int.reduceAdd, Int.reduceSub, Int.reduceMul, Int.reduceLE, Int.reduceLT, Int.reduceEq, Int.reduceNe, true_and, and_true, reduceCtorEq, eq_self, not_true, not_false_iff, false_or, or_false, true_or, or_true, ne_eq, forall_const, implies_true, Bool.false_eq_true, Bool.true_eq_false, not_false_eq_true]
    have bad : badF k n l.length left deep = true → ∀ us', R (.ret (bool false)) (S.set b (.box [int .i64 (left - 1)] us')) := fun hb us' => by
      have := h us'
      simp only [validF, if_pos hb] at this
      exact this
    by_cases c1 : left - 1 < 0
    · simp only [hb, hbb, c1, decide_true, go_sem, List.take_length, Nat.le_refl, Nat.add_zero, Nat.zero_add, ↓reduceIte, Nat.reduceEqDiff, Nat.reduceLT, Nat.reduceLeDiff, Nat.reduceAdd, Nat.reduceMul, Nat.reduceSub, Int.reduceNeg, Int.reduceToNat, Int.reduceAdd, Int.reduceSub, Int.reduceMul, Int.reduceLE, Int.reduceLT, Int.reduceEq, Int.reduceNe, true_and, and_true, reduceCtorEq, eq_self, not_true, not_false_iff, false_or, or_false, true_or, or_true, ne_eq, forall_const, implies_true, Bool.false_eq_true, Bool.true_eq_false, not_false_eq_true]
      exact aret_same (bad (by simp [badF, c1]) us1) (by (repeat' (first | exact Sub.refl _ | (with_reducible apply sub_upd_l; focus (simp only [hS, hb, hbb, go_sem, ↓reduceIte]; done)) | (with_reducible apply sub_upd_r; focus (first | assumption | (simp only [hS, hb, hbb, upd_none, set_none, true_and, and_true, not_false_iff]; done))))))
    by_cases c2 : 8 < deep
    · simp only [hb, hbb, c1, c2, decide_true, decide_false, go_sem, List.take_length, Nat.le_refl, Nat.add_zero, Nat.zero_add, ↓reduceIte, Nat.reduceEqDiff, Nat.reduceLT, Nat.reduceLeDiff, Nat.reduceAdd, Nat.reduceMul, Nat.reduceSub, Int.reduceNeg, Int.reduceToNat, Int.reduceAdd, Int.reduceSub, Int.reduceMul, Int.reduceLE, Int.reduceLT, Int.reduceEq, Int.reduceNe, true_and, and_true, reduceCtorEq, eq_self, not_true, not_false_iff, false_or, or_false, true_or, or_true, ne_eq, forall_const, implies_true, Bool.false_eq_true, Bool.true_eq_false, not_false_eq_true]
      exact aret_same (bad (by simp [badF, c2]) us1) (by (repeat' (first | exact Sub.refl _ | (with_reducible apply sub_upd_l; focus (simp only [hS, hb, hbb, go_sem, ↓reduceIte]; done)) | (with_reducible apply sub_upd_r; focus (first | assumption | (simp only [hS, hb, hbb, upd_none, set_none, true_and, and_true, not_false_iff]; done))))))
    by_cases c3 : k < 0
    · simp only [hb, hbb, c1, c2, c3, decide_true, decide_false, go_sem, List.take_length, Nat.le_refl, Nat.add_zero, Nat.zero_add, ↓reduceIte, Nat.reduceEqDiff, Nat.reduceLT, Nat.reduceLeDiff, Nat.reduceAdd, Nat.reduceMul, Nat.reduceSub, Int.reduceNeg, Int.reduceToNat, Int.reduceAdd, Int.reduceSub, Int.reduceMul, Int.reduceLE, Int.reduceLT, Int.reduceEq, Int.reduceNe, true_and, and_true, reduceCtorEq, eq_self, not_true, not_false_iff, false_or, or_false, true_or, or_true, ne_eq, forall_const, implies_true, Bool.false_eq_true, Bool.true_eq_false, not_false_eq_true]
      exact aret_same (bad (by simp [badF, c3]) us1) (by (repeat' (first | exact Sub.refl _ | (with_reducible apply sub_upd_l; focus (simp only [hS, hb, hbb, go_sem, ↓reduceIte]; done)) | (with_reducible apply sub_upd_r; focus (first | assumption | (simp only [hS, hb, hbb, upd_none, set_none, true_and, and_true, not_false_iff]; done))))))
    by_cases c4 : 7 < k
    · simp only [hb, hbb, c1, c2, c3, c4, decide_true, decide_false, go_sem, List.take_length, Nat.le_refl, Nat.add_zero, Nat.zero_add, ↓reduceIte, Nat.reduceEqDiff, Nat.reduceLT, Nat.reduceLeDiff, Nat.reduceAdd, Nat.reduceMul, Nat.reduceSub, Int.reduceNeg, Int.reduceToNat, Int.reduceAdd, Int.reduceSub, Int.reduceMul, Int.reduceLE, Int.reduceLT, Int.reduceEq, Int.reduceNe, true_and, and_true, reduceCtorEq, eq_self, not_true, not_false_iff, false_or, or_false, true_or, or_true, ne_eq, forall_const, implies_true, Bool.false_eq_true, Bool.true_eq_false, not_false_eq_true]
      exact aret_same (bad (by simp [badF, c4]) us1) (by (repeat' (first | exact Sub.refl _ | (with_reducible apply sub_upd_l; focus (simp only [hS, hb, hbb, go_sem, ↓reduceIte]; done)) | (with_reducible apply sub_upd_r; focus (first | assumption | (simp only [hS, hb, hbb, upd_none, set_none, true_and, and_true, not_false_iff]; done))))))
    simp only [hb, hbb, c1, c2, c3, c4, decide_true, decide_false, ev_global hG, List.length_map, go_sem, List.take_length, Nat.le_refl, Nat.add_zero, Nat.zero_add, ↓reduceIte, Nat.reduceEqDiff, Nat.reduceLT, Nat.reduceLeDiff, Nat.reduceAdd, Nat.reduceMul, Nat.reduceSub, Int.reduceNeg, Int.reduceToNat, Int.reduceAdd, Int.reduceSub, Int.reduceMul, Int.reduceLE, Int.reduceLT, Int.reduceEq, Int.reduceNe, true_and, and_true, reduceCtorEq, eq_self, not_true, not_false_iff, false_or, or_false, true_or, or_true, ne_eq, forall_const, implies_true, Bool.false_eq_true, Bool.true_eq_false, not_false_eq_true]
    intro hlen
    simp only [aget_forms0 c3 c4, aget_forms1 c3 c4, go_sem, List.take_length, Nat.le_refl, Nat.add_zero, Nat.zero_add, ↓reduceIte, Nat.reduceEqDiff, Nat.reduceLT, Nat.reduceLeDiff, Nat.reduceAdd, Nat.reduceMul, Nat.reduceSub, Int.reduceNeg, Int.reduceToNat, Int.reduceAdd, Int.reduceSub, Int.reduceMul, Int.reduceLE, Int.reduceLT, Int.reduceEq, Int.reduceNe, true_and, and_true, reduceCtorEq, eq_self, not_true, not_false_iff, false_or, or_false, true_or, or_true, ne_eq, forall_const, implies_true, Bool.false_eq_true, Bool.true_eq_false, not_false_eq_true]
    refine ⟨by omega, by omega, ?_⟩
    have hlen' := hlen
    simp only [maxLen] at hlen'
    by_cases c5 : (l.length : Int) = arityK k
    · simp only [hb, hbb, c1, c2, c3, c4, c5, decide_true, decide_false, ev_global hG, aget_forms0 c3 c4, go_sem, List.take_length, Nat.le_refl, Nat.add_zero, Nat.zero_add, ↓reduceIte, Nat.reduceEqDiff, Nat.reduceLT, Nat.reduceLeDiff, Nat.reduceAdd, Nat.reduceMul, Nat.reduceSub, Int.reduceNeg, Int.reduceToNat, Int.reduceAdd, Int.reduceSub, Int.reduceMul, Int.reduceLE, Int.reduceLT, Int.reduceEq, Int.reduceNe, true_and, and_true, reduceCtorEq, eq_self, not_true, not_false_iff, false_or, or_false, true_or, or_true, ne_eq, forall_const, implies_true, Bool.false_eq_true, Bool.true_eq_false, not_false_eq_true]
      refine ⟨by omega, by omega, ?_⟩
      have hmin : (if mostK k < 1 then mostK k else 1) = minK k := rfl
      rw [hmin]
      by_cases c6 : n < minK k
      · simp only [hb, hbb, c6, decide_true, go_sem, List.take_length, Nat.le_refl, Nat.add_zero, Nat.zero_add, ↓reduceIte, Nat.reduceEqDiff, Nat.reduceLT, Nat.reduceLeDiff, Nat.reduceAdd, Nat.reduceMul, Nat.reduceSub, Int.reduceNeg, Int.reduceToNat, Int.reduceAdd, Int.reduceSub, Int.reduceMul, Int.reduceLE, Int.reduceLT, Int.reduceEq, Int.reduceNe, true_and, and_true, reduceCtorEq, eq_self, not_true, not_false_iff, false_or, or_false, true_or, or_true, ne_eq, forall_const, implies_true, Bool.false_eq_true, Bool.true_eq_false, not_false_eq_true]
        exact aret_same (bad (by simp [badF, c6]) us1) (by (repeat' (first | exact Sub.refl _ | (with_reducible apply sub_upd_l; focus (simp only [hS, hb, hbb, go_sem, ↓reduceIte]; done)) | (with_reducible apply sub_upd_r; focus (first | assumption | (simp only [hS, hb, hbb, upd_none, set_none, true_and, and_true, not_false_iff]; done))))))
      by_cases c7 : mostK k < n
      · simp only [hb, hbb, c6, c7, decide_true, decide_false, go_sem, List.take_length, Nat.le_refl, Nat.add_zero, Nat.zero_add, ↓reduceIte, Nat.reduceEqDiff, Nat.reduceLT, Nat.reduceLeDiff, Nat.reduceAdd, Nat.reduceMul, Nat.reduceSub, Int.reduceNeg, Int.reduceToNat, Int.reduceAdd, Int.reduceSub, Int.reduceMul, Int.reduceLE, Int.reduceLT, Int.reduceEq, Int.reduceNe, true_and, and_true, reduceCtorEq, eq_self, not_true, not_false_iff, false_or, or_false, true_or, or_true, ne_eq, forall_const, implies_true, Bool.false_eq_true, Bool.true_eq_false, not_false_eq_true]
        exact aret_same (bad (by simp [badF, c7]) us1) (by (repeat' (first | exact Sub.refl _ | (with_reducible apply sub_upd_l; focus (simp only [hS, hb, hbb, go_sem, ↓reduceIte]; done)) | (with_reducible apply sub_upd_r; focus (first | assumption | (simp only [hS, hb, hbb, upd_none, set_none, true_and, and_true, not_false_iff]; done))))))
      simp only [hb, hbb, c6, c7, decide_true, decide_false, List.length_map, go_sem, List.take_length, Nat.le_refl, Nat.add_zero, Nat.zero_add, ↓reduceIte, Nat.reduceEqDiff, Nat.reduceLT, Nat.reduceLeDiff, Nat.reduceAdd, Nat.reduceMul, Nat.reduceSub, Int.reduceNeg, Int.reduceToNat, Int.reduceAdd, Int.reduceSub, Int.reduceMul, Int.reduceLE, Int.reduceLT, Int.reduceEq, Int.reduceNe, true_and, and_true, reduceCtorEq, eq_self, not_true, not_false_iff, false_or, or_false, true_or, or_true, ne_eq, forall_const, implies_true, Bool.false_eq_true, Bool.true_eq_false, not_false_eq_true]
      intro _
      have hok : badF k n l.length left deep = false := by simp [badF, c1, c2, c3, c4, c5, c6, c7]
      have hv : validF (.mk k n l) left deep = validL l (left - 1) (deep + 1) := by simp only [validF, hok]; rfl
      rw [hv] at h
      have hl0 : 0 ≤ left - 1 := by omega
      refine ALoop_start (σ := Nat × Int × Array Value) (fun s => l.length - s.1) (fun s => ⟨[(1, ptr b 0), (2, int .i64 deep), (61, .sl 3 (l.map encF) .unk), (62, int .i64 l.length), (63, int .i64 s.1)], []⟩)
        (fun s => (S.set b (.box [int .i64 s.2.1] s.2.2)).upd b2 (.box [int .i64 k, int .i64 n, .sl 3 (l.map encF) .unk] vs))
        (fun s => 0 ≤ s.2.1 ∧ s.2.1 ≤ 1000000 ∧ validL (l.drop s.1) s.2.1 (deep + 1) = validL l (left - 1) (deep + 1)) (0, left - 1, us1) ?_ ?_ ⟨hl0, by simp only; omega, by simp⟩ ?_
      · rw [c5]; (refine le_of_leOn ?_; simp only [leOn, Int.natCast_add, Int.cast_ofNat_Int, go_sem, List.take_length, Nat.le_refl, Nat.add_zero, Nat.zero_add, ↓reduceIte, Nat.reduceEqDiff, Nat.reduceLT, Nat.reduceLeDiff, Nat.reduceAdd, Nat.reduceMul, Nat.reduceSub, Int.reduceNeg, Int.reduceToNat, Int.reduceAdd, Int.reduceSub, Int.reduceMul, Int.reduceLE, Int.reduceLT, Int.reduceEq, Int.reduceNe, true_and, and_true, reduceCtorEq, eq_self, not_true, not_false_iff, false_or, or_false, true_or, or_true, ne_eq, forall_const, implies_true, Bool.false_eq_true, Bool.true_eq_false, not_false_eq_true]; try simp)
      · (repeat' (first | exact Sub.refl _ | (with_reducible apply sub_upd_l; focus (simp only [hS, hb, hbb, go_sem, ↓reduceIte]; done)) | (with_reducible apply sub_upd_r; focus (first | assumption | (simp only [hS, hb, hbb, upd_none, set_none, true_and, and_true, not_false_iff]; done)))))
      rintro ⟨i, x, us2⟩ ⟨hx0, hx1, hx⟩ Again ih
      simp only at hx0 hx1 hx ih ⊢
      cases hd : l.drop i with
      | nil =>
        have h2 := drop_ge hd
        have h3 : ¬ i < l.length := by omega
        simp only [Int.ofNat_lt, h3, decide_false, go_sem, List.take_length, Nat.le_refl, Nat.add_zero, Nat.zero_add, ↓reduceIte, Nat.reduceEqDiff, Nat.reduceLT, Nat.reduceLeDiff, Nat.reduceAdd, Nat.reduceMul, Nat.reduceSub, Int.reduceNeg, Int.reduceToNat, Int.reduceAdd, Int.reduceSub, Int.reduceMul, Int.reduceLE, Int.reduceLT, Int.reduceEq, Int.reduceNe, true_and, and_true, reduceCtorEq, eq_self, not_true, not_false_iff, false_or, or_false, true_or, or_true, ne_eq, forall_const, implies_true, Bool.false_eq_true, Bool.true_eq_false, not_false_eq_true]
        rw [hd] at hx
        simp only [validL] at hx
        rw [← hx] at h
        exact aret_same (h us2) (by (repeat' (first | exact Sub.refl _ | (with_reducible apply sub_upd_l; focus (simp only [hS, hb, hbb, go_sem, ↓reduceIte]; done)) | (with_reducible apply sub_upd_r; focus (first | assumption | (simp only [hS, hb, hbb, upd_none, set_none, true_and, and_true, not_false_iff]; done))))))
      | cons f fs =>
        have h2 := drop_lt hd
        simp only [Int.ofNat_lt, h2, decide_true, go_sem, List.take_length, Nat.le_refl, Nat.add_zero, Nat.zero_add, ↓reduceIte, Nat.reduceEqDiff, Nat.reduceLT, Nat.reduceLeDiff, Nat.reduceAdd, Nat.reduceMul, Nat.reduceSub, Int.reduceNeg, Int.reduceToNat, Int.reduceAdd, Int.reduceSub, Int.reduceMul, Int.reduceLE, Int.reduceLT, Int.reduceEq, Int.reduceNe, true_and, and_true, reduceCtorEq, eq_self, not_true, not_false_iff, false_or, or_false, true_or, or_true, ne_eq, forall_const, implies_true, Bool.false_eq_true, Bool.true_eq_false, not_false_eq_true]
        refine ⟨by omega, aget_map (drop_get hd).1 ?_⟩
        simp only [go_sem, List.take_length, Nat.le_refl, Nat.add_zero, Nat.zero_add, ↓reduceIte, Nat.reduceEqDiff, Nat.reduceLT, Nat.reduceLeDiff, Nat.reduceAdd, Nat.reduceMul, Nat.reduceSub, Int.reduceNeg, Int.reduceToNat, Int.reduceAdd, Int.reduceSub, Int.reduceMul, Int.reduceLE, Int.reduceLT, Int.reduceEq, Int.reduceNe, true_and, and_true, reduceCtorEq, eq_self, not_true, not_false_iff, false_or, or_false, true_or, or_true, ne_eq, forall_const, implies_true, Bool.false_eq_true, Bool.true_eq_false, not_false_eq_true]
        intro b3 vs3 hb3; try simp only [upd_none, set_none, del_none] at hb3
        simp only [hb, hbb, hb3, go_sem, List.take_length, Nat.le_refl, Nat.add_zero, Nat.zero_add, ↓reduceIte, Nat.reduceEqDiff, Nat.reduceLT, Nat.reduceLeDiff, Nat.reduceAdd, Nat.reduceMul, Nat.reduceSub, Int.reduceNeg, Int.reduceToNat, Int.reduceAdd, Int.reduceSub, Int.reduceMul, Int.reduceLE, Int.reduceLT, Int.reduceEq, Int.reduceNe, true_and, and_true, reduceCtorEq, eq_self, not_true, not_false_iff, false_or, or_false, true_or, or_true, ne_eq, forall_const, implies_true, Bool.false_eq_true, Bool.true_eq_false, not_false_eq_true]
        intro us3
        rw [wrap_i64 (by omega) (by omega)]
        rw [hd] at hx
        simp only [validL] at hx
        have hf := validF_bd f x (deep + 1) hx0
        refine valid_spec hG f _ _ b x (deep + 1) us2 (by simp only [hb, hbb, hb3, go_sem, List.take_length, Nat.le_refl, Nat.add_zero, Nat.zero_add, ↓reduceIte, Nat.reduceEqDiff, Nat.reduceLT, Nat.reduceLeDiff, Nat.reduceAdd, Nat.reduceMul, Nat.reduceSub, Int.reduceNeg, Int.reduceToNat, Int.reduceAdd, Int.reduceSub, Int.reduceMul, Int.reduceLE, Int.reduceLT, Int.reduceEq, Int.reduceNe, true_and, and_true, reduceCtorEq, eq_self, not_true, not_false_iff, false_or, or_false, true_or, or_true, ne_eq, forall_const, implies_true, Bool.false_eq_true, Bool.true_eq_false, not_false_eq_true]) hx0 hx1 (by omega) (by omega) ?_
        intro us4
        simp only [hb, hbb, hb3, set_set, go_sem, List.take_length, Nat.le_refl, Nat.add_zero, Nat.zero_add, ↓reduceIte, Nat.reduceEqDiff, Nat.reduceLT, Nat.reduceLeDiff, Nat.reduceAdd, Nat.reduceMul, Nat.reduceSub, Int.reduceNeg, Int.reduceToNat, Int.reduceAdd, Int.reduceSub, Int.reduceMul, Int.reduceLE, Int.reduceLT, Int.reduceEq, Int.reduceNe, true_and, and_true, reduceCtorEq, eq_self, not_true, not_false_iff, false_or, or_false, true_or, or_true, ne_eq, forall_const, implies_true, Bool.false_eq_true, Bool.true_eq_false, not_false_eq_true]
        cases hfv : (validF f x (deep + 1)).1 with
        | true =>
          simp only [hb, hbb, hb3, go_sem, List.take_length, Nat.le_refl, Nat.add_zero, Nat.zero_add, ↓reduceIte, Nat.reduceEqDiff, Nat.reduceLT, Nat.reduceLeDiff, Nat.reduceAdd, Nat.reduceMul, Nat.reduceSub, Int.reduceNeg, Int.reduceToNat, Int.reduceAdd, Int.reduceSub, Int.reduceMul, Int.reduceLE, Int.reduceLT, Int.reduceEq, Int.reduceNe, true_and, and_true, reduceCtorEq, eq_self, not_true, not_false_iff, false_or, or_false, true_or, or_true, ne_eq, forall_const, implies_true, Bool.false_eq_true, Bool.true_eq_false, not_false_eq_true]
          rw [if_pos hfv] at hx
          rw [wrap_i64 (by omega) (by omega)]
          refine ih (i + 1, (validF f x (deep + 1)).2, us4) ⟨hf.2 hfv, by simp only; omega, ?_⟩ (by simp only; omega) _ _ ?_ ?_
          · simp only; rw [(drop_get hd).2]; exact hx
          · (refine le_of_leOn ?_; simp only [leOn, Int.natCast_add, Int.cast_ofNat_Int, go_sem, List.take_length, Nat.le_refl, Nat.add_zero, Nat.zero_add, ↓reduceIte, Nat.reduceEqDiff, Nat.reduceLT, Nat.reduceLeDiff, Nat.reduceAdd, Nat.reduceMul, Nat.reduceSub, Int.reduceNeg, Int.reduceToNat, Int.reduceAdd, Int.reduceSub, Int.reduceMul, Int.reduceLE, Int.reduceLT, Int.reduceEq, Int.reduceNe, true_and, and_true, reduceCtorEq, eq_self, not_true, not_false_iff, false_or, or_false, true_or, or_true, ne_eq, forall_const, implies_true, Bool.false_eq_true, Bool.true_eq_false, not_false_eq_true]; try simp)
          · (repeat' (first | exact Sub.refl _ | (with_reducible apply sub_upd_l; focus (simp only [hb, hbb, hb3, go_sem, ↓reduceIte]; done)) | (with_reducible apply sub_upd_r; focus (first | assumption | (simp only [hb, hbb, hb3, upd_none, set_none, true_and, and_true, not_false_iff]; done)))))
        | false =>
          simp only [hb, hbb, hb3, go_sem, List.take_length, Nat.le_refl, Nat.add_zero, Nat.zero_add, ↓reduceIte, Nat.reduceEqDiff, Nat.reduceLT, Nat.reduceLeDiff, Nat.reduceAdd, Nat.reduceMul, Nat.reduceSub, Int.reduceNeg, Int.reduceToNat, Int.reduceAdd, Int.reduceSub, Int.reduceMul, Int.reduceLE, Int.reduceLT, Int.reduceEq, Int.reduceNe, true_and, and_true, reduceCtorEq, eq_self, not_true, not_false_iff, false_or, or_false, true_or, or_true, ne_eq, forall_const, implies_true, Bool.false_eq_true, Bool.true_eq_false, not_false_eq_true]
          rw [if_neg (by rw [hfv]; simp)] at hx
          rw [← hx] at h
          exact aret_same (h us4) (by (repeat' (first | exact Sub.refl _ | (with_reducible apply sub_upd_l; focus (simp only [hS, hb, hbb, hb3, go_sem, ↓reduceIte]; done)) | (with_reducible apply sub_upd_r; focus (first | assumption | (simp only [hS, hb, hbb, hb3, upd_none, set_none, true_and, and_true, not_false_iff]; done))))))
    · simp only [hb, hbb, c1, c2, c3, c4, c5, decide_true, decide_false, go_sem, List.take_length, Nat.le_refl, Nat.add_zero, Nat.zero_add, ↓reduceIte, Nat.reduceEqDiff, Nat.reduceLT, Nat.reduceLeDiff, Nat.reduceAdd, Nat.reduceMul, Nat.reduceSub, Int.reduceNeg, Int.reduceToNat, Int.reduceAdd, Int.reduceSub, Int.reduceMul, Int.reduceLE, Int.reduceLT, Int.reduceEq, Int.reduceNe, true_and, and_true, reduceCtorEq, eq_self, not_true, not_false_iff, false_or, or_false, true_or, or_true, ne_eq, forall_const, implies_true, Bool.false_eq_true, Bool.true_eq_false, not_false_eq_true]
      exact aret_same (bad (by simp [badF, c5]) us1) (by (repeat' (first | exact Sub.refl _ | (with_reducible apply sub_upd_l; focus (simp only [hS, hb, hbb, go_sem, ↓reduceIte]; done)) | (with_reducible apply sub_upd_r; focus (first | assumption | (simp only [hS, hb, hbb, upd_none, set_none, true_and, and_true, not_false_iff]; done))))))
termination_by f => SizeOf.sizeOf f
decreasing_by all_goals
  have h5 : f ∈ l := mem_drop_head hd
  have := List.sizeOf_lt_of_mem h5
  simp only [Fun.mk.sizeOf_spec]
  omega

def okF (f : Fun) : Bool := (validF f 20 1).1

theorem Valid_spec (hG : G 0 = some formsA) {S : St} {R : AEnd → St → Prop} (f : Fun) (h : R (.ret (bool (okF f))) S) : ACalls Tryd.prog G 15 [.agg (encF f)] S R := by
  refine acalls_of_awp Tryd.func15 rfl (by rw [Tryd.ntmps15]; simp) ?_; rw [Tryd.ntmps15, Tryd.results15]
  rw [encF_eq]
  simp only [go_sem, List.take_length, Nat.le_refl, Nat.add_zero, Nat.zero_add, ↓reduceIte, Nat.reduceEqDiff, Nat.reduceLT, Nat.reduceLeDiff, Nat.reduceAdd, Nat.reduceMul, Nat.reduceSub, Int.reduceNeg, Int.reduceToNat, Int.reduceAdd, Int.reduceSub, Int.reduceMul, Int.reduceLE, Int.reduceLT, Int.reduceEq, Int.reduceNe, true_and, and_true, reduceCtorEq, eq_self, not_true, not_false_iff, false_or, or_false, true_or, or_true, ne_eq, forall_const, implies_true, Bool.false_eq_true, Bool.true_eq_false, not_false_eq_true]
  intro b vs hb; try simp only [upd_none, set_none, del_none] at hb
  simp only [go_sem, List.take_length, Nat.le_refl, Nat.add_zero, Nat.zero_add, ↓reduceIte, Nat.reduceEqDiff, Nat.reduceLT, Nat.reduceLeDiff, Nat.reduceAdd, Nat.reduceMul, Nat.reduceSub, Int.reduceNeg, Int.reduceToNat, Int.reduceAdd, Int.reduceSub, Int.reduceMul, Int.reduceLE, Int.reduceLT, Int.reduceEq, Int.reduceNe, true_and, and_true, reduceCtorEq, eq_self, not_true, not_false_iff, false_or, or_false, true_or, or_true, ne_eq, forall_const, implies_true, Bool.false_eq_true, Bool.true_eq_false, not_false_eq_true]
  intro b2 vs2 hb2; try simp only [upd_none, set_none, del_none] at hb2
  simp only [hb, hb2, go_sem, List.take_length, Nat.le_refl, Nat.add_zero, Nat.zero_add, ↓reduceIte, Nat.reduceEqDiff, Nat.reduceLT, Nat.reduceLeDiff, Nat.reduceAdd, Nat.reduceMul, Nat.reduceSub, Int.reduceNeg, Int.reduceToNat, Int.reduceAdd, Int.reduceSub, Int.reduceMul, Int.reduceLE, Int.reduceLT, Int.reduceEq, Int.reduceNe, true_and, and_true, reduceCtorEq, eq_self, not_true, not_false_iff, false_or, or_false, true_or, or_true, ne_eq, forall_const, implies_true, Bool.false_eq_true, Bool.true_eq_false, not_false_eq_true]
  intro us
  rw [← encF_eq]
  refine valid_spec hG f _ _ b2 20 1 us (by simp only [go_sem, List.take_length, Nat.le_refl, Nat.add_zero, Nat.zero_add, ↓reduceIte, Nat.reduceEqDiff, Nat.reduceLT, Nat.reduceLeDiff, Nat.reduceAdd, Nat.reduceMul, Nat.reduceSub, Int.reduceNeg, Int.reduceToNat, Int.reduceAdd, Int.reduceSub, Int.reduceMul, Int.reduceLE, Int.reduceLT, Int.reduceEq, Int.reduceNe, true_and, and_true, reduceCtorEq, eq_self, not_true, not_false_iff, false_or, or_false, true_or, or_true, ne_eq, forall_const, implies_true, Bool.false_eq_true, Bool.true_eq_false, not_false_eq_true]) (by omega) (by omega) (by omega) (by omega) ?_
  intro us'
  simp only [hb, hb2, go_sem, List.take_length, Nat.le_refl, Nat.add_zero, Nat.zero_add, ↓reduceIte, Nat.reduceEqDiff, Nat.reduceLT, Nat.reduceLeDiff, Nat.reduceAdd, Nat.reduceMul, Nat.reduceSub, Int.reduceNeg, Int.reduceToNat, Int.reduceAdd, Int.reduceSub, Int.reduceMul, Int.reduceLE, Int.reduceLT, Int.reduceEq, Int.reduceNe, true_and, and_true, reduceCtorEq, eq_self, not_true, not_false_iff, false_or, or_false, true_or, or_true, ne_eq, forall_const, implies_true, Bool.false_eq_true, Bool.true_eq_false, not_false_eq_true]
  exact aret_same h (by (repeat' (first | exact Sub.refl _ | (with_reducible apply sub_upd_l; focus (simp only [hb, hb2, go_sem, ↓reduceIte]; done)) | (with_reducible apply sub_upd_r; focus (first | assumption | (simp only [hb, hb2, upd_none, set_none, true_and, and_true, not_false_iff]; done))))))

theorem Check_spec (hG : G 0 = some formsA) {S : St} {R : AEnd → St → Prop} (f : Fun) (h : R (.ret (int .i64 (if okF f = true then 0 else 10))) S) : ACalls Tryd.prog G 8 [.agg (encF f)] S R := by
  refine acalls_of_awp Tryd.func8 rfl (by rw [Tryd.ntmps8]; simp) ?_; rw [Tryd.ntmps8, Tryd.results8]
  rw [encF_eq]
  simp only [go_sem, List.take_length, Nat.le_refl, Nat.add_zero, Nat.zero_add, ↓reduceIte, Nat.reduceEqDiff, Nat.reduceLT, Nat.reduceLeDiff, Nat.reduceAdd, Nat.reduceMul, Nat.reduceSub, Int.reduceNeg, Int.reduceToNat, Int.reduceAdd, Int.reduceSub, Int.reduceMul, Int.reduceLE, Int.reduceLT, Int.reduceEq, Int.reduceNe, true_and, and_true, reduceCtorEq, eq_self, not_true, not_false_iff, false_or, or_false, true_or, or_true, ne_eq, forall_const, implies_true, Bool.false_eq_true, Bool.true_eq_false, not_false_eq_true]
  intro b vs hb; try simp only [upd_none, set_none, del_none] at hb
  simp only [go_sem, List.take_length, Nat.le_refl, Nat.add_zero, Nat.zero_add, ↓reduceIte, Nat.reduceEqDiff, Nat.reduceLT, Nat.reduceLeDiff, Nat.reduceAdd, Nat.reduceMul, Nat.reduceSub, Int.reduceNeg, Int.reduceToNat, Int.reduceAdd, Int.reduceSub, Int.reduceMul, Int.reduceLE, Int.reduceLT, Int.reduceEq, Int.reduceNe, true_and, and_true, reduceCtorEq, eq_self, not_true, not_false_iff, false_or, or_false, true_or, or_true, ne_eq, forall_const, implies_true, Bool.false_eq_true, Bool.true_eq_false, not_false_eq_true]
  rw [← encF_eq]
  refine Valid_spec hG f ?_
  cases hv : okF f with
  | true =>
    rw [hv, if_pos rfl] at h
    simp only [go_sem, List.take_length, Nat.le_refl, Nat.add_zero, Nat.zero_add, ↓reduceIte, Nat.reduceEqDiff, Nat.reduceLT, Nat.reduceLeDiff, Nat.reduceAdd, Nat.reduceMul, Nat.reduceSub, Int.reduceNeg, Int.reduceToNat, Int.reduceAdd, Int.reduceSub, Int.reduceMul, Int.reduceLE, Int.reduceLT, Int.reduceEq, Int.reduceNe, true_and, and_true, reduceCtorEq, eq_self, not_true, not_false_iff, false_or, or_false, true_or, or_true, ne_eq, forall_const, implies_true, Bool.false_eq_true, Bool.true_eq_false, not_false_eq_true]
    exact aret_same h (by (repeat' (first | exact Sub.refl _ | (with_reducible apply sub_upd_l; focus (simp only [hb, go_sem, ↓reduceIte]; done)) | (with_reducible apply sub_upd_r; focus (first | assumption | (simp only [hb, upd_none, set_none, true_and, and_true, not_false_iff]; done))))))
  | false =>
    rw [hv, if_neg (by simp)] at h
    simp only [go_sem, List.take_length, Nat.le_refl, Nat.add_zero, Nat.zero_add, ↓reduceIte, Nat.reduceEqDiff, Nat.reduceLT, Nat.reduceLeDiff, Nat.reduceAdd, Nat.reduceMul, Nat.reduceSub, Int.reduceNeg, Int.reduceToNat, Int.reduceAdd, Int.reduceSub, Int.reduceMul, Int.reduceLE, Int.reduceLT, Int.reduceEq, Int.reduceNe, true_and, and_true, reduceCtorEq, eq_self, not_true, not_false_iff, false_or, or_false, true_or, or_true, ne_eq, forall_const, implies_true, Bool.false_eq_true, Bool.true_eq_false, not_false_eq_true]
    exact aret_same h (by (repeat' (first | exact Sub.refl _ | (with_reducible apply sub_upd_l; focus (simp only [hb, go_sem, ↓reduceIte]; done)) | (with_reducible apply sub_upd_r; focus (first | assumption | (simp only [hb, upd_none, set_none, true_and, and_true, not_false_iff]; done))))))
end
end Go.Proofs.YtaeobokijndboaaDoor
