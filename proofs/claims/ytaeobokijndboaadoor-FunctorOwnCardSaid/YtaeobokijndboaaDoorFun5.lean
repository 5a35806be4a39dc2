/- Functors: Has, Plain, Polynomial. -/
import Derived.Test.YtaeobokijndboaaDoorFun4
set_option linter.unusedSimpArgs false
set_option linter.unusedVariables false
set_option maxRecDepth 100000
namespace Go.Proofs.YtaeobokijndboaaDoor
open Go Go.Proofs.Abs

mutual
def hasF (c : Int) : Fun → Bool
  | .mk k _ l => decide (c ≤ k) || hasL c l
def hasL (c : Int) : List Fun → Bool
  | [] => false
  | f :: l => hasF c f || hasL c l
end

section
variable {G : Glob}

theorem IndexFunc_spec (l : List Fun) (p : Fun → Bool) (id : Nat) (caps : List AVal) (S : St) (R : AEnd → St → Prop) (hid : entersB Tryd.prog id = true)
    (hp : ∀ f ∈ l, ∀ R, R (.ret (bool (p f))) S → ACalls Tryd.prog G id (.agg (encF f) :: caps) S R)
    (h : ∀ r : Int, (0 ≤ r ↔ l.any p = true) → R (.ret (int .i64 r)) S) : ACalls Tryd.prog G 31 [.sl 3 (l.map encF) .unk, .fn (.func id) caps] S R := by
  refine acalls_of_awp Tryd.func31 rfl (by rw [Tryd.ntmps31]; simp) ?_; rw [Tryd.ntmps31, Tryd.results31]
  simp only [List.length_map, go_sem, List.take_length, Nat.le_refl, Nat.add_zero, Nat.zero_add, ↓reduceIte, Nat.reduceEqDiff, Nat.reduceLT, Nat.reduceLeDiff, Nat.reduceAdd, Nat.reduceMul, Nat.reduceSub, Int.reduceNeg, Int.reduceToNat, Int.reduceAdd, Int.reduceSub, Int.reduceMul, Int.reduceLE, Int.reduceLT, Int.reduceEq, Int.reduceNe, true_and, and_true, reduceCtorEq, eq_self, not_true, not_false_iff, false_or, or_false, true_or, or_true, ne_eq, forall_const, implies_true, Bool.false_eq_true, Bool.true_eq_false, not_false_eq_true]
  intro hlen
  have hlen' := hlen
  simp only [maxLen] at hlen'
  refine ALoop_start (σ := Nat) (fun i => l.length - i) (fun i => ⟨[(0, .sl 3 (l.map encF) .unk), (1, .fn (.func id) caps), (7, int .i64 l.length), (8, int .i64 i)], []⟩) (fun _ => S) (fun i => (l.drop i).any p = l.any p) 0 ?_ (Sub.refl _) (by simp) ?_
  · (refine le_of_leOn ?_; simp only [leOn, Int.natCast_add, Int.cast_ofNat_Int, go_sem, List.take_length, Nat.le_refl, Nat.add_zero, Nat.zero_add, ↓reduceIte, Nat.reduceEqDiff, Nat.reduceLT, Nat.reduceLeDiff, Nat.reduceAdd, Nat.reduceMul, Nat.reduceSub, Int.reduceNeg, Int.reduceToNat, Int.reduceAdd, Int.reduceSub, Int.reduceMul, Int.reduceLE, Int.reduceLT, Int.reduceEq, Int.reduceNe, true_and, and_true, reduceCtorEq, eq_self, not_true, not_false_iff, false_or, or_false, true_or, or_true, ne_eq, forall_const, implies_true, Bool.false_eq_true, Bool.true_eq_false, not_false_eq_true]; try simp)
  intro i hi Again ih
  cases hd : l.drop i with
  | nil =>
    have h2 := drop_ge hd
    have h3 : ¬ i < l.length := by omega
    simp only [Int.ofNat_lt, h3, decide_false, go_sem, List.take_length, Nat.le_refl, Nat.add_zero, Nat.zero_add, ↓reduceIte, Nat.reduceEqDiff, Nat.reduceLT, Nat.reduceLeDiff, Nat.reduceAdd, Nat.reduceMul, Nat.reduceSub, Int.reduceNeg, Int.reduceToNat, Int.reduceAdd, Int.reduceSub, Int.reduceMul, Int.reduceLE, Int.reduceLT, Int.reduceEq, Int.reduceNe, true_and, and_true, reduceCtorEq, eq_self, not_true, not_false_iff, false_or, or_false, true_or, or_true, ne_eq, forall_const, implies_true, Bool.false_eq_true, Bool.true_eq_false, not_false_eq_true]
    rw [hd] at hi
    exact aret_same (h (-1) (by rw [← hi]; simp)) (Sub.refl _)
  | cons f fs =>
    have h2 := drop_lt hd
    simp only [Int.ofNat_lt, h2, decide_true, go_sem, List.take_length, Nat.le_refl, Nat.add_zero, Nat.zero_add, ↓reduceIte, Nat.reduceEqDiff, Nat.reduceLT, Nat.reduceLeDiff, Nat.reduceAdd, Nat.reduceMul, Nat.reduceSub, Int.reduceNeg, Int.reduceToNat, Int.reduceAdd, Int.reduceSub, Int.reduceMul, Int.reduceLE, Int.reduceLT, Int.reduceEq, Int.reduceNe, true_and, and_true, reduceCtorEq, eq_self, not_true, not_false_iff, false_or, or_false, true_or, or_true, ne_eq, forall_const, implies_true, Bool.false_eq_true, Bool.true_eq_false, not_false_eq_true]
    refine ⟨by omega, aget_map (drop_get hd).1 ?_⟩
    simp only [hid, go_sem, List.take_length, Nat.le_refl, Nat.add_zero, Nat.zero_add, ↓reduceIte, Nat.reduceEqDiff, Nat.reduceLT, Nat.reduceLeDiff, Nat.reduceAdd, Nat.reduceMul, Nat.reduceSub, Int.reduceNeg, Int.reduceToNat, Int.reduceAdd, Int.reduceSub, Int.reduceMul, Int.reduceLE, Int.reduceLT, Int.reduceEq, Int.reduceNe, true_and, and_true, reduceCtorEq, eq_self, not_true, not_false_iff, false_or, or_false, true_or, or_true, ne_eq, forall_const, implies_true, Bool.false_eq_true, Bool.true_eq_false, not_false_eq_true]
    refine hp f (mem_drop_head hd) _ ?_
    simp only [go_sem, List.take_length, Nat.le_refl, Nat.add_zero, Nat.zero_add, ↓reduceIte, Nat.reduceEqDiff, Nat.reduceLT, Nat.reduceLeDiff, Nat.reduceAdd, Nat.reduceMul, Nat.reduceSub, Int.reduceNeg, Int.reduceToNat, Int.reduceAdd, Int.reduceSub, Int.reduceMul, Int.reduceLE, Int.reduceLT, Int.reduceEq, Int.reduceNe, true_and, and_true, reduceCtorEq, eq_self, not_true, not_false_iff, false_or, or_false, true_or, or_true, ne_eq, forall_const, implies_true, Bool.false_eq_true, Bool.true_eq_false, not_false_eq_true]
    rw [hd] at hi
    cases hpf : p f with
    | true =>
      simp only [go_sem, List.take_length, Nat.le_refl, Nat.add_zero, Nat.zero_add, ↓reduceIte, Nat.reduceEqDiff, Nat.reduceLT, Nat.reduceLeDiff, Nat.reduceAdd, Nat.reduceMul, Nat.reduceSub, Int.reduceNeg, Int.reduceToNat, Int.reduceAdd, Int.reduceSub, Int.reduceMul, Int.reduceLE, Int.reduceLT, Int.reduceEq, Int.reduceNe, true_and, and_true, reduceCtorEq, eq_self, not_true, not_false_iff, false_or, or_false, true_or, or_true, ne_eq, forall_const, implies_true, Bool.false_eq_true, Bool.true_eq_false, not_false_eq_true]
      exact aret_same (h i (by rw [← hi]; simp [hpf])) (Sub.refl _)
    | false =>
      simp only [go_sem, List.take_length, Nat.le_refl, Nat.add_zero, Nat.zero_add, ↓reduceIte, Nat.reduceEqDiff, Nat.reduceLT, Nat.reduceLeDiff, Nat.reduceAdd, Nat.reduceMul, Nat.reduceSub, Int.reduceNeg, Int.reduceToNat, Int.reduceAdd, Int.reduceSub, Int.reduceMul, Int.reduceLE, Int.reduceLT, Int.reduceEq, Int.reduceNe, true_and, and_true, reduceCtorEq, eq_self, not_true, not_false_iff, false_or, or_false, true_or, or_true, ne_eq, forall_const, implies_true, Bool.false_eq_true, Bool.true_eq_false, not_false_eq_true]
      rw [wrap_i64 (by omega) (by omega)]
      refine ih (i + 1) ?_ (by omega) _ _ ?_ (Sub.refl _)
      · rw [(drop_get hd).2, ← hi]; simp [hpf]
      · (refine le_of_leOn ?_; simp only [leOn, Int.natCast_add, Int.cast_ofNat_Int, go_sem, List.take_length, Nat.le_refl, Nat.add_zero, Nat.zero_add, ↓reduceIte, Nat.reduceEqDiff, Nat.reduceLT, Nat.reduceLeDiff, Nat.reduceAdd, Nat.reduceMul, Nat.reduceSub, Int.reduceNeg, Int.reduceToNat, Int.reduceAdd, Int.reduceSub, Int.reduceMul, Int.reduceLE, Int.reduceLT, Int.reduceEq, Int.reduceNe, true_and, and_true, reduceCtorEq, eq_self, not_true, not_false_iff, false_or, or_false, true_or, or_true, ne_eq, forall_const, implies_true, Bool.false_eq_true, Bool.true_eq_false, not_false_eq_true]; try simp)

theorem ContainsFunc_spec (l : List Fun) (p : Fun → Bool) (id : Nat) (caps : List AVal) (S : St) (R : AEnd → St → Prop) (hid : entersB Tryd.prog id = true)
    (hp : ∀ f ∈ l, ∀ R, R (.ret (bool (p f))) S → ACalls Tryd.prog G id (.agg (encF f) :: caps) S R)
    (h : R (.ret (bool (l.any p))) S) : ACalls Tryd.prog G 25 [.sl 3 (l.map encF) .unk, .fn (.func id) caps] S R := by
  refine acalls_of_awp Tryd.func25 rfl (by rw [Tryd.ntmps25]; simp) ?_; rw [Tryd.ntmps25, Tryd.results25]
  simp only [go_sem, List.take_length, Nat.le_refl, Nat.add_zero, Nat.zero_add, ↓reduceIte, Nat.reduceEqDiff, Nat.reduceLT, Nat.reduceLeDiff, Nat.reduceAdd, Nat.reduceMul, Nat.reduceSub, Int.reduceNeg, Int.reduceToNat, Int.reduceAdd, Int.reduceSub, Int.reduceMul, Int.reduceLE, Int.reduceLT, Int.reduceEq, Int.reduceNe, true_and, and_true, reduceCtorEq, eq_self, not_true, not_false_iff, false_or, or_false, true_or, or_true, ne_eq, forall_const, implies_true, Bool.false_eq_true, Bool.true_eq_false, not_false_eq_true]
  refine IndexFunc_spec l p id caps S _ hid hp ?_
  intro r hr
  simp only [go_sem, List.take_length, Nat.le_refl, Nat.add_zero, Nat.zero_add, ↓reduceIte, Nat.reduceEqDiff, Nat.reduceLT, Nat.reduceLeDiff, Nat.reduceAdd, Nat.reduceMul, Nat.reduceSub, Int.reduceNeg, Int.reduceToNat, Int.reduceAdd, Int.reduceSub, Int.reduceMul, Int.reduceLE, Int.reduceLT, Int.reduceEq, Int.reduceNe, true_and, and_true, reduceCtorEq, eq_self, not_true, not_false_iff, false_or, or_false, true_or, or_true, ne_eq, forall_const, implies_true, Bool.false_eq_true, Bool.true_eq_false, not_false_eq_true]
  have : decide (0 ≤ r) = l.any p := by
    cases hl : l.any p with
    | true => simpa using hr.2 hl
    | false => rw [decide_eq_false_iff_not]; intro h0; rw [hr.1 h0] at hl; cases hl
  rw [this]
  exact aret_same h (Sub.refl _)

theorem hasL_any (c : Int) : ∀ l : List Fun, hasL c l = l.any (hasF c)
  | [] => rfl
  | f :: l => by simp [hasL, hasL_any c l]

theorem Has_spec (c : Int) (id : Nat) (hid : entersB Tryd.prog id = true) (hp : ∀ (k : Int) (S : St) (R : AEnd → St → Prop), R (.ret (bool (decide (c ≤ k)))) S → ACalls Tryd.prog G id [int .i64 k] S R) :
    ∀ (f : Fun) (S : St) (R : AEnd → St → Prop), R (.ret (bool (hasF c f))) S → ACalls Tryd.prog G 17 [.agg (encF f), .fn (.func id) []] S R
  | .mk k n l, S, R, h => by
    refine acalls_of_awp Tryd.func17 rfl (by rw [Tryd.ntmps17]; simp) ?_; rw [Tryd.ntmps17, Tryd.results17]
    rw [encF_eq]
    simp only [Fun.kind, Fun.n, Fun.args]
    simp only [go_sem, List.take_length, Nat.le_refl, Nat.add_zero, Nat.zero_add, ↓reduceIte, Nat.reduceEqDiff, Nat.reduceLT, Nat.reduceLeDiff, Nat.reduceAdd, Nat.reduceMul, Nat.reduceSub, Int.reduceNeg, Int.reduceToNat, Int.reduceAdd, Int.reduceSub, Int.reduceMul, Int.reduceLE, Int.reduceLT, Int.reduceEq, Int.reduceNe, true_and, and_true, reduceCtorEq, eq_self, not_true, not_false_iff, false_or, or_false, true_or, or_true, ne_eq, forall_const, implies_true, Bool.false_eq_true, Bool.true_eq_false, not_false_eq_true]
    intro b vs hb; try simp only [upd_none, set_none, del_none] at hb
    simp only [go_sem, List.take_length, Nat.le_refl, Nat.add_zero, Nat.zero_add, ↓reduceIte, Nat.reduceEqDiff, Nat.reduceLT, Nat.reduceLeDiff, Nat.reduceAdd, Nat.reduceMul, Nat.reduceSub, Int.reduceNeg, Int.reduceToNat, Int.reduceAdd, Int.reduceSub, Int.reduceMul, Int.reduceLE, Int.reduceLT, Int.reduceEq, Int.reduceNe, true_and, and_true, reduceCtorEq, eq_self, not_true, not_false_iff, false_or, or_false, true_or, or_true, ne_eq, forall_const, implies_true, Bool.false_eq_true, Bool.true_eq_false, not_false_eq_true]
    intro b2 vs2 hb2; try simp only [upd_none, set_none, del_none] at hb2
    simp only [hb, hb2, hid, go_sem, List.take_length, Nat.le_refl, Nat.add_zero, Nat.zero_add, ↓reduceIte, Nat.reduceEqDiff, Nat.reduceLT, Nat.reduceLeDiff, Nat.reduceAdd, Nat.reduceMul, Nat.reduceSub, Int.reduceNeg, Int.reduceToNat, Int.reduceAdd, Int.reduceSub, Int.reduceMul, Int.reduceLE, Int.reduceLT, Int.reduceEq, Int.reduceNe, true_and, and_true, reduceCtorEq, eq_self, not_true, not_false_iff, false_or, or_false, true_or, or_true, ne_eq, forall_const, implies_true, Bool.false_eq_true, Bool.true_eq_false, not_false_eq_true]
    refine hp k _ _ ?_
    by_cases hk : c ≤ k
    · simp only [hk, decide_true, go_sem, List.take_length, Nat.le_refl, Nat.add_zero, Nat.zero_add, ↓reduceIte, Nat.reduceEqDiff, Nat.reduceLT, Nat.reduceLeDiff, Nat.reduceAdd, Nat.reduceMul, Nat.reduceSub, Int.reduceNeg, Int.reduceToNat, Int.reduceAdd, Int.reduceSub, Int.reduceMul, Int.reduceLE, Int.reduceLT, Int.reduceEq, Int.reduceNe, true_and, and_true, reduceCtorEq, eq_self, not_true, not_false_iff, false_or, or_false, true_or, or_true, ne_eq, forall_const, implies_true, Bool.false_eq_true, Bool.true_eq_false, not_false_eq_true]
      simp only [hasF, hk, decide_true, Bool.true_or] at h
      exact aret_same h (by (repeat' (first | exact Sub.refl _ | (with_reducible apply sub_upd_l; focus (simp only [hb, hb2, go_sem, ↓reduceIte]; done)) | (with_reducible apply sub_upd_r; focus (first | assumption | (simp only [hb, hb2, upd_none, set_none, true_and, and_true, not_false_iff]; done))))))
    · simp only [hk, decide_false, hb, hb2, go_sem, List.take_length, Nat.le_refl, Nat.add_zero, Nat.zero_add, ↓reduceIte, Nat.reduceEqDiff, Nat.reduceLT, Nat.reduceLeDiff, Nat.reduceAdd, Nat.reduceMul, Nat.reduceSub, Int.reduceNeg, Int.reduceToNat, Int.reduceAdd, Int.reduceSub, Int.reduceMul, Int.reduceLE, Int.reduceLT, Int.reduceEq, Int.reduceNe, true_and, and_true, reduceCtorEq, eq_self, not_true, not_false_iff, false_or, or_false, true_or, or_true, ne_eq, forall_const, implies_true, Bool.false_eq_true, Bool.true_eq_false, not_false_eq_true]
      simp only [hasF, hk, decide_false, Bool.false_or, hasL_any] at h
      refine ContainsFunc_spec l (hasF c) _ _ _ _ (by simp only [go_sem]) ?_ ?_
      · intro f hf R' h'
        refine acalls_of_awp Tryd.func26 rfl (by rw [Tryd.ntmps26]; simp) ?_; rw [Tryd.ntmps26, Tryd.results26]
        rw [encF_eq]
        simp only [go_sem, List.take_length, Nat.le_refl, Nat.add_zero, Nat.zero_add, ↓reduceIte, Nat.reduceEqDiff, Nat.reduceLT, Nat.reduceLeDiff, Nat.reduceAdd, Nat.reduceMul, Nat.reduceSub, Int.reduceNeg, Int.reduceToNat, Int.reduceAdd, Int.reduceSub, Int.reduceMul, Int.reduceLE, Int.reduceLT, Int.reduceEq, Int.reduceNe, true_and, and_true, reduceCtorEq, eq_self, not_true, not_false_iff, false_or, or_false, true_or, or_true, ne_eq, forall_const, implies_true, Bool.false_eq_true, Bool.true_eq_false, not_false_eq_true]
        intro b3 vs3 hb3; try simp only [upd_none, set_none, del_none] at hb3
        simp only [hb, hb2, hb3, go_sem, List.take_length, Nat.le_refl, Nat.add_zero, Nat.zero_add, ↓reduceIte, Nat.reduceEqDiff, Nat.reduceLT, Nat.reduceLeDiff, Nat.reduceAdd, Nat.reduceMul, Nat.reduceSub, Int.reduceNeg, Int.reduceToNat, Int.reduceAdd, Int.reduceSub, Int.reduceMul, Int.reduceLE, Int.reduceLT, Int.reduceEq, Int.reduceNe, true_and, and_true, reduceCtorEq, eq_self, not_true, not_false_iff, false_or, or_false, true_or, or_true, ne_eq, forall_const, implies_true, Bool.false_eq_true, Bool.true_eq_false, not_false_eq_true]
        rw [← encF_eq]
        refine Has_spec c id hid hp f _ _ ?_
        simp only [go_sem, List.take_length, Nat.le_refl, Nat.add_zero, Nat.zero_add, ↓reduceIte, Nat.reduceEqDiff, Nat.reduceLT, Nat.reduceLeDiff, Nat.reduceAdd, Nat.reduceMul, Nat.reduceSub, Int.reduceNeg, Int.reduceToNat, Int.reduceAdd, Int.reduceSub, Int.reduceMul, Int.reduceLE, Int.reduceLT, Int.reduceEq, Int.reduceNe, true_and, and_true, reduceCtorEq, eq_self, not_true, not_false_iff, false_or, or_false, true_or, or_true, ne_eq, forall_const, implies_true, Bool.false_eq_true, Bool.true_eq_false, not_false_eq_true]
        exact aret_same h' (by (repeat' (first | exact Sub.refl _ | (with_reducible apply sub_upd_l; focus (simp only [hb, hb2, hb3, go_sem, ↓reduceIte]; done)) | (with_reducible apply sub_upd_r; focus (first | assumption | (simp only [hb, hb2, hb3, upd_none, set_none, true_and, and_true, not_false_iff]; done))))))
      · simp only [go_sem, List.take_length, Nat.le_refl, Nat.add_zero, Nat.zero_add, ↓reduceIte, Nat.reduceEqDiff, Nat.reduceLT, Nat.reduceLeDiff, Nat.reduceAdd, Nat.reduceMul, Nat.reduceSub, Int.reduceNeg, Int.reduceToNat, Int.reduceAdd, Int.reduceSub, Int.reduceMul, Int.reduceLE, Int.reduceLT, Int.reduceEq, Int.reduceNe, true_and, and_true, reduceCtorEq, eq_self, not_true, not_false_iff, false_or, or_false, true_or, or_true, ne_eq, forall_const, implies_true, Bool.false_eq_true, Bool.true_eq_false, not_false_eq_true]
        exact aret_same h (by (repeat' (first | exact Sub.refl _ | (with_reducible apply sub_upd_l; focus (simp only [hb, hb2, go_sem, ↓reduceIte]; done)) | (with_reducible apply sub_upd_r; focus (first | assumption | (simp only [hb, hb2, upd_none, set_none, true_and, and_true, not_false_iff]; done))))))
termination_by f => SizeOf.sizeOf f
decreasing_by all_goals
  have := List.sizeOf_lt_of_mem hf
  simp only [Fun.mk.sizeOf_spec]
  omega

theorem Plain_spec (hG : G 0 = some formsA) {S : St} {R : AEnd → St → Prop} (f : Fun) (h : R (.ret (.tup [bool (okF f && !hasF 6 f), int .i64 (if okF f = true then 0 else 10)])) S) : ACalls Tryd.prog G 9 [.agg (encF f)] S R := by
  refine acalls_of_awp Tryd.func9 rfl (by rw [Tryd.ntmps9]; simp) ?_; rw [Tryd.ntmps9, Tryd.results9]
  rw [encF_eq]
  simp only [go_sem, List.take_length, Nat.le_refl, Nat.add_zero, Nat.zero_add, ↓reduceIte, Nat.reduceEqDiff, Nat.reduceLT, Nat.reduceLeDiff, Nat.reduceAdd, Nat.reduceMul, Nat.reduceSub, Int.reduceNeg, Int.reduceToNat, Int.reduceAdd, Int.reduceSub, Int.reduceMul, Int.reduceLE, Int.reduceLT, Int.reduceEq, Int.reduceNe, true_and, and_true, reduceCtorEq, eq_self, not_true, not_false_iff, false_or, or_false, true_or, or_true, ne_eq, forall_const, implies_true, Bool.false_eq_true, Bool.true_eq_false, not_false_eq_true]
  intro b vs hb; try simp only [upd_none, set_none, del_none] at hb
  simp only [go_sem, List.take_length, Nat.le_refl, Nat.add_zero, Nat.zero_add, ↓reduceIte, Nat.reduceEqDiff, Nat.reduceLT, Nat.reduceLeDiff, Nat.reduceAdd, Nat.reduceMul, Nat.reduceSub, Int.reduceNeg, Int.reduceToNat, Int.reduceAdd, Int.reduceSub, Int.reduceMul, Int.reduceLE, Int.reduceLT, Int.reduceEq, Int.reduceNe, true_and, and_true, reduceCtorEq, eq_self, not_true, not_false_iff, false_or, or_false, true_or, or_true, ne_eq, forall_const, implies_true, Bool.false_eq_true, Bool.true_eq_false, not_false_eq_true]
  rw [← encF_eq]
  refine Valid_spec hG f ?_
  cases hv : okF f with
  | false =>
    rw [hv] at h
    simp only [Bool.false_and, Bool.false_eq_true, if_false] at h
    simp only [go_sem, List.take_length, Nat.le_refl, Nat.add_zero, Nat.zero_add, ↓reduceIte, Nat.reduceEqDiff, Nat.reduceLT, Nat.reduceLeDiff, Nat.reduceAdd, Nat.reduceMul, Nat.reduceSub, Int.reduceNeg, Int.reduceToNat, Int.reduceAdd, Int.reduceSub, Int.reduceMul, Int.reduceLE, Int.reduceLT, Int.reduceEq, Int.reduceNe, true_and, and_true, reduceCtorEq, eq_self, not_true, not_false_iff, false_or, or_false, true_or, or_true, ne_eq, forall_const, implies_true, Bool.false_eq_true, Bool.true_eq_false, not_false_eq_true]
    exact aret_same h (by (repeat' (first | exact Sub.refl _ | (with_reducible apply sub_upd_l; focus (simp only [hb, go_sem, ↓reduceIte]; done)) | (with_reducible apply sub_upd_r; focus (first | assumption | (simp only [hb, upd_none, set_none, true_and, and_true, not_false_iff]; done))))))
  | true =>
    rw [hv] at h
    simp only [Bool.true_and, if_true] at h
    simp only [go_sem, List.take_length, Nat.le_refl, Nat.add_zero, Nat.zero_add, ↓reduceIte, Nat.reduceEqDiff, Nat.reduceLT, Nat.reduceLeDiff, Nat.reduceAdd, Nat.reduceMul, Nat.reduceSub, Int.reduceNeg, Int.reduceToNat, Int.reduceAdd, Int.reduceSub, Int.reduceMul, Int.reduceLE, Int.reduceLT, Int.reduceEq, Int.reduceNe, true_and, and_true, reduceCtorEq, eq_self, not_true, not_false_iff, false_or, or_false, true_or, or_true, ne_eq, forall_const, implies_true, Bool.false_eq_true, Bool.true_eq_false, not_false_eq_true]
    refine Has_spec 6 18 (by simp only [go_sem]) ?_ f _ _ ?_
    · intro k S' R' h'
      refine acalls_of_awp Tryd.func18 rfl (by rw [Tryd.ntmps18]; simp) ?_; rw [Tryd.ntmps18, Tryd.results18]
      simp only [go_sem, List.take_length, Nat.le_refl, Nat.add_zero, Nat.zero_add, ↓reduceIte, Nat.reduceEqDiff, Nat.reduceLT, Nat.reduceLeDiff, Nat.reduceAdd, Nat.reduceMul, Nat.reduceSub, Int.reduceNeg, Int.reduceToNat, Int.reduceAdd, Int.reduceSub, Int.reduceMul, Int.reduceLE, Int.reduceLT, Int.reduceEq, Int.reduceNe, true_and, and_true, reduceCtorEq, eq_self, not_true, not_false_iff, false_or, or_false, true_or, or_true, ne_eq, forall_const, implies_true, Bool.false_eq_true, Bool.true_eq_false, not_false_eq_true]
      exact aret_same h' (Sub.refl _)
    · simp only [go_sem, List.take_length, Nat.le_refl, Nat.add_zero, Nat.zero_add, ↓reduceIte, Nat.reduceEqDiff, Nat.reduceLT, Nat.reduceLeDiff, Nat.reduceAdd, Nat.reduceMul, Nat.reduceSub, Int.reduceNeg, Int.reduceToNat, Int.reduceAdd, Int.reduceSub, Int.reduceMul, Int.reduceLE, Int.reduceLT, Int.reduceEq, Int.reduceNe, true_and, and_true, reduceCtorEq, eq_self, not_true, not_false_iff, false_or, or_false, true_or, or_true, ne_eq, forall_const, implies_true, Bool.false_eq_true, Bool.true_eq_false, not_false_eq_true]
      exact aret_same h (by (repeat' (first | exact Sub.refl _ | (with_reducible apply sub_upd_l; focus (simp only [hb, go_sem, ↓reduceIte]; done)) | (with_reducible apply sub_upd_r; focus (first | assumption | (simp only [hb, upd_none, set_none, true_and, and_true, not_false_iff]; done))))))

theorem Polynomial_spec (hG : G 0 = some formsA) {S : St} {R : AEnd → St → Prop} (f : Fun) (h : R (.ret (.tup [bool (okF f && !hasF 5 f), int .i64 (if okF f = true then 0 else 10)])) S) : ACalls Tryd.prog G 10 [.agg (encF f)] S R := by
  refine acalls_of_awp Tryd.func10 rfl (by rw [Tryd.ntmps10]; simp) ?_; rw [Tryd.ntmps10, Tryd.results10]
  rw [encF_eq]
  simp only [go_sem, List.take_length, Nat.le_refl, Nat.add_zero, Nat.zero_add, ↓reduceIte, Nat.reduceEqDiff, Nat.reduceLT, Nat.reduceLeDiff, Nat.reduceAdd, Nat.reduceMul, Nat.reduceSub, Int.reduceNeg, Int.reduceToNat, Int.reduceAdd, Int.reduceSub, Int.reduceMul, Int.reduceLE, Int.reduceLT, Int.reduceEq, Int.reduceNe, true_and, and_true, reduceCtorEq, eq_self, not_true, not_false_iff, false_or, or_false, true_or, or_true, ne_eq, forall_const, implies_true, Bool.false_eq_true, Bool.true_eq_false, not_false_eq_true]
  intro b vs hb; try simp only [upd_none, set_none, del_none] at hb
  simp only [go_sem, List.take_length, Nat.le_refl, Nat.add_zero, Nat.zero_add, ↓reduceIte, Nat.reduceEqDiff, Nat.reduceLT, Nat.reduceLeDiff, Nat.reduceAdd, Nat.reduceMul, Nat.reduceSub, Int.reduceNeg, Int.reduceToNat, Int.reduceAdd, Int.reduceSub, Int.reduceMul, Int.reduceLE, Int.reduceLT, Int.reduceEq, Int.reduceNe, true_and, and_true, reduceCtorEq, eq_self, not_true, not_false_iff, false_or, or_false, true_or, or_true, ne_eq, forall_const, implies_true, Bool.false_eq_true, Bool.true_eq_false, not_false_eq_true]
  rw [← encF_eq]
  refine Valid_spec hG f ?_
  cases hv : okF f with
  | false =>
    rw [hv] at h
    simp only [Bool.false_and, Bool.false_eq_true, if_false] at h
    simp only [go_sem, List.take_length, Nat.le_refl, Nat.add_zero, Nat.zero_add, ↓reduceIte, Nat.reduceEqDiff, Nat.reduceLT, Nat.reduceLeDiff, Nat.reduceAdd, Nat.reduceMul, Nat.reduceSub, Int.reduceNeg, Int.reduceToNat, Int.reduceAdd, Int.reduceSub, Int.reduceMul, Int.reduceLE, Int.reduceLT, Int.reduceEq, Int.reduceNe, true_and, and_true, reduceCtorEq, eq_self, not_true, not_false_iff, false_or, or_false, true_or, or_true, ne_eq, forall_const, implies_true, Bool.false_eq_true, Bool.true_eq_false, not_false_eq_true]
    exact aret_same h (by (repeat' (first | exact Sub.refl _ | (with_reducible apply sub_upd_l; focus (simp only [hb, go_sem, ↓reduceIte]; done)) | (with_reducible apply sub_upd_r; focus (first | assumption | (simp only [hb, upd_none, set_none, true_and, and_true, not_false_iff]; done))))))
  | true =>
    rw [hv] at h
    simp only [Bool.true_and, if_true] at h
    simp only [go_sem, List.take_length, Nat.le_refl, Nat.add_zero, Nat.zero_add, ↓reduceIte, Nat.reduceEqDiff, Nat.reduceLT, Nat.reduceLeDiff, Nat.reduceAdd, Nat.reduceMul, Nat.reduceSub, Int.reduceNeg, Int.reduceToNat, Int.reduceAdd, Int.reduceSub, Int.reduceMul, Int.reduceLE, Int.reduceLT, Int.reduceEq, Int.reduceNe, true_and, and_true, reduceCtorEq, eq_self, not_true, not_false_iff, false_or, or_false, true_or, or_true, ne_eq, forall_const, implies_true, Bool.false_eq_true, Bool.true_eq_false, not_false_eq_true]
    refine Has_spec 5 19 (by simp only [go_sem]) ?_ f _ _ ?_
    · intro k S' R' h'
      refine acalls_of_awp Tryd.func19 rfl (by rw [Tryd.ntmps19]; simp) ?_; rw [Tryd.ntmps19, Tryd.results19]
      simp only [go_sem, List.take_length, Nat.le_refl, Nat.add_zero, Nat.zero_add, ↓reduceIte, Nat.reduceEqDiff, Nat.reduceLT, Nat.reduceLeDiff, Nat.reduceAdd, Nat.reduceMul, Nat.reduceSub, Int.reduceNeg, Int.reduceToNat, Int.reduceAdd, Int.reduceSub, Int.reduceMul, Int.reduceLE, Int.reduceLT, Int.reduceEq, Int.reduceNe, true_and, and_true, reduceCtorEq, eq_self, not_true, not_false_iff, false_or, or_false, true_or, or_true, ne_eq, forall_const, implies_true, Bool.false_eq_true, Bool.true_eq_false, not_false_eq_true]
      exact aret_same h' (Sub.refl _)
    · simp only [go_sem, List.take_length, Nat.le_refl, Nat.add_zero, Nat.zero_add, ↓reduceIte, Nat.reduceEqDiff, Nat.reduceLT, Nat.reduceLeDiff, Nat.reduceAdd, Nat.reduceMul, Nat.reduceSub, Int.reduceNeg, Int.reduceToNat, Int.reduceAdd, Int.reduceSub, Int.reduceMul, Int.reduceLE, Int.reduceLT, Int.reduceEq, Int.reduceNe, true_and, and_true, reduceCtorEq, eq_self, not_true, not_false_iff, false_or, or_false, true_or, or_true, ne_eq, forall_const, implies_true, Bool.false_eq_true, Bool.true_eq_false, not_false_eq_true]
      exact aret_same h (by (repeat' (first | exact Sub.refl _ | (with_reducible apply sub_upd_l; focus (simp only [hb, go_sem, ↓reduceIte]; done)) | (with_reducible apply sub_upd_r; focus (first | assumption | (simp only [hb, upd_none, set_none, true_and, and_true, not_false_iff]; done))))))
end
end Go.Proofs.YtaeobokijndboaaDoor
