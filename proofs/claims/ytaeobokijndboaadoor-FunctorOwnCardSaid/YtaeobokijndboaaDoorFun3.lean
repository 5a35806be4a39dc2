/- Functors: the reference's Same. -/
import Derived.Test.YtaeobokijndboaaDoorFun2
set_option linter.unusedSimpArgs false
set_option linter.unusedVariables false
set_option maxRecDepth 100000
namespace Go.Proofs.YtaeobokijndboaaDoor
open Go Go.Proofs.Abs

mutual
def sameF : Fun → Fun → Bool
  | .mk k n l, .mk k' n' l' => decide (k = k') && decide (n = n') && sameL l l'
def sameL : List Fun → List Fun → Bool
  | [], [] => true
  | f :: l, g :: l' => sameF f g && sameL l l'
  | _, _ => false
end
mutual
theorem sameF_iff : ∀ (f g : Fun), sameF f g = true ↔ f = g
  | .mk k n l, .mk k' n' l' => by
    simp only [sameF, Bool.and_eq_true, decide_eq_true_eq, sameL_iff l l', Fun.mk.injEq, and_assoc]
theorem sameL_iff : ∀ (l l' : List Fun), sameL l l' = true ↔ l = l'
  | [], [] => by simp [sameL]
  | f :: l, g :: l' => by simp only [sameL, Bool.and_eq_true, sameF_iff f g, sameL_iff l l', List.cons.injEq]
  | [], _ :: _ => by simp [sameL]
  | _ :: _, [] => by simp [sameL]
end
theorem sameF_self (f : Fun) : sameF f f = true := (sameF_iff f f).2 rfl
theorem sameL_len {l l' : List Fun} (h : sameL l l' = true) : l.length = l'.length := by rw [(sameL_iff l l').1 h]

section
variable {G : Glob} {S : St} {R : AEnd → St → Prop}

theorem same_spec : ∀ (f g : Fun) (S : St) (R : AEnd → St → Prop), R (.ret (bool (sameF f g))) S → ACalls Tryd.prog G 13 [.agg (encF f), .agg (encF g)] S R
  | .mk k n l, .mk k' n' l', S, R, h => by
    refine acalls_of_awp Tryd.func13 rfl (by rw [Tryd.ntmps13]; simp) ?_; rw [Tryd.ntmps13, Tryd.results13]
    rw [encF_eq, encF_eq]
    simp only [Fun.kind, Fun.n, Fun.args]
    simp only [go_sem, List.take_length, Nat.le_refl, Nat.add_zero, Nat.zero_add, ↓reduceIte, Nat.reduceEqDiff, Nat.reduceLT, Nat.reduceLeDiff, Nat.reduceAdd, Nat.reduceMul, Nat.reduceSub, Int.reduceNeg, Int.reduceToNat, Int.reduceAdd, Int.reduceSub, Int.reduceMul, Int.reduceLE, Int.reduceLT, Int.reduceEq, Int.reduceNe, true_and, and_true, reduceCtorEq, eq_self, not_true, not_false_iff, false_or, or_false, true_or, or_true, ne_eq, forall_const, implies_true, Bool.false_eq_true, Bool.true_eq_false, not_false_eq_true]
    intro b vs hb; try simp only [upd_none, set_none, del_none] at hb
    simp only [go_sem, List.take_length, Nat.le_refl, Nat.add_zero, Nat.zero_add, ↓reduceIte, Nat.reduceEqDiff, Nat.reduceLT, Nat.reduceLeDiff, Nat.reduceAdd, Nat.reduceMul, Nat.reduceSub, Int.reduceNeg, Int.reduceToNat, Int.reduceAdd, Int.reduceSub, Int.reduceMul, Int.reduceLE, Int.reduceLT, Int.reduceEq, Int.reduceNe, true_and, and_true, reduceCtorEq, eq_self, not_true, not_false_iff, false_or, or_false, true_or, or_true, ne_eq, forall_const, implies_true, Bool.false_eq_true, Bool.true_eq_false, not_false_eq_true]
    intro b2 vs2 hb2; try simp only [upd_none, set_none, del_none] at hb2
    simp only [hb, hb2, go_sem, List.take_length, Nat.le_refl, Nat.add_zero, Nat.zero_add, ↓reduceIte, Nat.reduceEqDiff, Nat.reduceLT, Nat.reduceLeDiff, Nat.reduceAdd, Nat.reduceMul, Nat.reduceSub, Int.reduceNeg, Int.reduceToNat, Int.reduceAdd, Int.reduceSub, Int.reduceMul, Int.reduceLE, Int.reduceLT, Int.reduceEq, Int.reduceNe, true_and, and_true, reduceCtorEq, eq_self, not_true, not_false_iff, false_or, or_false, true_or, or_true, ne_eq, forall_const, implies_true, Bool.false_eq_true, Bool.true_eq_false, not_false_eq_true]
    by_cases hk : k = k'
    · by_cases hn : n = n'
      · simp only [hb, hb2, hk, hn, decide_true, go_sem, List.take_length, Nat.le_refl, Nat.add_zero, Nat.zero_add, ↓reduceIte, Nat.reduceEqDiff, Nat.reduceLT, Nat.reduceLeDiff, Nat.reduceAdd, Nat.reduceMul, Nat.reduceSub, Int.reduceNeg, Int.reduceToNat, Int.reduceAdd, Int.reduceSub, Int.reduceMul, Int.reduceLE, Int.reduceLT, Int.reduceEq, Int.reduceNe, true_and, and_true, reduceCtorEq, eq_self, not_true, not_false_iff, false_or, or_false, true_or, or_true, ne_eq, forall_const, implies_true, Bool.false_eq_true, Bool.true_eq_false, not_false_eq_true]
        intro hlen hlen'
        by_cases hl : l.length = l'.length
        · simp only [hb, hb2, hl, List.length_map, decide_true, go_sem, List.take_length, Nat.le_refl, Nat.add_zero, Nat.zero_add, ↓reduceIte, Nat.reduceEqDiff, Nat.reduceLT, Nat.reduceLeDiff, Nat.reduceAdd, Nat.reduceMul, Nat.reduceSub, Int.reduceNeg, Int.reduceToNat, Int.reduceAdd, Int.reduceSub, Int.reduceMul, Int.reduceLE, Int.reduceLT, Int.reduceEq, Int.reduceNe, true_and, and_true, reduceCtorEq, eq_self, not_true, not_false_iff, false_or, or_false, true_or, or_true, ne_eq, forall_const, implies_true, Bool.false_eq_true, Bool.true_eq_false, not_false_eq_true]
          intro hlen2
          simp only [maxLen] at hlen2
          have hS : sameF (.mk k n l) (.mk k' n' l') = sameL l l' := by simp [sameF, hk, hn]
          rw [hS] at h
          refine ALoop_start (σ := Nat) (fun i => l.length - i) (fun i => ⟨[(2, ptr b 0), (3, ptr b2 0), (29, int .i64 l'.length), (30, int .i64 i)], []⟩)
            (fun _ => (S.upd b (.box [int .i64 k, int .i64 n, .sl 3 (l.map encF) .unk] vs)).upd b2 (.box [int .i64 k', int .i64 n', .sl 3 (l'.map encF) .unk] vs2))
            (fun i => sameL (l.drop i) (l'.drop i) = sameL l l') 0 ?_ ?_ (by simp) ?_
          · (refine le_of_leOn ?_; simp only [leOn, Int.natCast_add, Int.cast_ofNat_Int, go_sem, List.take_length, Nat.le_refl, Nat.add_zero, Nat.zero_add, ↓reduceIte, Nat.reduceEqDiff, Nat.reduceLT, Nat.reduceLeDiff, Nat.reduceAdd, Nat.reduceMul, Nat.reduceSub, Int.reduceNeg, Int.reduceToNat, Int.reduceAdd, Int.reduceSub, Int.reduceMul, Int.reduceLE, Int.reduceLT, Int.reduceEq, Int.reduceNe, true_and, and_true, reduceCtorEq, eq_self, not_true, not_false_iff, false_or, or_false, true_or, or_true, ne_eq, forall_const, implies_true, Bool.false_eq_true, Bool.true_eq_false, not_false_eq_true]; try simp)
          · subst hk hn; (repeat' (first | exact Sub.refl _ | (with_reducible apply sub_upd_l; focus (simp only [hb, hb2, go_sem, ↓reduceIte]; done)) | (with_reducible apply sub_upd_r; focus (first | assumption | (simp only [hb, hb2, upd_none, set_none, true_and, and_true, not_false_iff]; done)))))
          intro i hi Again ih
          cases hd : l.drop i with
          | nil =>
            have h2 := drop_ge hd
            have h3 : ¬ i < l'.length := by omega
            simp only [Int.ofNat_lt, h3, hb, hb2, decide_false, go_sem, List.take_length, Nat.le_refl, Nat.add_zero, Nat.zero_add, ↓reduceIte, Nat.reduceEqDiff, Nat.reduceLT, Nat.reduceLeDiff, Nat.reduceAdd, Nat.reduceMul, Nat.reduceSub, Int.reduceNeg, Int.reduceToNat, Int.reduceAdd, Int.reduceSub, Int.reduceMul, Int.reduceLE, Int.reduceLT, Int.reduceEq, Int.reduceNe, true_and, and_true, reduceCtorEq, eq_self, not_true, not_false_iff, false_or, or_false, true_or, or_true, ne_eq, forall_const, implies_true, Bool.false_eq_true, Bool.true_eq_false, not_false_eq_true]
            have hd' : l'.drop i = [] := by simp; omega
            rw [hd, hd'] at hi
            simp only [sameL] at hi
            rw [← hi] at h
            exact aret_same h (by (repeat' (first | exact Sub.refl _ | (with_reducible apply sub_upd_l; focus (simp only [hb, hb2, go_sem, ↓reduceIte]; done)) | (with_reducible apply sub_upd_r; focus (first | assumption | (simp only [hb, hb2, upd_none, set_none, true_and, and_true, not_false_iff]; done))))))
          | cons f fs =>
            have h2 := drop_lt hd
            have h3 : i < l'.length := by omega
            obtain ⟨g, gs, hd'⟩ : ∃ g gs, l'.drop i = g :: gs := by
              cases hq : l'.drop i with
              | nil => exact absurd (drop_ge hq) (by omega)
              | cons g gs => exact ⟨g, gs, rfl⟩
            simp only [Int.ofNat_lt, h3, hb, hb2, go_sem, List.take_length, Nat.le_refl, Nat.add_zero, Nat.zero_add, ↓reduceIte, Nat.reduceEqDiff, Nat.reduceLT, Nat.reduceLeDiff, Nat.reduceAdd, Nat.reduceMul, Nat.reduceSub, Int.reduceNeg, Int.reduceToNat, Int.reduceAdd, Int.reduceSub, Int.reduceMul, Int.reduceLE, Int.reduceLT, Int.reduceEq, Int.reduceNe, true_and, and_true, reduceCtorEq, eq_self, not_true, not_false_iff, false_or, or_false, true_or, or_true, ne_eq, forall_const, implies_true, Bool.false_eq_true, Bool.true_eq_false, not_false_eq_true]
            refine awp_drawL (by kernel_rfl) (.take 0 (.take 1 (.take 2 (.take 3 (.take 4 (.take 5 (.take 6 (.take 7 (.take 8 (.take 9 (.all [(10, (.take 11 .done))]))))))))))) [b, b2] (by kernel_rfl) ?_
            simp only [hb, hb2, go_sem, List.take_length, Nat.le_refl, Nat.add_zero, Nat.zero_add, ↓reduceIte, Nat.reduceEqDiff, Nat.reduceLT, Nat.reduceLeDiff, Nat.reduceAdd, Nat.reduceMul, Nat.reduceSub, Int.reduceNeg, Int.reduceToNat, Int.reduceAdd, Int.reduceSub, Int.reduceMul, Int.reduceLE, Int.reduceLT, Int.reduceEq, Int.reduceNe, true_and, and_true, reduceCtorEq, eq_self, not_true, not_false_iff, false_or, or_false, true_or, or_true, ne_eq, forall_const, implies_true, Bool.false_eq_true, Bool.true_eq_false, not_false_eq_true]
            refine ⟨by omega, aget_map (drop_get hd).1 ?_⟩
            simp only [hb, hb2, go_sem, List.take_length, Nat.le_refl, Nat.add_zero, Nat.zero_add, ↓reduceIte, Nat.reduceEqDiff, Nat.reduceLT, Nat.reduceLeDiff, Nat.reduceAdd, Nat.reduceMul, Nat.reduceSub, Int.reduceNeg, Int.reduceToNat, Int.reduceAdd, Int.reduceSub, Int.reduceMul, Int.reduceLE, Int.reduceLT, Int.reduceEq, Int.reduceNe, true_and, and_true, reduceCtorEq, eq_self, not_true, not_false_iff, false_or, or_false, true_or, or_true, ne_eq, forall_const, implies_true, Bool.false_eq_true, Bool.true_eq_false, not_false_eq_true]
            refine ⟨by omega, aget_map (drop_get hd').1 ?_⟩
            simp only [hb, hb2, go_sem, List.take_length, Nat.le_refl, Nat.add_zero, Nat.zero_add, ↓reduceIte, Nat.reduceEqDiff, Nat.reduceLT, Nat.reduceLeDiff, Nat.reduceAdd, Nat.reduceMul, Nat.reduceSub, Int.reduceNeg, Int.reduceToNat, Int.reduceAdd, Int.reduceSub, Int.reduceMul, Int.reduceLE, Int.reduceLT, Int.reduceEq, Int.reduceNe, true_and, and_true, reduceCtorEq, eq_self, not_true, not_false_iff, false_or, or_false, true_or, or_true, ne_eq, forall_const, implies_true, Bool.false_eq_true, Bool.true_eq_false, not_false_eq_true]
            refine same_spec f g _ _ ?_
            simp only [hb, hb2, go_sem, List.take_length, Nat.le_refl, Nat.add_zero, Nat.zero_add, ↓reduceIte, Nat.reduceEqDiff, Nat.reduceLT, Nat.reduceLeDiff, Nat.reduceAdd, Nat.reduceMul, Nat.reduceSub, Int.reduceNeg, Int.reduceToNat, Int.reduceAdd, Int.reduceSub, Int.reduceMul, Int.reduceLE, Int.reduceLT, Int.reduceEq, Int.reduceNe, true_and, and_true, reduceCtorEq, eq_self, not_true, not_false_iff, false_or, or_false, true_or, or_true, ne_eq, forall_const, implies_true, Bool.false_eq_true, Bool.true_eq_false, not_false_eq_true]
            cases hfg : sameF f g with
            | true =>
              simp only [hb, hb2, go_sem, List.take_length, Nat.le_refl, Nat.add_zero, Nat.zero_add, ↓reduceIte, Nat.reduceEqDiff, Nat.reduceLT, Nat.reduceLeDiff, Nat.reduceAdd, Nat.reduceMul, Nat.reduceSub, Int.reduceNeg, Int.reduceToNat, Int.reduceAdd, Int.reduceSub, Int.reduceMul, Int.reduceLE, Int.reduceLT, Int.reduceEq, Int.reduceNe, true_and, and_true, reduceCtorEq, eq_self, not_true, not_false_iff, false_or, or_false, true_or, or_true, ne_eq, forall_const, implies_true, Bool.false_eq_true, Bool.true_eq_false, not_false_eq_true]
              rw [wrap_i64 (by omega) (by omega)]
              refine ih (i + 1) ?_ (by omega) _ _ ?_ (Sub.refl _)
              · rw [(drop_get hd).2, (drop_get hd').2]
                rw [hd, hd'] at hi
                simpa [sameL, hfg] using hi
              · (refine le_of_leOn ?_; simp only [leOn, Int.natCast_add, Int.cast_ofNat_Int, go_sem, List.take_length, Nat.le_refl, Nat.add_zero, Nat.zero_add, ↓reduceIte, Nat.reduceEqDiff, Nat.reduceLT, Nat.reduceLeDiff, Nat.reduceAdd, Nat.reduceMul, Nat.reduceSub, Int.reduceNeg, Int.reduceToNat, Int.reduceAdd, Int.reduceSub, Int.reduceMul, Int.reduceLE, Int.reduceLT, Int.reduceEq, Int.reduceNe, true_and, and_true, reduceCtorEq, eq_self, not_true, not_false_iff, false_or, or_false, true_or, or_true, ne_eq, forall_const, implies_true, Bool.false_eq_true, Bool.true_eq_false, not_false_eq_true]; try simp)
            | false =>
              simp only [hb, hb2, go_sem, List.take_length, Nat.le_refl, Nat.add_zero, Nat.zero_add, ↓reduceIte, Nat.reduceEqDiff, Nat.reduceLT, Nat.reduceLeDiff, Nat.reduceAdd, Nat.reduceMul, Nat.reduceSub, Int.reduceNeg, Int.reduceToNat, Int.reduceAdd, Int.reduceSub, Int.reduceMul, Int.reduceLE, Int.reduceLT, Int.reduceEq, Int.reduceNe, true_and, and_true, reduceCtorEq, eq_self, not_true, not_false_iff, false_or, or_false, true_or, or_true, ne_eq, forall_const, implies_true, Bool.false_eq_true, Bool.true_eq_false, not_false_eq_true]
              rw [hd, hd'] at hi
              simp only [sameL, hfg, Bool.false_and] at hi
              rw [← hi] at h
              exact aret_same h (by (repeat' (first | exact Sub.refl _ | (with_reducible apply sub_upd_l; focus (simp only [hb, hb2, go_sem, ↓reduceIte]; done)) | (with_reducible apply sub_upd_r; focus (first | assumption | (simp only [hb, hb2, upd_none, set_none, true_and, and_true, not_false_iff]; done))))))
        · simp only [hb, hb2, hl, List.length_map, Int.ofNat_inj, decide_false, go_sem, List.take_length, Nat.le_refl, Nat.add_zero, Nat.zero_add, ↓reduceIte, Nat.reduceEqDiff, Nat.reduceLT, Nat.reduceLeDiff, Nat.reduceAdd, Nat.reduceMul, Nat.reduceSub, Int.reduceNeg, Int.reduceToNat, Int.reduceAdd, Int.reduceSub, Int.reduceMul, Int.reduceLE, Int.reduceLT, Int.reduceEq, Int.reduceNe, true_and, and_true, reduceCtorEq, eq_self, not_true, not_false_iff, false_or, or_false, true_or, or_true, ne_eq, forall_const, implies_true, Bool.false_eq_true, Bool.true_eq_false, not_false_eq_true]
          have hS : sameF (.mk k n l) (.mk k' n' l') = false := by
            rw [Bool.eq_false_iff]
            intro hh
            have := (sameF_iff _ _).1 hh
            simp only [Fun.mk.injEq] at this
            exact hl (by rw [this.2.2])
          rw [hS] at h
          exact aret_same h (by (repeat' (first | exact Sub.refl _ | (with_reducible apply sub_upd_l; focus (simp only [hb, hb2, go_sem, ↓reduceIte]; done)) | (with_reducible apply sub_upd_r; focus (first | assumption | (simp only [hb, hb2, upd_none, set_none, true_and, and_true, not_false_iff]; done))))))
      · simp only [hb, hb2, hk, hn, decide_true, decide_false, go_sem, List.take_length, Nat.le_refl, Nat.add_zero, Nat.zero_add, ↓reduceIte, Nat.reduceEqDiff, Nat.reduceLT, Nat.reduceLeDiff, Nat.reduceAdd, Nat.reduceMul, Nat.reduceSub, Int.reduceNeg, Int.reduceToNat, Int.reduceAdd, Int.reduceSub, Int.reduceMul, Int.reduceLE, Int.reduceLT, Int.reduceEq, Int.reduceNe, true_and, and_true, reduceCtorEq, eq_self, not_true, not_false_iff, false_or, or_false, true_or, or_true, ne_eq, forall_const, implies_true, Bool.false_eq_true, Bool.true_eq_false, not_false_eq_true]
        have hS : sameF (.mk k n l) (.mk k' n' l') = false := by simp [sameF, hn]
        rw [hS] at h
        exact aret_same h (by (repeat' (first | exact Sub.refl _ | (with_reducible apply sub_upd_l; focus (simp only [hb, hb2, go_sem, ↓reduceIte]; done)) | (with_reducible apply sub_upd_r; focus (first | assumption | (simp only [hb, hb2, upd_none, set_none, true_and, and_true, not_false_iff]; done))))))
    · simp only [hb, hb2, hk, decide_true, decide_false, go_sem, List.take_length, Nat.le_refl, Nat.add_zero, Nat.zero_add, ↓reduceIte, Nat.reduceEqDiff, Nat.reduceLT, Nat.reduceLeDiff, Nat.reduceAdd, Nat.reduceMul, Nat.reduceSub, Int.reduceNeg, Int.reduceToNat, Int.reduceAdd, Int.reduceSub, Int.reduceMul, Int.reduceLE, Int.reduceLT, Int.reduceEq, Int.reduceNe, true_and, and_true, reduceCtorEq, eq_self, not_true, not_false_iff, false_or, or_false, true_or, or_true, ne_eq, forall_const, implies_true, Bool.false_eq_true, Bool.true_eq_false, not_false_eq_true]
      have hS : sameF (.mk k n l) (.mk k' n' l') = false := by simp [sameF, hk]
      rw [hS] at h
      exact aret_same h (by (repeat' (first | exact Sub.refl _ | (with_reducible apply sub_upd_l; focus (simp only [hb, hb2, go_sem, ↓reduceIte]; done)) | (with_reducible apply sub_upd_r; focus (first | assumption | (simp only [hb, hb2, upd_none, set_none, true_and, and_true, not_false_iff]; done))))))
termination_by f => SizeOf.sizeOf f
decreasing_by all_goals
  have h5 : f ∈ l := mem_drop_head hd
  have := List.sizeOf_lt_of_mem h5
  simp only [Fun.mk.sizeOf_spec]
  omega
end
end Go.Proofs.YtaeobokijndboaaDoor
