/- Functors: the reference's Few, Copy, Same. -/
import Derived.Test.YtaeobokijndboaaDoorFun1
set_option linter.unusedSimpArgs false
set_option linter.unusedVariables false
set_option maxRecDepth 100000
namespace Go.Proofs.YtaeobokijndboaaDoor
open Go Go.Proofs.Abs

section
variable {G : Glob} {S : St} {R : AEnd → St → Prop}

theorem few_spec (f : Fun) (m : Int) (h0 : 0 ≤ m) (h1 : m ≤ 999999) (h : R (.ret (bool (decide (0 < leftF f (m + 1))))) S) : ACalls Tryd.prog G 4 [.agg (encF f), int .i64 m] S R := by
  refine acalls_of_awp Tryd.func4 rfl (by rw [Tryd.ntmps4]; simp) ?_; rw [Tryd.ntmps4, Tryd.results4]
  rw [encF_eq]
  simp only [go_sem, List.take_length, Nat.le_refl, Nat.add_zero, Nat.zero_add, ↓reduceIte, Nat.reduceEqDiff, Nat.reduceLT, Nat.reduceLeDiff, Nat.reduceAdd, Nat.reduceMul, Nat.reduceSub, Int.reduceNeg, Int.reduceToNat, Int.reduceAdd, Int.reduceSub, Int.reduceMul, Int.reduceLE, Int.reduceLT, Int.reduceEq, Int.reduceNe, true_and, and_true, reduceCtorEq, eq_self, not_true, not_false_iff, false_or, or_false, true_or, or_true, ne_eq, forall_const, implies_true, Bool.false_eq_true, Bool.true_eq_false, not_false_eq_true]
  intro b vs hb; try simp only [upd_none, set_none, del_none] at hb
  simp only [go_sem, List.take_length, Nat.le_refl, Nat.add_zero, Nat.zero_add, ↓reduceIte, Nat.reduceEqDiff, Nat.reduceLT, Nat.reduceLeDiff, Nat.reduceAdd, Nat.reduceMul, Nat.reduceSub, Int.reduceNeg, Int.reduceToNat, Int.reduceAdd, Int.reduceSub, Int.reduceMul, Int.reduceLE, Int.reduceLT, Int.reduceEq, Int.reduceNe, true_and, and_true, reduceCtorEq, eq_self, not_true, not_false_iff, false_or, or_false, true_or, or_true, ne_eq, forall_const, implies_true, Bool.false_eq_true, Bool.true_eq_false, not_false_eq_true]
  rw [wrap_i64 (by omega) (by omega), ← encF_eq]
  refine left_spec f _ _ (m + 1) (by omega) (by omega) ?_
  simp only [go_sem, List.take_length, Nat.le_refl, Nat.add_zero, Nat.zero_add, ↓reduceIte, Nat.reduceEqDiff, Nat.reduceLT, Nat.reduceLeDiff, Nat.reduceAdd, Nat.reduceMul, Nat.reduceSub, Int.reduceNeg, Int.reduceToNat, Int.reduceAdd, Int.reduceSub, Int.reduceMul, Int.reduceLE, Int.reduceLT, Int.reduceEq, Int.reduceNe, true_and, and_true, reduceCtorEq, eq_self, not_true, not_false_iff, false_or, or_false, true_or, or_true, ne_eq, forall_const, implies_true, Bool.false_eq_true, Bool.true_eq_false, not_false_eq_true]
  exact aret_same h (by (repeat' (first | exact Sub.refl _ | (with_reducible apply sub_upd_l; focus (simp only [go_sem, ↓reduceIte]; done)) | (with_reducible apply sub_upd_r; focus (first | assumption | (simp only [upd_none, set_none]; done))))))

theorem copy_spec : ∀ (f : Fun) (S : St) (R : AEnd → St → Prop), f.size ≤ 1000000 → R (.ret (.agg (encF f))) S → ACalls Tryd.prog G 6 [.agg (encF f)] S R
  | .mk k n l, S, R, hsz, h => by
    rw [Fun.size_eq] at hsz; simp only [Fun.args] at hsz
    refine acalls_of_awp Tryd.func6 rfl (by rw [Tryd.ntmps6]; simp) ?_; rw [Tryd.ntmps6, Tryd.results6]
    rw [encF_eq]
    simp only [Fun.kind, Fun.n, Fun.args]
    simp only [go_sem, List.take_length, Nat.le_refl, Nat.add_zero, Nat.zero_add, ↓reduceIte, Nat.reduceEqDiff, Nat.reduceLT, Nat.reduceLeDiff, Nat.reduceAdd, Nat.reduceMul, Nat.reduceSub, Int.reduceNeg, Int.reduceToNat, Int.reduceAdd, Int.reduceSub, Int.reduceMul, Int.reduceLE, Int.reduceLT, Int.reduceEq, Int.reduceNe, true_and, and_true, reduceCtorEq, eq_self, not_true, not_false_iff, false_or, or_false, true_or, or_true, ne_eq, forall_const, implies_true, Bool.false_eq_true, Bool.true_eq_false, not_false_eq_true]
    intro b vs hb; try simp only [upd_none, set_none, del_none] at hb
    simp only [go_sem, List.take_length, Nat.le_refl, Nat.add_zero, Nat.zero_add, ↓reduceIte, Nat.reduceEqDiff, Nat.reduceLT, Nat.reduceLeDiff, Nat.reduceAdd, Nat.reduceMul, Nat.reduceSub, Int.reduceNeg, Int.reduceToNat, Int.reduceAdd, Int.reduceSub, Int.reduceMul, Int.reduceLE, Int.reduceLT, Int.reduceEq, Int.reduceNe, true_and, and_true, reduceCtorEq, eq_self, not_true, not_false_iff, false_or, or_false, true_or, or_true, ne_eq, forall_const, implies_true, Bool.false_eq_true, Bool.true_eq_false, not_false_eq_true]
    intro b2 vs2 hb2; try simp only [upd_none, set_none, del_none] at hb2
    simp only [hb, hb2, go_sem, List.take_length, Nat.le_refl, Nat.add_zero, Nat.zero_add, ↓reduceIte, Nat.reduceEqDiff, Nat.reduceLT, Nat.reduceLeDiff, Nat.reduceAdd, Nat.reduceMul, Nat.reduceSub, Int.reduceNeg, Int.reduceToNat, Int.reduceAdd, Int.reduceSub, Int.reduceMul, Int.reduceLE, Int.reduceLT, Int.reduceEq, Int.reduceNe, true_and, and_true, reduceCtorEq, eq_self, not_true, not_false_iff, false_or, or_false, true_or, or_true, ne_eq, forall_const, implies_true, Bool.false_eq_true, Bool.true_eq_false, not_false_eq_true]
    intro b3 vs3 hb3; try simp only [upd_none, set_none, del_none] at hb3
    simp only [hb, hb2, hb3, go_sem, List.take_length, Nat.le_refl, Nat.add_zero, Nat.zero_add, ↓reduceIte, Nat.reduceEqDiff, Nat.reduceLT, Nat.reduceLeDiff, Nat.reduceAdd, Nat.reduceMul, Nat.reduceSub, Int.reduceNeg, Int.reduceToNat, Int.reduceAdd, Int.reduceSub, Int.reduceMul, Int.reduceLE, Int.reduceLT, Int.reduceEq, Int.reduceNe, true_and, and_true, reduceCtorEq, eq_self, not_true, not_false_iff, false_or, or_false, true_or, or_true, ne_eq, forall_const, implies_true, Bool.false_eq_true, Bool.true_eq_false, not_false_eq_true]
    intro us hlen
    refine ALoop_start (σ := Nat × Nat × Grow × St × Array Value) (fun s => l.length - s.1) (fun s => ⟨[(2, ptr b2 0), (3, ptr b3 0), (12, .sl 3 (l.map encF) .unk), (13, int .i64 l.length), (14, int .i64 s.1)], []⟩)
      (fun s => (((s.2.2.2.1.upd b (.box [int .i64 k, int .i64 n, .sl 3 (l.map encF) .unk] vs)).upd b2 (.box [int .i64 0, int .i64 0, .sl 0 [] (.own none)] vs2)).upd b3 (.box [int .i64 k, int .i64 n, .sl s.2.1 ((l.take s.1).map encF) s.2.2.1] s.2.2.2.2)))
      (fun s => s.1 ≤ l.length ∧ ((s.1 = 0 ∧ s.2.1 = 0 ∧ s.2.2.1 = .own none ∧ s.2.2.2.1 = S) ∨ ∃ c cap, 0 < s.1 ∧ s.2.1 = 3 ∧ s.2.2.1 = .own (some (c, cap)) ∧ s.2.2.2.1 = S.upd c (.row 24 3 cap s.1) ∧ S c = none ∧ ¬ c = b ∧ ¬ b = c ∧ ¬ c = b2 ∧ ¬ b2 = c ∧ ¬ c = b3 ∧ ¬ b3 = c))
      (0, 0, .own none, S, us) ?_ ?_ ⟨by omega, .inl ⟨rfl, rfl, rfl, rfl⟩⟩ ?_
    · (refine le_of_leOn ?_; simp only [leOn, Int.natCast_add, Int.cast_ofNat_Int, go_sem, List.take_length, Nat.le_refl, Nat.add_zero, Nat.zero_add, ↓reduceIte, Nat.reduceEqDiff, Nat.reduceLT, Nat.reduceLeDiff, Nat.reduceAdd, Nat.reduceMul, Nat.reduceSub, Int.reduceNeg, Int.reduceToNat, Int.reduceAdd, Int.reduceSub, Int.reduceMul, Int.reduceLE, Int.reduceLT, Int.reduceEq, Int.reduceNe, true_and, and_true, reduceCtorEq, eq_self, not_true, not_false_iff, false_or, or_false, true_or, or_true, ne_eq, forall_const, implies_true, Bool.false_eq_true, Bool.true_eq_false, not_false_eq_true]; try simp)
    · (repeat' (first | exact Sub.refl _ | (with_reducible apply sub_upd_l; focus (simp only [hb, hb2, hb3, go_sem, ↓reduceIte]; done)) | (with_reducible apply sub_upd_r; focus (first | assumption | (simp only [hb, hb2, hb3, upd_none, set_none, true_and, and_true, not_false_iff]; done)))))
    rintro ⟨i, sz, g, T, us⟩ ⟨hi, hT⟩ Again ih
    simp only at hi hT ih ⊢
    cases hd : l.drop i with
    | nil =>
      have h2 := drop_ge hd
      have h3 : ¬ i < l.length := by omega
      simp only [List.length_map, Int.ofNat_lt, h3, hb, hb2, hb3, go_sem, List.take_length, Nat.le_refl, Nat.add_zero, Nat.zero_add, ↓reduceIte, Nat.reduceEqDiff, Nat.reduceLT, Nat.reduceLeDiff, Nat.reduceAdd, Nat.reduceMul, Nat.reduceSub, Int.reduceNeg, Int.reduceToNat, Int.reduceAdd, Int.reduceSub, Int.reduceMul, Int.reduceLE, Int.reduceLT, Int.reduceEq, Int.reduceNe, true_and, and_true, reduceCtorEq, eq_self, not_true, not_false_iff, false_or, or_false, true_or, or_true, ne_eq, forall_const, implies_true, Bool.false_eq_true, Bool.true_eq_false, not_false_eq_true]
      intro us'
      have h4 : i = l.length := by omega
      subst h4
      rw [List.take_length]
      rw [encF_eq] at h
      refine aret_intro (S' := S) h ?_ ?_
      · rcases hT with ⟨h5, rfl, rfl, rfl⟩ | ⟨c, cap, h5, rfl, rfl, rfl, h6, h7, h8, h9, h10, h11, h12⟩
        · (repeat' (first | exact Sub.refl _ | (with_reducible apply sub_upd_l; focus (simp only [hb, hb2, hb3, go_sem, ↓reduceIte]; done)) | (with_reducible apply sub_upd_r; focus (first | assumption | (simp only [hb, hb2, hb3, upd_none, set_none, true_and, and_true, not_false_iff]; done)))))
        · (repeat' (first | exact Sub.refl _ | (with_reducible apply sub_upd_l; focus (simp only [hb, hb2, hb3, h6, h7, h8, h9, h10, h11, h12, go_sem, ↓reduceIte]; done)) | (with_reducible apply sub_upd_r; focus (first | assumption | (simp only [hb, hb2, hb3, h6, h7, h8, h9, h10, h11, h12, upd_none, set_none, true_and, and_true, not_false_iff]; done)))))
      · rcases hT with ⟨h5, rfl, rfl, rfl⟩ | ⟨c, cap, h5, rfl, rfl, rfl, h6, h7, h8, h9, h10, h11, h12⟩
        · refine weak_agg ⟨⟨rfl, Weak.refl _⟩, ⟨rfl, Weak.refl _⟩, ⟨rfl, weak_sl (.inl ?_)⟩, trivial⟩
          simp at h5; simp [h5]
        · exact weak_agg ⟨⟨rfl, Weak.refl _⟩, ⟨rfl, Weak.refl _⟩, ⟨rfl, weak_sl (.inr rfl)⟩, trivial⟩
    | cons f fs =>
      have h2 := drop_lt hd
      simp only [List.length_map, Int.ofNat_lt, h2, hb, hb2, hb3, go_sem, List.take_length, Nat.le_refl, Nat.add_zero, Nat.zero_add, ↓reduceIte, Nat.reduceEqDiff, Nat.reduceLT, Nat.reduceLeDiff, Nat.reduceAdd, Nat.reduceMul, Nat.reduceSub, Int.reduceNeg, Int.reduceToNat, Int.reduceAdd, Int.reduceSub, Int.reduceMul, Int.reduceLE, Int.reduceLT, Int.reduceEq, Int.reduceNe, true_and, and_true, reduceCtorEq, eq_self, not_true, not_false_iff, false_or, or_false, true_or, or_true, ne_eq, forall_const, implies_true, Bool.false_eq_true, Bool.true_eq_false, not_false_eq_true]
      refine ⟨by omega, aget_map (drop_get hd).1 ?_⟩
      simp only [go_sem, List.take_length, Nat.le_refl, Nat.add_zero, Nat.zero_add, ↓reduceIte, Nat.reduceEqDiff, Nat.reduceLT, Nat.reduceLeDiff, Nat.reduceAdd, Nat.reduceMul, Nat.reduceSub, Int.reduceNeg, Int.reduceToNat, Int.reduceAdd, Int.reduceSub, Int.reduceMul, Int.reduceLE, Int.reduceLT, Int.reduceEq, Int.reduceNe, true_and, and_true, reduceCtorEq, eq_self, not_true, not_false_iff, false_or, or_false, true_or, or_true, ne_eq, forall_const, implies_true, Bool.false_eq_true, Bool.true_eq_false, not_false_eq_true]
      intro b4 vs4 hb4; try simp only [upd_none, set_none, del_none] at hb4
      simp only [hb, hb2, hb3, hb4, go_sem, List.take_length, Nat.le_refl, Nat.add_zero, Nat.zero_add, ↓reduceIte, Nat.reduceEqDiff, Nat.reduceLT, Nat.reduceLeDiff, Nat.reduceAdd, Nat.reduceMul, Nat.reduceSub, Int.reduceNeg, Int.reduceToNat, Int.reduceAdd, Int.reduceSub, Int.reduceMul, Int.reduceLE, Int.reduceLT, Int.reduceEq, Int.reduceNe, true_and, and_true, reduceCtorEq, eq_self, not_true, not_false_iff, false_or, or_false, true_or, or_true, ne_eq, forall_const, implies_true, Bool.false_eq_true, Bool.true_eq_false, not_false_eq_true]
      intro us2
      refine awp_drawL (by kernel_rfl) (.take 0 (.take 1 (.take 2 (.all [(3, (.all [(4, (.all [(5, (.take 6 (.last 7)))]))]))])))) [b3, b4] (by kernel_rfl) ?_
      rcases hT with ⟨rfl, rfl, rfl, rfl⟩ | ⟨c, cap, h5, rfl, rfl, rfl, h6, h7, h8, h9, h10, h11, h12⟩
      · simp only [hb, hb2, hb3, hb4, go_sem, List.take_length, Nat.le_refl, Nat.add_zero, Nat.zero_add, ↓reduceIte, Nat.reduceEqDiff, Nat.reduceLT, Nat.reduceLeDiff, Nat.reduceAdd, Nat.reduceMul, Nat.reduceSub, Int.reduceNeg, Int.reduceToNat, Int.reduceAdd, Int.reduceSub, Int.reduceMul, Int.reduceLE, Int.reduceLT, Int.reduceEq, Int.reduceNe, true_and, and_true, reduceCtorEq, eq_self, not_true, not_false_iff, false_or, or_false, true_or, or_true, ne_eq, forall_const, implies_true, Bool.false_eq_true, Bool.true_eq_false, not_false_eq_true]
        have hm := size_mem (mem_drop_head hd)
        have hl := sizeL_len l
        refine copy_spec f _ _ (by omega) ?_
        simp only [hb, hb2, hb3, hb4, go_sem, List.take_length, Nat.le_refl, Nat.add_zero, Nat.zero_add, ↓reduceIte, Nat.reduceEqDiff, Nat.reduceLT, Nat.reduceLeDiff, Nat.reduceAdd, Nat.reduceMul, Nat.reduceSub, Int.reduceNeg, Int.reduceToNat, Int.reduceAdd, Int.reduceSub, Int.reduceMul, Int.reduceLE, Int.reduceLT, Int.reduceEq, Int.reduceNe, true_and, and_true, reduceCtorEq, eq_self, not_true, not_false_iff, false_or, or_false, true_or, or_true, ne_eq, forall_const, implies_true, Bool.false_eq_true, Bool.true_eq_false, not_false_eq_true]
        refine aappend_intro (by simp only [go_sem]) (.inl rfl) (.inr rfl) (by simp) (by simp [maxLen]) (by simp) ?_
        simp only [go_sem, List.take_length, Nat.le_refl, Nat.add_zero, Nat.zero_add, ↓reduceIte, Nat.reduceEqDiff, Nat.reduceLT, Nat.reduceLeDiff, Nat.reduceAdd, Nat.reduceMul, Nat.reduceSub, Int.reduceNeg, Int.reduceToNat, Int.reduceAdd, Int.reduceSub, Int.reduceMul, Int.reduceLE, Int.reduceLT, Int.reduceEq, Int.reduceNe, true_and, and_true, reduceCtorEq, eq_self, not_true, not_false_iff, false_or, or_false, true_or, or_true, ne_eq, forall_const, implies_true, Bool.false_eq_true, Bool.true_eq_false, not_false_eq_true]
        intro c cap hc
        simp only [upd_none] at hc
        simp only [hb, hb2, hb3, hb4, hc, go_sem, List.take_length, Nat.le_refl, Nat.add_zero, Nat.zero_add, ↓reduceIte, Nat.reduceEqDiff, Nat.reduceLT, Nat.reduceLeDiff, Nat.reduceAdd, Nat.reduceMul, Nat.reduceSub, Int.reduceNeg, Int.reduceToNat, Int.reduceAdd, Int.reduceSub, Int.reduceMul, Int.reduceLE, Int.reduceLT, Int.reduceEq, Int.reduceNe, true_and, and_true, reduceCtorEq, eq_self, not_true, not_false_iff, false_or, or_false, true_or, or_true, ne_eq, forall_const, implies_true, Bool.false_eq_true, Bool.true_eq_false, not_false_eq_true]
        intro us3
        simp only [maxLen, List.length_map] at hlen
        refine ih (1, 3, .own (some (c, cap)), T.upd c (.row 24 3 cap 1), us3) ⟨by simp only; omega, .inr ⟨c, cap, by simp [hc]⟩⟩ (by simp only; omega) _ _ ?_ ?_
        · rw [wrap_i64 (by omega) (by omega)]; (refine le_of_leOn ?_; simp only [leOn, Int.natCast_add, Int.cast_ofNat_Int, go_sem, List.take_length, Nat.le_refl, Nat.add_zero, Nat.zero_add, ↓reduceIte, Nat.reduceEqDiff, Nat.reduceLT, Nat.reduceLeDiff, Nat.reduceAdd, Nat.reduceMul, Nat.reduceSub, Int.reduceNeg, Int.reduceToNat, Int.reduceAdd, Int.reduceSub, Int.reduceMul, Int.reduceLE, Int.reduceLT, Int.reduceEq, Int.reduceNe, true_and, and_true, reduceCtorEq, eq_self, not_true, not_false_iff, false_or, or_false, true_or, or_true, ne_eq, forall_const, implies_true, Bool.false_eq_true, Bool.true_eq_false, not_false_eq_true]; try simp)
        · simp only [take_succ_of hd, List.take_zero, List.nil_append, List.map_cons, List.map_nil]
          (repeat' (first | exact Sub.refl _ | (with_reducible apply sub_upd_l; focus (simp only [hb, hb2, hb3, hb4, hc, go_sem, ↓reduceIte]; done)) | (with_reducible apply sub_upd_r; focus (first | assumption | (simp only [hb, hb2, hb3, hb4, hc, upd_none, set_none, true_and, and_true, not_false_iff]; done)))))
      · simp only [hb, hb2, hb3, hb4, h6, h7, h8, h9, h10, h11, h12, go_sem, List.take_length, Nat.le_refl, Nat.add_zero, Nat.zero_add, ↓reduceIte, Nat.reduceEqDiff, Nat.reduceLT, Nat.reduceLeDiff, Nat.reduceAdd, Nat.reduceMul, Nat.reduceSub, Int.reduceNeg, Int.reduceToNat, Int.reduceAdd, Int.reduceSub, Int.reduceMul, Int.reduceLE, Int.reduceLT, Int.reduceEq, Int.reduceNe, true_and, and_true, reduceCtorEq, eq_self, not_true, not_false_iff, false_or, or_false, true_or, or_true, ne_eq, forall_const, implies_true, Bool.false_eq_true, Bool.true_eq_false, not_false_eq_true]
        have hm := size_mem (mem_drop_head hd)
        have hl := sizeL_len l
        refine copy_spec f _ _ (by omega) ?_
        simp only [upd_none] at hb4
        simp only [hb, hb2, hb3, hb4, h6, h7, h8, h9, h10, h11, h12, go_sem, List.take_length, Nat.le_refl, Nat.add_zero, Nat.zero_add, ↓reduceIte, Nat.reduceEqDiff, Nat.reduceLT, Nat.reduceLeDiff, Nat.reduceAdd, Nat.reduceMul, Nat.reduceSub, Int.reduceNeg, Int.reduceToNat, Int.reduceAdd, Int.reduceSub, Int.reduceMul, Int.reduceLE, Int.reduceLT, Int.reduceEq, Int.reduceNe, true_and, and_true, reduceCtorEq, eq_self, not_true, not_false_iff, false_or, or_false, true_or, or_true, ne_eq, forall_const, implies_true, Bool.false_eq_true, Bool.true_eq_false, not_false_eq_true]
        simp only [maxLen, List.length_map] at hlen
        have hti : (l.take i).length = i := by rw [List.length_take]; omega
        refine aappend_intro (by simp only [go_sem]) (.inr rfl) (.inr rfl) (by simp) (by simp [maxLen]; omega) (by simp; omega) ?_
        simp only [hb, hb2, hb3, hb4, h6, h7, h8, h9, h10, h11, h12, List.length_map, hti, go_sem, List.take_length, Nat.le_refl, Nat.add_zero, Nat.zero_add, ↓reduceIte, Nat.reduceEqDiff, Nat.reduceLT, Nat.reduceLeDiff, Nat.reduceAdd, Nat.reduceMul, Nat.reduceSub, Int.reduceNeg, Int.reduceToNat, Int.reduceAdd, Int.reduceSub, Int.reduceMul, Int.reduceLE, Int.reduceLT, Int.reduceEq, Int.reduceNe, true_and, and_true, reduceCtorEq, eq_self, not_true, not_false_iff, false_or, or_false, true_or, or_true, ne_eq, forall_const, implies_true, Bool.false_eq_true, Bool.true_eq_false, not_false_eq_true]
        simp only [del_of_none h6]
        intro c' cap' hc
        simp only [upd_none] at hc
        simp only [hb, hb2, hb3, hb4, hc, go_sem, List.take_length, Nat.le_refl, Nat.add_zero, Nat.zero_add, ↓reduceIte, Nat.reduceEqDiff, Nat.reduceLT, Nat.reduceLeDiff, Nat.reduceAdd, Nat.reduceMul, Nat.reduceSub, Int.reduceNeg, Int.reduceToNat, Int.reduceAdd, Int.reduceSub, Int.reduceMul, Int.reduceLE, Int.reduceLT, Int.reduceEq, Int.reduceNe, true_and, and_true, reduceCtorEq, eq_self, not_true, not_false_iff, false_or, or_false, true_or, or_true, ne_eq, forall_const, implies_true, Bool.false_eq_true, Bool.true_eq_false, not_false_eq_true]
        intro us3
        refine ih (i + 1, 3, .own (some (c', cap')), S.upd c' (.row 24 3 cap' (i + 1)), us3) ⟨by simp only; omega, .inr ⟨c', cap', by simp [hc]⟩⟩ (by simp only; omega) _ _ ?_ ?_
        · rw [wrap_i64 (by omega) (by omega)]; (refine le_of_leOn ?_; simp only [leOn, Int.natCast_add, Int.cast_ofNat_Int, go_sem, List.take_length, Nat.le_refl, Nat.add_zero, Nat.zero_add, ↓reduceIte, Nat.reduceEqDiff, Nat.reduceLT, Nat.reduceLeDiff, Nat.reduceAdd, Nat.reduceMul, Nat.reduceSub, Int.reduceNeg, Int.reduceToNat, Int.reduceAdd, Int.reduceSub, Int.reduceMul, Int.reduceLE, Int.reduceLT, Int.reduceEq, Int.reduceNe, true_and, and_true, reduceCtorEq, eq_self, not_true, not_false_iff, false_or, or_false, true_or, or_true, ne_eq, forall_const, implies_true, Bool.false_eq_true, Bool.true_eq_false, not_false_eq_true]; try simp)
        · simp only [take_succ_of hd, List.map_append, List.map_cons, List.map_nil, List.length_map, hti]
          (repeat' (first | exact Sub.refl _ | (with_reducible apply sub_upd_l; focus (simp only [hb, hb2, hb3, hb4, hc, go_sem, ↓reduceIte]; done)) | (with_reducible apply sub_upd_r; focus (first | assumption | (simp only [hb, hb2, hb3, hb4, hc, upd_none, set_none, true_and, and_true, not_false_iff]; done)))))
termination_by f => SizeOf.sizeOf f
decreasing_by all_goals
  have h5 : f ∈ l := mem_drop_head hd
  have := List.sizeOf_lt_of_mem h5
  simp only [Fun.mk.sizeOf_spec]
  omega
end
end Go.Proofs.YtaeobokijndboaaDoor
