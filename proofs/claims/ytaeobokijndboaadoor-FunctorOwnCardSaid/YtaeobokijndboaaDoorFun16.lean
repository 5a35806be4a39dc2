/- The law FunctorOwn: no function modifies its arguments, and results are new memory. -/
import Derived.Test.YtaeobokijndboaaDoorFun15
set_option linter.unusedSimpArgs false
set_option linter.unusedVariables false
set_option maxRecDepth 100000
namespace Go.Proofs.YtaeobokijndboaaDoor
open Go Go.Proofs.Abs

mutual
theorem leftF_size : ∀ (f : Fun) (m : Int), 0 < leftF f m → leftF f m = m - f.size
  | .mk k n l, m, h => by
    simp only [leftF] at h ⊢
    have := leftL_size l (m - 1) (by omega)
    simp only [Fun.size]
    omega
theorem leftL_size : ∀ (l : List Fun) (m : Int), 0 < leftL l m → leftL l m = m - sizeL l
  | [], m, h => by simp [leftL, sizeL]
  | f :: fs, m, h => by
    simp only [leftL] at h ⊢
    by_cases hm : 0 < m
    · rw [if_pos hm] at h ⊢
      have h1 := leftL_size fs _ h
      have h2 := leftF_size f m (by omega)
      simp only [sizeL]
      omega
    · rw [if_neg hm] at h; omega
end

section
variable {G : Glob}

@[go_sem] theorem cut_encF (f : Fun) : cut (encF f) 0 3 = encF f := by rw [encF_eq]; rfl
@[go_sem] theorem aflat_encF (f : Fun) (K : List AVal → Prop) : aflat (.agg (encF f)) K = K (encF f) := rfl

theorem change_own {S0 S1 : St} {g : Fun} {A : Option Addr} {cap b3 : Nat} {vs : Array Value} {R : AEnd → St → Prop} (hsub : Abs.Sub S0 S1) (hb3 : S1 b3 = none) (hlen : g.args.length ≤ maxLen)
    (ht : g.args = [] ∨ ∃ b', A = some ⟨b', 0, none⟩ ∧ TreesS (fun b => S0 b = none) S1 g.args b' 0) (h : R (.ret (.tup [])) S0) :
    ACalls Tryd.prog G 12 [ptr b3 0] (S1.upd b3 (.box [int .i64 g.kind, int .i64 g.n, .lit (.slice A g.args.length cap)] vs)) R := by
  have hp3 : S0 b3 = none := (hsub b3).elim id fun h => h.trans hb3
  have hk : Kept (fun b => S0 b = none) S1 (S1.upd b3 (.box [int .i64 g.kind, int .i64 g.n, .lit (.slice A g.args.length cap)] vs)) := by
    refine ⟨fun b hb => ?_, fun b cs us hb => ⟨cs, us, ?_, rfl, fun _ _ => rfl⟩⟩
    · have : ¬ b = b3 := by rintro rfl; exact hb hp3
      simp [St.upd, this]
    · have : ¬ b = b3 := by rintro rfl; rw [hb3] at hb; cases hb
      simp [St.upd, this, hb]
  refine acalls_sub (change_spec (fun b => S0 b = none) g b3 0 _ _ ?_ ?_)
  · cases g with
    | mk k n l =>
      simp only [Fun.args, Fun.kind, Fun.n] at hlen ht hk ⊢
      simp only [TreeS]
      refine ⟨hp3, by simp, hlen, [int .i64 k, int .i64 n, .lit (.slice A l.length cap)], vs, A, cap, by simp [St.upd], by simp, by simp, ?_⟩
      rcases ht with ht | ⟨b', h1, h2⟩
      · exact .inl ht
      · exact .inr ⟨b', h1, TreesS.kept hk l b' 0 h2⟩
  · intro S' hS'
    refine ⟨S0, fun b => ?_, h⟩
    cases hb : S0 b with
    | none => exact .inl rfl
    | some o =>
      right
      have h1 : ¬ S0 b = none := by rw [hb]; simp
      have h2 : ¬ b = b3 := by rintro rfl; exact h1 hp3
      rw [hS'.out b h1]
      simp only [St.upd, if_neg h2]
      rcases hsub b with h3 | h3
      · exact absurd h3 h1
      · rw [← h3, hb]

theorem law_spec (hG : G 0 = some formsA) (f : Fun) (S : St) (R : AEnd → St → Prop) (h : R (.ret (bool true)) S) : ACalls Tryd.prog G 3 [.agg (encF f)] S R := by
  refine acalls_of_awp Tryd.func3 rfl (by rw [Tryd.ntmps3]; simp) ?_; rw [Tryd.ntmps3, Tryd.results3]
  simp only [go_sem, List.take_length, Nat.le_refl, Nat.add_zero, Nat.zero_add, ↓reduceIte, Nat.reduceEqDiff, Nat.reduceLT, Nat.reduceLeDiff, Nat.reduceAdd, Nat.reduceMul, Nat.reduceSub, Int.reduceNeg, Int.reduceToNat, Int.reduceAdd, Int.reduceSub, Int.reduceMul, Int.reduceLE, Int.reduceLT, Int.reduceEq, Int.reduceNe, true_and, and_true, reduceCtorEq, eq_self, not_true, not_false_iff, false_or, or_false, true_or, or_true, ne_eq, forall_const, implies_true, Bool.false_eq_true, Bool.true_eq_false, not_false_eq_true]
  intro b1 vs1 hb1; try simp only [upd_none, set_none, del_none] at hb1
  simp only [hb1, go_sem, List.take_length, Nat.le_refl, Nat.add_zero, Nat.zero_add, ↓reduceIte, Nat.reduceEqDiff, Nat.reduceLT, Nat.reduceLeDiff, Nat.reduceAdd, Nat.reduceMul, Nat.reduceSub, Int.reduceNeg, Int.reduceToNat, Int.reduceAdd, Int.reduceSub, Int.reduceMul, Int.reduceLE, Int.reduceLT, Int.reduceEq, Int.reduceNe, true_and, and_true, reduceCtorEq, eq_self, not_true, not_false_iff, false_or, or_false, true_or, or_true, ne_eq, forall_const, implies_true, Bool.false_eq_true, Bool.true_eq_false, not_false_eq_true]
  refine few_spec f 2000 (by omega) (by omega) ?_
  by_cases hf : 0 < leftF f 2001
  · have hsz := leftF_size f _ hf
    simp only [hf, hb1, Bool.not_true, decide_true, go_sem, List.take_length, Nat.le_refl, Nat.add_zero, Nat.zero_add, ↓reduceIte, Nat.reduceEqDiff, Nat.reduceLT, Nat.reduceLeDiff, Nat.reduceAdd, Nat.reduceMul, Nat.reduceSub, Int.reduceNeg, Int.reduceToNat, Int.reduceAdd, Int.reduceSub, Int.reduceMul, Int.reduceLE, Int.reduceLT, Int.reduceEq, Int.reduceNe, true_and, and_true, reduceCtorEq, eq_self, not_true, not_false_iff, false_or, or_false, true_or, or_true, ne_eq, forall_const, implies_true, Bool.false_eq_true, Bool.true_eq_false, not_false_eq_true]
    refine copy_spec f _ _ (by omega) ?_
    simp only [hb1, go_sem, List.take_length, Nat.le_refl, Nat.add_zero, Nat.zero_add, ↓reduceIte, Nat.reduceEqDiff, Nat.reduceLT, Nat.reduceLeDiff, Nat.reduceAdd, Nat.reduceMul, Nat.reduceSub, Int.reduceNeg, Int.reduceToNat, Int.reduceAdd, Int.reduceSub, Int.reduceMul, Int.reduceLE, Int.reduceLT, Int.reduceEq, Int.reduceNe, true_and, and_true, reduceCtorEq, eq_self, not_true, not_false_iff, false_or, or_false, true_or, or_true, ne_eq, forall_const, implies_true, Bool.false_eq_true, Bool.true_eq_false, not_false_eq_true]
    intro b2 vs2 hb2; try simp only [upd_none, set_none, del_none] at hb2
    simp only [hb1, hb2, go_sem, List.take_length, Nat.le_refl, Nat.add_zero, Nat.zero_add, ↓reduceIte, Nat.reduceEqDiff, Nat.reduceLT, Nat.reduceLeDiff, Nat.reduceAdd, Nat.reduceMul, Nat.reduceSub, Int.reduceNeg, Int.reduceToNat, Int.reduceAdd, Int.reduceSub, Int.reduceMul, Int.reduceLE, Int.reduceLT, Int.reduceEq, Int.reduceNe, true_and, and_true, reduceCtorEq, eq_self, not_true, not_false_iff, false_or, or_false, true_or, or_true, ne_eq, forall_const, implies_true, Bool.false_eq_true, Bool.true_eq_false, not_false_eq_true]
    intro u2
    refine String_spec hG f ?_
    obtain ⟨s, e, g, e2, hstr, hl, hp, hback⟩ : ∃ s e g e2, (if okF f = true then [str (textF f true), int .i64 0] else [str [], int .i64 10]) = [str s, int .i64 e] ∧ s.length ≤ 1000000000 ∧ parseS 200 s = some (g, e2) ∧ (e = 0 → e2 = 0 ∧ g = f) := by
      by_cases ho : okF f = true
      · obtain ⟨_, hz⟩ := ok_shape ho
        have := text_len f true
        exact ⟨textF f true, 0, f, 0, by rw [if_pos ho], by omega, parse_text ho, fun _ => ⟨rfl, rfl⟩⟩
      · exact ⟨[], 10, zeroF, 11, by rw [if_neg ho], by simp, parse_empty, fun h => by omega⟩
    rw [hstr]
    simp only [hb1, hb2, go_sem, List.take_length, Nat.le_refl, Nat.add_zero, Nat.zero_add, ↓reduceIte, Nat.reduceEqDiff, Nat.reduceLT, Nat.reduceLeDiff, Nat.reduceAdd, Nat.reduceMul, Nat.reduceSub, Int.reduceNeg, Int.reduceToNat, Int.reduceAdd, Int.reduceSub, Int.reduceMul, Int.reduceLE, Int.reduceLT, Int.reduceEq, Int.reduceNe, true_and, and_true, reduceCtorEq, eq_self, not_true, not_false_iff, false_or, or_false, true_or, or_true, ne_eq, forall_const, implies_true, Bool.false_eq_true, Bool.true_eq_false, not_false_eq_true]
    refine Check_spec hG f ?_
    simp only [hb1, hb2, go_sem, List.take_length, Nat.le_refl, Nat.add_zero, Nat.zero_add, ↓reduceIte, Nat.reduceEqDiff, Nat.reduceLT, Nat.reduceLeDiff, Nat.reduceAdd, Nat.reduceMul, Nat.reduceSub, Int.reduceNeg, Int.reduceToNat, Int.reduceAdd, Int.reduceSub, Int.reduceMul, Int.reduceLE, Int.reduceLT, Int.reduceEq, Int.reduceNe, true_and, and_true, reduceCtorEq, eq_self, not_true, not_false_iff, false_or, or_false, true_or, or_true, ne_eq, forall_const, implies_true, Bool.false_eq_true, Bool.true_eq_false, not_false_eq_true]
    refine Plain_spec hG f ?_
    simp only [hb1, hb2, go_sem, List.take_length, Nat.le_refl, Nat.add_zero, Nat.zero_add, ↓reduceIte, Nat.reduceEqDiff, Nat.reduceLT, Nat.reduceLeDiff, Nat.reduceAdd, Nat.reduceMul, Nat.reduceSub, Int.reduceNeg, Int.reduceToNat, Int.reduceAdd, Int.reduceSub, Int.reduceMul, Int.reduceLE, Int.reduceLT, Int.reduceEq, Int.reduceNe, true_and, and_true, reduceCtorEq, eq_self, not_true, not_false_iff, false_or, or_false, true_or, or_true, ne_eq, forall_const, implies_true, Bool.false_eq_true, Bool.true_eq_false, not_false_eq_true]
    refine Polynomial_spec hG f ?_
    simp only [hb1, hb2, go_sem, List.take_length, Nat.le_refl, Nat.add_zero, Nat.zero_add, ↓reduceIte, Nat.reduceEqDiff, Nat.reduceLT, Nat.reduceLeDiff, Nat.reduceAdd, Nat.reduceMul, Nat.reduceSub, Int.reduceNeg, Int.reduceToNat, Int.reduceAdd, Int.reduceSub, Int.reduceMul, Int.reduceLE, Int.reduceLT, Int.reduceEq, Int.reduceNe, true_and, and_true, reduceCtorEq, eq_self, not_true, not_false_iff, false_or, or_false, true_or, or_true, ne_eq, forall_const, implies_true, Bool.false_eq_true, Bool.true_eq_false, not_false_eq_true]
    refine Parse_own hG 200 s _ _ hl g e2 hp ?_
    intro S1 A cap hsub hlen htree
    simp only [hb1, hb2, go_sem, List.take_length, Nat.le_refl, Nat.add_zero, Nat.zero_add, ↓reduceIte, Nat.reduceEqDiff, Nat.reduceLT, Nat.reduceLeDiff, Nat.reduceAdd, Nat.reduceMul, Nat.reduceSub, Int.reduceNeg, Int.reduceToNat, Int.reduceAdd, Int.reduceSub, Int.reduceMul, Int.reduceLE, Int.reduceLT, Int.reduceEq, Int.reduceNe, true_and, and_true, reduceCtorEq, eq_self, not_true, not_false_iff, false_or, or_false, true_or, or_true, ne_eq, forall_const, implies_true, Bool.false_eq_true, Bool.true_eq_false, not_false_eq_true]
    intro b3 vs3 hb3; try simp only [upd_none, set_none, del_none] at hb3
    simp only [hb3, go_sem, List.take_length, Nat.le_refl, Nat.add_zero, Nat.zero_add, ↓reduceIte, Nat.reduceEqDiff, Nat.reduceLT, Nat.reduceLeDiff, Nat.reduceAdd, Nat.reduceMul, Nat.reduceSub, Int.reduceNeg, Int.reduceToNat, Int.reduceAdd, Int.reduceSub, Int.reduceMul, Int.reduceLE, Int.reduceLT, Int.reduceEq, Int.reduceNe, true_and, and_true, reduceCtorEq, eq_self, not_true, not_false_iff, false_or, or_false, true_or, or_true, ne_eq, forall_const, implies_true, Bool.false_eq_true, Bool.true_eq_false, not_false_eq_true]
    intro u3
    refine change_own hsub hb3 hlen htree ?_
    simp only [hb1, hb2, go_sem, List.take_length, Nat.le_refl, Nat.add_zero, Nat.zero_add, ↓reduceIte, Nat.reduceEqDiff, Nat.reduceLT, Nat.reduceLeDiff, Nat.reduceAdd, Nat.reduceMul, Nat.reduceSub, Int.reduceNeg, Int.reduceToNat, Int.reduceAdd, Int.reduceSub, Int.reduceMul, Int.reduceLE, Int.reduceLT, Int.reduceEq, Int.reduceNe, true_and, and_true, reduceCtorEq, eq_self, not_true, not_false_iff, false_or, or_false, true_or, or_true, ne_eq, forall_const, implies_true, Bool.false_eq_true, Bool.true_eq_false, not_false_eq_true]
    refine Parse_spec hG 200 s _ _ hl g e2 hp ?_
    simp only [hb1, hb2, go_sem, List.take_length, Nat.le_refl, Nat.add_zero, Nat.zero_add, ↓reduceIte, Nat.reduceEqDiff, Nat.reduceLT, Nat.reduceLeDiff, Nat.reduceAdd, Nat.reduceMul, Nat.reduceSub, Int.reduceNeg, Int.reduceToNat, Int.reduceAdd, Int.reduceSub, Int.reduceMul, Int.reduceLE, Int.reduceLT, Int.reduceEq, Int.reduceNe, true_and, and_true, reduceCtorEq, eq_self, not_true, not_false_iff, false_or, or_false, true_or, or_true, ne_eq, forall_const, implies_true, Bool.false_eq_true, Bool.true_eq_false, not_false_eq_true]
    intro b4 vs4 hb4; try simp only [upd_none, set_none, del_none] at hb4
    simp only [hb1, hb2, hb4, go_sem, List.take_length, Nat.le_refl, Nat.add_zero, Nat.zero_add, ↓reduceIte, Nat.reduceEqDiff, Nat.reduceLT, Nat.reduceLeDiff, Nat.reduceAdd, Nat.reduceMul, Nat.reduceSub, Int.reduceNeg, Int.reduceToNat, Int.reduceAdd, Int.reduceSub, Int.reduceMul, Int.reduceLE, Int.reduceLT, Int.reduceEq, Int.reduceNe, true_and, and_true, reduceCtorEq, eq_self, not_true, not_false_iff, false_or, or_false, true_or, or_true, ne_eq, forall_const, implies_true, Bool.false_eq_true, Bool.true_eq_false, not_false_eq_true]
    intro u4
    refine same_spec f f _ _ ?_
    rw [sameF_self]
    by_cases he : e = 0
    · obtain ⟨h1, rfl⟩ := hback he
      simp only [he, h1, hb1, hb2, hb4, decide_true, Bool.not_true, go_sem, List.take_length, Nat.le_refl, Nat.add_zero, Nat.zero_add, ↓reduceIte, Nat.reduceEqDiff, Nat.reduceLT, Nat.reduceLeDiff, Nat.reduceAdd, Nat.reduceMul, Nat.reduceSub, Int.reduceNeg, Int.reduceToNat, Int.reduceAdd, Int.reduceSub, Int.reduceMul, Int.reduceLE, Int.reduceLT, Int.reduceEq, Int.reduceNe, true_and, and_true, reduceCtorEq, eq_self, not_true, not_false_iff, false_or, or_false, true_or, or_true, ne_eq, forall_const, implies_true, Bool.false_eq_true, Bool.true_eq_false, not_false_eq_true]
      refine acalls_weak (args := [.agg (encF g), .agg (encF g)]) ⟨weakPF g, Weak.refl _, trivial⟩ ?_
      refine same_spec g g _ _ ?_
      rw [sameF_self]
      simp only [hb1, hb2, hb4, go_sem, List.take_length, Nat.le_refl, Nat.add_zero, Nat.zero_add, ↓reduceIte, Nat.reduceEqDiff, Nat.reduceLT, Nat.reduceLeDiff, Nat.reduceAdd, Nat.reduceMul, Nat.reduceSub, Int.reduceNeg, Int.reduceToNat, Int.reduceAdd, Int.reduceSub, Int.reduceMul, Int.reduceLE, Int.reduceLT, Int.reduceEq, Int.reduceNe, true_and, and_true, reduceCtorEq, eq_self, not_true, not_false_iff, false_or, or_false, true_or, or_true, ne_eq, forall_const, implies_true, Bool.false_eq_true, Bool.true_eq_false, not_false_eq_true]
      refine awake_spec hG _ _ ?_
      simp only [hb1, hb2, hb4, go_sem, List.take_length, Nat.le_refl, Nat.add_zero, Nat.zero_add, ↓reduceIte, Nat.reduceEqDiff, Nat.reduceLT, Nat.reduceLeDiff, Nat.reduceAdd, Nat.reduceMul, Nat.reduceSub, Int.reduceNeg, Int.reduceToNat, Int.reduceAdd, Int.reduceSub, Int.reduceMul, Int.reduceLE, Int.reduceLT, Int.reduceEq, Int.reduceNe, true_and, and_true, reduceCtorEq, eq_self, not_true, not_false_iff, false_or, or_false, true_or, or_true, ne_eq, forall_const, implies_true, Bool.false_eq_true, Bool.true_eq_false, not_false_eq_true]
      exact aret_same h (by (repeat' (first | exact Sub.refl _ | (with_reducible apply sub_upd_l; focus (simp only [hb1, hb2, hb4, go_sem, ↓reduceIte]; done)) | (with_reducible apply sub_upd_r; focus (first | assumption | (simp only [hb1, hb2, hb4, upd_none, set_none, true_and, and_true, not_false_iff]; done))))))
    · simp only [he, hb1, hb2, hb4, decide_false, Bool.not_false, go_sem, List.take_length, Nat.le_refl, Nat.add_zero, Nat.zero_add, ↓reduceIte, Nat.reduceEqDiff, Nat.reduceLT, Nat.reduceLeDiff, Nat.reduceAdd, Nat.reduceMul, Nat.reduceSub, Int.reduceNeg, Int.reduceToNat, Int.reduceAdd, Int.reduceSub, Int.reduceMul, Int.reduceLE, Int.reduceLT, Int.reduceEq, Int.reduceNe, true_and, and_true, reduceCtorEq, eq_self, not_true, not_false_iff, false_or, or_false, true_or, or_true, ne_eq, forall_const, implies_true, Bool.false_eq_true, Bool.true_eq_false, not_false_eq_true]
      refine awake_spec hG _ _ ?_
      simp only [hb1, hb2, hb4, go_sem, List.take_length, Nat.le_refl, Nat.add_zero, Nat.zero_add, ↓reduceIte, Nat.reduceEqDiff, Nat.reduceLT, Nat.reduceLeDiff, Nat.reduceAdd, Nat.reduceMul, Nat.reduceSub, Int.reduceNeg, Int.reduceToNat, Int.reduceAdd, Int.reduceSub, Int.reduceMul, Int.reduceLE, Int.reduceLT, Int.reduceEq, Int.reduceNe, true_and, and_true, reduceCtorEq, eq_self, not_true, not_false_iff, false_or, or_false, true_or, or_true, ne_eq, forall_const, implies_true, Bool.false_eq_true, Bool.true_eq_false, not_false_eq_true]
      exact aret_same h (by (repeat' (first | exact Sub.refl _ | (with_reducible apply sub_upd_l; focus (simp only [hb1, hb2, hb4, go_sem, ↓reduceIte]; done)) | (with_reducible apply sub_upd_r; focus (first | assumption | (simp only [hb1, hb2, hb4, upd_none, set_none, true_and, and_true, not_false_iff]; done))))))
  · simp only [hf, hb1, go_sem, List.take_length, Nat.le_refl, Nat.add_zero, Nat.zero_add, ↓reduceIte, Nat.reduceEqDiff, Nat.reduceLT, Nat.reduceLeDiff, Nat.reduceAdd, Nat.reduceMul, Nat.reduceSub, Int.reduceNeg, Int.reduceToNat, Int.reduceAdd, Int.reduceSub, Int.reduceMul, Int.reduceLE, Int.reduceLT, Int.reduceEq, Int.reduceNe, true_and, and_true, reduceCtorEq, eq_self, not_true, not_false_iff, false_or, or_false, true_or, or_true, ne_eq, forall_const, implies_true, Bool.false_eq_true, Bool.true_eq_false, not_false_eq_true]
    refine awake_spec hG _ _ ?_
    simp only [hb1, go_sem, List.take_length, Nat.le_refl, Nat.add_zero, Nat.zero_add, ↓reduceIte, Nat.reduceEqDiff, Nat.reduceLT, Nat.reduceLeDiff, Nat.reduceAdd, Nat.reduceMul, Nat.reduceSub, Int.reduceNeg, Int.reduceToNat, Int.reduceAdd, Int.reduceSub, Int.reduceMul, Int.reduceLE, Int.reduceLT, Int.reduceEq, Int.reduceNe, true_and, and_true, reduceCtorEq, eq_self, not_true, not_false_iff, false_or, or_false, true_or, or_true, ne_eq, forall_const, implies_true, Bool.false_eq_true, Bool.true_eq_false, not_false_eq_true]
    exact aret_same h (by (repeat' (first | exact Sub.refl _ | (with_reducible apply sub_upd_l; focus (simp only [hb1, go_sem, ↓reduceIte]; done)) | (with_reducible apply sub_upd_r; focus (first | assumption | (simp only [hb1, upd_none, set_none, true_and, and_true, not_false_iff]; done))))))
end
end Go.Proofs.YtaeobokijndboaaDoor
