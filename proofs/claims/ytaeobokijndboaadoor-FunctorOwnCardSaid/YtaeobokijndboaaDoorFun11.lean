/- Functors: Parse. -/
import Derived.Test.YtaeobokijndboaaDoorAbs14
import Derived.Test.YtaeobokijndboaaDoorFun10
set_option linter.unusedSimpArgs false
set_option linter.unusedVariables false
set_option maxRecDepth 100000
namespace Go.Proofs.YtaeobokijndboaaDoor
open Go Go.Proofs.Abs

mutual
theorem cellsPF (mk : Nat) (r : RO) : ∀ (f : Fun) (b off : Nat), relCells r (encP mk f) b off → relCells r (encF f) b off
  | .mk k n l, b, off, h => by
    simp only [encP, encF, relCells, rel, growOk, encPL_map] at h ⊢
    obtain ⟨h1, h2, h3, h4, h5, ⟨u, h6, A, cap, h7, h8, h9, h10, h11⟩, h12⟩ := h
    refine ⟨h1, h2, h3, h4, h5, ⟨u, h6, A, cap, by simpa using h7, by simpa using h8, h9, trivial, ?_⟩, h12⟩
    rcases h11 with ⟨g2, g3⟩ | ⟨b', o', g1, g2⟩
    · exact .inl ⟨by simp at g2; simp [g2], g3⟩
    · exact .inr ⟨b', o', g1, rowsPF mk r l b' o' g2⟩
theorem rowsPF (mk : Nat) (r : RO) : ∀ (l : List Fun) (b off : Nat), relRows r 3 (l.map (encP mk)) b off → relRows r 3 (l.map encF) b off
  | [], _, _, h => by simp [relRows]
  | f :: l, b, off, h => by
    simp only [List.map_cons, relRows] at h ⊢
    exact ⟨encF_len f, cellsPF mk r f b off h.2.1, rowsPF mk r l b (off + 3) h.2.2⟩
end
theorem weakPF {mk : Nat} (f : Fun) : Weak (.agg (encP mk f)) (.agg (encF f)) := by
  rw [encP_eq, encF_eq]
  refine weak_agg ⟨⟨rfl, Weak.refl _⟩, ⟨rfl, Weak.refl _⟩, ⟨rfl, ?_⟩, trivial⟩
  intro r u hu
  simp only [rel, growOk] at hu ⊢
  obtain ⟨A, cap, h7, h8, h9, h10, h11⟩ := hu
  refine ⟨A, cap, by simpa using h7, by simpa using h8, h9, trivial, ?_⟩
  rcases h11 with ⟨g2, g3⟩ | ⟨b', o', g1, g2⟩
  · exact .inl ⟨by simp at g2; simp [g2], g3⟩
  · exact .inr ⟨b', o', g1, rowsPF mk r f.args b' o' g2⟩

def zeroF : Fun := .mk 0 0 []
/-- what Parse returns, where the parser's fuel and numbers allow to say it -/
def parseS (n : Nat) (s : List UInt8) : Option (Fun × Int) :=
  if 40000 < s.length then some (zeroF, 2)
  else match allP n s with
    | .out => none
    | .bad => some (zeroF, 11)
    | .ok f r => if trimL 32 r ≠ [] then some (zeroF, 11) else if okF f = true then some (f, 0) else some (zeroF, 10)

section
variable {G : Glob}

theorem quiet (b2 b3 : Nat) (S : St) (R : St → Prop) (h : R S) : DefOk Tryd.prog G 20 #[.pointer (some ⟨b2, 0, none⟩), .pointer (some ⟨b3, 0, none⟩)] none S R := by
  refine defOk_of_awp Tryd.func20 rfl (by rw [Tryd.results20]) (by rw [Tryd.ntmps20]; simp) (by rw [Tryd.ntmps20]; omega) (by rw [Tryd.ntmps20]; omega) (by simp [Value.oneCell']) ?_
  rw [Tryd.ntmps20]
  simp only [Option.getD_none, go_sem, List.take_length, Nat.le_refl, Nat.add_zero, Nat.zero_add, ↓reduceIte, Nat.reduceEqDiff, Nat.reduceLT, Nat.reduceLeDiff, Nat.reduceAdd, Nat.reduceMul, Nat.reduceSub, Int.reduceNeg, Int.reduceToNat, Int.reduceAdd, Int.reduceSub, Int.reduceMul, Int.reduceLE, Int.reduceLT, Int.reduceEq, Int.reduceNe, true_and, and_true, reduceCtorEq, eq_self, not_true, not_false_iff, false_or, or_false, true_or, or_true, ne_eq, forall_const, implies_true, Bool.false_eq_true, Bool.true_eq_false, not_false_eq_true]
  exact h

theorem caught (b2 b3 : Nat) (S : St) (R : St → Prop) (cs : List AVal) (us2 us3 : Array Value) (x : AVal) (hS2 : S.get b2 = some (.box cs us2)) (hcs : cs.length = 3) (hS3 : S.get b3 = some (.box [x] us3)) (hbb : ¬ b2 = b3 ∧ ¬ b3 = b2)
    (h : ∀ b5 o, S b5 = none → ∀ u v, R (((S.set b2 (.box [int .i64 0, int .i64 0, .sl 0 [] (.own none)] u)).set b3 (.box [int .i64 11] v)).upd b5 o)) :
    DefOk Tryd.prog G 20 #[.pointer (some ⟨b2, 0, none⟩), .pointer (some ⟨b3, 0, none⟩)] (some wrongV) S R := by
  refine defOk_of_awp Tryd.func20 rfl (by rw [Tryd.results20]) (by rw [Tryd.ntmps20]; simp) (by rw [Tryd.ntmps20]; omega) (by rw [Tryd.ntmps20]; omega) (by simp [Value.oneCell']) ?_
  rw [Tryd.ntmps20]
  simp only [Option.getD_some, go_sem, List.take_length, Nat.le_refl, Nat.add_zero, Nat.zero_add, ↓reduceIte, Nat.reduceEqDiff, Nat.reduceLT, Nat.reduceLeDiff, Nat.reduceAdd, Nat.reduceMul, Nat.reduceSub, Int.reduceNeg, Int.reduceToNat, Int.reduceAdd, Int.reduceSub, Int.reduceMul, Int.reduceLE, Int.reduceLT, Int.reduceEq, Int.reduceNe, true_and, and_true, reduceCtorEq, eq_self, not_true, not_false_iff, false_or, or_false, true_or, or_true, ne_eq, forall_const, implies_true, Bool.false_eq_true, Bool.true_eq_false, not_false_eq_true]
  intro b5 vs5 hb5; try simp only [upd_none, set_none, del_none] at hb5
  have hb52 := get_ne hS2 hb5
  have hb53 := get_ne hS3 hb5
  simp only [hb5, hb52, hb53, hS2, hS3, hbb, hcs, go_sem, List.take_length, Nat.le_refl, Nat.add_zero, Nat.zero_add, ↓reduceIte, Nat.reduceEqDiff, Nat.reduceLT, Nat.reduceLeDiff, Nat.reduceAdd, Nat.reduceMul, Nat.reduceSub, Int.reduceNeg, Int.reduceToNat, Int.reduceAdd, Int.reduceSub, Int.reduceMul, Int.reduceLE, Int.reduceLT, Int.reduceEq, Int.reduceNe, true_and, and_true, reduceCtorEq, eq_self, not_true, not_false_iff, false_or, or_false, true_or, or_true, ne_eq, forall_const, implies_true, Bool.false_eq_true, Bool.true_eq_false, not_false_eq_true]
  intro u1 u2 u3
  exact h b5 _ hb5 u2 u3

theorem Parse_spec (hG : G 0 = some formsA) (n : Nat) (s : List UInt8) (S : St) (R : AEnd → St → Prop) (hl : s.length ≤ 1000000000) (f : Fun) (e : Int) (hp : parseS n s = some (f, e))
    (h : R (.ret (.tup [.agg (encP G.mark f), int .i64 e])) S) : ACalls Tryd.prog G 11 [str s] S R := by
  refine acalls_of_awpX Tryd.func11 rfl (by rw [Tryd.ntmps11]; simp) ?_; rw [Tryd.ntmps11, Tryd.results11]
  simp only [go_sem, List.take_length, Nat.le_refl, Nat.add_zero, Nat.zero_add, ↓reduceIte, Nat.reduceEqDiff, Nat.reduceLT, Nat.reduceLeDiff, Nat.reduceAdd, Nat.reduceMul, Nat.reduceSub, Int.reduceNeg, Int.reduceToNat, Int.reduceAdd, Int.reduceSub, Int.reduceMul, Int.reduceLE, Int.reduceLT, Int.reduceEq, Int.reduceNe, true_and, and_true, reduceCtorEq, eq_self, not_true, not_false_iff, false_or, or_false, true_or, or_true, ne_eq, forall_const, implies_true, Bool.false_eq_true, Bool.true_eq_false, not_false_eq_true]
  intro b2 vs2 hb2; try simp only [upd_none, set_none, del_none] at hb2
  simp only [go_sem, List.take_length, Nat.le_refl, Nat.add_zero, Nat.zero_add, ↓reduceIte, Nat.reduceEqDiff, Nat.reduceLT, Nat.reduceLeDiff, Nat.reduceAdd, Nat.reduceMul, Nat.reduceSub, Int.reduceNeg, Int.reduceToNat, Int.reduceAdd, Int.reduceSub, Int.reduceMul, Int.reduceLE, Int.reduceLT, Int.reduceEq, Int.reduceNe, true_and, and_true, reduceCtorEq, eq_self, not_true, not_false_iff, false_or, or_false, true_or, or_true, ne_eq, forall_const, implies_true, Bool.false_eq_true, Bool.true_eq_false, not_false_eq_true]
  intro b3 vs3 hb3; try simp only [upd_none, set_none, del_none] at hb3
  simp only [hb2, hb3, go_sem, List.take_length, Nat.le_refl, Nat.add_zero, Nat.zero_add, ↓reduceIte, Nat.reduceEqDiff, Nat.reduceLT, Nat.reduceLeDiff, Nat.reduceAdd, Nat.reduceMul, Nat.reduceSub, Int.reduceNeg, Int.reduceToNat, Int.reduceAdd, Int.reduceSub, Int.reduceMul, Int.reduceLE, Int.reduceLT, Int.reduceEq, Int.reduceNe, true_and, and_true, reduceCtorEq, eq_self, not_true, not_false_iff, false_or, or_false, true_or, or_true, ne_eq, forall_const, implies_true, Bool.false_eq_true, Bool.true_eq_false, not_false_eq_true]
  unfold parseS at hp
  by_cases h4 : 40000 < s.length
  · rw [if_pos h4] at hp
    simp only [Option.some.injEq, Prod.mk.injEq] at hp
    obtain ⟨rfl, rfl⟩ := hp
    have e4 : (40000 : Int) < (s.length : Int) := by omega
    simp only [e4, decide_true, hb2, hb3, go_sem, List.take_length, Nat.le_refl, Nat.add_zero, Nat.zero_add, ↓reduceIte, Nat.reduceEqDiff, Nat.reduceLT, Nat.reduceLeDiff, Nat.reduceAdd, Nat.reduceMul, Nat.reduceSub, Int.reduceNeg, Int.reduceToNat, Int.reduceAdd, Int.reduceSub, Int.reduceMul, Int.reduceLE, Int.reduceLT, Int.reduceEq, Int.reduceNe, true_and, and_true, reduceCtorEq, eq_self, not_true, not_false_iff, false_or, or_false, true_or, or_true, ne_eq, forall_const, implies_true, Bool.false_eq_true, Bool.true_eq_false, not_false_eq_true]
    intro us1 us2
    exact aret_intro h (by (repeat' (first | exact Sub.refl _ | (with_reducible apply sub_upd_l; focus (simp only [hb2, hb3, go_sem, ↓reduceIte]; done)) | (with_reducible apply sub_upd_r; focus (first | assumption | (simp only [hb2, hb3, upd_none, set_none, true_and, and_true, not_false_iff]; done)))))) (weak_tup ⟨weak_fun0, Weak.refl _, trivial⟩)
  · rw [if_neg h4] at hp
    have e4 : ¬ (40000 : Int) < (s.length : Int) := by omega
    simp only [e4, decide_false, hb2, hb3, go_sem, List.take_length, Nat.le_refl, Nat.add_zero, Nat.zero_add, ↓reduceIte, Nat.reduceEqDiff, Nat.reduceLT, Nat.reduceLeDiff, Nat.reduceAdd, Nat.reduceMul, Nat.reduceSub, Int.reduceNeg, Int.reduceToNat, Int.reduceAdd, Int.reduceSub, Int.reduceMul, Int.reduceLE, Int.reduceLT, Int.reduceEq, Int.reduceNe, true_and, and_true, reduceCtorEq, eq_self, not_true, not_false_iff, false_or, or_false, true_or, or_true, ne_eq, forall_const, implies_true, Bool.false_eq_true, Bool.true_eq_false, not_false_eq_true]
    intro b4 vs4 hb4; try simp only [upd_none, set_none, del_none] at hb4
    simp only [hb2, hb3, hb4, go_sem, List.take_length, Nat.le_refl, Nat.add_zero, Nat.zero_add, ↓reduceIte, Nat.reduceEqDiff, Nat.reduceLT, Nat.reduceLeDiff, Nat.reduceAdd, Nat.reduceMul, Nat.reduceSub, Int.reduceNeg, Int.reduceToNat, Int.reduceAdd, Int.reduceSub, Int.reduceMul, Int.reduceLE, Int.reduceLT, Int.reduceEq, Int.reduceNe, true_and, and_true, reduceCtorEq, eq_self, not_true, not_false_iff, false_or, or_false, true_or, or_true, ne_eq, forall_const, implies_true, Bool.false_eq_true, Bool.true_eq_false, not_false_eq_true]
    have hm : Met G.mark b4 ((S.upd b2 (.box [int .i64 0, int .i64 0, .sl 0 [] (.own none)] vs2)).upd b3 (.box [int .i64 0] vs3)) (fun _ _ => True) (allP n s) ∨ True := .inr trivial
    refine all_spec n s b4 vs4 _ _ hl (by simp only [hb2, hb3, hb4, go_sem, List.take_length, Nat.le_refl, Nat.add_zero, Nat.zero_add, ↓reduceIte, Nat.reduceEqDiff, Nat.reduceLT, Nat.reduceLeDiff, Nat.reduceAdd, Nat.reduceMul, Nat.reduceSub, Int.reduceNeg, Int.reduceToNat, Int.reduceAdd, Int.reduceSub, Int.reduceMul, Int.reduceLE, Int.reduceLT, Int.reduceEq, Int.reduceNe, true_and, and_true, reduceCtorEq, eq_self, not_true, not_false_iff, false_or, or_false, true_or, or_true, ne_eq, forall_const, implies_true, Bool.false_eq_true, Bool.true_eq_false, not_false_eq_true]) ?_
    cases hpp : allP n s with
    | out => rw [hpp] at hp; cases hp
    | bad =>
      rw [hpp] at hp
      simp only [Option.some.injEq, Prod.mk.injEq] at hp
      obtain ⟨rfl, rfl⟩ := hp
      intro s' us'
      simp only [hb2, hb3, hb4, go_sem, List.take_length, Nat.le_refl, Nat.add_zero, Nat.zero_add, ↓reduceIte, Nat.reduceEqDiff, Nat.reduceLT, Nat.reduceLeDiff, Nat.reduceAdd, Nat.reduceMul, Nat.reduceSub, Int.reduceNeg, Int.reduceToNat, Int.reduceAdd, Int.reduceSub, Int.reduceMul, Int.reduceLE, Int.reduceLT, Int.reduceEq, Int.reduceNe, true_and, and_true, reduceCtorEq, eq_self, not_true, not_false_iff, false_or, or_false, true_or, or_true, ne_eq, forall_const, implies_true, Bool.false_eq_true, Bool.true_eq_false, not_false_eq_true]
      refine ⟨by simp only [go_sem], caught b2 b3 _ _ [int .i64 0, int .i64 0, .sl 0 [] (.own none)] vs2 vs3 (int .i64 0) (by simp only [hb2, hb3, hb4, go_sem, List.take_length, Nat.le_refl, Nat.add_zero, Nat.zero_add, ↓reduceIte, Nat.reduceEqDiff, Nat.reduceLT, Nat.reduceLeDiff, Nat.reduceAdd, Nat.reduceMul, Nat.reduceSub, Int.reduceNeg, Int.reduceToNat, Int.reduceAdd, Int.reduceSub, Int.reduceMul, Int.reduceLE, Int.reduceLT, Int.reduceEq, Int.reduceNe, true_and, and_true, reduceCtorEq, eq_self, not_true, not_false_iff, false_or, or_false, true_or, or_true, ne_eq, forall_const, implies_true, Bool.false_eq_true, Bool.true_eq_false, not_false_eq_true]) rfl (by simp only [hb2, hb3, hb4, go_sem, List.take_length, Nat.le_refl, Nat.add_zero, Nat.zero_add, ↓reduceIte, Nat.reduceEqDiff, Nat.reduceLT, Nat.reduceLeDiff, Nat.reduceAdd, Nat.reduceMul, Nat.reduceSub, Int.reduceNeg, Int.reduceToNat, Int.reduceAdd, Int.reduceSub, Int.reduceMul, Int.reduceLE, Int.reduceLT, Int.reduceEq, Int.reduceNe, true_and, and_true, reduceCtorEq, eq_self, not_true, not_false_iff, false_or, or_false, true_or, or_true, ne_eq, forall_const, implies_true, Bool.false_eq_true, Bool.true_eq_false, not_false_eq_true]) ⟨hb3.1.1, hb3.1.2⟩ ?_⟩
      intro b5 o hb5 u v
      simp only [upd_none] at hb5
      simp only [hb2, hb3, hb4, hb5, go_sem, List.take_length, Nat.le_refl, Nat.add_zero, Nat.zero_add, ↓reduceIte, Nat.reduceEqDiff, Nat.reduceLT, Nat.reduceLeDiff, Nat.reduceAdd, Nat.reduceMul, Nat.reduceSub, Int.reduceNeg, Int.reduceToNat, Int.reduceAdd, Int.reduceSub, Int.reduceMul, Int.reduceLE, Int.reduceLT, Int.reduceEq, Int.reduceNe, true_and, and_true, reduceCtorEq, eq_self, not_true, not_false_iff, false_or, or_false, true_or, or_true, ne_eq, forall_const, implies_true, Bool.false_eq_true, Bool.true_eq_false, not_false_eq_true]
      exact aret_intro h (by (repeat' (first | exact Sub.refl _ | (with_reducible apply sub_upd_l; focus (simp only [hb2, hb3, hb4, hb5, go_sem, ↓reduceIte]; done)) | (with_reducible apply sub_upd_r; focus (first | assumption | (simp only [hb2, hb3, hb4, hb5, upd_none, set_none, true_and, and_true, not_false_iff]; done)))))) (weak_tup ⟨weak_fun0, Weak.refl _, trivial⟩)
    | ok g r =>
      rw [hpp] at hp
      simp only at hp
      intro us'
      simp only [hb2, hb3, hb4, go_sem, List.take_length, Nat.le_refl, Nat.add_zero, Nat.zero_add, ↓reduceIte, Nat.reduceEqDiff, Nat.reduceLT, Nat.reduceLeDiff, Nat.reduceAdd, Nat.reduceMul, Nat.reduceSub, Int.reduceNeg, Int.reduceToNat, Int.reduceAdd, Int.reduceSub, Int.reduceMul, Int.reduceLE, Int.reduceLT, Int.reduceEq, Int.reduceNe, true_and, and_true, reduceCtorEq, eq_self, not_true, not_false_iff, false_or, or_false, true_or, or_true, ne_eq, forall_const, implies_true, Bool.false_eq_true, Bool.true_eq_false, not_false_eq_true]
      intro us5
      have hr := allP_len n hpp
      refine next_spec r b4 us' _ _ (by omega) (by simp only [hb2, hb3, hb4, go_sem, List.take_length, Nat.le_refl, Nat.add_zero, Nat.zero_add, ↓reduceIte, Nat.reduceEqDiff, Nat.reduceLT, Nat.reduceLeDiff, Nat.reduceAdd, Nat.reduceMul, Nat.reduceSub, Int.reduceNeg, Int.reduceToNat, Int.reduceAdd, Int.reduceSub, Int.reduceMul, Int.reduceLE, Int.reduceLT, Int.reduceEq, Int.reduceNe, true_and, and_true, reduceCtorEq, eq_self, not_true, not_false_iff, false_or, or_false, true_or, or_true, ne_eq, forall_const, implies_true, Bool.false_eq_true, Bool.true_eq_false, not_false_eq_true]) ?_
      intro us6
      by_cases h0 : head0 (trimL 32 r) = 0
      · have e0 : ((head0 (trimL 32 r)).toNat : Int) = 0 := by rw [h0]; rfl
        by_cases ht : trimL 32 r = []
        · rw [if_neg (by simp [ht])] at hp
          have e00 : ((head0 ([] : List UInt8)).toNat : Int) = 0 := rfl
          simp only [e00, ht, hb2, hb3, hb4, decide_true, decide_false, go_sem, List.take_length, Nat.le_refl, Nat.add_zero, Nat.zero_add, ↓reduceIte, Nat.reduceEqDiff, Nat.reduceLT, Nat.reduceLeDiff, Nat.reduceAdd, Nat.reduceMul, Nat.reduceSub, Int.reduceNeg, Int.reduceToNat, Int.reduceAdd, Int.reduceSub, Int.reduceMul, Int.reduceLE, Int.reduceLT, Int.reduceEq, Int.reduceNe, true_and, and_true, reduceCtorEq, eq_self, not_true, not_false_iff, false_or, or_false, true_or, or_true, ne_eq, forall_const, implies_true, Bool.false_eq_true, Bool.true_eq_false, not_false_eq_true]
          refine acalls_weak (args := [.agg (encF g)]) ⟨weakPF g, trivial⟩ ?_
          refine Valid_spec hG g ?_
          cases hv : okF g with
          | false =>
            rw [hv] at hp
            simp only [Bool.false_eq_true, if_false, Option.some.injEq, Prod.mk.injEq] at hp
            obtain ⟨rfl, rfl⟩ := hp
            simp only [hb2, hb3, hb4, go_sem, List.take_length, Nat.le_refl, Nat.add_zero, Nat.zero_add, ↓reduceIte, Nat.reduceEqDiff, Nat.reduceLT, Nat.reduceLeDiff, Nat.reduceAdd, Nat.reduceMul, Nat.reduceSub, Int.reduceNeg, Int.reduceToNat, Int.reduceAdd, Int.reduceSub, Int.reduceMul, Int.reduceLE, Int.reduceLT, Int.reduceEq, Int.reduceNe, true_and, and_true, reduceCtorEq, eq_self, not_true, not_false_iff, false_or, or_false, true_or, or_true, ne_eq, forall_const, implies_true, Bool.false_eq_true, Bool.true_eq_false, not_false_eq_true]
            intro u7 u8
            refine ⟨by simp only [go_sem], quiet b2 b3 _ _ ?_⟩
            simp only [hb2, hb3, hb4, go_sem, List.take_length, Nat.le_refl, Nat.add_zero, Nat.zero_add, ↓reduceIte, Nat.reduceEqDiff, Nat.reduceLT, Nat.reduceLeDiff, Nat.reduceAdd, Nat.reduceMul, Nat.reduceSub, Int.reduceNeg, Int.reduceToNat, Int.reduceAdd, Int.reduceSub, Int.reduceMul, Int.reduceLE, Int.reduceLT, Int.reduceEq, Int.reduceNe, true_and, and_true, reduceCtorEq, eq_self, not_true, not_false_iff, false_or, or_false, true_or, or_true, ne_eq, forall_const, implies_true, Bool.false_eq_true, Bool.true_eq_false, not_false_eq_true]
            exact aret_intro h (by (repeat' (first | exact Sub.refl _ | (with_reducible apply sub_upd_l; focus (simp only [hb2, hb3, hb4, go_sem, ↓reduceIte]; done)) | (with_reducible apply sub_upd_r; focus (first | assumption | (simp only [hb2, hb3, hb4, upd_none, set_none, true_and, and_true, not_false_iff]; done)))))) (weak_tup ⟨weak_fun0, Weak.refl _, trivial⟩)
          | true =>
            rw [hv] at hp
            simp only [if_true, Option.some.injEq, Prod.mk.injEq] at hp
            obtain ⟨rfl, rfl⟩ := hp
            simp only [hb2, hb3, hb4, go_sem, List.take_length, Nat.le_refl, Nat.add_zero, Nat.zero_add, ↓reduceIte, Nat.reduceEqDiff, Nat.reduceLT, Nat.reduceLeDiff, Nat.reduceAdd, Nat.reduceMul, Nat.reduceSub, Int.reduceNeg, Int.reduceToNat, Int.reduceAdd, Int.reduceSub, Int.reduceMul, Int.reduceLE, Int.reduceLT, Int.reduceEq, Int.reduceNe, true_and, and_true, reduceCtorEq, eq_self, not_true, not_false_iff, false_or, or_false, true_or, or_true, ne_eq, forall_const, implies_true, Bool.false_eq_true, Bool.true_eq_false, not_false_eq_true]
            intro u7 u8
            refine ⟨by simp only [go_sem], quiet b2 b3 _ _ ?_⟩
            simp only [hb2, hb3, hb4, go_sem, List.take_length, Nat.le_refl, Nat.add_zero, Nat.zero_add, ↓reduceIte, Nat.reduceEqDiff, Nat.reduceLT, Nat.reduceLeDiff, Nat.reduceAdd, Nat.reduceMul, Nat.reduceSub, Int.reduceNeg, Int.reduceToNat, Int.reduceAdd, Int.reduceSub, Int.reduceMul, Int.reduceLE, Int.reduceLT, Int.reduceEq, Int.reduceNe, true_and, and_true, reduceCtorEq, eq_self, not_true, not_false_iff, false_or, or_false, true_or, or_true, ne_eq, forall_const, implies_true, Bool.false_eq_true, Bool.true_eq_false, not_false_eq_true]
            exact aret_same h (by (repeat' (first | exact Sub.refl _ | (with_reducible apply sub_upd_l; focus (simp only [hb2, hb3, hb4, go_sem, ↓reduceIte]; done)) | (with_reducible apply sub_upd_r; focus (first | assumption | (simp only [hb2, hb3, hb4, upd_none, set_none, true_and, and_true, not_false_iff]; done))))))
        · rw [if_pos ht] at hp
          simp only [Option.some.injEq, Prod.mk.injEq] at hp
          obtain ⟨rfl, rfl⟩ := hp
          simp only [e0, ht, hb2, hb3, hb4, decide_true, decide_false, go_sem, List.take_length, Nat.le_refl, Nat.add_zero, Nat.zero_add, ↓reduceIte, Nat.reduceEqDiff, Nat.reduceLT, Nat.reduceLeDiff, Nat.reduceAdd, Nat.reduceMul, Nat.reduceSub, Int.reduceNeg, Int.reduceToNat, Int.reduceAdd, Int.reduceSub, Int.reduceMul, Int.reduceLE, Int.reduceLT, Int.reduceEq, Int.reduceNe, true_and, and_true, reduceCtorEq, eq_self, not_true, not_false_iff, false_or, or_false, true_or, or_true, ne_eq, forall_const, implies_true, Bool.false_eq_true, Bool.true_eq_false, not_false_eq_true]
          intro u7 u8
          refine ⟨by simp only [go_sem], quiet b2 b3 _ _ ?_⟩
          simp only [hb2, hb3, hb4, go_sem, List.take_length, Nat.le_refl, Nat.add_zero, Nat.zero_add, ↓reduceIte, Nat.reduceEqDiff, Nat.reduceLT, Nat.reduceLeDiff, Nat.reduceAdd, Nat.reduceMul, Nat.reduceSub, Int.reduceNeg, Int.reduceToNat, Int.reduceAdd, Int.reduceSub, Int.reduceMul, Int.reduceLE, Int.reduceLT, Int.reduceEq, Int.reduceNe, true_and, and_true, reduceCtorEq, eq_self, not_true, not_false_iff, false_or, or_false, true_or, or_true, ne_eq, forall_const, implies_true, Bool.false_eq_true, Bool.true_eq_false, not_false_eq_true]
          exact aret_intro h (by (repeat' (first | exact Sub.refl _ | (with_reducible apply sub_upd_l; focus (simp only [hb2, hb3, hb4, go_sem, ↓reduceIte]; done)) | (with_reducible apply sub_upd_r; focus (first | assumption | (simp only [hb2, hb3, hb4, upd_none, set_none, true_and, and_true, not_false_iff]; done)))))) (weak_tup ⟨weak_fun0, Weak.refl _, trivial⟩)
      · have e0 : ¬ ((head0 (trimL 32 r)).toNat : Int) = 0 := fun h => h0 (UInt8.toNat_inj.1 (by have : (0 : UInt8).toNat = 0 := rfl; omega))
        have ht : trimL 32 r ≠ [] := by intro ht; rw [ht] at h0; exact h0 rfl
        rw [if_pos ht] at hp
        simp only [Option.some.injEq, Prod.mk.injEq] at hp
        obtain ⟨rfl, rfl⟩ := hp
        simp only [e0, hb2, hb3, hb4, decide_true, decide_false, go_sem, List.take_length, Nat.le_refl, Nat.add_zero, Nat.zero_add, ↓reduceIte, Nat.reduceEqDiff, Nat.reduceLT, Nat.reduceLeDiff, Nat.reduceAdd, Nat.reduceMul, Nat.reduceSub, Int.reduceNeg, Int.reduceToNat, Int.reduceAdd, Int.reduceSub, Int.reduceMul, Int.reduceLE, Int.reduceLT, Int.reduceEq, Int.reduceNe, true_and, and_true, reduceCtorEq, eq_self, not_true, not_false_iff, false_or, or_false, true_or, or_true, ne_eq, forall_const, implies_true, Bool.false_eq_true, Bool.true_eq_false, not_false_eq_true]
        intro u7 u8
        refine ⟨by simp only [go_sem], quiet b2 b3 _ _ ?_⟩
        simp only [hb2, hb3, hb4, go_sem, List.take_length, Nat.le_refl, Nat.add_zero, Nat.zero_add, ↓reduceIte, Nat.reduceEqDiff, Nat.reduceLT, Nat.reduceLeDiff, Nat.reduceAdd, Nat.reduceMul, Nat.reduceSub, Int.reduceNeg, Int.reduceToNat, Int.reduceAdd, Int.reduceSub, Int.reduceMul, Int.reduceLE, Int.reduceLT, Int.reduceEq, Int.reduceNe, true_and, and_true, reduceCtorEq, eq_self, not_true, not_false_iff, false_or, or_false, true_or, or_true, ne_eq, forall_const, implies_true, Bool.false_eq_true, Bool.true_eq_false, not_false_eq_true]
        exact aret_intro h (by (repeat' (first | exact Sub.refl _ | (with_reducible apply sub_upd_l; focus (simp only [hb2, hb3, hb4, go_sem, ↓reduceIte]; done)) | (with_reducible apply sub_upd_r; focus (first | assumption | (simp only [hb2, hb3, hb4, upd_none, set_none, true_and, and_true, not_false_iff]; done)))))) (weak_tup ⟨weak_fun0, Weak.refl _, trivial⟩)
end
end Go.Proofs.YtaeobokijndboaaDoor
