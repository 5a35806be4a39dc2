/- Functors: change, which writes into a functor that is owned. -/
import Derived.Test.YtaeobokijndboaaDoorAbs15
import Derived.Test.YtaeobokijndboaaDoorFun13
set_option linter.unusedSimpArgs false
set_option linter.unusedVariables false
set_option maxRecDepth 100000
namespace Go.Proofs.YtaeobokijndboaaDoor
open Go Go.Proofs.Abs

mutual
/-- a functor's node lies at an offset of a box, its list of arguments in boxes that may be written -/
def TreeS (p : Nat → Prop) (S : St) : Fun → Nat → Nat → Prop
  | .mk k n l, b, o => p b ∧ o % 3 = 0 ∧ l.length ≤ maxLen ∧ ∃ cs vs A cap, S b = some (.box cs vs) ∧ o + 3 ≤ cs.length ∧ cs[o + 2]? = some (.lit (.slice A l.length cap)) ∧ (l = [] ∨ ∃ b', A = some ⟨b', 0, none⟩ ∧ TreesS p S l b' 0)
def TreesS (p : Nat → Prop) (S : St) : List Fun → Nat → Nat → Prop
  | [], _, _ => True
  | f :: l, b, o => TreeS p S f b o ∧ TreesS p S l b (o + 3)
end

/-- what is written: bare numbers, never a list of arguments; and nothing outside of p -/
structure Kept (p : Nat → Prop) (S S' : St) : Prop where
  out : ∀ b, ¬ p b → S' b = S b
  box : ∀ b cs vs, S b = some (.box cs vs) → ∃ cs' vs', S' b = some (.box cs' vs') ∧ cs'.length = cs.length ∧ ∀ i, i % 3 = 2 → cs'[i]? = cs[i]?
theorem Kept.refl (p : Nat → Prop) (S : St) : Kept p S S := ⟨fun _ _ => rfl, fun b cs vs h => ⟨cs, vs, h, rfl, fun _ _ => rfl⟩⟩
theorem Kept.trans {p : Nat → Prop} {a b c : St} (h : Kept p a b) (k : Kept p b c) : Kept p a c := by
  refine ⟨fun x hx => (k.out x hx).trans (h.out x hx), fun x cs vs hx => ?_⟩
  obtain ⟨cs', vs', h1, h2, h3⟩ := h.box x cs vs hx
  obtain ⟨cs'', vs'', k1, k2, k3⟩ := k.box x cs' vs' h1
  exact ⟨cs'', vs'', k1, k2.trans h2, fun i hi => (k3 i hi).trans (h3 i hi)⟩

mutual
theorem TreeS.kept {p : Nat → Prop} {S S' : St} (hk : Kept p S S') : ∀ (f : Fun) (b o : Nat), TreeS p S f b o → TreeS p S' f b o
  | .mk k n l, b, o, h => by
    simp only [TreeS] at h ⊢
    obtain ⟨h1, h2, hm, cs, vs, A, cap, h3, h4, h5, h6⟩ := h
    obtain ⟨cs', vs', k1, k2, k3⟩ := hk.box b cs vs h3
    refine ⟨h1, h2, hm, cs', vs', A, cap, k1, by omega, (k3 (o + 2) (by omega)).trans h5, ?_⟩
    rcases h6 with h6 | ⟨b', h6, h7⟩
    · exact .inl h6
    · exact .inr ⟨b', h6, TreesS.kept hk l b' 0 h7⟩
theorem TreesS.kept {p : Nat → Prop} {S S' : St} (hk : Kept p S S') : ∀ (l : List Fun) (b o : Nat), TreesS p S l b o → TreesS p S' l b o
  | [], _, _, _ => by simp only [TreesS]
  | f :: l, b, o, h => by
    simp only [TreesS] at h ⊢
    exact ⟨TreeS.kept hk f b o h.1, TreesS.kept hk l b (o + 3) h.2⟩
end
theorem TreesS.get {p : Nat → Prop} {S : St} : ∀ {l : List Fun} {b o i : Nat} {f : Fun}, TreesS p S l b o → l[i]? = some f → TreeS p S f b (o + i * 3)
  | [], b, o, i, f, h, hf => by simp at hf
  | g :: l, b, o, 0, f, h, hf => by simp only [TreesS] at h; simp at hf; subst hf; simpa using h.1
  | g :: l, b, o, i + 1, f, h, hf => by
    simp only [TreesS] at h
    have := TreesS.get h.2 (by simpa using hf : l[i]? = some f)
    rwa [show o + 3 + i * 3 = o + (i + 1) * 3 by omega] at this

theorem splice_len1 {cs : List AVal} {o : Nat} {x : AVal} (h : o + 1 ≤ cs.length) : (splice cs o [x]).length = cs.length := by simp [splice]; omega
theorem splice_get1 {cs : List AVal} {o i : Nat} {x : AVal} (h : o + 1 ≤ cs.length) (hi : i ≠ o) : (splice cs o [x])[i]? = cs[i]? := by
  simp only [splice, List.length_singleton, List.append_assoc]
  rw [List.getElem?_append]
  simp only [List.length_take]
  split
  · rw [List.getElem?_take, if_pos (by omega)]
  · rw [List.singleton_append, show min o cs.length = o by omega]
    obtain ⟨j, rfl⟩ : ∃ j, i = o + 1 + j := ⟨i - o - 1, by omega⟩
    rw [show o + 1 + j - o = j + 1 by omega, List.getElem?_cons_succ, List.getElem?_drop]

section
variable {G : Glob}

theorem change_spec (p : Nat → Prop) : ∀ (f : Fun) (b o : Nat) (S : St) (R : AEnd → St → Prop), TreeS p S f b o → (∀ S', Kept p S S' → R (.ret (.tup [])) S') →
    ACalls Tryd.prog G 12 [ptr b o] S R
  | .mk k n l, b, o, S, R, ht, h => by
    have ht0 := ht
    simp only [TreeS] at ht
    obtain ⟨hp, ho, hm, cs, vs, A, cap, hS, hlen, hcell, hargs⟩ := ht
    simp only [maxLen] at hm
    refine acalls_of_awp Tryd.func12 rfl (by rw [Tryd.ntmps12]; simp) ?_; rw [Tryd.ntmps12, Tryd.results12]
    have hS' : S.get b = some (.box cs vs) := hS
    simp only [hS', go_sem, List.take_length, Nat.le_refl, Nat.add_zero, Nat.zero_add, ↓reduceIte, Nat.reduceEqDiff, Nat.reduceLT, Nat.reduceLeDiff, Nat.reduceAdd, Nat.reduceMul, Nat.reduceSub, Int.reduceNeg, Int.reduceToNat, Int.reduceAdd, Int.reduceSub, Int.reduceMul, Int.reduceLE, Int.reduceLT, Int.reduceEq, Int.reduceNe, true_and, and_true, reduceCtorEq, eq_self, not_true, not_false_iff, false_or, or_false, true_or, or_true, ne_eq, forall_const, implies_true, Bool.false_eq_true, Bool.true_eq_false, not_false_eq_true]
    refine ⟨_, hcell, ?_⟩
    simp only [go_sem, List.take_length, Nat.le_refl, Nat.add_zero, Nat.zero_add, ↓reduceIte, Nat.reduceEqDiff, Nat.reduceLT, Nat.reduceLeDiff, Nat.reduceAdd, Nat.reduceMul, Nat.reduceSub, Int.reduceNeg, Int.reduceToNat, Int.reduceAdd, Int.reduceSub, Int.reduceMul, Int.reduceLE, Int.reduceLT, Int.reduceEq, Int.reduceNe, true_and, and_true, reduceCtorEq, eq_self, not_true, not_false_iff, false_or, or_false, true_or, or_true, ne_eq, forall_const, implies_true, Bool.false_eq_true, Bool.true_eq_false, not_false_eq_true]
    refine ALoop_start (σ := Nat × St) (fun s => l.length - s.1) (fun s => ⟨[(0, ptr b o), (7, int .i64 l.length), (8, int .i64 s.1)], []⟩) (fun s => s.2)
      (fun s => s.1 ≤ l.length ∧ Kept p S s.2) (0, S) ?_ (Sub.refl _) ⟨by simp, Kept.refl _ _⟩ ?_
    · (refine le_of_leOn ?_; simp only [leOn, Int.natCast_add, Int.cast_ofNat_Int, go_sem, List.take_length, Nat.le_refl, Nat.add_zero, Nat.zero_add, ↓reduceIte, Nat.reduceEqDiff, Nat.reduceLT, Nat.reduceLeDiff, Nat.reduceAdd, Nat.reduceMul, Nat.reduceSub, Int.reduceNeg, Int.reduceToNat, Int.reduceAdd, Int.reduceSub, Int.reduceMul, Int.reduceLE, Int.reduceLT, Int.reduceEq, Int.reduceNe, true_and, and_true, reduceCtorEq, eq_self, not_true, not_false_iff, false_or, or_false, true_or, or_true, ne_eq, forall_const, implies_true, Bool.false_eq_true, Bool.true_eq_false, not_false_eq_true]; try simp)
    · rintro ⟨i, T⟩ ⟨hi, hT⟩ Again ih
      simp only at hi hT ih ⊢
      cases hd : l.drop i with
      | nil =>
        have h2 := drop_ge hd
        have h3 : ¬ i < l.length := by omega
        simp only [Int.ofNat_lt, h3, decide_false, go_sem, List.take_length, Nat.le_refl, Nat.add_zero, Nat.zero_add, ↓reduceIte, Nat.reduceEqDiff, Nat.reduceLT, Nat.reduceLeDiff, Nat.reduceAdd, Nat.reduceMul, Nat.reduceSub, Int.reduceNeg, Int.reduceToNat, Int.reduceAdd, Int.reduceSub, Int.reduceMul, Int.reduceLE, Int.reduceLT, Int.reduceEq, Int.reduceNe, true_and, and_true, reduceCtorEq, eq_self, not_true, not_false_iff, false_or, or_false, true_or, or_true, ne_eq, forall_const, implies_true, Bool.false_eq_true, Bool.true_eq_false, not_false_eq_true]
        obtain ⟨cs', vs', k1, k2, k3⟩ := hT.box b cs vs hS
        have hT' : T.get b = some (.box cs' vs') := k1
        simp only [hT', go_sem, List.take_length, Nat.le_refl, Nat.add_zero, Nat.zero_add, ↓reduceIte, Nat.reduceEqDiff, Nat.reduceLT, Nat.reduceLeDiff, Nat.reduceAdd, Nat.reduceMul, Nat.reduceSub, Int.reduceNeg, Int.reduceToNat, Int.reduceAdd, Int.reduceSub, Int.reduceMul, Int.reduceLE, Int.reduceLT, Int.reduceEq, Int.reduceNe, true_and, and_true, reduceCtorEq, eq_self, not_true, not_false_iff, false_or, or_false, true_or, or_true, ne_eq, forall_const, implies_true, Bool.false_eq_true, Bool.true_eq_false, not_false_eq_true]
        refine ⟨by omega, ?_⟩
        intro us
        refine ⟨by rw [splice_len1 (by omega)]; omega, ?_⟩
        intro us2
        refine aret_same (h _ ?_) (Sub.refl _)
        refine hT.trans ⟨fun x hx => ?_, fun x c v hx => ?_⟩
        · have hxb : ¬ x = b := fun h => hx (h ▸ hp)
          simp [St.set, hxb]
        · by_cases hxb : x = b
          · subst hxb
            rw [k1] at hx
            cases hx
            refine ⟨splice (splice cs' o [int .i64 (-7)]) (o + 1) [int .i64 (-7)], us2, by simp [St.set], ?_, fun i hi => ?_⟩
            · rw [splice_len1 (by rw [splice_len1 (by omega)]; omega), splice_len1 (by omega)]
            · rw [splice_get1 (by rw [splice_len1 (by omega)]; omega) (by omega), splice_get1 (by omega) (by omega)]
          · exact ⟨c, v, by simp [St.set, hxb, hx], rfl, fun _ _ => rfl⟩
      | cons f fs =>
        have h2 := drop_lt hd
        simp only [Int.ofNat_lt, h2, decide_true, go_sem, List.take_length, Nat.le_refl, Nat.add_zero, Nat.zero_add, ↓reduceIte, Nat.reduceEqDiff, Nat.reduceLT, Nat.reduceLeDiff, Nat.reduceAdd, Nat.reduceMul, Nat.reduceSub, Int.reduceNeg, Int.reduceToNat, Int.reduceAdd, Int.reduceSub, Int.reduceMul, Int.reduceLE, Int.reduceLT, Int.reduceEq, Int.reduceNe, true_and, and_true, reduceCtorEq, eq_self, not_true, not_false_iff, false_or, or_false, true_or, or_true, ne_eq, forall_const, implies_true, Bool.false_eq_true, Bool.true_eq_false, not_false_eq_true]
        obtain ⟨cs', vs', k1, k2, k3⟩ := hT.box b cs vs hS
        have hT' : T.get b = some (.box cs' vs') := k1
        simp only [hT', go_sem, List.take_length, Nat.le_refl, Nat.add_zero, Nat.zero_add, ↓reduceIte, Nat.reduceEqDiff, Nat.reduceLT, Nat.reduceLeDiff, Nat.reduceAdd, Nat.reduceMul, Nat.reduceSub, Int.reduceNeg, Int.reduceToNat, Int.reduceAdd, Int.reduceSub, Int.reduceMul, Int.reduceLE, Int.reduceLT, Int.reduceEq, Int.reduceNe, true_and, and_true, reduceCtorEq, eq_self, not_true, not_false_iff, false_or, or_false, true_or, or_true, ne_eq, forall_const, implies_true, Bool.false_eq_true, Bool.true_eq_false, not_false_eq_true]
        have hc2 := (k3 (o + 2) (by omega)).trans hcell
        refine ⟨_, hc2, ?_⟩
        rcases hargs with rfl | ⟨b', rfl, hargs⟩
        · simp at h2
        simp only [Int.ofNat_lt, h2, go_sem, List.take_length, Nat.le_refl, Nat.add_zero, Nat.zero_add, ↓reduceIte, Nat.reduceEqDiff, Nat.reduceLT, Nat.reduceLeDiff, Nat.reduceAdd, Nat.reduceMul, Nat.reduceSub, Int.reduceNeg, Int.reduceToNat, Int.reduceAdd, Int.reduceSub, Int.reduceMul, Int.reduceLE, Int.reduceLT, Int.reduceEq, Int.reduceNe, true_and, and_true, reduceCtorEq, eq_self, not_true, not_false_iff, false_or, or_false, true_or, or_true, ne_eq, forall_const, implies_true, Bool.false_eq_true, Bool.true_eq_false, not_false_eq_true]
        refine ⟨by omega, ?_⟩
        have hsub := TreesS.get (TreesS.kept hT l b' 0 hargs) (drop_get hd).1
        rw [Nat.zero_add] at hsub
        refine change_spec p f b' (i * 3) T _ hsub ?_
        intro S' hS2
        simp only [go_sem, List.take_length, Nat.le_refl, Nat.add_zero, Nat.zero_add, ↓reduceIte, Nat.reduceEqDiff, Nat.reduceLT, Nat.reduceLeDiff, Nat.reduceAdd, Nat.reduceMul, Nat.reduceSub, Int.reduceNeg, Int.reduceToNat, Int.reduceAdd, Int.reduceSub, Int.reduceMul, Int.reduceLE, Int.reduceLT, Int.reduceEq, Int.reduceNe, true_and, and_true, reduceCtorEq, eq_self, not_true, not_false_iff, false_or, or_false, true_or, or_true, ne_eq, forall_const, implies_true, Bool.false_eq_true, Bool.true_eq_false, not_false_eq_true]
        refine ih (i + 1, S') ⟨by simp only; omega, hT.trans hS2⟩ (by simp only; omega) _ _ ?_ (Sub.refl _)
        rw [wrap_i64 (by omega) (by omega)]
        (refine le_of_leOn ?_; simp only [leOn, Int.natCast_add, Int.cast_ofNat_Int, go_sem, List.take_length, Nat.le_refl, Nat.add_zero, Nat.zero_add, ↓reduceIte, Nat.reduceEqDiff, Nat.reduceLT, Nat.reduceLeDiff, Nat.reduceAdd, Nat.reduceMul, Nat.reduceSub, Int.reduceNeg, Int.reduceToNat, Int.reduceAdd, Int.reduceSub, Int.reduceMul, Int.reduceLE, Int.reduceLT, Int.reduceEq, Int.reduceNe, true_and, and_true, reduceCtorEq, eq_self, not_true, not_false_iff, false_or, or_false, true_or, or_true, ne_eq, forall_const, implies_true, Bool.false_eq_true, Bool.true_eq_false, not_false_eq_true]; try simp)
termination_by f => SizeOf.sizeOf f
decreasing_by all_goals
  have h5 : f ∈ l := mem_drop_head hd
  have := List.sizeOf_lt_of_mem h5
  simp only [Fun.mk.sizeOf_spec]
  omega
end
end Go.Proofs.YtaeobokijndboaaDoor
