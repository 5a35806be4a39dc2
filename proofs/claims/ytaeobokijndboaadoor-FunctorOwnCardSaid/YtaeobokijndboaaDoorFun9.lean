/- Functors: the library's Atoi, lifted; the parser's numbers. -/
import Derived.Shelf.Strconv.Atoi
import Derived.Test.YtaeobokijndboaaDoorLay
import Derived.Lib.AtoiErrMem
import Derived.Test.YtaeobokijndboaaDoorAbs13
import Derived.Test.YtaeobokijndboaaDoorFun8
set_option linter.unusedSimpArgs false
set_option linter.unusedVariables false
set_option maxRecDepth 100000
namespace Go.Proofs
open Go.Shelf Go.RowKit
theorem Tryd.strconv_Atoi_laid (s : ByteArray) (n : Int) (hl : s.size ≤ 18) (h : Lib.atoi s.data.toList = some n) (w : World) :
    Calls Tryd.prog 41 #[.string s] w fun e w' => e = .returned (.tuple #[.int .i64 n, .nilIface]) ∧ ∃ t, w' = Lib.bytesWorld w 5 t := Any.strconv_Atoi Tryd.laysAtoi172 s n hl h w
end Go.Proofs
namespace Go.Proofs.YtaeobokijndboaaDoor
open Go Go.Proofs.Abs

theorem Atoi_ok {G : Glob} {S : St} {R : AEnd → St → Prop} (l : List UInt8) (hl : l.length ≤ 18) (v : Int) (hv : Lib.atoi l = some v) (h : R (.ret (.tup [int .i64 v, .lit .nilIface])) S) : ACalls Tryd.prog G 41 [str l] S R := by
  refine acalls_lift (args := [.string ⟨l.toArray⟩]) (v := .tuple #[.int .i64 v, .nilIface]) ?_ ?_ h
  · intro r
    simp only [rel, relL]
    exact ⟨_, rfl, _, _, rfl, ⟨rfl, rfl⟩, _, _, rfl, ⟨rfl, rfl⟩, rfl⟩
  · intro w
    refine (Tryd.strconv_Atoi_laid ⟨l.toArray⟩ v ?_ hv w).mono fun e w' => ?_
    · show l.toArray.size ≤ _
      simp; omega
    · rintro ⟨rfl, t, rfl⟩
      exact ⟨rfl, Lib.bytesWorld_below _ _ _⟩

inductive PR (α : Type) where
  | ok (a : α) (rest : List UInt8)
  | bad
  | out

def isDig (c : UInt8) : Bool := decide (48 ≤ c.toNat) && decide (c.toNat ≤ 57)
def digs (s : List UInt8) : List UInt8 := s.takeWhile isDig
def numP (s : List UInt8) : PR Int :=
  let t := trimL 32 s
  if digs t = [] then .bad
  else if trimL 48 (digs t) = [] then .ok 0 (t.drop (digs t).length)
  else if (trimL 48 (digs t)).length ≤ 18 then
    match Lib.atoi (trimL 48 (digs t)) with
    | some v => .ok v (t.drop (digs t).length)
    | none => .out
  else .out

theorem takeWhile_pre {p : UInt8 → Bool} : ∀ l : List UInt8, l.take (l.takeWhile p).length = l.takeWhile p
  | [] => rfl
  | x :: l => by
    rw [List.takeWhile_cons]
    split
    · simp [takeWhile_pre l]
    · rfl
theorem takeWhile_le {p : UInt8 → Bool} : ∀ l : List UInt8, (l.takeWhile p).length ≤ l.length
  | [] => by simp
  | x :: l => by
    have := takeWhile_le (p := p) l
    rw [List.takeWhile_cons]
    split <;> simp <;> omega

def MetN (b : Nat) (S : St) (R : AEnd → St → Prop) : PR Int → Prop
  | .ok v r => ∀ us', R (.ret (int .i64 v)) (S.set b (.box [str r] us'))
  | .bad => ∀ s' us', R (.pan wrongV) (S.set b (.box [str s'] us'))
  | .out => False

theorem number_spec {G : Glob} (s : List UInt8) (b : Nat) (us : Array Value) (S : St) (R : AEnd → St → Prop) (hl : s.length ≤ 1000000000) (hS : S.get b = some (.box [str s] us))
    (h : MetN b S R (numP s)) : ACalls Tryd.prog G 33 [ptr b 0] S R := by
  refine acalls_of_awp Tryd.func33 rfl (by rw [Tryd.ntmps33]; simp) ?_; rw [Tryd.ntmps33, Tryd.results33]
  simp only [go_sem, List.take_length, Nat.le_refl, Nat.add_zero, Nat.zero_add, ↓reduceIte, Nat.reduceEqDiff, Nat.reduceLT, Nat.reduceLeDiff, Nat.reduceAdd, Nat.reduceMul, Nat.reduceSub, Int.reduceNeg, Int.reduceToNat, Int.reduceAdd, Int.reduceSub, Int.reduceMul, Int.reduceLE, Int.reduceLT, Int.reduceEq, Int.reduceNe, true_and, and_true, reduceCtorEq, eq_self, not_true, not_false_iff, false_or, or_false, true_or, or_true, ne_eq, forall_const, implies_true, Bool.false_eq_true, Bool.true_eq_false, not_false_eq_true]
  refine next_spec s b us S _ hl hS ?_
  intro us1
  have htl := trimL_len 32 s
  simp only [go_sem, List.take_length, Nat.le_refl, Nat.add_zero, Nat.zero_add, ↓reduceIte, Nat.reduceEqDiff, Nat.reduceLT, Nat.reduceLeDiff, Nat.reduceAdd, Nat.reduceMul, Nat.reduceSub, Int.reduceNeg, Int.reduceToNat, Int.reduceAdd, Int.reduceSub, Int.reduceMul, Int.reduceLE, Int.reduceLT, Int.reduceEq, Int.reduceNe, true_and, and_true, reduceCtorEq, eq_self, not_true, not_false_iff, false_or, or_false, true_or, or_true, ne_eq, forall_const, implies_true, Bool.false_eq_true, Bool.true_eq_false, not_false_eq_true]
  refine ALoop_start (σ := Nat) (fun n => (trimL 32 s).length - n) (fun n => ⟨[(0, ptr b 0), (3, int .i64 n)], []⟩) (fun _ => S.set b (.box [str (trimL 32 s)] us1))
    (fun n => (digs (trimL 32 s)).length = n + (((trimL 32 s).drop n).takeWhile isDig).length) 0 ?_ (Sub.refl _) (by simp [digs]) ?_
  · (refine le_of_leOn ?_; simp only [leOn, Int.natCast_add, Int.cast_ofNat_Int, go_sem, List.take_length, Nat.le_refl, Nat.add_zero, Nat.zero_add, ↓reduceIte, Nat.reduceEqDiff, Nat.reduceLT, Nat.reduceLeDiff, Nat.reduceAdd, Nat.reduceMul, Nat.reduceSub, Int.reduceNeg, Int.reduceToNat, Int.reduceAdd, Int.reduceSub, Int.reduceMul, Int.reduceLE, Int.reduceLT, Int.reduceEq, Int.reduceNe, true_and, and_true, reduceCtorEq, eq_self, not_true, not_false_iff, false_or, or_false, true_or, or_true, ne_eq, forall_const, implies_true, Bool.false_eq_true, Bool.true_eq_false, not_false_eq_true]; try simp)
  intro n hn Again ih
  have hcase : (∃ x xs, (trimL 32 s).drop n = x :: xs ∧ 48 ≤ x.toNat ∧ x.toNat ≤ 57) ∨ ((trimL 32 s).drop n = [] ∨ (∃ x xs, (trimL 32 s).drop n = x :: xs ∧ ¬ 48 ≤ x.toNat) ∨ (∃ x xs, (trimL 32 s).drop n = x :: xs ∧ 48 ≤ x.toNat ∧ ¬ x.toNat ≤ 57)) := by
    cases hd : (trimL 32 s).drop n with
    | nil => exact .inr (.inl rfl)
    | cons x xs =>
      by_cases h1 : 48 ≤ x.toNat
      · by_cases h2 : x.toNat ≤ 57
        · exact .inl ⟨x, xs, rfl, h1, h2⟩
        · exact .inr (.inr (.inr ⟨x, xs, rfl, h1, h2⟩))
      · exact .inr (.inr (.inl ⟨x, xs, rfl, h1⟩))
  rcases hcase with ⟨x, xs, hd, c1, c2⟩ | hcase
  · have h2 := drop_lt hd
    have e1 : (48 : Int) ≤ (x.toNat : Int) := by omega
    have e2 : (x.toNat : Int) ≤ 57 := by omega
    simp only [Int.ofNat_lt, h2, decide_true, go_sem, List.take_length, Nat.le_refl, Nat.add_zero, Nat.zero_add, ↓reduceIte, Nat.reduceEqDiff, Nat.reduceLT, Nat.reduceLeDiff, Nat.reduceAdd, Nat.reduceMul, Nat.reduceSub, Int.reduceNeg, Int.reduceToNat, Int.reduceAdd, Int.reduceSub, Int.reduceMul, Int.reduceLE, Int.reduceLT, Int.reduceEq, Int.reduceNe, true_and, and_true, reduceCtorEq, eq_self, not_true, not_false_iff, false_or, or_false, true_or, or_true, ne_eq, forall_const, implies_true, Bool.false_eq_true, Bool.true_eq_false, not_false_eq_true]
    refine ⟨by omega, aget_of (drop_get hd).1 ?_⟩
    simp only [e1, e2, decide_true, go_sem, List.take_length, Nat.le_refl, Nat.add_zero, Nat.zero_add, ↓reduceIte, Nat.reduceEqDiff, Nat.reduceLT, Nat.reduceLeDiff, Nat.reduceAdd, Nat.reduceMul, Nat.reduceSub, Int.reduceNeg, Int.reduceToNat, Int.reduceAdd, Int.reduceSub, Int.reduceMul, Int.reduceLE, Int.reduceLT, Int.reduceEq, Int.reduceNe, true_and, and_true, reduceCtorEq, eq_self, not_true, not_false_iff, false_or, or_false, true_or, or_true, ne_eq, forall_const, implies_true, Bool.false_eq_true, Bool.true_eq_false, not_false_eq_true]
    refine ⟨by omega, aget_of (drop_get hd).1 ?_⟩
    simp only [e1, e2, decide_true, go_sem, List.take_length, Nat.le_refl, Nat.add_zero, Nat.zero_add, ↓reduceIte, Nat.reduceEqDiff, Nat.reduceLT, Nat.reduceLeDiff, Nat.reduceAdd, Nat.reduceMul, Nat.reduceSub, Int.reduceNeg, Int.reduceToNat, Int.reduceAdd, Int.reduceSub, Int.reduceMul, Int.reduceLE, Int.reduceLT, Int.reduceEq, Int.reduceNe, true_and, and_true, reduceCtorEq, eq_self, not_true, not_false_iff, false_or, or_false, true_or, or_true, ne_eq, forall_const, implies_true, Bool.false_eq_true, Bool.true_eq_false, not_false_eq_true]
    rw [wrap_i64 (by omega) (by omega)]
    refine ih (n + 1) ?_ (by omega) _ _ ?_ (Sub.refl _)
    · rw [(drop_get hd).2, hn, hd, List.takeWhile_cons, if_pos (by simp [isDig, c1, c2])]
      simp; omega
    · (refine le_of_leOn ?_; simp only [leOn, Int.natCast_add, Int.cast_ofNat_Int, go_sem, List.take_length, Nat.le_refl, Nat.add_zero, Nat.zero_add, ↓reduceIte, Nat.reduceEqDiff, Nat.reduceLT, Nat.reduceLeDiff, Nat.reduceAdd, Nat.reduceMul, Nat.reduceSub, Int.reduceNeg, Int.reduceToNat, Int.reduceAdd, Int.reduceSub, Int.reduceMul, Int.reduceLE, Int.reduceLT, Int.reduceEq, Int.reduceNe, true_and, and_true, reduceCtorEq, eq_self, not_true, not_false_iff, false_or, or_false, true_or, or_true, ne_eq, forall_const, implies_true, Bool.false_eq_true, Bool.true_eq_false, not_false_eq_true]; try simp)
  have hfin : (digs (trimL 32 s)).length = n := by
    rcases hcase with hd | ⟨x, xs, hd, c1⟩ | ⟨x, xs, hd, c1, c2⟩
    · rw [hn, hd]; simp
    · rw [hn, hd, List.takeWhile_cons, if_neg (by simp [isDig]; omega)]; simp
    · rw [hn, hd, List.takeWhile_cons, if_neg (by simp [isDig]; omega)]; simp
  have hle := takeWhile_le (p := isDig) (trimL 32 s)
  have hpre := takeWhile_pre (p := isDig) (trimL 32 s)
  simp only [digs] at hfin
  rw [hfin] at hpre hle
  have hdl : (List.takeWhile isDig (trimL 32 s)).length ≤ 1000000000 := by omega
  unfold numP at h
  simp only [digs, hfin, MetN] at h
  generalize hdg : List.takeWhile isDig (trimL 32 s) = d at h hpre hfin hdl
  have h48 := trimL_len 48 d
  rcases hcase with hd | ⟨x, xs, hd, c1⟩ | ⟨x, xs, hd, c1, c2⟩
  have h2 := drop_ge hd
  have h3 : ¬ n < (trimL 32 s).length := by omega
  simp only [Int.ofNat_lt, h3, decide_false, go_sem, List.take_length, Nat.le_refl, Nat.add_zero, Nat.zero_add, ↓reduceIte, Nat.reduceEqDiff, Nat.reduceLT, Nat.reduceLeDiff, Nat.reduceAdd, Nat.reduceMul, Nat.reduceSub, Int.reduceNeg, Int.reduceToNat, Int.reduceAdd, Int.reduceSub, Int.reduceMul, Int.reduceLE, Int.reduceLT, Int.reduceEq, Int.reduceNe, true_and, and_true, reduceCtorEq, eq_self, not_true, not_false_iff, false_or, or_false, true_or, or_true, ne_eq, forall_const, implies_true, Bool.false_eq_true, Bool.true_eq_false, not_false_eq_true]
  rotate_left
  have h2 := drop_lt hd
  have e1 : ¬ (48 : Int) ≤ (x.toNat : Int) := by omega
  simp only [Int.ofNat_lt, h2, decide_true, go_sem, List.take_length, Nat.le_refl, Nat.add_zero, Nat.zero_add, ↓reduceIte, Nat.reduceEqDiff, Nat.reduceLT, Nat.reduceLeDiff, Nat.reduceAdd, Nat.reduceMul, Nat.reduceSub, Int.reduceNeg, Int.reduceToNat, Int.reduceAdd, Int.reduceSub, Int.reduceMul, Int.reduceLE, Int.reduceLT, Int.reduceEq, Int.reduceNe, true_and, and_true, reduceCtorEq, eq_self, not_true, not_false_iff, false_or, or_false, true_or, or_true, ne_eq, forall_const, implies_true, Bool.false_eq_true, Bool.true_eq_false, not_false_eq_true]
  refine ⟨by omega, aget_of (drop_get hd).1 ?_⟩
  simp only [e1, decide_false, go_sem, List.take_length, Nat.le_refl, Nat.add_zero, Nat.zero_add, ↓reduceIte, Nat.reduceEqDiff, Nat.reduceLT, Nat.reduceLeDiff, Nat.reduceAdd, Nat.reduceMul, Nat.reduceSub, Int.reduceNeg, Int.reduceToNat, Int.reduceAdd, Int.reduceSub, Int.reduceMul, Int.reduceLE, Int.reduceLT, Int.reduceEq, Int.reduceNe, true_and, and_true, reduceCtorEq, eq_self, not_true, not_false_iff, false_or, or_false, true_or, or_true, ne_eq, forall_const, implies_true, Bool.false_eq_true, Bool.true_eq_false, not_false_eq_true]
  rotate_left
  have h2 := drop_lt hd
  have e1 : (48 : Int) ≤ (x.toNat : Int) := by omega
  have e2 : ¬ (x.toNat : Int) ≤ 57 := by omega
  simp only [Int.ofNat_lt, h2, decide_true, go_sem, List.take_length, Nat.le_refl, Nat.add_zero, Nat.zero_add, ↓reduceIte, Nat.reduceEqDiff, Nat.reduceLT, Nat.reduceLeDiff, Nat.reduceAdd, Nat.reduceMul, Nat.reduceSub, Int.reduceNeg, Int.reduceToNat, Int.reduceAdd, Int.reduceSub, Int.reduceMul, Int.reduceLE, Int.reduceLT, Int.reduceEq, Int.reduceNe, true_and, and_true, reduceCtorEq, eq_self, not_true, not_false_iff, false_or, or_false, true_or, or_true, ne_eq, forall_const, implies_true, Bool.false_eq_true, Bool.true_eq_false, not_false_eq_true]
  refine ⟨by omega, aget_of (drop_get hd).1 ?_⟩
  simp only [e1, e2, decide_true, go_sem, List.take_length, Nat.le_refl, Nat.add_zero, Nat.zero_add, ↓reduceIte, Nat.reduceEqDiff, Nat.reduceLT, Nat.reduceLeDiff, Nat.reduceAdd, Nat.reduceMul, Nat.reduceSub, Int.reduceNeg, Int.reduceToNat, Int.reduceAdd, Int.reduceSub, Int.reduceMul, Int.reduceLE, Int.reduceLT, Int.reduceEq, Int.reduceNe, true_and, and_true, reduceCtorEq, eq_self, not_true, not_false_iff, false_or, or_false, true_or, or_true, ne_eq, forall_const, implies_true, Bool.false_eq_true, Bool.true_eq_false, not_false_eq_true]
  refine ⟨by omega, aget_of (drop_get hd).1 ?_⟩
  simp only [e1, e2, decide_false, go_sem, List.take_length, Nat.le_refl, Nat.add_zero, Nat.zero_add, ↓reduceIte, Nat.reduceEqDiff, Nat.reduceLT, Nat.reduceLeDiff, Nat.reduceAdd, Nat.reduceMul, Nat.reduceSub, Int.reduceNeg, Int.reduceToNat, Int.reduceAdd, Int.reduceSub, Int.reduceMul, Int.reduceLE, Int.reduceLT, Int.reduceEq, Int.reduceNe, true_and, and_true, reduceCtorEq, eq_self, not_true, not_false_iff, false_or, or_false, true_or, or_true, ne_eq, forall_const, implies_true, Bool.false_eq_true, Bool.true_eq_false, not_false_eq_true]
  all_goals
    by_cases h0 : n = 0
    · have hd0 : d = [] := by
        subst h0
        exact List.eq_nil_of_length_eq_zero hfin
      rw [if_pos hd0] at h
      have e0 : (n : Int) = 0 := by omega
      simp only [e0, decide_true, go_sem, List.take_length, Nat.le_refl, Nat.add_zero, Nat.zero_add, ↓reduceIte, Nat.reduceEqDiff, Nat.reduceLT, Nat.reduceLeDiff, Nat.reduceAdd, Nat.reduceMul, Nat.reduceSub, Int.reduceNeg, Int.reduceToNat, Int.reduceAdd, Int.reduceSub, Int.reduceMul, Int.reduceLE, Int.reduceLT, Int.reduceEq, Int.reduceNe, true_and, and_true, reduceCtorEq, eq_self, not_true, not_false_iff, false_or, or_false, true_or, or_true, ne_eq, forall_const, implies_true, Bool.false_eq_true, Bool.true_eq_false, not_false_eq_true]
      exact ⟨_, Sub.refl _, h _ us1⟩
    · have hd0 : ¬ d = [] := by
        intro hd0; rw [hd0] at hfin; exact h0 hfin.symm
      rw [if_neg hd0] at h
      have e0 : ¬ (n : Int) = 0 := by omega
      simp only [e0, decide_false, hpre, go_sem, List.take_length, Nat.le_refl, Nat.add_zero, Nat.zero_add, ↓reduceIte, Nat.reduceEqDiff, Nat.reduceLT, Nat.reduceLeDiff, Nat.reduceAdd, Nat.reduceMul, Nat.reduceSub, Int.reduceNeg, Int.reduceToNat, Int.reduceAdd, Int.reduceSub, Int.reduceMul, Int.reduceLE, Int.reduceLT, Int.reduceEq, Int.reduceNe, true_and, and_true, reduceCtorEq, eq_self, not_true, not_false_iff, false_or, or_false, true_or, or_true, ne_eq, forall_const, implies_true, Bool.false_eq_true, Bool.true_eq_false, not_false_eq_true]
      refine ⟨by omega, by omega, hle, ?_⟩
      refine TrimLeft_spec 48 (by decide) d _ _ hdl ?_
      simp only [set_set, go_sem, List.take_length, Nat.le_refl, Nat.add_zero, Nat.zero_add, ↓reduceIte, Nat.reduceEqDiff, Nat.reduceLT, Nat.reduceLeDiff, Nat.reduceAdd, Nat.reduceMul, Nat.reduceSub, Int.reduceNeg, Int.reduceToNat, Int.reduceAdd, Int.reduceSub, Int.reduceMul, Int.reduceLE, Int.reduceLT, Int.reduceEq, Int.reduceNe, true_and, and_true, reduceCtorEq, eq_self, not_true, not_false_iff, false_or, or_false, true_or, or_true, ne_eq, forall_const, implies_true, Bool.false_eq_true, Bool.true_eq_false, not_false_eq_true]
      refine ⟨by omega, hle, ?_⟩
      intro us2
      by_cases hz : trimL 48 d = []
      · rw [if_pos hz] at h
        simp only [hz, decide_true, go_sem, List.take_length, Nat.le_refl, Nat.add_zero, Nat.zero_add, ↓reduceIte, Nat.reduceEqDiff, Nat.reduceLT, Nat.reduceLeDiff, Nat.reduceAdd, Nat.reduceMul, Nat.reduceSub, Int.reduceNeg, Int.reduceToNat, Int.reduceAdd, Int.reduceSub, Int.reduceMul, Int.reduceLE, Int.reduceLT, Int.reduceEq, Int.reduceNe, true_and, and_true, reduceCtorEq, eq_self, not_true, not_false_iff, false_or, or_false, true_or, or_true, ne_eq, forall_const, implies_true, Bool.false_eq_true, Bool.true_eq_false, not_false_eq_true]
        exact aret_same (h us2) (Sub.refl _)
      · rw [if_neg hz] at h
        by_cases h18 : (trimL 48 d).length ≤ 18
        · rw [if_pos h18] at h
          cases hat : Lib.atoi (trimL 48 d) with
          | none => rw [hat] at h; exact h.elim
          | some v =>
            rw [hat] at h
            simp only [hz, decide_false, go_sem, List.take_length, Nat.le_refl, Nat.add_zero, Nat.zero_add, ↓reduceIte, Nat.reduceEqDiff, Nat.reduceLT, Nat.reduceLeDiff, Nat.reduceAdd, Nat.reduceMul, Nat.reduceSub, Int.reduceNeg, Int.reduceToNat, Int.reduceAdd, Int.reduceSub, Int.reduceMul, Int.reduceLE, Int.reduceLT, Int.reduceEq, Int.reduceNe, true_and, and_true, reduceCtorEq, eq_self, not_true, not_false_iff, false_or, or_false, true_or, or_true, ne_eq, forall_const, implies_true, Bool.false_eq_true, Bool.true_eq_false, not_false_eq_true]
            refine Atoi_ok (trimL 48 d) h18 v hat ?_
            simp only [go_sem, List.take_length, Nat.le_refl, Nat.add_zero, Nat.zero_add, ↓reduceIte, Nat.reduceEqDiff, Nat.reduceLT, Nat.reduceLeDiff, Nat.reduceAdd, Nat.reduceMul, Nat.reduceSub, Int.reduceNeg, Int.reduceToNat, Int.reduceAdd, Int.reduceSub, Int.reduceMul, Int.reduceLE, Int.reduceLT, Int.reduceEq, Int.reduceNe, true_and, and_true, reduceCtorEq, eq_self, not_true, not_false_iff, false_or, or_false, true_or, or_true, ne_eq, forall_const, implies_true, Bool.false_eq_true, Bool.true_eq_false, not_false_eq_true]
            exact aret_same (h us2) (Sub.refl _)
        · rw [if_neg h18] at h; exact h.elim
end Go.Proofs.YtaeobokijndboaaDoor
