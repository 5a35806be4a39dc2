/- Functors: the parser. -/
import Derived.Test.YtaeobokijndboaaDoorFun9
set_option linter.unusedSimpArgs false
set_option linter.unusedVariables false
set_option maxRecDepth 100000
namespace Go.Proofs.YtaeobokijndboaaDoor
open Go Go.Proofs.Abs

def PR.bind {α β : Type} : PR α → (α → List UInt8 → PR β) → PR β
  | .ok a r, k => k a r
  | .bad, _ => .bad
  | .out, _ => .out
def expect (c : UInt8) (s : List UInt8) : PR Unit := if head0 (trimL 32 s) = c then .ok () (trimL 32 s).tail else .bad

mutual
def allP : Nat → List UInt8 → PR Fun
  | 0, _ => .out
  | n + 1, s => (powerP n s).bind fun f s1 =>
      if head0 (trimL 32 s1) = 42 then (powerP n (trimL 32 s1).tail).bind fun g s2 => .ok (.mk 2 0 [f, g]) s2
      else if head0 (trimL 32 s1) = 43 then (powerP n (trimL 32 s1).tail).bind fun g s2 => .ok (.mk 3 0 [f, g]) s2
      else .ok f (trimL 32 s1)
def powerP : Nat → List UInt8 → PR Fun
  | 0, _ => .out
  | n + 1, s => (operandP n s).bind fun f s1 =>
      if head0 (trimL 32 s1) = 94 then (numP (trimL 32 s1).tail).bind fun k s2 => .ok (.mk 4 k [f]) s2
      else .ok f (trimL 32 s1)
def operandP : Nat → List UInt8 → PR Fun
  | 0, _ => .out
  | n + 1, s =>
    if head0 (trimL 32 s) = 88 then .ok (.mk 0 0 []) (trimL 32 s).tail
    else if head0 (trimL 32 s) = 40 then (allP n (trimL 32 s).tail).bind fun f s1 => (expect 41 s1).bind fun _ s2 => .ok f s2
    else if head0 (trimL 32 s) = 80 then innerP n 5 (trimL 32 s).tail
    else if head0 (trimL 32 s) = 66 then innerP n 6 (trimL 32 s).tail
    else if head0 (trimL 32 s) = 68 then innerP n 7 (trimL 32 s).tail
    else (numP (trimL 32 s)).bind fun k s1 => .ok (.mk 1 k []) s1
def innerP : Nat → Int → List UInt8 → PR Fun
  | 0, _, _ => .out
  | n + 1, k, s => (expect 40 s).bind fun _ s1 => (allP n s1).bind fun f s2 => (expect 41 s2).bind fun _ s3 => .ok (.mk k 0 [f]) s3
end

theorem trimL_trimL (c : UInt8) : ∀ s, trimL c (trimL c s) = trimL c s
  | [] => rfl
  | x :: s => by
    rw [trimL]
    split
    · exact trimL_trimL c s
    · rename_i h; rw [trimL, if_neg h]
theorem tail_len (s : List UInt8) : (trimL 32 s).tail.length ≤ s.length := by
  have := trimL_len 32 s
  simp; omega
theorem PR.ok_bind {α β : Type} {a : α} {r : List UInt8} {k : α → List UInt8 → PR β} : (PR.ok a r).bind k = k a r := rfl
theorem PR.bad_bind {α β : Type} {k : α → List UInt8 → PR β} : (PR.bad : PR α).bind k = .bad := rfl
theorem PR.out_bind {α β : Type} {k : α → List UInt8 → PR β} : (PR.out : PR α).bind k = .out := rfl
theorem PR.bind_ok {α β : Type} {p : PR α} {k : α → List UInt8 → PR β} {b : β} {r : List UInt8} (h : p.bind k = .ok b r) : ∃ a s, p = .ok a s ∧ k a s = .ok b r := by
  cases p with
  | ok a s => exact ⟨a, s, rfl, h⟩
  | bad => cases h
  | out => cases h
theorem numP_len {s : List UInt8} {v : Int} {r : List UInt8} (h : numP s = .ok v r) : r.length ≤ s.length := by
  have := trimL_len 32 s
  unfold numP at h
  simp only at h
  split at h
  · cases h
  · split at h
    · cases h; simp; omega
    · split at h
      · split at h
        · cases h; simp; omega
        · cases h
      · cases h
theorem expect_len {c : UInt8} {s : List UInt8} {r : List UInt8} {u : Unit} (h : expect c s = .ok u r) : r.length ≤ s.length := by
  have := tail_len s
  unfold expect at h
  split at h
  · cases h; omega
  · cases h
mutual
theorem allP_len : ∀ (n : Nat) {s : List UInt8} {f : Fun} {r : List UInt8}, allP n s = .ok f r → r.length ≤ s.length
  | 0, s, f, r, h => by simp [allP] at h
  | n + 1, s, f, r, h => by
    simp only [allP] at h
    obtain ⟨a, s1, h1, h⟩ := PR.bind_ok h
    have := powerP_len n h1
    have := tail_len s1
    have := trimL_len 32 s1
    split at h
    · obtain ⟨g, s2, h2, h⟩ := PR.bind_ok h
      have := powerP_len n h2
      cases h; omega
    · split at h
      · obtain ⟨g, s2, h2, h⟩ := PR.bind_ok h
        have := powerP_len n h2
        cases h; omega
      · cases h; omega
theorem powerP_len : ∀ (n : Nat) {s : List UInt8} {f : Fun} {r : List UInt8}, powerP n s = .ok f r → r.length ≤ s.length
  | 0, s, f, r, h => by simp [powerP] at h
  | n + 1, s, f, r, h => by
    simp only [powerP] at h
    obtain ⟨a, s1, h1, h⟩ := PR.bind_ok h
    have := operandP_len n h1
    have := tail_len s1
    have := trimL_len 32 s1
    split at h
    · obtain ⟨g, s2, h2, h⟩ := PR.bind_ok h
      have := numP_len h2
      cases h; omega
    · cases h; omega
theorem operandP_len : ∀ (n : Nat) {s : List UInt8} {f : Fun} {r : List UInt8}, operandP n s = .ok f r → r.length ≤ s.length
  | 0, s, f, r, h => by simp [operandP] at h
  | n + 1, s, f, r, h => by
    simp only [operandP] at h
    have := tail_len s
    have := trimL_len 32 s
    split at h
    · cases h; omega
    · split at h
      · obtain ⟨g, s2, h2, h⟩ := PR.bind_ok h
        have := allP_len n h2
        obtain ⟨u, s3, h3, h⟩ := PR.bind_ok h
        have := expect_len h3
        cases h; omega
      · split at h
        · have := innerP_len n h; omega
        · split at h
          · have := innerP_len n h; omega
          · split at h
            · have := innerP_len n h; omega
            · obtain ⟨g, s2, h2, h⟩ := PR.bind_ok h
              have := numP_len h2
              cases h; omega
theorem innerP_len : ∀ (n : Nat) {k : Int} {s : List UInt8} {f : Fun} {r : List UInt8}, innerP n k s = .ok f r → r.length ≤ s.length
  | 0, k, s, f, r, h => by simp [innerP] at h
  | n + 1, k, s, f, r, h => by
    simp only [innerP] at h
    obtain ⟨u, s1, h1, h⟩ := PR.bind_ok h
    have := expect_len h1
    obtain ⟨g, s2, h2, h⟩ := PR.bind_ok h
    have := allP_len n h2
    obtain ⟨u, s3, h3, h⟩ := PR.bind_ok h
    have := expect_len h3
    cases h; omega
end

theorem get_ne {S : St} {b b' : Nat} {o : Own} (h : S.get b = some o) (h' : S b' = none) : ¬ b = b' ∧ ¬ b' = b := by
  have : ¬ b = b' := by rintro rfl; rw [St.get] at h; rw [h] at h'; cases h'
  exact ⟨this, fun h => this h.symm⟩

mutual
/-- a functor in memory, its rows new -/
def encP (mk : Nat) : Fun → List AVal
  | .mk k n l => [int .i64 k, int .i64 n, .sl 3 (encPL mk l) (.fresh mk)]
def encPL (mk : Nat) : List Fun → List (List AVal)
  | [] => []
  | f :: l => encP mk f :: encPL mk l
end
theorem encPL_map (mk : Nat) : ∀ l, encPL mk l = l.map (encP mk)
  | [] => rfl
  | f :: l => by simp [encPL, encPL_map mk l]
theorem encP_eq (mk : Nat) (f : Fun) : encP mk f = [int .i64 f.kind, int .i64 f.n, .sl 3 (f.args.map (encP mk)) (.fresh mk)] := by cases f; simp [encP, encPL_map, Fun.kind, Fun.n, Fun.args]
@[go_sem] theorem encP_len (mk : Nat) (f : Fun) : (encP mk f).length = 3 := by rw [encP_eq]; rfl
@[go_sem] theorem aget_encP (mk : Nat) (f : Fun) (i : Nat) (K : AVal → Prop) : aget (encP mk f) i K = aget [int .i64 f.kind, int .i64 f.n, .sl 3 (f.args.map (encP mk)) (.fresh mk)] i K := by rw [encP_eq]

def Met (mk : Nat) (b : Nat) (S : St) (R : AEnd → St → Prop) : PR Fun → Prop
  | .ok f r => ∀ us', R (.ret (.agg (encP mk f))) (S.set b (.box [str r] us'))
  | .bad => ∀ s' us', R (.pan wrongV) (S.set b (.box [str s'] us'))
  | .out => False

def Spec (G : Glob) (id : Nat) (p : List UInt8 → PR Fun) : Prop :=
  ∀ (s : List UInt8) (b : Nat) (us : Array Value) (S : St) (R : AEnd → St → Prop), s.length ≤ 1000000000 → S.get b = some (.box [str s] us) → Met G.mark b S R (p s) → ACalls Tryd.prog G id [ptr b 0] S R

theorem weak_fun {mk : Nat} {k n : Int} {l : List Fun} {xs : List (List AVal)} (h : xs = l.map (encP mk)) : Weak (.agg [int .i64 k, int .i64 n, .sl 3 xs (.fresh mk)]) (.agg (encP mk (.mk k n l))) := by
  subst h
  rw [encP_eq]
  exact Weak.refl _

theorem weak_nil {mk : Nat} : Weak (.sl 0 [] (.own none)) (.sl 3 [] (.fresh mk)) := by
  intro r u hu
  simp only [rel, growOk] at hu ⊢
  obtain ⟨A, cap, h1, h2, h3, h4, h5⟩ := hu
  rcases h5 with ⟨_, rfl⟩ | ⟨b, off, rfl, _⟩
  · subst h4
    refine ⟨none, 0, h1, Nat.le_refl _, h3, by simp, ?_⟩
    simp
  · cases h4
theorem weak_fun0 {mk : Nat} {k n : Int} : Weak (.agg [int .i64 k, int .i64 n, .sl 0 [] (.own none)]) (.agg (encP mk (.mk k n []))) := by
  rw [encP_eq]
  exact weak_agg ⟨⟨rfl, Weak.refl _⟩, ⟨rfl, Weak.refl _⟩, ⟨rfl, weak_nil⟩, trivial⟩

section
variable {G : Glob}

theorem power_step (n : Nat) (hop : Spec G 32 (operandP n)) : Spec G 27 (powerP (n + 1)) := by
  intro s b us S R hl hS h
  refine acalls_of_awp Tryd.func27 rfl (by rw [Tryd.ntmps27]; simp) ?_; rw [Tryd.ntmps27, Tryd.results27]
  simp only [go_sem, List.take_length, Nat.le_refl, Nat.add_zero, Nat.zero_add, ↓reduceIte, Nat.reduceEqDiff, Nat.reduceLT, Nat.reduceLeDiff, Nat.reduceAdd, Nat.reduceMul, Nat.reduceSub, Int.reduceNeg, Int.reduceToNat, Int.reduceAdd, Int.reduceSub, Int.reduceMul, Int.reduceLE, Int.reduceLT, Int.reduceEq, Int.reduceNe, true_and, and_true, reduceCtorEq, eq_self, not_true, not_false_iff, false_or, or_false, true_or, or_true, ne_eq, forall_const, implies_true, Bool.false_eq_true, Bool.true_eq_false, not_false_eq_true]
  intro b2 vs2 hb2; try simp only [upd_none, set_none, del_none] at hb2
  have hbb := get_ne hS hb2
  simp only [hS, hb2, hbb, go_sem, List.take_length, Nat.le_refl, Nat.add_zero, Nat.zero_add, ↓reduceIte, Nat.reduceEqDiff, Nat.reduceLT, Nat.reduceLeDiff, Nat.reduceAdd, Nat.reduceMul, Nat.reduceSub, Int.reduceNeg, Int.reduceToNat, Int.reduceAdd, Int.reduceSub, Int.reduceMul, Int.reduceLE, Int.reduceLT, Int.reduceEq, Int.reduceNe, true_and, and_true, reduceCtorEq, eq_self, not_true, not_false_iff, false_or, or_false, true_or, or_true, ne_eq, forall_const, implies_true, Bool.false_eq_true, Bool.true_eq_false, not_false_eq_true]
  refine hop s b us _ _ hl (by simp only [hS, hb2, hbb, go_sem, List.take_length, Nat.le_refl, Nat.add_zero, Nat.zero_add, ↓reduceIte, Nat.reduceEqDiff, Nat.reduceLT, Nat.reduceLeDiff, Nat.reduceAdd, Nat.reduceMul, Nat.reduceSub, Int.reduceNeg, Int.reduceToNat, Int.reduceAdd, Int.reduceSub, Int.reduceMul, Int.reduceLE, Int.reduceLT, Int.reduceEq, Int.reduceNe, true_and, and_true, reduceCtorEq, eq_self, not_true, not_false_iff, false_or, or_false, true_or, or_true, ne_eq, forall_const, implies_true, Bool.false_eq_true, Bool.true_eq_false, not_false_eq_true]) ?_
  simp only [powerP] at h
  cases hp : operandP n s with
  | out => rw [hp] at h; exact h
  | bad =>
    rw [hp] at h
    intro s' us'
    simp only [hb2, hbb, go_sem, List.take_length, Nat.le_refl, Nat.add_zero, Nat.zero_add, ↓reduceIte, Nat.reduceEqDiff, Nat.reduceLT, Nat.reduceLeDiff, Nat.reduceAdd, Nat.reduceMul, Nat.reduceSub, Int.reduceNeg, Int.reduceToNat, Int.reduceAdd, Int.reduceSub, Int.reduceMul, Int.reduceLE, Int.reduceLT, Int.reduceEq, Int.reduceNe, true_and, and_true, reduceCtorEq, eq_self, not_true, not_false_iff, false_or, or_false, true_or, or_true, ne_eq, forall_const, implies_true, Bool.false_eq_true, Bool.true_eq_false, not_false_eq_true]
    exact ⟨_, by (repeat' (first | exact Sub.refl _ | (with_reducible apply sub_upd_l; focus (simp only [hb2, hbb, go_sem, ↓reduceIte]; done)) | (with_reducible apply sub_upd_r; focus (first | assumption | (simp only [hb2, hbb, upd_none, set_none, true_and, and_true, not_false_iff]; done))))), h s' us'⟩
  | ok f s1 =>
    rw [hp] at h
    rw [PR.ok_bind] at h
    have hl1 := operandP_len n hp
    intro us1
    simp only [hb2, hbb, go_sem, List.take_length, Nat.le_refl, Nat.add_zero, Nat.zero_add, ↓reduceIte, Nat.reduceEqDiff, Nat.reduceLT, Nat.reduceLeDiff, Nat.reduceAdd, Nat.reduceMul, Nat.reduceSub, Int.reduceNeg, Int.reduceToNat, Int.reduceAdd, Int.reduceSub, Int.reduceMul, Int.reduceLE, Int.reduceLT, Int.reduceEq, Int.reduceNe, true_and, and_true, reduceCtorEq, eq_self, not_true, not_false_iff, false_or, or_false, true_or, or_true, ne_eq, forall_const, implies_true, Bool.false_eq_true, Bool.true_eq_false, not_false_eq_true]
    intro b3 vs3 hb3; try simp only [upd_none, set_none, del_none] at hb3
    simp only [hb2, hbb, hb3, go_sem, List.take_length, Nat.le_refl, Nat.add_zero, Nat.zero_add, ↓reduceIte, Nat.reduceEqDiff, Nat.reduceLT, Nat.reduceLeDiff, Nat.reduceAdd, Nat.reduceMul, Nat.reduceSub, Int.reduceNeg, Int.reduceToNat, Int.reduceAdd, Int.reduceSub, Int.reduceMul, Int.reduceLE, Int.reduceLT, Int.reduceEq, Int.reduceNe, true_and, and_true, reduceCtorEq, eq_self, not_true, not_false_iff, false_or, or_false, true_or, or_true, ne_eq, forall_const, implies_true, Bool.false_eq_true, Bool.true_eq_false, not_false_eq_true]
    intro us3
    refine is_spec 94 (by decide) s1 b us1 _ _ (by omega) (by simp only [hb2, hbb, hb3, go_sem, List.take_length, Nat.le_refl, Nat.add_zero, Nat.zero_add, ↓reduceIte, Nat.reduceEqDiff, Nat.reduceLT, Nat.reduceLeDiff, Nat.reduceAdd, Nat.reduceMul, Nat.reduceSub, Int.reduceNeg, Int.reduceToNat, Int.reduceAdd, Int.reduceSub, Int.reduceMul, Int.reduceLE, Int.reduceLT, Int.reduceEq, Int.reduceNe, true_and, and_true, reduceCtorEq, eq_self, not_true, not_false_iff, false_or, or_false, true_or, or_true, ne_eq, forall_const, implies_true, Bool.false_eq_true, Bool.true_eq_false, not_false_eq_true]) ?_
    intro us4
    have hr := trimL_len 32 s1
    have ht := tail_len s1
    by_cases hc : head0 (trimL 32 s1) = 94
    · rw [if_pos hc] at h
      simp only [hc, decide_true, hb2, hbb, hb3, set_set, go_sem, List.take_length, Nat.le_refl, Nat.add_zero, Nat.zero_add, ↓reduceIte, Nat.reduceEqDiff, Nat.reduceLT, Nat.reduceLeDiff, Nat.reduceAdd, Nat.reduceMul, Nat.reduceSub, Int.reduceNeg, Int.reduceToNat, Int.reduceAdd, Int.reduceSub, Int.reduceMul, Int.reduceLE, Int.reduceLT, Int.reduceEq, Int.reduceNe, true_and, and_true, reduceCtorEq, eq_self, not_true, not_false_iff, false_or, or_false, true_or, or_true, ne_eq, forall_const, implies_true, Bool.false_eq_true, Bool.true_eq_false, not_false_eq_true]
      refine awp_drawL (by kernel_rfl) (.take 0 (.take 2 (.all [(1, (.all [(3, (.all [(4, (.last 5))]))])), (3, (.all [(1, (.all [(4, (.last 5))]))]))]))) [b3] (by kernel_rfl) ?_
      simp only [hb2, hbb, hb3, go_sem, List.take_length, Nat.le_refl, Nat.add_zero, Nat.zero_add, ↓reduceIte, Nat.reduceEqDiff, Nat.reduceLT, Nat.reduceLeDiff, Nat.reduceAdd, Nat.reduceMul, Nat.reduceSub, Int.reduceNeg, Int.reduceToNat, Int.reduceAdd, Int.reduceSub, Int.reduceMul, Int.reduceLE, Int.reduceLT, Int.reduceEq, Int.reduceNe, true_and, and_true, reduceCtorEq, eq_self, not_true, not_false_iff, false_or, or_false, true_or, or_true, ne_eq, forall_const, implies_true, Bool.false_eq_true, Bool.true_eq_false, not_false_eq_true]
      constructor
      all_goals
        refine number_spec (trimL 32 s1).tail b us4 _ _ (by omega) ?_ ?_
        · simp only [hb2, hbb, hb3, go_sem, List.take_length, Nat.le_refl, Nat.add_zero, Nat.zero_add, ↓reduceIte, Nat.reduceEqDiff, Nat.reduceLT, Nat.reduceLeDiff, Nat.reduceAdd, Nat.reduceMul, Nat.reduceSub, Int.reduceNeg, Int.reduceToNat, Int.reduceAdd, Int.reduceSub, Int.reduceMul, Int.reduceLE, Int.reduceLT, Int.reduceEq, Int.reduceNe, true_and, and_true, reduceCtorEq, eq_self, not_true, not_false_iff, false_or, or_false, true_or, or_true, ne_eq, forall_const, implies_true, Bool.false_eq_true, Bool.true_eq_false, not_false_eq_true]
        cases hn : numP (trimL 32 s1).tail with
        | out => rw [hn] at h; exact h
        | bad =>
          rw [hn] at h
          intro s' us'
          simp only [hb2, hbb, hb3, set_set, go_sem, List.take_length, Nat.le_refl, Nat.add_zero, Nat.zero_add, ↓reduceIte, Nat.reduceEqDiff, Nat.reduceLT, Nat.reduceLeDiff, Nat.reduceAdd, Nat.reduceMul, Nat.reduceSub, Int.reduceNeg, Int.reduceToNat, Int.reduceAdd, Int.reduceSub, Int.reduceMul, Int.reduceLE, Int.reduceLT, Int.reduceEq, Int.reduceNe, true_and, and_true, reduceCtorEq, eq_self, not_true, not_false_iff, false_or, or_false, true_or, or_true, ne_eq, forall_const, implies_true, Bool.false_eq_true, Bool.true_eq_false, not_false_eq_true]
          exact ⟨_, by (repeat' (first | exact Sub.refl _ | (with_reducible apply sub_upd_l; focus (simp only [hb2, hbb, hb3, go_sem, ↓reduceIte]; done)) | (with_reducible apply sub_upd_r; focus (first | assumption | (simp only [hb2, hbb, hb3, upd_none, set_none, true_and, and_true, not_false_iff]; done))))), h s' us'⟩
        | ok k s2 =>
          rw [hn] at h
          simp only [PR.ok_bind] at h
          intro us5
          simp only [hb2, hbb, hb3, set_set, go_sem, List.take_length, Nat.le_refl, Nat.add_zero, Nat.zero_add, ↓reduceIte, Nat.reduceEqDiff, Nat.reduceLT, Nat.reduceLeDiff, Nat.reduceAdd, Nat.reduceMul, Nat.reduceSub, Int.reduceNeg, Int.reduceToNat, Int.reduceAdd, Int.reduceSub, Int.reduceMul, Int.reduceLE, Int.reduceLT, Int.reduceEq, Int.reduceNe, true_and, and_true, reduceCtorEq, eq_self, not_true, not_false_iff, false_or, or_false, true_or, or_true, ne_eq, forall_const, implies_true, Bool.false_eq_true, Bool.true_eq_false, not_false_eq_true]
          intro us6 us7
          exact aret_intro (h us5) (by (repeat' (first | exact Sub.refl _ | (with_reducible apply sub_upd_l; focus (simp only [hb2, hbb, hb3, go_sem, ↓reduceIte]; done)) | (with_reducible apply sub_upd_r; focus (first | assumption | (simp only [hb2, hbb, hb3, upd_none, set_none, true_and, and_true, not_false_iff]; done)))))) (weak_fun rfl)
    · rw [if_neg hc] at h
      simp only [hc, decide_false, hb2, hbb, hb3, set_set, go_sem, List.take_length, Nat.le_refl, Nat.add_zero, Nat.zero_add, ↓reduceIte, Nat.reduceEqDiff, Nat.reduceLT, Nat.reduceLeDiff, Nat.reduceAdd, Nat.reduceMul, Nat.reduceSub, Int.reduceNeg, Int.reduceToNat, Int.reduceAdd, Int.reduceSub, Int.reduceMul, Int.reduceLE, Int.reduceLT, Int.reduceEq, Int.reduceNe, true_and, and_true, reduceCtorEq, eq_self, not_true, not_false_iff, false_or, or_false, true_or, or_true, ne_eq, forall_const, implies_true, Bool.false_eq_true, Bool.true_eq_false, not_false_eq_true]
      intro us5
      exact aret_same (h us4) (by (repeat' (first | exact Sub.refl _ | (with_reducible apply sub_upd_l; focus (simp only [hb2, hbb, hb3, go_sem, ↓reduceIte]; done)) | (with_reducible apply sub_upd_r; focus (first | assumption | (simp only [hb2, hbb, hb3, upd_none, set_none, true_and, and_true, not_false_iff]; done))))))

theorem all_step (n : Nat) (hop : Spec G 27 (powerP n)) : Spec G 21 (allP (n + 1)) := by
  intro s b us S R hl hS h
  refine acalls_of_awp Tryd.func21 rfl (by rw [Tryd.ntmps21]; simp) ?_; rw [Tryd.ntmps21, Tryd.results21]
  simp only [go_sem, List.take_length, Nat.le_refl, Nat.add_zero, Nat.zero_add, ↓reduceIte, Nat.reduceEqDiff, Nat.reduceLT, Nat.reduceLeDiff, Nat.reduceAdd, Nat.reduceMul, Nat.reduceSub, Int.reduceNeg, Int.reduceToNat, Int.reduceAdd, Int.reduceSub, Int.reduceMul, Int.reduceLE, Int.reduceLT, Int.reduceEq, Int.reduceNe, true_and, and_true, reduceCtorEq, eq_self, not_true, not_false_iff, false_or, or_false, true_or, or_true, ne_eq, forall_const, implies_true, Bool.false_eq_true, Bool.true_eq_false, not_false_eq_true]
  intro b2 vs2 hb2; try simp only [upd_none, set_none, del_none] at hb2
  have hbb := get_ne hS hb2
  simp only [hS, hb2, hbb, go_sem, List.take_length, Nat.le_refl, Nat.add_zero, Nat.zero_add, ↓reduceIte, Nat.reduceEqDiff, Nat.reduceLT, Nat.reduceLeDiff, Nat.reduceAdd, Nat.reduceMul, Nat.reduceSub, Int.reduceNeg, Int.reduceToNat, Int.reduceAdd, Int.reduceSub, Int.reduceMul, Int.reduceLE, Int.reduceLT, Int.reduceEq, Int.reduceNe, true_and, and_true, reduceCtorEq, eq_self, not_true, not_false_iff, false_or, or_false, true_or, or_true, ne_eq, forall_const, implies_true, Bool.false_eq_true, Bool.true_eq_false, not_false_eq_true]
  refine hop s b us _ _ hl (by simp only [hS, hb2, hbb, go_sem, List.take_length, Nat.le_refl, Nat.add_zero, Nat.zero_add, ↓reduceIte, Nat.reduceEqDiff, Nat.reduceLT, Nat.reduceLeDiff, Nat.reduceAdd, Nat.reduceMul, Nat.reduceSub, Int.reduceNeg, Int.reduceToNat, Int.reduceAdd, Int.reduceSub, Int.reduceMul, Int.reduceLE, Int.reduceLT, Int.reduceEq, Int.reduceNe, true_and, and_true, reduceCtorEq, eq_self, not_true, not_false_iff, false_or, or_false, true_or, or_true, ne_eq, forall_const, implies_true, Bool.false_eq_true, Bool.true_eq_false, not_false_eq_true]) ?_
  simp only [allP] at h
  cases hp : powerP n s with
  | out => rw [hp] at h; exact h
  | bad =>
    rw [hp] at h
    intro s' us'
    simp only [hb2, hbb, go_sem, List.take_length, Nat.le_refl, Nat.add_zero, Nat.zero_add, ↓reduceIte, Nat.reduceEqDiff, Nat.reduceLT, Nat.reduceLeDiff, Nat.reduceAdd, Nat.reduceMul, Nat.reduceSub, Int.reduceNeg, Int.reduceToNat, Int.reduceAdd, Int.reduceSub, Int.reduceMul, Int.reduceLE, Int.reduceLT, Int.reduceEq, Int.reduceNe, true_and, and_true, reduceCtorEq, eq_self, not_true, not_false_iff, false_or, or_false, true_or, or_true, ne_eq, forall_const, implies_true, Bool.false_eq_true, Bool.true_eq_false, not_false_eq_true]
    exact ⟨_, by (repeat' (first | exact Sub.refl _ | (with_reducible apply sub_upd_l; focus (simp only [hb2, hbb, go_sem, ↓reduceIte]; done)) | (with_reducible apply sub_upd_r; focus (first | assumption | (simp only [hb2, hbb, upd_none, set_none, true_and, and_true, not_false_iff]; done))))), h s' us'⟩
  | ok f s1 =>
    rw [hp] at h
    rw [PR.ok_bind] at h
    have hl1 := powerP_len n hp
    intro us1
    simp only [hb2, hbb, go_sem, List.take_length, Nat.le_refl, Nat.add_zero, Nat.zero_add, ↓reduceIte, Nat.reduceEqDiff, Nat.reduceLT, Nat.reduceLeDiff, Nat.reduceAdd, Nat.reduceMul, Nat.reduceSub, Int.reduceNeg, Int.reduceToNat, Int.reduceAdd, Int.reduceSub, Int.reduceMul, Int.reduceLE, Int.reduceLT, Int.reduceEq, Int.reduceNe, true_and, and_true, reduceCtorEq, eq_self, not_true, not_false_iff, false_or, or_false, true_or, or_true, ne_eq, forall_const, implies_true, Bool.false_eq_true, Bool.true_eq_false, not_false_eq_true]
    intro b3 vs3 hb3; try simp only [upd_none, set_none, del_none] at hb3
    simp only [hb2, hbb, hb3, go_sem, List.take_length, Nat.le_refl, Nat.add_zero, Nat.zero_add, ↓reduceIte, Nat.reduceEqDiff, Nat.reduceLT, Nat.reduceLeDiff, Nat.reduceAdd, Nat.reduceMul, Nat.reduceSub, Int.reduceNeg, Int.reduceToNat, Int.reduceAdd, Int.reduceSub, Int.reduceMul, Int.reduceLE, Int.reduceLT, Int.reduceEq, Int.reduceNe, true_and, and_true, reduceCtorEq, eq_self, not_true, not_false_iff, false_or, or_false, true_or, or_true, ne_eq, forall_const, implies_true, Bool.false_eq_true, Bool.true_eq_false, not_false_eq_true]
    intro us3
    refine is_spec 42 (by decide) s1 b us1 _ _ (by omega) (by simp only [hb2, hbb, hb3, go_sem, List.take_length, Nat.le_refl, Nat.add_zero, Nat.zero_add, ↓reduceIte, Nat.reduceEqDiff, Nat.reduceLT, Nat.reduceLeDiff, Nat.reduceAdd, Nat.reduceMul, Nat.reduceSub, Int.reduceNeg, Int.reduceToNat, Int.reduceAdd, Int.reduceSub, Int.reduceMul, Int.reduceLE, Int.reduceLT, Int.reduceEq, Int.reduceNe, true_and, and_true, reduceCtorEq, eq_self, not_true, not_false_iff, false_or, or_false, true_or, or_true, ne_eq, forall_const, implies_true, Bool.false_eq_true, Bool.true_eq_false, not_false_eq_true]) ?_
    intro us4
    have hr := trimL_len 32 s1
    have ht := tail_len s1
    by_cases hc : head0 (trimL 32 s1) = 42
    · rw [if_pos hc] at h
      simp only [hc, decide_true, hb2, hbb, hb3, set_set, go_sem, List.take_length, Nat.le_refl, Nat.add_zero, Nat.zero_add, ↓reduceIte, Nat.reduceEqDiff, Nat.reduceLT, Nat.reduceLeDiff, Nat.reduceAdd, Nat.reduceMul, Nat.reduceSub, Int.reduceNeg, Int.reduceToNat, Int.reduceAdd, Int.reduceSub, Int.reduceMul, Int.reduceLE, Int.reduceLT, Int.reduceEq, Int.reduceNe, true_and, and_true, reduceCtorEq, eq_self, not_true, not_false_iff, false_or, or_false, true_or, or_true, ne_eq, forall_const, implies_true, Bool.false_eq_true, Bool.true_eq_false, not_false_eq_true]
      refine awp_drawL (by kernel_rfl) (.take 0 (.take 1 (.all [(2, (.all [(3, (.all [(4, (.last 5))]))]))]))) [b3] (by kernel_rfl) ?_
      simp only [hb2, hbb, hb3, go_sem, List.take_length, Nat.le_refl, Nat.add_zero, Nat.zero_add, ↓reduceIte, Nat.reduceEqDiff, Nat.reduceLT, Nat.reduceLeDiff, Nat.reduceAdd, Nat.reduceMul, Nat.reduceSub, Int.reduceNeg, Int.reduceToNat, Int.reduceAdd, Int.reduceSub, Int.reduceMul, Int.reduceLE, Int.reduceLT, Int.reduceEq, Int.reduceNe, true_and, and_true, reduceCtorEq, eq_self, not_true, not_false_iff, false_or, or_false, true_or, or_true, ne_eq, forall_const, implies_true, Bool.false_eq_true, Bool.true_eq_false, not_false_eq_true]
      refine hop (trimL 32 s1).tail b us4 _ _ (by omega) (by simp only [hb2, hbb, hb3, go_sem, List.take_length, Nat.le_refl, Nat.add_zero, Nat.zero_add, ↓reduceIte, Nat.reduceEqDiff, Nat.reduceLT, Nat.reduceLeDiff, Nat.reduceAdd, Nat.reduceMul, Nat.reduceSub, Int.reduceNeg, Int.reduceToNat, Int.reduceAdd, Int.reduceSub, Int.reduceMul, Int.reduceLE, Int.reduceLT, Int.reduceEq, Int.reduceNe, true_and, and_true, reduceCtorEq, eq_self, not_true, not_false_iff, false_or, or_false, true_or, or_true, ne_eq, forall_const, implies_true, Bool.false_eq_true, Bool.true_eq_false, not_false_eq_true]) ?_
      cases hn : powerP n (trimL 32 s1).tail with
      | out => rw [hn] at h; exact h
      | bad =>
        rw [hn] at h
        intro s' us'
        simp only [hb2, hbb, hb3, set_set, go_sem, List.take_length, Nat.le_refl, Nat.add_zero, Nat.zero_add, ↓reduceIte, Nat.reduceEqDiff, Nat.reduceLT, Nat.reduceLeDiff, Nat.reduceAdd, Nat.reduceMul, Nat.reduceSub, Int.reduceNeg, Int.reduceToNat, Int.reduceAdd, Int.reduceSub, Int.reduceMul, Int.reduceLE, Int.reduceLT, Int.reduceEq, Int.reduceNe, true_and, and_true, reduceCtorEq, eq_self, not_true, not_false_iff, false_or, or_false, true_or, or_true, ne_eq, forall_const, implies_true, Bool.false_eq_true, Bool.true_eq_false, not_false_eq_true]
        exact ⟨_, by (repeat' (first | exact Sub.refl _ | (with_reducible apply sub_upd_l; focus (simp only [hb2, hbb, hb3, go_sem, ↓reduceIte]; done)) | (with_reducible apply sub_upd_r; focus (first | assumption | (simp only [hb2, hbb, hb3, upd_none, set_none, true_and, and_true, not_false_iff]; done))))), h s' us'⟩
      | ok k s2 =>
        rw [hn] at h
        simp only [PR.ok_bind] at h
        intro us5
        simp only [hb2, hbb, hb3, set_set, go_sem, List.take_length, Nat.le_refl, Nat.add_zero, Nat.zero_add, ↓reduceIte, Nat.reduceEqDiff, Nat.reduceLT, Nat.reduceLeDiff, Nat.reduceAdd, Nat.reduceMul, Nat.reduceSub, Int.reduceNeg, Int.reduceToNat, Int.reduceAdd, Int.reduceSub, Int.reduceMul, Int.reduceLE, Int.reduceLT, Int.reduceEq, Int.reduceNe, true_and, and_true, reduceCtorEq, eq_self, not_true, not_false_iff, false_or, or_false, true_or, or_true, ne_eq, forall_const, implies_true, Bool.false_eq_true, Bool.true_eq_false, not_false_eq_true]
        intro us6
        exact aret_intro (h us5) (by (repeat' (first | exact Sub.refl _ | (with_reducible apply sub_upd_l; focus (simp only [hb2, hbb, hb3, go_sem, ↓reduceIte]; done)) | (with_reducible apply sub_upd_r; focus (first | assumption | (simp only [hb2, hbb, hb3, upd_none, set_none, true_and, and_true, not_false_iff]; done)))))) (weak_fun rfl)
    · rw [if_neg hc] at h
      simp only [hc, decide_false, hb2, hbb, hb3, set_set, go_sem, List.take_length, Nat.le_refl, Nat.add_zero, Nat.zero_add, ↓reduceIte, Nat.reduceEqDiff, Nat.reduceLT, Nat.reduceLeDiff, Nat.reduceAdd, Nat.reduceMul, Nat.reduceSub, Int.reduceNeg, Int.reduceToNat, Int.reduceAdd, Int.reduceSub, Int.reduceMul, Int.reduceLE, Int.reduceLT, Int.reduceEq, Int.reduceNe, true_and, and_true, reduceCtorEq, eq_self, not_true, not_false_iff, false_or, or_false, true_or, or_true, ne_eq, forall_const, implies_true, Bool.false_eq_true, Bool.true_eq_false, not_false_eq_true]
      refine is_spec 43 (by decide) (trimL 32 s1) b us4 _ _ (by omega) (by simp only [hb2, hbb, hb3, go_sem, List.take_length, Nat.le_refl, Nat.add_zero, Nat.zero_add, ↓reduceIte, Nat.reduceEqDiff, Nat.reduceLT, Nat.reduceLeDiff, Nat.reduceAdd, Nat.reduceMul, Nat.reduceSub, Int.reduceNeg, Int.reduceToNat, Int.reduceAdd, Int.reduceSub, Int.reduceMul, Int.reduceLE, Int.reduceLT, Int.reduceEq, Int.reduceNe, true_and, and_true, reduceCtorEq, eq_self, not_true, not_false_iff, false_or, or_false, true_or, or_true, ne_eq, forall_const, implies_true, Bool.false_eq_true, Bool.true_eq_false, not_false_eq_true]) ?_
      rw [trimL_trimL]
      intro us5
      by_cases hc2 : head0 (trimL 32 s1) = 43
      · rw [if_pos hc2] at h
        simp only [hc2, decide_true, hb2, hbb, hb3, set_set, go_sem, List.take_length, Nat.le_refl, Nat.add_zero, Nat.zero_add, ↓reduceIte, Nat.reduceEqDiff, Nat.reduceLT, Nat.reduceLeDiff, Nat.reduceAdd, Nat.reduceMul, Nat.reduceSub, Int.reduceNeg, Int.reduceToNat, Int.reduceAdd, Int.reduceSub, Int.reduceMul, Int.reduceLE, Int.reduceLT, Int.reduceEq, Int.reduceNe, true_and, and_true, reduceCtorEq, eq_self, not_true, not_false_iff, false_or, or_false, true_or, or_true, ne_eq, forall_const, implies_true, Bool.false_eq_true, Bool.true_eq_false, not_false_eq_true]
        refine awp_drawL (by kernel_rfl) (.take 0 (.take 1 (.all [(2, (.all [(3, (.all [(4, (.last 5))]))]))]))) [b3] (by kernel_rfl) ?_
        simp only [hb2, hbb, hb3, go_sem, List.take_length, Nat.le_refl, Nat.add_zero, Nat.zero_add, ↓reduceIte, Nat.reduceEqDiff, Nat.reduceLT, Nat.reduceLeDiff, Nat.reduceAdd, Nat.reduceMul, Nat.reduceSub, Int.reduceNeg, Int.reduceToNat, Int.reduceAdd, Int.reduceSub, Int.reduceMul, Int.reduceLE, Int.reduceLT, Int.reduceEq, Int.reduceNe, true_and, and_true, reduceCtorEq, eq_self, not_true, not_false_iff, false_or, or_false, true_or, or_true, ne_eq, forall_const, implies_true, Bool.false_eq_true, Bool.true_eq_false, not_false_eq_true]
        refine hop (trimL 32 s1).tail b us5 _ _ (by omega) (by simp only [hb2, hbb, hb3, go_sem, List.take_length, Nat.le_refl, Nat.add_zero, Nat.zero_add, ↓reduceIte, Nat.reduceEqDiff, Nat.reduceLT, Nat.reduceLeDiff, Nat.reduceAdd, Nat.reduceMul, Nat.reduceSub, Int.reduceNeg, Int.reduceToNat, Int.reduceAdd, Int.reduceSub, Int.reduceMul, Int.reduceLE, Int.reduceLT, Int.reduceEq, Int.reduceNe, true_and, and_true, reduceCtorEq, eq_self, not_true, not_false_iff, false_or, or_false, true_or, or_true, ne_eq, forall_const, implies_true, Bool.false_eq_true, Bool.true_eq_false, not_false_eq_true]) ?_
        cases hn : powerP n (trimL 32 s1).tail with
        | out => rw [hn] at h; exact h
        | bad =>
          rw [hn] at h
          intro s' us'
          simp only [hb2, hbb, hb3, set_set, go_sem, List.take_length, Nat.le_refl, Nat.add_zero, Nat.zero_add, ↓reduceIte, Nat.reduceEqDiff, Nat.reduceLT, Nat.reduceLeDiff, Nat.reduceAdd, Nat.reduceMul, Nat.reduceSub, Int.reduceNeg, Int.reduceToNat, Int.reduceAdd, Int.reduceSub, Int.reduceMul, Int.reduceLE, Int.reduceLT, Int.reduceEq, Int.reduceNe, true_and, and_true, reduceCtorEq, eq_self, not_true, not_false_iff, false_or, or_false, true_or, or_true, ne_eq, forall_const, implies_true, Bool.false_eq_true, Bool.true_eq_false, not_false_eq_true]
          exact ⟨_, by (repeat' (first | exact Sub.refl _ | (with_reducible apply sub_upd_l; focus (simp only [hb2, hbb, hb3, go_sem, ↓reduceIte]; done)) | (with_reducible apply sub_upd_r; focus (first | assumption | (simp only [hb2, hbb, hb3, upd_none, set_none, true_and, and_true, not_false_iff]; done))))), h s' us'⟩
        | ok k s2 =>
          rw [hn] at h
          simp only [PR.ok_bind] at h
          intro us6
          simp only [hb2, hbb, hb3, set_set, go_sem, List.take_length, Nat.le_refl, Nat.add_zero, Nat.zero_add, ↓reduceIte, Nat.reduceEqDiff, Nat.reduceLT, Nat.reduceLeDiff, Nat.reduceAdd, Nat.reduceMul, Nat.reduceSub, Int.reduceNeg, Int.reduceToNat, Int.reduceAdd, Int.reduceSub, Int.reduceMul, Int.reduceLE, Int.reduceLT, Int.reduceEq, Int.reduceNe, true_and, and_true, reduceCtorEq, eq_self, not_true, not_false_iff, false_or, or_false, true_or, or_true, ne_eq, forall_const, implies_true, Bool.false_eq_true, Bool.true_eq_false, not_false_eq_true]
          intro us7
          exact aret_intro (h us6) (by (repeat' (first | exact Sub.refl _ | (with_reducible apply sub_upd_l; focus (simp only [hb2, hbb, hb3, go_sem, ↓reduceIte]; done)) | (with_reducible apply sub_upd_r; focus (first | assumption | (simp only [hb2, hbb, hb3, upd_none, set_none, true_and, and_true, not_false_iff]; done)))))) (weak_fun rfl)
      · rw [if_neg hc2] at h
        simp only [hc2, decide_false, hb2, hbb, hb3, set_set, go_sem, List.take_length, Nat.le_refl, Nat.add_zero, Nat.zero_add, ↓reduceIte, Nat.reduceEqDiff, Nat.reduceLT, Nat.reduceLeDiff, Nat.reduceAdd, Nat.reduceMul, Nat.reduceSub, Int.reduceNeg, Int.reduceToNat, Int.reduceAdd, Int.reduceSub, Int.reduceMul, Int.reduceLE, Int.reduceLT, Int.reduceEq, Int.reduceNe, true_and, and_true, reduceCtorEq, eq_self, not_true, not_false_iff, false_or, or_false, true_or, or_true, ne_eq, forall_const, implies_true, Bool.false_eq_true, Bool.true_eq_false, not_false_eq_true]
        intro us6
        exact aret_same (h us5) (by (repeat' (first | exact Sub.refl _ | (with_reducible apply sub_upd_l; focus (simp only [hb2, hbb, hb3, go_sem, ↓reduceIte]; done)) | (with_reducible apply sub_upd_r; focus (first | assumption | (simp only [hb2, hbb, hb3, upd_none, set_none, true_and, and_true, not_false_iff]; done))))))

theorem head_ne {s : List UInt8} (h : head0 (trimL 32 s) ≠ 0) : ∃ x xs, trimL 32 s = x :: xs := by
  cases hs : trimL 32 s with
  | nil => rw [hs] at h; exact absurd rfl h
  | cons x xs => exact ⟨x, xs, rfl⟩

theorem inner_step (n : Nat) (hop : Spec G 21 (allP n)) (k : Int) (s : List UInt8) (b b1 : Nat) (us vs : Array Value) (S : St) (R : AEnd → St → Prop) (hl : s.length ≤ 1000000000) (hS : S.get b = some (.box [str s] us))
    (hS1 : S.get b1 = some (.box [ptr b 0] vs)) (hb : ¬ b = b1 ∧ ¬ b1 = b) (hne : head0 (trimL 32 s) ≠ 0) (h : Met G.mark b S R (innerP (n + 1) k (trimL 32 s).tail)) : ACalls Tryd.prog G 39 [int .i64 k, ptr b1 0] S R := by
  refine acalls_of_awp Tryd.func39 rfl (by rw [Tryd.ntmps39]; simp) ?_; rw [Tryd.ntmps39, Tryd.results39]
  simp only [go_sem, List.take_length, Nat.le_refl, Nat.add_zero, Nat.zero_add, ↓reduceIte, Nat.reduceEqDiff, Nat.reduceLT, Nat.reduceLeDiff, Nat.reduceAdd, Nat.reduceMul, Nat.reduceSub, Int.reduceNeg, Int.reduceToNat, Int.reduceAdd, Int.reduceSub, Int.reduceMul, Int.reduceLE, Int.reduceLT, Int.reduceEq, Int.reduceNe, true_and, and_true, reduceCtorEq, eq_self, not_true, not_false_iff, false_or, or_false, true_or, or_true, ne_eq, forall_const, implies_true, Bool.false_eq_true, Bool.true_eq_false, not_false_eq_true]
  intro b2 vs2 hb2; try simp only [upd_none, set_none, del_none] at hb2
  have hbb := get_ne hS hb2
  have hbb1 := get_ne hS1 hb2
  simp only [hS, hb2, hbb, go_sem, List.take_length, Nat.le_refl, Nat.add_zero, Nat.zero_add, ↓reduceIte, Nat.reduceEqDiff, Nat.reduceLT, Nat.reduceLeDiff, Nat.reduceAdd, Nat.reduceMul, Nat.reduceSub, Int.reduceNeg, Int.reduceToNat, Int.reduceAdd, Int.reduceSub, Int.reduceMul, Int.reduceLE, Int.reduceLT, Int.reduceEq, Int.reduceNe, true_and, and_true, reduceCtorEq, eq_self, not_true, not_false_iff, false_or, or_false, true_or, or_true, ne_eq, forall_const, implies_true, Bool.false_eq_true, Bool.true_eq_false, not_false_eq_true]
  refine awp_drawL (by kernel_rfl) (.take 0 (.take 1 (.all [(2, (.all [(3, .done)]))]))) [b1] (by kernel_rfl) ?_
  simp only [hS, hS1, hb2, hbb, hbb1, hb, go_sem, List.take_length, Nat.le_refl, Nat.add_zero, Nat.zero_add, ↓reduceIte, Nat.reduceEqDiff, Nat.reduceLT, Nat.reduceLeDiff, Nat.reduceAdd, Nat.reduceMul, Nat.reduceSub, Int.reduceNeg, Int.reduceToNat, Int.reduceAdd, Int.reduceSub, Int.reduceMul, Int.reduceLE, Int.reduceLT, Int.reduceEq, Int.reduceNe, true_and, and_true, reduceCtorEq, eq_self, not_true, not_false_iff, false_or, or_false, true_or, or_true, ne_eq, forall_const, implies_true, Bool.false_eq_true, Bool.true_eq_false, not_false_eq_true]
  refine next_spec s b us _ _ hl (by simp only [hS, hb2, hbb, go_sem, List.take_length, Nat.le_refl, Nat.add_zero, Nat.zero_add, ↓reduceIte, Nat.reduceEqDiff, Nat.reduceLT, Nat.reduceLeDiff, Nat.reduceAdd, Nat.reduceMul, Nat.reduceSub, Int.reduceNeg, Int.reduceToNat, Int.reduceAdd, Int.reduceSub, Int.reduceMul, Int.reduceLE, Int.reduceLT, Int.reduceEq, Int.reduceNe, true_and, and_true, reduceCtorEq, eq_self, not_true, not_false_iff, false_or, or_false, true_or, or_true, ne_eq, forall_const, implies_true, Bool.false_eq_true, Bool.true_eq_false, not_false_eq_true]) ?_
  intro us1
  simp only [hS, hS1, hb2, hbb, hbb1, hb, go_sem, List.take_length, Nat.le_refl, Nat.add_zero, Nat.zero_add, ↓reduceIte, Nat.reduceEqDiff, Nat.reduceLT, Nat.reduceLeDiff, Nat.reduceAdd, Nat.reduceMul, Nat.reduceSub, Int.reduceNeg, Int.reduceToNat, Int.reduceAdd, Int.reduceSub, Int.reduceMul, Int.reduceLE, Int.reduceLT, Int.reduceEq, Int.reduceNe, true_and, and_true, reduceCtorEq, eq_self, not_true, not_false_iff, false_or, or_false, true_or, or_true, ne_eq, forall_const, implies_true, Bool.false_eq_true, Bool.true_eq_false, not_false_eq_true]
  simp only [innerP] at h
  have l1 := trimL_len 32 s
  have l2 := tail_len s
  refine take_spec (head0 (trimL 32 s)) hne (trimL 32 s) b us1 _ _ (by omega) (by simp only [hb2, hbb, go_sem, List.take_length, Nat.le_refl, Nat.add_zero, Nat.zero_add, ↓reduceIte, Nat.reduceEqDiff, Nat.reduceLT, Nat.reduceLeDiff, Nat.reduceAdd, Nat.reduceMul, Nat.reduceSub, Int.reduceNeg, Int.reduceToNat, Int.reduceAdd, Int.reduceSub, Int.reduceMul, Int.reduceLE, Int.reduceLT, Int.reduceEq, Int.reduceNe, true_and, and_true, reduceCtorEq, eq_self, not_true, not_false_iff, false_or, or_false, true_or, or_true, ne_eq, forall_const, implies_true, Bool.false_eq_true, Bool.true_eq_false, not_false_eq_true]) ?_ ?_
  rotate_left
  case _ =>
    intro hx
    exact absurd (by rw [trimL_trimL]) hx
  intro _ us2
  rw [trimL_trimL]
  simp only [hS, hS1, hb2, hbb, hbb1, hb, set_set, go_sem, List.take_length, Nat.le_refl, Nat.add_zero, Nat.zero_add, ↓reduceIte, Nat.reduceEqDiff, Nat.reduceLT, Nat.reduceLeDiff, Nat.reduceAdd, Nat.reduceMul, Nat.reduceSub, Int.reduceNeg, Int.reduceToNat, Int.reduceAdd, Int.reduceSub, Int.reduceMul, Int.reduceLE, Int.reduceLT, Int.reduceEq, Int.reduceNe, true_and, and_true, reduceCtorEq, eq_self, not_true, not_false_iff, false_or, or_false, true_or, or_true, ne_eq, forall_const, implies_true, Bool.false_eq_true, Bool.true_eq_false, not_false_eq_true]
  generalize (trimL 32 s).tail = s1 at h l2
  have l3 := trimL_len 32 s1
  have l4 := tail_len s1
  refine take_spec 40 (by decide) s1 b us2 _ _ (by omega) (by simp only [hb2, hbb, go_sem, List.take_length, Nat.le_refl, Nat.add_zero, Nat.zero_add, ↓reduceIte, Nat.reduceEqDiff, Nat.reduceLT, Nat.reduceLeDiff, Nat.reduceAdd, Nat.reduceMul, Nat.reduceSub, Int.reduceNeg, Int.reduceToNat, Int.reduceAdd, Int.reduceSub, Int.reduceMul, Int.reduceLE, Int.reduceLT, Int.reduceEq, Int.reduceNe, true_and, and_true, reduceCtorEq, eq_self, not_true, not_false_iff, false_or, or_false, true_or, or_true, ne_eq, forall_const, implies_true, Bool.false_eq_true, Bool.true_eq_false, not_false_eq_true]) ?_ ?_
  rotate_left
  case _ =>
    intro hx us3
    rw [expect, if_neg hx, PR.bad_bind] at h
    simp only [set_set, hb2, hbb, go_sem, List.take_length, Nat.le_refl, Nat.add_zero, Nat.zero_add, ↓reduceIte, Nat.reduceEqDiff, Nat.reduceLT, Nat.reduceLeDiff, Nat.reduceAdd, Nat.reduceMul, Nat.reduceSub, Int.reduceNeg, Int.reduceToNat, Int.reduceAdd, Int.reduceSub, Int.reduceMul, Int.reduceLE, Int.reduceLT, Int.reduceEq, Int.reduceNe, true_and, and_true, reduceCtorEq, eq_self, not_true, not_false_iff, false_or, or_false, true_or, or_true, ne_eq, forall_const, implies_true, Bool.false_eq_true, Bool.true_eq_false, not_false_eq_true]
    exact ⟨_, by (repeat' (first | exact Sub.refl _ | (with_reducible apply sub_upd_l; focus (simp only [hb2, hbb, go_sem, ↓reduceIte]; done)) | (with_reducible apply sub_upd_r; focus (first | assumption | (simp only [hb2, hbb, upd_none, set_none, true_and, and_true, not_false_iff]; done))))), h _ us3⟩
  intro hx us3
  rw [expect, if_pos hx, PR.ok_bind] at h
  simp only [hS, hS1, hb2, hbb, hbb1, hb, set_set, go_sem, List.take_length, Nat.le_refl, Nat.add_zero, Nat.zero_add, ↓reduceIte, Nat.reduceEqDiff, Nat.reduceLT, Nat.reduceLeDiff, Nat.reduceAdd, Nat.reduceMul, Nat.reduceSub, Int.reduceNeg, Int.reduceToNat, Int.reduceAdd, Int.reduceSub, Int.reduceMul, Int.reduceLE, Int.reduceLT, Int.reduceEq, Int.reduceNe, true_and, and_true, reduceCtorEq, eq_self, not_true, not_false_iff, false_or, or_false, true_or, or_true, ne_eq, forall_const, implies_true, Bool.false_eq_true, Bool.true_eq_false, not_false_eq_true]
  generalize (trimL 32 s1).tail = s2 at h l4
  refine hop s2 b us3 _ _ (by omega) (by simp only [hb2, hbb, go_sem, List.take_length, Nat.le_refl, Nat.add_zero, Nat.zero_add, ↓reduceIte, Nat.reduceEqDiff, Nat.reduceLT, Nat.reduceLeDiff, Nat.reduceAdd, Nat.reduceMul, Nat.reduceSub, Int.reduceNeg, Int.reduceToNat, Int.reduceAdd, Int.reduceSub, Int.reduceMul, Int.reduceLE, Int.reduceLT, Int.reduceEq, Int.reduceNe, true_and, and_true, reduceCtorEq, eq_self, not_true, not_false_iff, false_or, or_false, true_or, or_true, ne_eq, forall_const, implies_true, Bool.false_eq_true, Bool.true_eq_false, not_false_eq_true]) ?_
  cases hp : allP n s2 with
  | out => rw [hp] at h; exact h
  | bad =>
    rw [hp] at h
    intro s' us'
    simp only [hb2, hbb, set_set, go_sem, List.take_length, Nat.le_refl, Nat.add_zero, Nat.zero_add, ↓reduceIte, Nat.reduceEqDiff, Nat.reduceLT, Nat.reduceLeDiff, Nat.reduceAdd, Nat.reduceMul, Nat.reduceSub, Int.reduceNeg, Int.reduceToNat, Int.reduceAdd, Int.reduceSub, Int.reduceMul, Int.reduceLE, Int.reduceLT, Int.reduceEq, Int.reduceNe, true_and, and_true, reduceCtorEq, eq_self, not_true, not_false_iff, false_or, or_false, true_or, or_true, ne_eq, forall_const, implies_true, Bool.false_eq_true, Bool.true_eq_false, not_false_eq_true]
    exact ⟨_, by (repeat' (first | exact Sub.refl _ | (with_reducible apply sub_upd_l; focus (simp only [hb2, hbb, go_sem, ↓reduceIte]; done)) | (with_reducible apply sub_upd_r; focus (first | assumption | (simp only [hb2, hbb, upd_none, set_none, true_and, and_true, not_false_iff]; done))))), h s' us'⟩
  | ok f s3 =>
    rw [hp, PR.ok_bind] at h
    have l5 := allP_len n hp
    intro us4
    simp only [hb2, hbb, set_set, go_sem, List.take_length, Nat.le_refl, Nat.add_zero, Nat.zero_add, ↓reduceIte, Nat.reduceEqDiff, Nat.reduceLT, Nat.reduceLeDiff, Nat.reduceAdd, Nat.reduceMul, Nat.reduceSub, Int.reduceNeg, Int.reduceToNat, Int.reduceAdd, Int.reduceSub, Int.reduceMul, Int.reduceLE, Int.reduceLT, Int.reduceEq, Int.reduceNe, true_and, and_true, reduceCtorEq, eq_self, not_true, not_false_iff, false_or, or_false, true_or, or_true, ne_eq, forall_const, implies_true, Bool.false_eq_true, Bool.true_eq_false, not_false_eq_true]
    intro b3 vs3 hb3; try simp only [upd_none, set_none, del_none] at hb3
    have hbb3 := get_ne hS1 hb3.2.2
    simp only [hS, hS1, hb2, hbb, hb3, hb, hbb1, hbb3, go_sem, List.take_length, Nat.le_refl, Nat.add_zero, Nat.zero_add, ↓reduceIte, Nat.reduceEqDiff, Nat.reduceLT, Nat.reduceLeDiff, Nat.reduceAdd, Nat.reduceMul, Nat.reduceSub, Int.reduceNeg, Int.reduceToNat, Int.reduceAdd, Int.reduceSub, Int.reduceMul, Int.reduceLE, Int.reduceLT, Int.reduceEq, Int.reduceNe, true_and, and_true, reduceCtorEq, eq_self, not_true, not_false_iff, false_or, or_false, true_or, or_true, ne_eq, forall_const, implies_true, Bool.false_eq_true, Bool.true_eq_false, not_false_eq_true]
    intro us5
    have l6 := trimL_len 32 s3
    have l7 := tail_len s3
    refine take_spec 41 (by decide) s3 b us4 _ _ (by omega) (by simp only [hb2, hbb, hb3, go_sem, List.take_length, Nat.le_refl, Nat.add_zero, Nat.zero_add, ↓reduceIte, Nat.reduceEqDiff, Nat.reduceLT, Nat.reduceLeDiff, Nat.reduceAdd, Nat.reduceMul, Nat.reduceSub, Int.reduceNeg, Int.reduceToNat, Int.reduceAdd, Int.reduceSub, Int.reduceMul, Int.reduceLE, Int.reduceLT, Int.reduceEq, Int.reduceNe, true_and, and_true, reduceCtorEq, eq_self, not_true, not_false_iff, false_or, or_false, true_or, or_true, ne_eq, forall_const, implies_true, Bool.false_eq_true, Bool.true_eq_false, not_false_eq_true]) ?_ ?_
    rotate_left
    case _ =>
      intro hx us3
      rw [expect, if_neg hx, PR.bad_bind] at h
      simp only [set_set, hb2, hbb, hb3, go_sem, List.take_length, Nat.le_refl, Nat.add_zero, Nat.zero_add, ↓reduceIte, Nat.reduceEqDiff, Nat.reduceLT, Nat.reduceLeDiff, Nat.reduceAdd, Nat.reduceMul, Nat.reduceSub, Int.reduceNeg, Int.reduceToNat, Int.reduceAdd, Int.reduceSub, Int.reduceMul, Int.reduceLE, Int.reduceLT, Int.reduceEq, Int.reduceNe, true_and, and_true, reduceCtorEq, eq_self, not_true, not_false_iff, false_or, or_false, true_or, or_true, ne_eq, forall_const, implies_true, Bool.false_eq_true, Bool.true_eq_false, not_false_eq_true]
      exact ⟨_, by (repeat' (first | exact Sub.refl _ | (with_reducible apply sub_upd_l; focus (simp only [hb2, hbb, hb3, go_sem, ↓reduceIte]; done)) | (with_reducible apply sub_upd_r; focus (first | assumption | (simp only [hb2, hbb, hb3, upd_none, set_none, true_and, and_true, not_false_iff]; done))))), h _ us3⟩
    intro hx us6
    rw [expect, if_pos hx, PR.ok_bind] at h
    simp only [hS, hS1, hb2, hbb, hbb1, hb, hb3, set_set, go_sem, List.take_length, Nat.le_refl, Nat.add_zero, Nat.zero_add, ↓reduceIte, Nat.reduceEqDiff, Nat.reduceLT, Nat.reduceLeDiff, Nat.reduceAdd, Nat.reduceMul, Nat.reduceSub, Int.reduceNeg, Int.reduceToNat, Int.reduceAdd, Int.reduceSub, Int.reduceMul, Int.reduceLE, Int.reduceLT, Int.reduceEq, Int.reduceNe, true_and, and_true, reduceCtorEq, eq_self, not_true, not_false_iff, false_or, or_false, true_or, or_true, ne_eq, forall_const, implies_true, Bool.false_eq_true, Bool.true_eq_false, not_false_eq_true]
    intro us7
    exact aret_intro (h us6) (by (repeat' (first | exact Sub.refl _ | (with_reducible apply sub_upd_l; focus (simp only [hb2, hbb, hb3, go_sem, ↓reduceIte]; done)) | (with_reducible apply sub_upd_r; focus (first | assumption | (simp only [hb2, hbb, hb3, upd_none, set_none, true_and, and_true, not_false_iff]; done)))))) (weak_fun rfl)

theorem operand_step (n : Nat) (hop : Spec G 21 (allP n)) (hin : ∀ m, n = m + 1 → Spec G 21 (allP m)) : Spec G 32 (operandP (n + 1)) := by
  intro s b us S R hl hS h
  refine acalls_of_awp Tryd.func32 rfl (by rw [Tryd.ntmps32]; simp) ?_; rw [Tryd.ntmps32, Tryd.results32]
  simp only [go_sem, List.take_length, Nat.le_refl, Nat.add_zero, Nat.zero_add, ↓reduceIte, Nat.reduceEqDiff, Nat.reduceLT, Nat.reduceLeDiff, Nat.reduceAdd, Nat.reduceMul, Nat.reduceSub, Int.reduceNeg, Int.reduceToNat, Int.reduceAdd, Int.reduceSub, Int.reduceMul, Int.reduceLE, Int.reduceLT, Int.reduceEq, Int.reduceNe, true_and, and_true, reduceCtorEq, eq_self, not_true, not_false_iff, false_or, or_false, true_or, or_true, ne_eq, forall_const, implies_true, Bool.false_eq_true, Bool.true_eq_false, not_false_eq_true]
  intro b1 vs1 hb1; try simp only [upd_none, set_none, del_none] at hb1
  have hbb := get_ne hS hb1
  simp only [go_sem, List.take_length, Nat.le_refl, Nat.add_zero, Nat.zero_add, ↓reduceIte, Nat.reduceEqDiff, Nat.reduceLT, Nat.reduceLeDiff, Nat.reduceAdd, Nat.reduceMul, Nat.reduceSub, Int.reduceNeg, Int.reduceToNat, Int.reduceAdd, Int.reduceSub, Int.reduceMul, Int.reduceLE, Int.reduceLT, Int.reduceEq, Int.reduceNe, true_and, and_true, reduceCtorEq, eq_self, not_true, not_false_iff, false_or, or_false, true_or, or_true, ne_eq, forall_const, implies_true, Bool.false_eq_true, Bool.true_eq_false, not_false_eq_true]
  intro b2 vs2 hb2; try simp only [upd_none, set_none, del_none] at hb2
  have hbb2 := get_ne hS hb2.2
  simp only [hS, hb1, hb2, hbb, hbb2, go_sem, List.take_length, Nat.le_refl, Nat.add_zero, Nat.zero_add, ↓reduceIte, Nat.reduceEqDiff, Nat.reduceLT, Nat.reduceLeDiff, Nat.reduceAdd, Nat.reduceMul, Nat.reduceSub, Int.reduceNeg, Int.reduceToNat, Int.reduceAdd, Int.reduceSub, Int.reduceMul, Int.reduceLE, Int.reduceLT, Int.reduceEq, Int.reduceNe, true_and, and_true, reduceCtorEq, eq_self, not_true, not_false_iff, false_or, or_false, true_or, or_true, ne_eq, forall_const, implies_true, Bool.false_eq_true, Bool.true_eq_false, not_false_eq_true]
  refine next_spec s b us _ _ hl (by simp only [hS, hb1, hb2, hbb, hbb2, go_sem, List.take_length, Nat.le_refl, Nat.add_zero, Nat.zero_add, ↓reduceIte, Nat.reduceEqDiff, Nat.reduceLT, Nat.reduceLeDiff, Nat.reduceAdd, Nat.reduceMul, Nat.reduceSub, Int.reduceNeg, Int.reduceToNat, Int.reduceAdd, Int.reduceSub, Int.reduceMul, Int.reduceLE, Int.reduceLT, Int.reduceEq, Int.reduceNe, true_and, and_true, reduceCtorEq, eq_self, not_true, not_false_iff, false_or, or_false, true_or, or_true, ne_eq, forall_const, implies_true, Bool.false_eq_true, Bool.true_eq_false, not_false_eq_true]) ?_
  intro us1
  simp only [operandP] at h
  simp only [hS, hb1, hb2, hbb, hbb2, go_sem, List.take_length, Nat.le_refl, Nat.add_zero, Nat.zero_add, ↓reduceIte, Nat.reduceEqDiff, Nat.reduceLT, Nat.reduceLeDiff, Nat.reduceAdd, Nat.reduceMul, Nat.reduceSub, Int.reduceNeg, Int.reduceToNat, Int.reduceAdd, Int.reduceSub, Int.reduceMul, Int.reduceLE, Int.reduceLT, Int.reduceEq, Int.reduceNe, true_and, and_true, reduceCtorEq, eq_self, not_true, not_false_iff, false_or, or_false, true_or, or_true, ne_eq, forall_const, implies_true, Bool.false_eq_true, Bool.true_eq_false, not_false_eq_true]
  have l1 := trimL_len 32 s
  have l2 := tail_len s
  have inn : ∀ (k : Int) (R' : AEnd → St → Prop), head0 (trimL 32 s) ≠ 0 → Met G.mark b (((S.set b (.box [str (trimL 32 s)] us1)).upd b1 (.box [ptr b 0] vs1)).upd b2 (.box [int .i64 0, int .i64 0, .sl 0 [] (.own none)] vs2)) R' (innerP n k (trimL 32 s).tail) →
      ACalls Tryd.prog G 39 [int .i64 k, ptr b1 0] (((S.set b (.box [str (trimL 32 s)] us1)).upd b1 (.box [ptr b 0] vs1)).upd b2 (.box [int .i64 0, int .i64 0, .sl 0 [] (.own none)] vs2)) R' := by
    intro k R' hne hm
    cases n with
    | zero => simp only [innerP, Met] at hm
    | succ m =>
      refine inner_step m (hin m rfl) k (trimL 32 s) b b1 us1 vs1 _ R' (by omega) (by simp only [hb1, hb2, hbb, hbb2, go_sem, List.take_length, Nat.le_refl, Nat.add_zero, Nat.zero_add, ↓reduceIte, Nat.reduceEqDiff, Nat.reduceLT, Nat.reduceLeDiff, Nat.reduceAdd, Nat.reduceMul, Nat.reduceSub, Int.reduceNeg, Int.reduceToNat, Int.reduceAdd, Int.reduceSub, Int.reduceMul, Int.reduceLE, Int.reduceLT, Int.reduceEq, Int.reduceNe, true_and, and_true, reduceCtorEq, eq_self, not_true, not_false_iff, false_or, or_false, true_or, or_true, ne_eq, forall_const, implies_true, Bool.false_eq_true, Bool.true_eq_false, not_false_eq_true]) (by simp only [hb1, hb2, hbb, hbb2, go_sem, List.take_length, Nat.le_refl, Nat.add_zero, Nat.zero_add, ↓reduceIte, Nat.reduceEqDiff, Nat.reduceLT, Nat.reduceLeDiff, Nat.reduceAdd, Nat.reduceMul, Nat.reduceSub, Int.reduceNeg, Int.reduceToNat, Int.reduceAdd, Int.reduceSub, Int.reduceMul, Int.reduceLE, Int.reduceLT, Int.reduceEq, Int.reduceNe, true_and, and_true, reduceCtorEq, eq_self, not_true, not_false_iff, false_or, or_false, true_or, or_true, ne_eq, forall_const, implies_true, Bool.false_eq_true, Bool.true_eq_false, not_false_eq_true]) hbb ?_ ?_
      · rw [trimL_trimL]; exact hne
      · rw [trimL_trimL]; exact hm
  by_cases c88 : head0 (trimL 32 s) = 88
  · have e88 : ((head0 (trimL 32 s)).toNat : Int) = 88 := by rw [c88]; rfl
    rw [if_pos c88] at h
    simp only [e88, decide_true, hS, hb1, hb2, hbb, hbb2, go_sem, List.take_length, Nat.le_refl, Nat.add_zero, Nat.zero_add, ↓reduceIte, Nat.reduceEqDiff, Nat.reduceLT, Nat.reduceLeDiff, Nat.reduceAdd, Nat.reduceMul, Nat.reduceSub, Int.reduceNeg, Int.reduceToNat, Int.reduceAdd, Int.reduceSub, Int.reduceMul, Int.reduceLE, Int.reduceLT, Int.reduceEq, Int.reduceNe, true_and, and_true, reduceCtorEq, eq_self, not_true, not_false_iff, false_or, or_false, true_or, or_true, ne_eq, forall_const, implies_true, Bool.false_eq_true, Bool.true_eq_false, not_false_eq_true]
    refine take_spec 88 (by decide) (trimL 32 s) b us1 _ _ (by omega) (by simp only [hb1, hb2, hbb, hbb2, go_sem, List.take_length, Nat.le_refl, Nat.add_zero, Nat.zero_add, ↓reduceIte, Nat.reduceEqDiff, Nat.reduceLT, Nat.reduceLeDiff, Nat.reduceAdd, Nat.reduceMul, Nat.reduceSub, Int.reduceNeg, Int.reduceToNat, Int.reduceAdd, Int.reduceSub, Int.reduceMul, Int.reduceLE, Int.reduceLT, Int.reduceEq, Int.reduceNe, true_and, and_true, reduceCtorEq, eq_self, not_true, not_false_iff, false_or, or_false, true_or, or_true, ne_eq, forall_const, implies_true, Bool.false_eq_true, Bool.true_eq_false, not_false_eq_true]) ?_ ?_
    rotate_left
    case _ =>
      intro hx
      exact absurd (by rw [trimL_trimL]; exact c88) hx
    intro _ us2
    rw [trimL_trimL]
    simp only [set_set, hS, hb1, hb2, hbb, hbb2, go_sem, List.take_length, Nat.le_refl, Nat.add_zero, Nat.zero_add, ↓reduceIte, Nat.reduceEqDiff, Nat.reduceLT, Nat.reduceLeDiff, Nat.reduceAdd, Nat.reduceMul, Nat.reduceSub, Int.reduceNeg, Int.reduceToNat, Int.reduceAdd, Int.reduceSub, Int.reduceMul, Int.reduceLE, Int.reduceLT, Int.reduceEq, Int.reduceNe, true_and, and_true, reduceCtorEq, eq_self, not_true, not_false_iff, false_or, or_false, true_or, or_true, ne_eq, forall_const, implies_true, Bool.false_eq_true, Bool.true_eq_false, not_false_eq_true]
    intro us3
    exact aret_intro (h us2) (by (repeat' (first | exact Sub.refl _ | (with_reducible apply sub_upd_l; focus (simp only [hb1, hb2, hbb, hbb2, go_sem, ↓reduceIte]; done)) | (with_reducible apply sub_upd_r; focus (first | assumption | (simp only [hb1, hb2, hbb, hbb2, upd_none, set_none, true_and, and_true, not_false_iff]; done)))))) (weak_fun0)
  have e88 : ¬ ((head0 (trimL 32 s)).toNat : Int) = 88 := fun h => c88 (UInt8.toNat_inj.1 (by have : (88 : UInt8).toNat = 88 := rfl; omega))
  rw [if_neg c88] at h
  by_cases c40 : head0 (trimL 32 s) = 40
  · have e40 : ((head0 (trimL 32 s)).toNat : Int) = 40 := by rw [c40]; rfl
    rw [if_pos c40] at h
    simp only [e40, Int.reduceEq, decide_true, decide_false, hS, hb1, hb2, hbb, hbb2, go_sem, List.take_length, Nat.le_refl, Nat.add_zero, Nat.zero_add, ↓reduceIte, Nat.reduceEqDiff, Nat.reduceLT, Nat.reduceLeDiff, Nat.reduceAdd, Nat.reduceMul, Nat.reduceSub, Int.reduceNeg, Int.reduceToNat, Int.reduceAdd, Int.reduceSub, Int.reduceMul, Int.reduceLE, Int.reduceLT, Int.reduceEq, Int.reduceNe, true_and, and_true, reduceCtorEq, eq_self, not_true, not_false_iff, false_or, or_false, true_or, or_true, ne_eq, forall_const, implies_true, Bool.false_eq_true, Bool.true_eq_false, not_false_eq_true]
    refine take_spec 40 (by decide) (trimL 32 s) b us1 _ _ (by omega) (by simp only [hb1, hb2, hbb, hbb2, go_sem, List.take_length, Nat.le_refl, Nat.add_zero, Nat.zero_add, ↓reduceIte, Nat.reduceEqDiff, Nat.reduceLT, Nat.reduceLeDiff, Nat.reduceAdd, Nat.reduceMul, Nat.reduceSub, Int.reduceNeg, Int.reduceToNat, Int.reduceAdd, Int.reduceSub, Int.reduceMul, Int.reduceLE, Int.reduceLT, Int.reduceEq, Int.reduceNe, true_and, and_true, reduceCtorEq, eq_self, not_true, not_false_iff, false_or, or_false, true_or, or_true, ne_eq, forall_const, implies_true, Bool.false_eq_true, Bool.true_eq_false, not_false_eq_true]) ?_ ?_
    rotate_left
    case _ =>
      intro hx
      exact absurd (by rw [trimL_trimL]; exact c40) hx
    intro _ us2
    rw [trimL_trimL]
    simp only [set_set, hS, hb1, hb2, hbb, hbb2, go_sem, List.take_length, Nat.le_refl, Nat.add_zero, Nat.zero_add, ↓reduceIte, Nat.reduceEqDiff, Nat.reduceLT, Nat.reduceLeDiff, Nat.reduceAdd, Nat.reduceMul, Nat.reduceSub, Int.reduceNeg, Int.reduceToNat, Int.reduceAdd, Int.reduceSub, Int.reduceMul, Int.reduceLE, Int.reduceLT, Int.reduceEq, Int.reduceNe, true_and, and_true, reduceCtorEq, eq_self, not_true, not_false_iff, false_or, or_false, true_or, or_true, ne_eq, forall_const, implies_true, Bool.false_eq_true, Bool.true_eq_false, not_false_eq_true]
    refine hop (trimL 32 s).tail b us2 _ _ (by omega) (by simp only [hb1, hb2, hbb, hbb2, go_sem, List.take_length, Nat.le_refl, Nat.add_zero, Nat.zero_add, ↓reduceIte, Nat.reduceEqDiff, Nat.reduceLT, Nat.reduceLeDiff, Nat.reduceAdd, Nat.reduceMul, Nat.reduceSub, Int.reduceNeg, Int.reduceToNat, Int.reduceAdd, Int.reduceSub, Int.reduceMul, Int.reduceLE, Int.reduceLT, Int.reduceEq, Int.reduceNe, true_and, and_true, reduceCtorEq, eq_self, not_true, not_false_iff, false_or, or_false, true_or, or_true, ne_eq, forall_const, implies_true, Bool.false_eq_true, Bool.true_eq_false, not_false_eq_true]) ?_
    cases hp : allP n (trimL 32 s).tail with
    | out => rw [hp] at h; exact h
    | bad =>
      rw [hp] at h
      intro s' us'
      simp only [hb1, hb2, hbb, hbb2, set_set, go_sem, List.take_length, Nat.le_refl, Nat.add_zero, Nat.zero_add, ↓reduceIte, Nat.reduceEqDiff, Nat.reduceLT, Nat.reduceLeDiff, Nat.reduceAdd, Nat.reduceMul, Nat.reduceSub, Int.reduceNeg, Int.reduceToNat, Int.reduceAdd, Int.reduceSub, Int.reduceMul, Int.reduceLE, Int.reduceLT, Int.reduceEq, Int.reduceNe, true_and, and_true, reduceCtorEq, eq_self, not_true, not_false_iff, false_or, or_false, true_or, or_true, ne_eq, forall_const, implies_true, Bool.false_eq_true, Bool.true_eq_false, not_false_eq_true]
      exact ⟨_, by (repeat' (first | exact Sub.refl _ | (with_reducible apply sub_upd_l; focus (simp only [hb1, hb2, hbb, hbb2, go_sem, ↓reduceIte]; done)) | (with_reducible apply sub_upd_r; focus (first | assumption | (simp only [hb1, hb2, hbb, hbb2, upd_none, set_none, true_and, and_true, not_false_iff]; done))))), h s' us'⟩
    | ok f s3 =>
      rw [hp, PR.ok_bind] at h
      have l5 := allP_len n hp
      intro us4
      simp only [hb1, hb2, hbb, hbb2, set_set, go_sem, List.take_length, Nat.le_refl, Nat.add_zero, Nat.zero_add, ↓reduceIte, Nat.reduceEqDiff, Nat.reduceLT, Nat.reduceLeDiff, Nat.reduceAdd, Nat.reduceMul, Nat.reduceSub, Int.reduceNeg, Int.reduceToNat, Int.reduceAdd, Int.reduceSub, Int.reduceMul, Int.reduceLE, Int.reduceLT, Int.reduceEq, Int.reduceNe, true_and, and_true, reduceCtorEq, eq_self, not_true, not_false_iff, false_or, or_false, true_or, or_true, ne_eq, forall_const, implies_true, Bool.false_eq_true, Bool.true_eq_false, not_false_eq_true]
      intro b3 vs3 hb3; try simp only [upd_none, set_none, del_none] at hb3
      simp only [hb1, hb2, hb3, hbb, hbb2, set_set, go_sem, List.take_length, Nat.le_refl, Nat.add_zero, Nat.zero_add, ↓reduceIte, Nat.reduceEqDiff, Nat.reduceLT, Nat.reduceLeDiff, Nat.reduceAdd, Nat.reduceMul, Nat.reduceSub, Int.reduceNeg, Int.reduceToNat, Int.reduceAdd, Int.reduceSub, Int.reduceMul, Int.reduceLE, Int.reduceLT, Int.reduceEq, Int.reduceNe, true_and, and_true, reduceCtorEq, eq_self, not_true, not_false_iff, false_or, or_false, true_or, or_true, ne_eq, forall_const, implies_true, Bool.false_eq_true, Bool.true_eq_false, not_false_eq_true]
      intro us5
      have l6 := trimL_len 32 s3
      have l7 := tail_len s3
      refine take_spec 41 (by decide) s3 b us4 _ _ (by omega) (by simp only [hb1, hb2, hbb, hbb2, hb3, go_sem, List.take_length, Nat.le_refl, Nat.add_zero, Nat.zero_add, ↓reduceIte, Nat.reduceEqDiff, Nat.reduceLT, Nat.reduceLeDiff, Nat.reduceAdd, Nat.reduceMul, Nat.reduceSub, Int.reduceNeg, Int.reduceToNat, Int.reduceAdd, Int.reduceSub, Int.reduceMul, Int.reduceLE, Int.reduceLT, Int.reduceEq, Int.reduceNe, true_and, and_true, reduceCtorEq, eq_self, not_true, not_false_iff, false_or, or_false, true_or, or_true, ne_eq, forall_const, implies_true, Bool.false_eq_true, Bool.true_eq_false, not_false_eq_true]) ?_ ?_
      rotate_left
      case _ =>
        intro hx us3
        rw [expect, if_neg hx, PR.bad_bind] at h
        simp only [set_set, hb1, hb2, hbb, hbb2, hb3, go_sem, List.take_length, Nat.le_refl, Nat.add_zero, Nat.zero_add, ↓reduceIte, Nat.reduceEqDiff, Nat.reduceLT, Nat.reduceLeDiff, Nat.reduceAdd, Nat.reduceMul, Nat.reduceSub, Int.reduceNeg, Int.reduceToNat, Int.reduceAdd, Int.reduceSub, Int.reduceMul, Int.reduceLE, Int.reduceLT, Int.reduceEq, Int.reduceNe, true_and, and_true, reduceCtorEq, eq_self, not_true, not_false_iff, false_or, or_false, true_or, or_true, ne_eq, forall_const, implies_true, Bool.false_eq_true, Bool.true_eq_false, not_false_eq_true]
        exact ⟨_, by (repeat' (first | exact Sub.refl _ | (with_reducible apply sub_upd_l; focus (simp only [hb1, hb2, hbb, hbb2, hb3, go_sem, ↓reduceIte]; done)) | (with_reducible apply sub_upd_r; focus (first | assumption | (simp only [hb1, hb2, hbb, hbb2, hb3, upd_none, set_none, true_and, and_true, not_false_iff]; done))))), h _ us3⟩
      intro hx us6
      rw [expect, if_pos hx, PR.ok_bind] at h
      simp only [hS, hb1, hb2, hbb, hbb2, hb3, set_set, go_sem, List.take_length, Nat.le_refl, Nat.add_zero, Nat.zero_add, ↓reduceIte, Nat.reduceEqDiff, Nat.reduceLT, Nat.reduceLeDiff, Nat.reduceAdd, Nat.reduceMul, Nat.reduceSub, Int.reduceNeg, Int.reduceToNat, Int.reduceAdd, Int.reduceSub, Int.reduceMul, Int.reduceLE, Int.reduceLT, Int.reduceEq, Int.reduceNe, true_and, and_true, reduceCtorEq, eq_self, not_true, not_false_iff, false_or, or_false, true_or, or_true, ne_eq, forall_const, implies_true, Bool.false_eq_true, Bool.true_eq_false, not_false_eq_true]
      intro us7
      exact aret_same (h us6) (by (repeat' (first | exact Sub.refl _ | (with_reducible apply sub_upd_l; focus (simp only [hb1, hb2, hbb, hbb2, hb3, go_sem, ↓reduceIte]; done)) | (with_reducible apply sub_upd_r; focus (first | assumption | (simp only [hb1, hb2, hbb, hbb2, hb3, upd_none, set_none, true_and, and_true, not_false_iff]; done))))))
  have e40 : ¬ ((head0 (trimL 32 s)).toNat : Int) = 40 := fun h => c40 (UInt8.toNat_inj.1 (by have : (40 : UInt8).toNat = 40 := rfl; omega))
  rw [if_neg c40] at h
  by_cases c80 : head0 (trimL 32 s) = 80
  · have e80 : ((head0 (trimL 32 s)).toNat : Int) = 80 := by rw [c80]; rfl
    rw [if_pos c80] at h
    simp only [e80, Int.reduceEq, decide_true, decide_false, hS, hb1, hb2, hbb, hbb2, go_sem, List.take_length, Nat.le_refl, Nat.add_zero, Nat.zero_add, ↓reduceIte, Nat.reduceEqDiff, Nat.reduceLT, Nat.reduceLeDiff, Nat.reduceAdd, Nat.reduceMul, Nat.reduceSub, Int.reduceNeg, Int.reduceToNat, Int.reduceAdd, Int.reduceSub, Int.reduceMul, Int.reduceLE, Int.reduceLT, Int.reduceEq, Int.reduceNe, true_and, and_true, reduceCtorEq, eq_self, not_true, not_false_iff, false_or, or_false, true_or, or_true, ne_eq, forall_const, implies_true, Bool.false_eq_true, Bool.true_eq_false, not_false_eq_true]
    refine inn 5 _ (by rw [c80]; decide) ?_
    cases hp : innerP n 5 (trimL 32 s).tail with
    | out => rw [hp] at h; exact h
    | bad =>
      rw [hp] at h
      intro s' us'
      simp only [hb1, hb2, hbb, hbb2, set_set, go_sem, List.take_length, Nat.le_refl, Nat.add_zero, Nat.zero_add, ↓reduceIte, Nat.reduceEqDiff, Nat.reduceLT, Nat.reduceLeDiff, Nat.reduceAdd, Nat.reduceMul, Nat.reduceSub, Int.reduceNeg, Int.reduceToNat, Int.reduceAdd, Int.reduceSub, Int.reduceMul, Int.reduceLE, Int.reduceLT, Int.reduceEq, Int.reduceNe, true_and, and_true, reduceCtorEq, eq_self, not_true, not_false_iff, false_or, or_false, true_or, or_true, ne_eq, forall_const, implies_true, Bool.false_eq_true, Bool.true_eq_false, not_false_eq_true]
      exact ⟨_, by (repeat' (first | exact Sub.refl _ | (with_reducible apply sub_upd_l; focus (simp only [hb1, hb2, hbb, hbb2, go_sem, ↓reduceIte]; done)) | (with_reducible apply sub_upd_r; focus (first | assumption | (simp only [hb1, hb2, hbb, hbb2, upd_none, set_none, true_and, and_true, not_false_iff]; done))))), h s' us'⟩
    | ok f s3 =>
      rw [hp] at h
      intro us4
      simp only [hb1, hb2, hbb, hbb2, set_set, go_sem, List.take_length, Nat.le_refl, Nat.add_zero, Nat.zero_add, ↓reduceIte, Nat.reduceEqDiff, Nat.reduceLT, Nat.reduceLeDiff, Nat.reduceAdd, Nat.reduceMul, Nat.reduceSub, Int.reduceNeg, Int.reduceToNat, Int.reduceAdd, Int.reduceSub, Int.reduceMul, Int.reduceLE, Int.reduceLT, Int.reduceEq, Int.reduceNe, true_and, and_true, reduceCtorEq, eq_self, not_true, not_false_iff, false_or, or_false, true_or, or_true, ne_eq, forall_const, implies_true, Bool.false_eq_true, Bool.true_eq_false, not_false_eq_true]
      intro us5
      exact aret_same (h us4) (by (repeat' (first | exact Sub.refl _ | (with_reducible apply sub_upd_l; focus (simp only [hb1, hb2, hbb, hbb2, go_sem, ↓reduceIte]; done)) | (with_reducible apply sub_upd_r; focus (first | assumption | (simp only [hb1, hb2, hbb, hbb2, upd_none, set_none, true_and, and_true, not_false_iff]; done))))))
  have e80 : ¬ ((head0 (trimL 32 s)).toNat : Int) = 80 := fun h => c80 (UInt8.toNat_inj.1 (by have : (80 : UInt8).toNat = 80 := rfl; omega))
  rw [if_neg c80] at h
  by_cases c66 : head0 (trimL 32 s) = 66
  · have e66 : ((head0 (trimL 32 s)).toNat : Int) = 66 := by rw [c66]; rfl
    rw [if_pos c66] at h
    simp only [e66, Int.reduceEq, decide_true, decide_false, hS, hb1, hb2, hbb, hbb2, go_sem, List.take_length, Nat.le_refl, Nat.add_zero, Nat.zero_add, ↓reduceIte, Nat.reduceEqDiff, Nat.reduceLT, Nat.reduceLeDiff, Nat.reduceAdd, Nat.reduceMul, Nat.reduceSub, Int.reduceNeg, Int.reduceToNat, Int.reduceAdd, Int.reduceSub, Int.reduceMul, Int.reduceLE, Int.reduceLT, Int.reduceEq, Int.reduceNe, true_and, and_true, reduceCtorEq, eq_self, not_true, not_false_iff, false_or, or_false, true_or, or_true, ne_eq, forall_const, implies_true, Bool.false_eq_true, Bool.true_eq_false, not_false_eq_true]
    refine inn 6 _ (by rw [c66]; decide) ?_
    cases hp : innerP n 6 (trimL 32 s).tail with
    | out => rw [hp] at h; exact h
    | bad =>
      rw [hp] at h
      intro s' us'
      simp only [hb1, hb2, hbb, hbb2, set_set, go_sem, List.take_length, Nat.le_refl, Nat.add_zero, Nat.zero_add, ↓reduceIte, Nat.reduceEqDiff, Nat.reduceLT, Nat.reduceLeDiff, Nat.reduceAdd, Nat.reduceMul, Nat.reduceSub, Int.reduceNeg, Int.reduceToNat, Int.reduceAdd, Int.reduceSub, Int.reduceMul, Int.reduceLE, Int.reduceLT, Int.reduceEq, Int.reduceNe, true_and, and_true, reduceCtorEq, eq_self, not_true, not_false_iff, false_or, or_false, true_or, or_true, ne_eq, forall_const, implies_true, Bool.false_eq_true, Bool.true_eq_false, not_false_eq_true]
      exact ⟨_, by (repeat' (first | exact Sub.refl _ | (with_reducible apply sub_upd_l; focus (simp only [hb1, hb2, hbb, hbb2, go_sem, ↓reduceIte]; done)) | (with_reducible apply sub_upd_r; focus (first | assumption | (simp only [hb1, hb2, hbb, hbb2, upd_none, set_none, true_and, and_true, not_false_iff]; done))))), h s' us'⟩
    | ok f s3 =>
      rw [hp] at h
      intro us4
      simp only [hb1, hb2, hbb, hbb2, set_set, go_sem, List.take_length, Nat.le_refl, Nat.add_zero, Nat.zero_add, ↓reduceIte, Nat.reduceEqDiff, Nat.reduceLT, Nat.reduceLeDiff, Nat.reduceAdd, Nat.reduceMul, Nat.reduceSub, Int.reduceNeg, Int.reduceToNat, Int.reduceAdd, Int.reduceSub, Int.reduceMul, Int.reduceLE, Int.reduceLT, Int.reduceEq, Int.reduceNe, true_and, and_true, reduceCtorEq, eq_self, not_true, not_false_iff, false_or, or_false, true_or, or_true, ne_eq, forall_const, implies_true, Bool.false_eq_true, Bool.true_eq_false, not_false_eq_true]
      intro us5
      exact aret_same (h us4) (by (repeat' (first | exact Sub.refl _ | (with_reducible apply sub_upd_l; focus (simp only [hb1, hb2, hbb, hbb2, go_sem, ↓reduceIte]; done)) | (with_reducible apply sub_upd_r; focus (first | assumption | (simp only [hb1, hb2, hbb, hbb2, upd_none, set_none, true_and, and_true, not_false_iff]; done))))))
  have e66 : ¬ ((head0 (trimL 32 s)).toNat : Int) = 66 := fun h => c66 (UInt8.toNat_inj.1 (by have : (66 : UInt8).toNat = 66 := rfl; omega))
  rw [if_neg c66] at h
  by_cases c68 : head0 (trimL 32 s) = 68
  · have e68 : ((head0 (trimL 32 s)).toNat : Int) = 68 := by rw [c68]; rfl
    rw [if_pos c68] at h
    simp only [e68, Int.reduceEq, decide_true, decide_false, hS, hb1, hb2, hbb, hbb2, go_sem, List.take_length, Nat.le_refl, Nat.add_zero, Nat.zero_add, ↓reduceIte, Nat.reduceEqDiff, Nat.reduceLT, Nat.reduceLeDiff, Nat.reduceAdd, Nat.reduceMul, Nat.reduceSub, Int.reduceNeg, Int.reduceToNat, Int.reduceAdd, Int.reduceSub, Int.reduceMul, Int.reduceLE, Int.reduceLT, Int.reduceEq, Int.reduceNe, true_and, and_true, reduceCtorEq, eq_self, not_true, not_false_iff, false_or, or_false, true_or, or_true, ne_eq, forall_const, implies_true, Bool.false_eq_true, Bool.true_eq_false, not_false_eq_true]
    refine inn 7 _ (by rw [c68]; decide) ?_
    cases hp : innerP n 7 (trimL 32 s).tail with
    | out => rw [hp] at h; exact h
    | bad =>
      rw [hp] at h
      intro s' us'
      simp only [hb1, hb2, hbb, hbb2, set_set, go_sem, List.take_length, Nat.le_refl, Nat.add_zero, Nat.zero_add, ↓reduceIte, Nat.reduceEqDiff, Nat.reduceLT, Nat.reduceLeDiff, Nat.reduceAdd, Nat.reduceMul, Nat.reduceSub, Int.reduceNeg, Int.reduceToNat, Int.reduceAdd, Int.reduceSub, Int.reduceMul, Int.reduceLE, Int.reduceLT, Int.reduceEq, Int.reduceNe, true_and, and_true, reduceCtorEq, eq_self, not_true, not_false_iff, false_or, or_false, true_or, or_true, ne_eq, forall_const, implies_true, Bool.false_eq_true, Bool.true_eq_false, not_false_eq_true]
      exact ⟨_, by (repeat' (first | exact Sub.refl _ | (with_reducible apply sub_upd_l; focus (simp only [hb1, hb2, hbb, hbb2, go_sem, ↓reduceIte]; done)) | (with_reducible apply sub_upd_r; focus (first | assumption | (simp only [hb1, hb2, hbb, hbb2, upd_none, set_none, true_and, and_true, not_false_iff]; done))))), h s' us'⟩
    | ok f s3 =>
      rw [hp] at h
      intro us4
      simp only [hb1, hb2, hbb, hbb2, set_set, go_sem, List.take_length, Nat.le_refl, Nat.add_zero, Nat.zero_add, ↓reduceIte, Nat.reduceEqDiff, Nat.reduceLT, Nat.reduceLeDiff, Nat.reduceAdd, Nat.reduceMul, Nat.reduceSub, Int.reduceNeg, Int.reduceToNat, Int.reduceAdd, Int.reduceSub, Int.reduceMul, Int.reduceLE, Int.reduceLT, Int.reduceEq, Int.reduceNe, true_and, and_true, reduceCtorEq, eq_self, not_true, not_false_iff, false_or, or_false, true_or, or_true, ne_eq, forall_const, implies_true, Bool.false_eq_true, Bool.true_eq_false, not_false_eq_true]
      intro us5
      exact aret_same (h us4) (by (repeat' (first | exact Sub.refl _ | (with_reducible apply sub_upd_l; focus (simp only [hb1, hb2, hbb, hbb2, go_sem, ↓reduceIte]; done)) | (with_reducible apply sub_upd_r; focus (first | assumption | (simp only [hb1, hb2, hbb, hbb2, upd_none, set_none, true_and, and_true, not_false_iff]; done))))))
  have e68 : ¬ ((head0 (trimL 32 s)).toNat : Int) = 68 := fun h => c68 (UInt8.toNat_inj.1 (by have : (68 : UInt8).toNat = 68 := rfl; omega))
  rw [if_neg c68] at h
  simp only [e88, e40, e80, e66, e68, decide_false, hS, hb1, hb2, hbb, hbb2, go_sem, List.take_length, Nat.le_refl, Nat.add_zero, Nat.zero_add, ↓reduceIte, Nat.reduceEqDiff, Nat.reduceLT, Nat.reduceLeDiff, Nat.reduceAdd, Nat.reduceMul, Nat.reduceSub, Int.reduceNeg, Int.reduceToNat, Int.reduceAdd, Int.reduceSub, Int.reduceMul, Int.reduceLE, Int.reduceLT, Int.reduceEq, Int.reduceNe, true_and, and_true, reduceCtorEq, eq_self, not_true, not_false_iff, false_or, or_false, true_or, or_true, ne_eq, forall_const, implies_true, Bool.false_eq_true, Bool.true_eq_false, not_false_eq_true]
  refine number_spec (trimL 32 s) b us1 _ _ (by omega) ?_ ?_
  · simp only [hb1, hb2, hbb, hbb2, go_sem, List.take_length, Nat.le_refl, Nat.add_zero, Nat.zero_add, ↓reduceIte, Nat.reduceEqDiff, Nat.reduceLT, Nat.reduceLeDiff, Nat.reduceAdd, Nat.reduceMul, Nat.reduceSub, Int.reduceNeg, Int.reduceToNat, Int.reduceAdd, Int.reduceSub, Int.reduceMul, Int.reduceLE, Int.reduceLT, Int.reduceEq, Int.reduceNe, true_and, and_true, reduceCtorEq, eq_self, not_true, not_false_iff, false_or, or_false, true_or, or_true, ne_eq, forall_const, implies_true, Bool.false_eq_true, Bool.true_eq_false, not_false_eq_true]
  cases hn : numP (trimL 32 s) with
  | out => rw [hn] at h; exact h
  | bad =>
    rw [hn] at h
    intro s' us'
    simp only [hb1, hb2, hbb, hbb2, set_set, go_sem, List.take_length, Nat.le_refl, Nat.add_zero, Nat.zero_add, ↓reduceIte, Nat.reduceEqDiff, Nat.reduceLT, Nat.reduceLeDiff, Nat.reduceAdd, Nat.reduceMul, Nat.reduceSub, Int.reduceNeg, Int.reduceToNat, Int.reduceAdd, Int.reduceSub, Int.reduceMul, Int.reduceLE, Int.reduceLT, Int.reduceEq, Int.reduceNe, true_and, and_true, reduceCtorEq, eq_self, not_true, not_false_iff, false_or, or_false, true_or, or_true, ne_eq, forall_const, implies_true, Bool.false_eq_true, Bool.true_eq_false, not_false_eq_true]
    exact ⟨_, by (repeat' (first | exact Sub.refl _ | (with_reducible apply sub_upd_l; focus (simp only [hb1, hb2, hbb, hbb2, go_sem, ↓reduceIte]; done)) | (with_reducible apply sub_upd_r; focus (first | assumption | (simp only [hb1, hb2, hbb, hbb2, upd_none, set_none, true_and, and_true, not_false_iff]; done))))), h s' us'⟩
  | ok k s2 =>
    rw [hn] at h
    simp only [PR.ok_bind] at h
    intro us5
    simp only [hb1, hb2, hbb, hbb2, set_set, go_sem, List.take_length, Nat.le_refl, Nat.add_zero, Nat.zero_add, ↓reduceIte, Nat.reduceEqDiff, Nat.reduceLT, Nat.reduceLeDiff, Nat.reduceAdd, Nat.reduceMul, Nat.reduceSub, Int.reduceNeg, Int.reduceToNat, Int.reduceAdd, Int.reduceSub, Int.reduceMul, Int.reduceLE, Int.reduceLT, Int.reduceEq, Int.reduceNe, true_and, and_true, reduceCtorEq, eq_self, not_true, not_false_iff, false_or, or_false, true_or, or_true, ne_eq, forall_const, implies_true, Bool.false_eq_true, Bool.true_eq_false, not_false_eq_true]
    intro us6
    exact aret_intro (h us5) (by (repeat' (first | exact Sub.refl _ | (with_reducible apply sub_upd_l; focus (simp only [hb1, hb2, hbb, hbb2, go_sem, ↓reduceIte]; done)) | (with_reducible apply sub_upd_r; focus (first | assumption | (simp only [hb1, hb2, hbb, hbb2, upd_none, set_none, true_and, and_true, not_false_iff]; done)))))) weak_fun0

mutual
theorem all_spec : ∀ n, Spec G 21 (allP n)
  | 0 => fun s b us S R hl hS h => by simp only [allP, Met] at h
  | n + 1 => all_step n (power_spec n)
theorem power_spec : ∀ n, Spec G 27 (powerP n)
  | 0 => fun s b us S R hl hS h => by simp only [powerP, Met] at h
  | n + 1 => power_step n (operand_spec n)
theorem operand_spec : ∀ n, Spec G 32 (operandP n)
  | 0 => fun s b us S R hl hS h => by simp only [operandP, Met] at h
  | n + 1 => operand_step n (all_spec n) fun m h => by subst h; exact all_spec m
end
end
end Go.Proofs.YtaeobokijndboaaDoor
