/- Functors: the parser reads what Text writes. Plain Lean. -/
import Derived.Test.YtaeobokijndboaaDoorFun11
set_option linter.unusedSimpArgs false
set_option linter.unusedVariables false
set_option maxRecDepth 100000
namespace Go.Proofs.YtaeobokijndboaaDoor
open Go Go.Proofs.Abs

theorem trimL_ne {c x : UInt8} {l : List UInt8} (h : x ≠ c) : trimL c (x :: l) = x :: l := by rw [trimL, if_neg h]
theorem trimL_eq {c : UInt8} {l : List UInt8} : trimL c (c :: l) = trimL c l := by rw [trimL, if_pos rfl]

/-- no digit is next -/
def noDig (l : List UInt8) : Prop := isDig (head0 l) = false

theorem dec2_digs : ∀ m : Nat, m < 100 → (dec2 m).all isDig = true ∧ dec2 m ≠ [] ∧ (if trimL 48 (dec2 m) = [] then m = 0 else Lib.atoi (trimL 48 (dec2 m)) = some (m : Int)) := by decide
theorem takeWhile_app {p : UInt8 → Bool} : ∀ (a b : List UInt8), a.all p = true → p (head0 b) = false → (a ++ b).takeWhile p = a
  | [], [], _, _ => rfl
  | [], y :: b, _, h => by simp only [head0] at h; simp [h]
  | x :: a, b, h, h2 => by
    simp only [List.all_cons, Bool.and_eq_true] at h
    simp only [List.cons_append, List.takeWhile_cons, h.1, if_true, takeWhile_app a b h.2 h2]
theorem digs_trim {a b : List UInt8} (h : a.all isDig = true) (hne : a ≠ []) : trimL 32 (a ++ b) = a ++ b := by
  cases a with
  | nil => exact absurd rfl hne
  | cons x a =>
    simp only [List.all_cons, Bool.and_eq_true] at h
    refine trimL_ne ?_
    rintro rfl
    exact absurd h.1 (by decide)
theorem numP_dec2 (m : Nat) (hm : m < 100) (rest : List UInt8) (hr : noDig rest) : numP (dec2 m ++ rest) = .ok m rest := by
  obtain ⟨h1, h2, h3⟩ := dec2_digs m hm
  have h18 := trimL_len 48 (dec2 m)
  have hl := dec2_len m
  unfold numP
  simp only [digs, digs_trim h1 h2, takeWhile_app _ _ h1 hr, if_neg h2, List.drop_left]
  split
  · rename_i h
    rw [if_pos h] at h3
    subst h3; rfl
  · rename_i h
    rw [if_neg h] at h3
    rw [if_pos (by omega), h3]
theorem numP_blank (s : List UInt8) : numP (32 :: s) = numP s := by
  unfold numP
  simp only [trimL_eq]
theorem operandP_blank (n : Nat) (s : List UInt8) : operandP n (32 :: s) = operandP n s := by
  cases n with
  | zero => simp [operandP]
  | succ n => simp only [operandP, trimL_eq]
theorem powerP_blank (n : Nat) (s : List UInt8) : powerP n (32 :: s) = powerP n s := by
  cases n with
  | zero => simp [powerP]
  | succ n => simp only [powerP, operandP_blank]

/-- what may follow an operand in a power -/
def noPow (l : List UInt8) : Prop := noDig l ∧ head0 (trimL 32 l) ≠ 94
def noOp (l : List UInt8) : Prop := noPow l ∧ head0 (trimL 32 l) ≠ 42 ∧ head0 (trimL 32 l) ≠ 43

theorem expect_paren (s : List UInt8) : expect 41 (41 :: s) = .ok () s := by
  unfold expect
  rw [trimL_ne (by decide)]
  rfl
theorem expect_open (s : List UInt8) : expect 40 (40 :: s) = .ok () s := by
  unfold expect
  rw [trimL_ne (by decide)]
  rfl
theorem operandP_X (n : Nat) (s : List UInt8) : operandP (n + 1) (88 :: s) = .ok (.mk 0 0 []) s := by
  simp only [operandP]
  rw [trimL_ne (by decide)]
  rfl
theorem operandP_paren (n : Nat) (s : List UInt8) : operandP (n + 1) (40 :: s) = (allP n s).bind fun f s1 => (expect 41 s1).bind fun _ s2 => .ok f s2 := by
  simp only [operandP]
  rw [trimL_ne (by decide)]
  rfl
theorem operandP_P (n : Nat) (s : List UInt8) : operandP (n + 1) (80 :: s) = innerP n 5 s := by
  simp only [operandP]
  rw [trimL_ne (by decide)]
  rfl
theorem operandP_B (n : Nat) (s : List UInt8) : operandP (n + 1) (66 :: s) = innerP n 6 s := by
  simp only [operandP]
  rw [trimL_ne (by decide)]
  rfl
theorem operandP_D (n : Nat) (s : List UInt8) : operandP (n + 1) (68 :: s) = innerP n 7 s := by
  simp only [operandP]
  rw [trimL_ne (by decide)]
  rfl
theorem operandP_num (n m : Nat) (hm : m < 100) (rest : List UInt8) (hr : noDig rest) : operandP (n + 1) (dec2 m ++ rest) = .ok (.mk 1 m []) rest := by
  obtain ⟨h1, h2, _⟩ := dec2_digs m hm
  have hnum := numP_dec2 m hm rest hr
  simp only [operandP, digs_trim h1 h2]
  have hd : isDig (head0 (dec2 m ++ rest)) = true := by
    cases hd : dec2 m with
    | nil => exact absurd hd h2
    | cons x a =>
      rw [hd] at h1
      simp only [List.all_cons, Bool.and_eq_true] at h1
      exact h1.1
  have hne : ∀ c : UInt8, isDig c = false → head0 (dec2 m ++ rest) ≠ c := by
    intro c hc h
    rw [h, hc] at hd; cases hd
  rw [if_neg (hne 88 (by decide)), if_neg (hne 40 (by decide)), if_neg (hne 80 (by decide)), if_neg (hne 66 (by decide)), if_neg (hne 68 (by decide)), hnum]
  rfl
theorem powerP_of {n : Nat} {s rest : List UInt8} {f : Fun} (h : operandP n s = .ok f rest) (hr : head0 (trimL 32 rest) ≠ 94) : powerP (n + 1) s = .ok f (trimL 32 rest) := by
  simp only [powerP, h, PR.ok_bind, if_neg hr]
theorem allP_of {n : Nat} {s r rest : List UInt8} {f : Fun} (h : powerP n s = .ok f r) (ht : trimL 32 r = trimL 32 rest) (hr : head0 (trimL 32 rest) ≠ 42) (hr2 : head0 (trimL 32 rest) ≠ 43) : allP (n + 1) s = .ok f (trimL 32 rest) := by
  simp only [allP, h, PR.ok_bind, ht, if_neg hr, if_neg hr2]
theorem expect_of {c : UInt8} {r rest : List UInt8} (h : trimL 32 r = c :: rest) : expect c r = .ok () rest := by
  unfold expect
  rw [h]; simp [head0]
theorem head0_cons {x : UInt8} {l : List UInt8} : head0 (x :: l) = x := rfl
theorem trim41 (rest : List UInt8) : trimL 32 (41 :: rest) = 41 :: rest := trimL_ne (by decide)
theorem noPow41 (rest : List UInt8) : noPow (41 :: rest) := ⟨rfl, by rw [trim41, head0_cons]; decide⟩
theorem noOp41 (rest : List UInt8) : noOp (41 :: rest) := ⟨noPow41 rest, by rw [trim41, head0_cons]; decide, by rw [trim41, head0_cons]; decide⟩
theorem text_exp {a : Fun} (h : a.kind = 4) (hs : shapeF a) : textF a false = textF a true := by
  obtain ⟨k, m, l⟩ := a
  simp only [Fun.kind] at h
  subst h
  match l, hs with
  | [x], hs => simp only [textF, if_true]
  | [], hs => simp [shapeF, arityK] at hs
  | _ :: _ :: _, hs => simp [shapeF, arityK] at hs; omega
theorem inner_text {n : Nat} {k : Int} {a : Fun} {s r rest : List UInt8} (h : allP n s = .ok a r) (ht : trimL 32 r = 41 :: rest) : innerP (n + 1) k (40 :: s) = .ok (.mk k 0 [a]) rest := by
  simp only [innerP, expect_open, PR.ok_bind, h, expect_of ht]
theorem shape1 {k m : Int} {l : List Fun} (hs : shapeF (.mk k m l)) (h : arityK k = 1) : ∃ a, l = [a] ∧ shapeF a := by
  simp only [shapeF] at hs
  match l, hs with
  | [a], hs => exact ⟨a, rfl, by simpa [shapeL] using hs.2⟩
  | [], hs => simp [h] at hs
  | _ :: _ :: _, hs => simp [h] at hs; omega
theorem shape2 {k m : Int} {l : List Fun} (hs : shapeF (.mk k m l)) (h : arityK k = 2) : ∃ a b, l = [a, b] ∧ shapeF a ∧ shapeF b := by
  simp only [shapeF] at hs
  match l, hs with
  | [a, b], hs => exact ⟨a, b, rfl, by simpa [shapeL] using hs.2⟩
  | [], hs => simp [h] at hs
  | [_], hs => simp [h] at hs
  | _ :: _ :: _ :: _, hs => simp [h] at hs; omega
theorem shape0 {k m : Int} {l : List Fun} (hs : shapeF (.mk k m l)) (h : arityK k = 0) : l = [] := by
  simp only [shapeF] at hs
  match l, hs with
  | [], hs => rfl
  | _ :: _, hs => simp [h] at hs; omega
theorem noDig_cons {x : UInt8} {l : List UInt8} (h : isDig x = false) : noDig (x :: l) := h

mutual
theorem operand_text : ∀ (n : Nat) (f : Fun) (rest : List UInt8), shapeF f → f.kind ≠ 4 → 8 * f.size ≤ n → noDig rest → operandP n (textF f false ++ rest) = .ok f rest
  | 0, f, rest, hs, hk, hn, hr => by rw [Fun.size_eq] at hn; omega
  | n + 1, .mk k m l, rest, hs, hk, hn, hr => by
    have hs0 := hs
    simp only [shapeF] at hs0
    obtain ⟨⟨k0, k7, hlen, hm0, hm1⟩, -⟩ := hs0
    simp only [Fun.kind] at hk
    rcases kinds k0 k7 with rfl | rfl | rfl | rfl | rfl | rfl | rfl | rfl
    · have := shape0 hs (by decide); subst this
      have h0 : mostK 0 = 0 ∧ minK 0 = 0 := by decide
      have : m = 0 := by omega
      subst this
      simp only [textF, if_true]
      exact operandP_X n rest
    · have := shape0 hs (by decide); subst this
      have h0 : mostK 1 = 16 ∧ minK 1 = 1 := by decide
      obtain ⟨j, rfl⟩ : ∃ j : Nat, m = j := ⟨m.toNat, by omega⟩
      simp only [textF, if_neg (show ¬ (1 : Int) = 0 by decide), Int.toNat_natCast]
      exact operandP_num n j (by omega) rest hr
    · obtain ⟨a, b, rfl, ha, hb⟩ := shape2 hs (by decide)
      have h0 : mostK 2 = 0 ∧ minK 2 = 0 := by decide
      have : m = 0 := by omega
      subst this
      simp only [Fun.size, sizeL] at hn
      obtain ⟨r, h1, h2⟩ := pair_text n 2 a b (41 :: rest) (.inl rfl) ha hb (by omega) (noPow41 rest)
      have : textF (.mk 2 0 [a, b]) false ++ rest = 40 :: ((textF a false ++ (if (2 : Int) = 3 then [32, 43, 32] else [32, 42, 32]) ++ textF b false) ++ (41 :: rest)) := by simp [textF]
      rw [this, operandP_paren, h1, PR.ok_bind, expect_of (h2.trans (trim41 rest)), PR.ok_bind]
    · obtain ⟨a, b, rfl, ha, hb⟩ := shape2 hs (by decide)
      have h0 : mostK 3 = 0 ∧ minK 3 = 0 := by decide
      have : m = 0 := by omega
      subst this
      simp only [Fun.size, sizeL] at hn
      obtain ⟨r, h1, h2⟩ := pair_text n 3 a b (41 :: rest) (.inr rfl) ha hb (by omega) (noPow41 rest)
      have : textF (.mk 3 0 [a, b]) false ++ rest = 40 :: ((textF a false ++ (if (3 : Int) = 3 then [32, 43, 32] else [32, 42, 32]) ++ textF b false) ++ (41 :: rest)) := by simp [textF]
      rw [this, operandP_paren, h1, PR.ok_bind, expect_of (h2.trans (trim41 rest)), PR.ok_bind]
    · exact absurd rfl hk
    all_goals
      obtain ⟨a, rfl, ha⟩ := shape1 hs (by decide)
      have h0 : mostK 5 = 0 ∧ minK 5 = 0 ∧ mostK 6 = 0 ∧ minK 6 = 0 ∧ mostK 7 = 0 ∧ minK 7 = 0 := by decide
      have : m = 0 := by omega
      subst this
      simp only [Fun.size, sizeL] at hn
      obtain ⟨j, rfl⟩ : ∃ j, n = j + 1 := ⟨n - 1, by omega⟩
      obtain ⟨r, h1, h2⟩ := all_text j a (41 :: rest) ha (by omega) (noOp41 rest)
      have h3 := fun k => inner_text (k := k) h1 (h2.trans (trim41 rest))
    · have : textF (.mk 5 0 [a]) false ++ rest = 80 :: 40 :: (textF a true ++ (41 :: rest)) := by simp [textF, pbd]
      rw [this, operandP_P, h3]
    · have : textF (.mk 6 0 [a]) false ++ rest = 66 :: 40 :: (textF a true ++ (41 :: rest)) := by simp [textF, pbd]
      rw [this, operandP_B, h3]
    · have : textF (.mk 7 0 [a]) false ++ rest = 68 :: 40 :: (textF a true ++ (41 :: rest)) := by simp [textF, pbd]
      rw [this, operandP_D, h3]
theorem pair_text : ∀ (n : Nat) (k : Int) (a b : Fun) (rest : List UInt8), k = 2 ∨ k = 3 → shapeF a → shapeF b → 8 * (a.size + b.size) + 2 ≤ n → noPow rest →
    ∃ r, allP n ((textF a false ++ (if k = 3 then [32, 43, 32] else [32, 42, 32]) ++ textF b false) ++ rest) = .ok (.mk k 0 [a, b]) r ∧ trimL 32 r = trimL 32 rest
  | 0, k, a, b, rest, hk, ha, hb, hn, hr => by omega
  | n + 1, k, a, b, rest, hk, ha, hb, hn, hr => by
    obtain ⟨r2, h3, h4⟩ := power_text n b rest hb (by omega) hr
    rcases hk with rfl | rfl
    · have e : (textF a false ++ (if (2 : Int) = 3 then [32, 43, 32] else [32, 42, 32]) ++ textF b false) ++ rest = textF a false ++ (32 :: 42 :: 32 :: (textF b false ++ rest)) := by simp
      have t : trimL 32 (32 :: 42 :: 32 :: (textF b false ++ rest)) = 42 :: 32 :: (textF b false ++ rest) := by rw [trimL_eq, trimL_ne (by decide)]
      obtain ⟨r, h1, h2⟩ := power_text n a (32 :: 42 :: 32 :: (textF b false ++ rest)) ha (by omega) ⟨rfl, by rw [t, head0_cons]; decide⟩
      refine ⟨r2, ?_, h4⟩
      rw [e]
      simp only [allP, h1, PR.ok_bind, h2, t]
      simp only [head0, if_true, List.tail_cons, powerP_blank, h3, PR.ok_bind]
    · have e : (textF a false ++ (if (3 : Int) = 3 then [32, 43, 32] else [32, 42, 32]) ++ textF b false) ++ rest = textF a false ++ (32 :: 43 :: 32 :: (textF b false ++ rest)) := by simp
      have t : trimL 32 (32 :: 43 :: 32 :: (textF b false ++ rest)) = 43 :: 32 :: (textF b false ++ rest) := by rw [trimL_eq, trimL_ne (by decide)]
      obtain ⟨r, h1, h2⟩ := power_text n a (32 :: 43 :: 32 :: (textF b false ++ rest)) ha (by omega) ⟨rfl, by rw [t, head0_cons]; decide⟩
      refine ⟨r2, ?_, h4⟩
      rw [e]
      simp only [allP, h1, PR.ok_bind, h2, t]
      rw [if_neg (by rw [head0_cons]; decide)]
      simp only [head0, if_true, List.tail_cons, powerP_blank, h3, PR.ok_bind]
theorem power_text : ∀ (n : Nat) (f : Fun) (rest : List UInt8), shapeF f → 8 * f.size + 1 ≤ n → noPow rest → ∃ r, powerP n (textF f false ++ rest) = .ok f r ∧ trimL 32 r = trimL 32 rest
  | 0, f, rest, hs, hn, hr => by omega
  | n + 1, f, rest, hs, hn, hr => by
    by_cases hk : f.kind = 4
    · obtain ⟨k, m, l⟩ := f
      simp only [Fun.kind] at hk
      subst hk
      obtain ⟨a, rfl, ha⟩ := shape1 hs (by decide)
      simp only [shapeF] at hs
      obtain ⟨⟨k0, k7, hlen, hm0, hm1⟩, -⟩ := hs
      have h0 : mostK 4 = 4 ∧ minK 4 = 1 := by decide
      obtain ⟨j, rfl⟩ : ∃ j : Nat, m = j := ⟨m.toNat, by omega⟩
      simp only [Fun.size, sizeL] at hn
      have t : trimL 32 (32 :: 94 :: 32 :: (dec2 j ++ rest)) = 94 :: 32 :: (dec2 j ++ rest) := by rw [trimL_eq, trimL_ne (by decide)]
      have hb : operandP n ((if a.kind = 4 then 40 :: textF a false ++ [41] else textF a false) ++ (32 :: 94 :: 32 :: (dec2 j ++ rest))) = .ok a (32 :: 94 :: 32 :: (dec2 j ++ rest)) := by
        by_cases ha4 : a.kind = 4
        · rw [if_pos ha4, text_exp ha4 ha]
          obtain ⟨i, rfl⟩ : ∃ i, n = i + 1 := ⟨n - 1, by omega⟩
          obtain ⟨r, h1, h2⟩ := all_text i a (41 :: (32 :: 94 :: 32 :: (dec2 j ++ rest))) ha (by omega) (noOp41 _)
          have : (40 :: textF a true ++ [41]) ++ (32 :: 94 :: 32 :: (dec2 j ++ rest)) = 40 :: (textF a true ++ (41 :: (32 :: 94 :: 32 :: (dec2 j ++ rest)))) := by simp
          rw [this, operandP_paren, h1, PR.ok_bind, expect_of (h2.trans (trim41 _)), PR.ok_bind]
        · rw [if_neg ha4]
          exact operand_text n a _ ha ha4 (by omega) rfl
      refine ⟨rest, ?_, rfl⟩
      have e : textF (.mk 4 j [a]) false ++ rest = (if a.kind = 4 then 40 :: textF a false ++ [41] else textF a false) ++ (32 :: 94 :: 32 :: (dec2 j ++ rest)) := by
        simp only [textF, if_true, Int.toNat_natCast]; simp
      rw [e]
      simp only [powerP, hb, PR.ok_bind, t]
      simp only [head0, if_true, List.tail_cons, numP_blank, numP_dec2 j (by omega) rest hr.1, PR.ok_bind]
    · refine ⟨_, powerP_of (operand_text n f rest hs hk (by omega) hr.1) hr.2, trimL_trimL 32 rest⟩
theorem all_text : ∀ (n : Nat) (f : Fun) (rest : List UInt8), shapeF f → 8 * f.size + 2 ≤ n → noOp rest → ∃ r, allP n (textF f true ++ rest) = .ok f r ∧ trimL 32 r = trimL 32 rest
  | 0, f, rest, hs, hn, hr => by omega
  | n + 1, .mk k m l, rest, hs, hn, hr => by
    match l, hs with
    | a :: b :: l', hs =>
      have hs0 := hs
      simp only [shapeF] at hs0
      obtain ⟨⟨k0, k7, hlen, hm0, hm1⟩, hl⟩ := hs0
      have hk : k = 2 ∨ k = 3 := by
        rcases kinds k0 k7 with rfl | rfl | rfl | rfl | rfl | rfl | rfl | rfl <;> simp [arityK] at hlen <;> (first | exact .inl rfl | exact .inr rfl | omega)
      obtain ⟨rfl, hm⟩ : l' = [] ∧ m = 0 := by
        have h0 : mostK 2 = 0 ∧ minK 2 = 0 ∧ mostK 3 = 0 ∧ minK 3 = 0 := by decide
        rcases hk with rfl | rfl
        · simp [arityK] at hlen; exact ⟨List.eq_nil_of_length_eq_zero (by omega), by omega⟩
        · simp [arityK] at hlen; exact ⟨List.eq_nil_of_length_eq_zero (by omega), by omega⟩
      subst hm
      simp only [shapeL] at hl
      simp only [Fun.size, sizeL] at hn
      obtain ⟨r, h1, h2⟩ := pair_text (n + 1) k a b rest hk hl.1 hl.2.1 (by omega) hr.1
      refine ⟨r, ?_, h2⟩
      simp only [textF, if_true]
      exact h1
    | [], hs =>
      obtain ⟨r, h1, h2⟩ := power_text n (.mk k m []) rest hs (by omega) hr.1
      refine ⟨_, allP_of (rest := rest) ?_ h2 hr.2.1 hr.2.2, trimL_trimL 32 rest⟩
      rw [← h1]; simp only [textF]
    | [a], hs =>
      obtain ⟨r, h1, h2⟩ := power_text n (.mk k m [a]) rest hs (by omega) hr.1
      refine ⟨_, allP_of (rest := rest) ?_ h2 hr.2.1 hr.2.2, trimL_trimL 32 rest⟩
      rw [← h1]; simp only [textF]
end
end Go.Proofs.YtaeobokijndboaaDoor
