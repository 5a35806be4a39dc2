/- The abstract layer, part 5: the evaluator of operations is sound, continued. -/
import Derived.Test.YtaeobokijndboaaDoorAbs4
set_option linter.unusedVariables false
set_option linter.unusedSimpArgs false
namespace Go.Proofs.Abs
open Go

section
variable {P : Program} {G : Glob} {S : St} {w : World}

theorem rel_lit_inv {r : RO} {v u : Value} (h : rel r (.lit v) u) : u = v := by simp only [rel] at h; exact h.1

theorem bytes_eq (a b : ByteArray) : (a.toList == b.toList) = decide (a.data.toList = b.data.toList) := by
  rw [ByteArray.toList_eq, ByteArray.toList_eq]
  rw [Bool.eq_iff_iff]; simp

theorem bytes_app (a b : ByteArray) : a ++ b = ⟨(a.data.toList ++ b.data.toList).toArray⟩ := by
  apply ByteArray.ext
  simp

theorem binVal_run {op : BinOp} {k k' : IntKind} {a b : Int} {v : Value} (h : binVal op (.int k a) (.int k' b) = some v) (t : TypeId) (w : World) :
    (binOp op t (.int k a) (.int k' b)).run P w = .ok v w ∧ v.oneCell' = true := by
  unfold binVal at h
  by_cases hk : k = k'
  · subst hk
    simp only [if_true] at h
    cases op <;> simp only [reduceCtorEq, Option.some.injEq] at h <;> subst h
    all_goals (refine ⟨?_, rfl⟩)
    all_goals simp only [binOp_add, binOp_sub, binOp_mul, binOp_eql, binOp_neq, binOp_lss, binOp_leq, binOp_gtr, binOp_geq, Op.intArith, Sem.run_pure]
    all_goals (try rfl)
    all_goals (by_cases hab : a = b <;> simp [hab])
  · simp [hk] at h

theorem run_guarded {op : BinOp} {t : TypeId} {xo yo : Operand} {u v : Value} (hg : eqGuard op t xo yo u v = pure ()) (w : World) :
    (do eqGuard op t xo yo u v; binOp op t u v : Sem Value).run P w = (binOp op t u v).run P w := by
  rw [hg]; rfl

theorem run_eql_iface_nil {t tn : TypeId} {q : Value} (ht : tiface P t = true) (w : World) : (binOp .eql t (.iface tn q) .nilIface).run P w = .ok (.bool false) w ∧ (binOp .neq t (.iface tn q) .nilIface).run P w = .ok (.bool true) w := by
  unfold tiface at ht
  split at ht
  · rename_i ms hu
    have h0 : ∀ d, (Op.equalIn (d + 1) t (.iface tn q) .nilIface).run P w = .ok false w := by
      intro d
      simp only [Op.equalIn, Sem.run_bind, run_underlying hu, Result.andThen_ok, Sem.run_pure]
    have h1 : (Op.equal t (.iface tn q) .nilIface).run P w = .ok false w := h0 9999
    constructor
    · simp [binOp, h1]
    · simp [binOp, h1]
  · cases ht

theorem run_eql_nil_nil' {t : TypeId} (ht : tiface P t = true) (w : World) : (binOp .eql t .nilIface .nilIface).run P w = .ok (.bool true) w ∧ (binOp .neq t .nilIface .nilIface).run P w = .ok (.bool false) w := by
  unfold tiface at ht
  split at ht
  · rename_i ms hu
    have h0 : ∀ d, (Op.equalIn (d + 1) t .nilIface .nilIface).run P w = .ok true w := by
      intro d
      simp only [Op.equalIn, Sem.run_bind, run_underlying hu, Result.andThen_ok, Sem.run_pure]
    have h1 : (Op.equal t .nilIface .nilIface).run P w = .ok true w := h0 9999
    constructor
    · simp [binOp, h1]
    · simp [binOp, h1]
  · cases ht

theorem run_bool_eql {t : TypeId} (ht : P.underlying t = some .bool) (a b : Bool) (w : World) : (binOp .eql t (.bool a) (.bool b)).run P w = .ok (.bool (a == b)) w ∧ (binOp .neq t (.bool a) (.bool b)).run P w = .ok (.bool (!(a == b))) w := by
  have h0 : ∀ d, (Op.equalIn (d + 1) t (.bool a) (.bool b)).run P w = .ok (a == b) w := by
    intro d
    simp only [Op.equalIn, Sem.run_bind, run_underlying ht, Result.andThen_ok, Sem.run_pure]
  have h1 : (Op.equal t (.bool a) (.bool b)).run P w = .ok (a == b) w := h0 9999
  constructor
  · simp [binOp, h1]
  · simp [binOp, h1]

theorem abin_sound {r : RO} {op : BinOp} {t : TypeId} {xo yo : Operand} {x y : AVal} {u v : Value} {K : AVal → Prop} (hx : rel r x u) (hy : rel r y v)
    (h : abin P op t x y K) : ∃ z q, (∀ w, (do eqGuard op t xo yo u v; binOp op t u v : Sem Value).run P w = .ok q w) ∧ K z ∧ rel r z q := by
  unfold abin at h
  split at h
  · rename_i k a k' b
    have hu := rel_lit_inv hx; have hv := rel_lit_inv hy; subst hu; subst hv
    simp only [run_guarded (P := P) (eqGuard_at_int op t xo yo (.int k' b) k a)]
    split at h
    · obtain ⟨rfl, h0, h1⟩ := h
      refine ⟨_, _, fun w => ?_, h1, rel_lit rfl⟩
      simp [binOp_quo, Op.intDiv, h0]
    · obtain ⟨rfl, h0, h1⟩ := h
      refine ⟨_, _, fun w => ?_, h1, rel_lit rfl⟩
      simp [binOp_rem, Op.intDiv, h0]
    · split at h
      · rename_i v hv
        exact ⟨_, _, fun w => (binVal_run (P := P) hv t w).1, h, rel_lit (binVal_run (P := P) hv t default).2⟩
      · exact h.elim
  · rename_i a b
    have hu := rel_lit_inv hx; have hv := rel_lit_inv hy; subst hu; subst hv
    simp only [run_guarded (P := P) (eqGuard_at_string op t xo yo (.string b) a)]
    cases op <;> simp only [abinStr] at h <;> (try exact h.elim)
    case add =>
      refine ⟨_, .string (a ++ b), fun w => ?_, h.2, ?_⟩
      · have hle := h.1
        simp only [Array.length_toList] at hle
        have hle' : ¬ 9223372036854775807 < ((a.size : Nat) : Int) + b.size := by
          have : a.size + b.size ≤ 9223372036854775807 := hle
          omega
        simp [binOp, Op.stringOp, hle']
      · rw [bytes_app]; exact rel_lit rfl
    all_goals
      refine ⟨_, _, fun w => ?_, h, rel_lit rfl⟩
      simp only [binOp, Op.stringOp, bytes_eq, Sem.run_pure]
  · rename_i a b
    have hu := rel_lit_inv hx; have hv := rel_lit_inv hy; subst hu; subst hv
    simp only [run_guarded (P := P) (eqGuard_at_bool op t xo yo (.bool b) a)]
    obtain ⟨ht, h⟩ := h
    cases op <;> simp only [abinBool] at h <;> (try exact h.elim)
    · exact ⟨_, _, fun w => (run_bool_eql ht a b w).1, h, rel_lit rfl⟩
    · exact ⟨_, _, fun w => (run_bool_eql ht a b w).2, h, rel_lit rfl⟩
  · rename_i tt z
    have hv := rel_lit_inv hy; subst hv
    simp only [rel] at hx
    obtain ⟨q, rfl, _⟩ := hx
    simp only [run_guarded (P := P) (eqGuard_at_iface op t xo yo .nilIface tt q)]
    obtain ⟨ht, h⟩ := h
    cases op <;> simp only at h <;> (try exact h.elim)
    · exact ⟨_, _, fun w => (run_eql_iface_nil ht w).1, h, rel_lit rfl⟩
    · exact ⟨_, _, fun w => (run_eql_iface_nil ht w).2, h, rel_lit rfl⟩
  · exact h.elim

theorem abinNil_sound {r : RO} {op : BinOp} {t : TypeId} {xo yo : Operand} {K : AVal → Prop} (hc : (isNilConst xo || isNilConst yo) = true)
    (h : abinNil P op t K) : ∃ z q, (∀ w, (do eqGuard op t xo yo .nilIface .nilIface; binOp op t .nilIface .nilIface : Sem Value).run P w = .ok q w) ∧ K z ∧ rel r z q := by
  have hg : eqGuard op t xo yo .nilIface .nilIface = pure () := by
    cases xo with
    | const c => simp only [eqGuard_nil_constL]
    | _ => cases yo with
      | const c => simp only [eqGuard_nil_constR]
      | _ => simp [isNilConst] at hc
  have hG := fun w => run_guarded (P := P) hg w
  simp only [hG]
  obtain ⟨ht, h⟩ := h
  cases op <;> simp only at h <;> (try exact h.elim)
  · exact ⟨_, _, fun w => (run_eql_nil_nil' ht w).1, h, rel_lit rfl⟩
  · exact ⟨_, _, fun w => (run_eql_nil_nil' ht w).2, h, rel_lit rfl⟩

theorem aunary_sound {r : RO} {op : UnOp} {x : AVal} {u : Value} {K : AVal → Prop} (hx : rel r x u) (h : aunary op x K) : ∃ z q, (∀ w, (Op.unary op u).run P w = .ok q w) ∧ K z ∧ rel r z q := by
  unfold aunary at h
  split at h
  · have := rel_lit_inv hx; subst this
    exact ⟨_, _, fun w => by simp [Op.unary], h, rel_lit rfl⟩
  · have := rel_lit_inv hx; subst this
    exact ⟨_, _, fun w => by simp [Op.unary, Op.intArith], h, rel_lit rfl⟩
  · exact h.elim

theorem aconv_sound {r : RO} {s d : TypeId} {x : AVal} {u : Value} {K : AVal → Prop} (hx : rel r x u) (h : aconv P s d x K) : ∃ z q, (∀ w, (convert s d u).run P w = .ok q w) ∧ K z ∧ rel r z q := by
  unfold aconv at h
  split at h
  · rename_i k n
    have := rel_lit_inv hx; subst this
    obtain ⟨h1, h2⟩ := h
    split at h2
    · rename_i k' hk
      unfold tint at h1 hk
      split at h1
      · rename_i k1 hu
        split at hk
        · rename_i k2 hu2
          cases hk
          refine ⟨_, _, fun w => ?_, h2, rel_lit rfl⟩
          simp [convert, run_underlying hu, run_underlying hu2, Conv.intToInt]
        · cases hk
      · exact absurd rfl h1
    · exact h2.elim
  · exact h.elim

theorem alen_sound {r : RO} {t : TypeId} {ty : TypeId} {x : AVal} {u : Value} {K : AVal → Prop} (hx : rel r x u) (h : alen (tindex P t) x K) : ∃ z q, (∀ w, (Builtin.len_ #[t] ty #[u]).run P w = .ok q w) ∧ K z ∧ rel r z q := by
  generalize hix : tindex P t = ix at h
  unfold alen at h
  split at h
  · obtain ⟨e, hu, _⟩ := tindex_slice hix
    simp only [rel] at hx
    obtain ⟨A, cap, rfl, h1, h2, _⟩ := hx
    exact ⟨_, _, fun w => by simp [Builtin.len_, run_underlying hu, goInt], h (Nat.le_trans h1 h2), rel_lit rfl⟩
  · obtain ⟨e, hu, _⟩ := tindex_slice hix
    have := rel_lit_inv hx; subst this
    exact ⟨_, _, fun w => by simp [Builtin.len_, run_underlying hu, goInt], h, rel_lit rfl⟩
  · have hu := tindex_string hix
    have := rel_lit_inv hx; subst this
    exact ⟨_, .int .i64 _, fun w => by simp [Builtin.len_, run_underlying hu, goInt], h, rel_lit rfl⟩
  · exact h.elim

theorem amin_sound {r : RO} {ts : Array TypeId} {ty : TypeId} {x y : AVal} {u v : Value} {K : AVal → Prop} (hx : rel r x u) (hy : rel r y v) (h : amin x y K) : ∃ z q, (∀ w, (Builtin.min_ ts ty #[u, v]).run P w = .ok q w) ∧ K z ∧ rel r z q := by
  unfold amin at h
  split at h
  · have := rel_lit_inv hx; subst this; have := rel_lit_inv hy; subst this
    exact ⟨_, _, fun w => by simp [Builtin.min_, Builtin.min2], h, rel_lit rfl⟩
  · exact h.elim

theorem amax_sound {r : RO} {ts : Array TypeId} {ty : TypeId} {x y : AVal} {u v : Value} {K : AVal → Prop} (hx : rel r x u) (hy : rel r y v) (h : amax x y K) : ∃ z q, (∀ w, (Builtin.max_ ts ty #[u, v]).run P w = .ok q w) ∧ K z ∧ rel r z q := by
  unfold amax at h
  split at h
  · have := rel_lit_inv hx; subst this; have := rel_lit_inv hy; subst this
    exact ⟨_, _, fun w => by simp [Builtin.max_, Builtin.max2], h, rel_lit rfl⟩
  · exact h.elim

/-! slices of strings and slices -/

theorem bytes_extract (s : ByteArray) (l h : Nat) : s.extract l h = ⟨((s.data.toList.take h).drop l).toArray⟩ := by
  apply ByteArray.ext
  simp only [ByteArray.data_extract]
  apply Array.ext'
  rw [Array.toList_extract, List.extract_eq_take_drop, List.drop_take]

def optRel (r : RO) : Option AVal → Option Value → Prop
  | none, none => True
  | some x, some u => rel r x u
  | _, _ => False

theorem abound_inv {r : RO} {x : Option AVal} {u : Option Value} {d : Nat} {K : Nat → Prop} (hx : optRel r x u) (h : abound x d K) :
    ∃ n, K n ∧ ((u = none ∧ n = d) ∨ ∃ k j, u = some (.int k j) ∧ 0 ≤ j ∧ j.toNat = n) := by
  cases x with
  | none => cases u with
    | none => exact ⟨d, h, .inl ⟨rfl, rfl⟩⟩
    | some v => exact hx.elim
  | some x => cases u with
    | none => exact hx.elim
    | some v =>
      unfold abound at h
      split at h
      · rename_i he; cases he
      · rename_i k j he
        cases he
        have := rel_lit_inv (show rel r _ _ from hx); subst this
        exact ⟨j.toNat, h.2, .inr ⟨k, j, rfl, h.1, rfl⟩⟩
      · exact h.elim

theorem run_sliceBound {k : IntKind} {j : Int} {y : Nat} {c : BoundsCode} (h0 : 0 ≤ j) (h1 : j.toNat ≤ y) (w : World) : (Instr.sliceBound (.int k j) y c).run P w = .ok j.toNat w := by
  have : j ≤ (y : Int) := by omega
  simp [Instr.sliceBound, asIntOf, h0, this]

theorem relRows_take {r : RO} {sz b : Nat} : ∀ {xs : List (List AVal)} {off : Nat}, relRows r sz xs b off → ∀ n, relRows r sz (xs.take n) b off
  | [], off, h, n => by simpa using h
  | x :: xs, off, h, 0 => by simp [relRows]
  | x :: xs, off, h, n + 1 => by
    simp only [relRows, List.take_succ_cons] at h ⊢
    exact ⟨h.1, h.2.1, relRows_take h.2.2 n⟩
theorem relRows_drop {r : RO} {sz b : Nat} : ∀ {xs : List (List AVal)} {off : Nat}, relRows r sz xs b off → ∀ n, n ≤ xs.length → relRows r sz (xs.drop n) b (off + n * sz)
  | xs, off, h, 0, _ => by simpa using h
  | [], off, h, n + 1, hn => by simp at hn
  | x :: xs, off, h, n + 1, hn => by
    simp only [relRows] at h
    have := relRows_drop h.2.2 n (by simpa using hn)
    rw [List.drop_succ_cons, show off + (n + 1) * sz = off + sz + n * sz by rw [Nat.succ_mul]; omega]
    exact this

theorem aslice_sound {r : RO} {t : TypeId} {x : AVal} {u : Value} {lo hi mx : Option AVal} {ul uh um : Option Value} {K : AVal → Prop} (hx : rel r x u)
    (hl : optRel r lo ul) (hh : optRel r hi uh) (hm : optRel r mx um) (h : aslice (tindex P t) x lo hi mx K) :
    ∃ z q, (∀ w, (Instr.sliceAt t u ul uh um).run P w = .ok q w) ∧ K z ∧ rel r z q := by
  generalize hix : tindex P t = ix at h
  unfold aslice at h
  split at h
  · rename_i s
    have hu := tindex_string hix
    have := rel_lit_inv hx; subst this
    obtain ⟨rfl, h⟩ := h
    cases um with
    | some v => exact hm.elim
    | none =>
    unfold asliceStr at h
    obtain ⟨l, h, hl'⟩ := abound_inv hl h
    obtain ⟨hn, h, hh'⟩ := abound_inv hh h
    obtain ⟨h1, h2, h3⟩ := h
    have hlen : s.data.toList.length = s.size := rfl
    rw [hlen] at h2 hh'
    have h2' : hn ≤ s.size := h2
    refine ⟨_, .string (s.extract l hn), fun w => ?_, h3, by rw [bytes_extract]; exact rel_lit rfl⟩
    have hb : (Instr.sliceBounds false s.size s.size ul uh none).run P w = .ok (l, hn, s.size) w := by
      unfold Instr.sliceBounds
      rcases hh' with ⟨rfl, rfl⟩ | ⟨k, j, rfl, h0, rfl⟩ <;> rcases hl' with ⟨rfl, rfl⟩ | ⟨k', j', rfl, h0', rfl⟩
      · simp
      · simp [run_sliceBound h0' h1]
      · simp [run_sliceBound h0 h2']
      · simp [run_sliceBound h0 h2', run_sliceBound h0' h1]
    simp [Instr.sliceAt, run_underlying hu, Instr.slice, hb]
  · rename_i n sz xs g
    obtain ⟨e, hu, hs⟩ := tindex_slice hix
    unfold asliceSl at h
    obtain ⟨l, h, hl'⟩ := abound_inv hl h
    obtain ⟨hn, h, hh'⟩ := abound_inv hh h
    obtain ⟨m, h, hm'⟩ := abound_inv hm h
    obtain ⟨h3i, rfl, h1, h2, hmh, h3⟩ := h
    rw [hmh] at hm'
    clear hmh
    simp only [rel] at hx
    obtain ⟨A, cap, rfl, hle, hcap, hg, hA⟩ := hx
    have key : ∃ m, (∀ w, (Instr.sliceBounds true xs.length cap ul uh um).run P w = .ok (l, hn, m) w) ∧ hn ≤ m ∧ m ≤ cap ∧ (mx.isSome = true → m = hn) := by
      unfold Instr.sliceBounds
      have hc : hn ≤ cap := Nat.le_trans h2 hle
      rcases hm' with ⟨rfl, _⟩ | ⟨k2, j2, rfl, h02, h12⟩
      · have hmx : mx.isSome = false := by cases mx with
          | none => rfl
          | some v => exact hm.elim
        refine ⟨cap, fun w => ?_, hc, Nat.le_refl _, fun h => by rw [hmx] at h; cases h⟩
        rcases hh' with ⟨rfl, rfl⟩ | ⟨k, j, rfl, h0, rfl⟩ <;> rcases hl' with ⟨rfl, rfl⟩ | ⟨k', j', rfl, h0', rfl⟩
        · simp
        · simp [run_sliceBound h0' h1]
        · simp [run_sliceBound h0 hc]
        · simp [run_sliceBound h0 hc, run_sliceBound h0' h1]
      · refine ⟨hn, fun w => ?_, Nat.le_refl _, hc, fun _ => rfl⟩
        rcases hh' with ⟨rfl, _⟩ | ⟨k, j, rfl, h0, h1j⟩
        · exfalso
          cases mx with
          | none => exact hm.elim
          | some v => cases hi with
            | none => simp at h3i
            | some v => exact hh.elim
        · have e1 : (Instr.sliceBound (.int k2 j2) cap .slice3Acap).run P w = .ok hn w := by rw [run_sliceBound h02 (by omega), h12]
          have e2 : (Instr.sliceBound (.int k j) hn .slice3B).run P w = .ok hn w := by rw [run_sliceBound h0 (by omega), h1j]
          rcases hl' with ⟨rfl, rfl⟩ | ⟨k', j', rfl, h0', rfl⟩
          · simp [e1, e2]
          · simp [e1, e2, run_sliceBound h0' h1]
    obtain ⟨m, hrun, hm1, hm2, hm3⟩ := key
    refine ⟨_, .slice (if m = l then A else A.map (·.add (l * n))) (hn - l) (m - l), fun w => ?_, h3, ?_⟩
    · simp [Instr.sliceAt, run_underlying hu, Instr.slice, hrun, run_sizeOf hs]
    · simp only [rel]
      have hlen : ((xs.take hn).drop l).length = hn - l := by simp; omega
      refine ⟨if m = l then A else A.map (·.add (l * n)), m - l, by rw [hlen], by omega, by omega, ?_, ?_⟩
      · rw [hlen]
        cases hmx : mx.isSome
        · simp [growOk]
        · simp [growOk, hm3 hmx]
      · rcases hA with ⟨rfl, rfl⟩ | ⟨b, off, rfl, hrows⟩
        · refine .inl ⟨by simp, by omega⟩
        · right
          by_cases hml : m = l
          · have he : (xs.take hn).drop l = [] := by
              apply List.eq_nil_of_length_eq_zero; omega
            exact ⟨b, off, by simp [hml], by rw [he]; simp [relRows]⟩
          · refine ⟨b, off + l * n, by simp [hml, addr_add], ?_⟩
            exact relRows_drop (relRows_take hrows hn) l (by simp; omega)
  · exact h.elim

end
end Go.Proofs.Abs
