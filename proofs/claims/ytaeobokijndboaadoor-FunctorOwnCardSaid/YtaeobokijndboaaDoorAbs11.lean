/- The abstract layer, part 11: regions that draw their order. -/
import Derived.Test.YtaeobokijndboaaDoorAbs10
set_option linter.unusedVariables false
set_option linter.unusedSimpArgs false
namespace Go.Proofs.Abs
open Go

/-! ### the order that is drawn, with one condition on the world that need not hold behind an operation that all others come before -/

section
variable {P : Program} {ops : Array Oper} {Q : Exit → Act → World → Prop} {S : World → Prop}

/-- number j waits for all others -/
def lastB (ops : Array Oper) (j : Nat) : Bool := match ops[j]? with
  | some o => (List.range ops.size).all fun k => k == j || o.after.toList.any fun e => Region.binds .any e && e.on == k
  | none => false

def wpAnyL (P : Program) (ops : Array Oper) (Q : Exit → Act → World → Prop) (S : World → Prop) : Nat → Array Bool → Act → World → Prop
  | 0, listed, a, w => Region.ready .any ops listed = [] ∧ Q .normal a w
  | fuel + 1, listed, a, w =>
    (Region.ready .any ops listed = [] → Q .normal a w) ∧
    ∀ i ∈ Region.ready .any ops listed, wpOp P ops Q i (fun a' w' => (lastB ops i = false → S w') ∧ wpAnyL P ops Q S fuel (listed.setIfInBounds i true) a' w') a w

theorem wpAny_of_last : ∀ (fuel : Nat) (listed : Array Bool) (a : Act) (w : World), wpAnyL P ops Q S fuel listed a w → wpAny P .any ops Q fuel listed a w
  | 0, _, _, _, h => h
  | fuel + 1, _, _, _, h => ⟨h.1, fun i hi => wpOp_mono (fun a' w' h' => wpAny_of_last fuel _ a' w' h'.2) (h.2 i hi)⟩

theorem not_last {i j : Nat} {listed : Array Bool} (hi : i ∈ Region.ready .any ops listed) (hj : j ∈ Region.ready .any ops listed) (hji : j ≠ i) : lastB ops j = false := by
  cases hl : lastB ops j with
  | false => rfl
  | true =>
    exfalso
    obtain ⟨_, oj, hoj, hall⟩ := mem_ready.1 hj
    obtain ⟨hiu, oi, hoi, _⟩ := mem_ready.1 hi
    unfold lastB at hl
    rw [hoj] at hl
    have hlt : i < ops.size := by
      rcases Nat.lt_or_ge i ops.size with h | h
      · exact h
      · rw [Array.getElem?_eq_none h] at hoi; cases hoi
    have := List.all_eq_true.1 hl i (List.mem_range.2 hlt)
    simp only [Bool.or_eq_true, beq_iff_eq, List.any_eq_true, Bool.and_eq_true, Array.mem_toList_iff] at this
    rcases this with h | ⟨e, he, hb, heq⟩
    · exact hji h.symm
    · have h1 := hall e he hb
      rw [heq] at h1
      rcases Nat.lt_or_ge i listed.size with h' | h'
      · simp [h'] at hiu h1; rw [hiu] at h1; cases h1
      · simp [Array.getElem?_eq_none h'] at h1

theorem wpAnyL_take {i : Nat} {oi : Oper} {v : Value} (hi : ops[i]? = some oi) (hs : Region.noSelect ops = true)
    (hQ : ∀ c a w, Q (.panic c) (a.put oi.dst v) w → Q (.panic c) a w) :
    ∀ (fuel : Nat) (listed : Array Bool) (a : Act) (w : World), Region.free .any ops listed i = true → i ∈ Region.ready .any ops listed → YieldsIf P ops S oi v a → S w →
      wpAnyL P ops Q S fuel (listed.setIfInBounds i true) (a.put oi.dst v) w → wpAnyL P ops Q S (fuel + 1) listed a w := by
  intro fuel listed a w hf
  have hsel := Region.noSelect_spec hs
  have hfree := Region.free_spec hi hf
  clear hf
  induction fuel generalizing listed a w with
  | zero =>
    intro hr hy hS H
    refine ⟨fun h => (by rw [h] at hr; cases hr), fun j hj => ?_⟩
    by_cases hji : j = i
    · subst hji; exact hy.wpOp hi hS ⟨fun _ => hS, H⟩
    · have := ready_mono hj hji
      rw [H.1] at this
      cases this
  | succ fuel ih =>
    intro hr hy hS H
    refine ⟨fun h => (by rw [h] at hr; cases hr), fun j hj => ?_⟩
    by_cases hji : j = i
    · subst hji; exact hy.wpOp hi hS ⟨fun _ => hS, H⟩
    · have hnl := not_last hr hj hji
      have h1 := H.2 j (ready_mono hj hji)
      obtain ⟨hjun, oj, hoj, hall⟩ := mem_ready.1 hj
      have hnot : ∀ e ∈ oj.after, Region.binds .any e = true → e.on ≠ i := fun e he hb heq => by
        have h1 := hall e he hb
        have h0 := (mem_ready.1 hr).1
        rw [heq] at h1
        rcases Nat.lt_or_ge i listed.size with h' | h'
        · simp [h'] at h0 h1; rw [h0] at h1; cases h1
        · simp [Array.getElem?_eq_none h'] at h1
      have h2 := wpOp_putIf hoj (hfree j oj hoj hji hjun hnot) (fun cs b => hsel i oi cs b hi) (fun cs b => hsel j oj cs b hoj) hQ hy h1
      refine wpOp_mono (fun a' w' h3 => ⟨fun _ => h3.2.1 hnl, ?_⟩) h2
      refine ih (listed.setIfInBounds j true) a' w' ?_ (ready_mono hr (Ne.symm hji)) h3.1 (h3.2.1 hnl) ?_
      · intro k ok hk hki hun hno
        refine hfree k ok hk hki ?_ hno
        by_cases hjk : j = k
        · subst hjk; exact hjun
        · rw [getD_set_ne true hjk] at hun; exact hun
      · rw [Array.setIfInBounds_comm _ _ hji]
        exact h3.2.2

theorem wpAnyL_all {rs : List Nat} {fuel : Nat} {listed : Array Bool} {a : Act} {w : World} (hr : Region.ready .any ops listed = rs) (hne : rs ≠ [])
    (h : ∀ i ∈ rs, wpOp P ops Q i (fun a' w' => (lastB ops i = false → S w') ∧ wpAnyL P ops Q S fuel (listed.setIfInBounds i true) a' w') a w) : wpAnyL P ops Q S (fuel + 1) listed a w :=
  ⟨fun h0 => absurd (hr ▸ h0) hne, hr ▸ h⟩
theorem wpAnyL_done {listed : Array Bool} {a : Act} {w : World} (hr : Region.ready .any ops listed = []) (h : Q .normal a w) : ∀ fuel, wpAnyL P ops Q S fuel listed a w
  | 0 => ⟨hr, h⟩
  | _ + 1 => ⟨fun _ => h, by rw [hr]; simp⟩
theorem wp_region_last {id : Nat} {a : Act} {w : World} (hm : P.follows .mixedOrders = true)
    (h : wpAnyL P ops Q S ops.size (Array.replicate ops.size false) a { w with drawn := w.drawn + 1 }) : (Code.region id ops true).wp P Q a w :=
  wp_region_any hm (wpAny_of_last _ _ _ _ h)
end

/-- operations that look at no memory and turn none -/
def pureOp : Op → Bool
  | .move _ | .assign _ | .pick _ _ _ | .nilCheck _ | .binOp .. | .unOp .. | .convert .. | .makeInterface .. | .makeFunc .. | .slice .. | .fieldAddr .. | .field .. | .indexAddr .. | .index .. | .extract .. => true
  | .call ⟨.builtin .len, _, _⟩ | .call ⟨.builtin .min, _, _⟩ | .call ⟨.builtin .max, _, _⟩ => true
  | _ => false

section
variable {P : Program} {G : Glob}

theorem apure_sound {r : RO} {S : St} {o : Oper} {ρa : Operand → AVal} {ρ : Operand → Value} {K : AVal → St → Prop} {Pn : AVal → St → Prop} (hop : pureOp o.op = true) (hρ : ∀ x, rel r (ρa x) (ρ x))
    (h : aop P G o.op ρa S K Pn) : ∃ x v, (∀ w, (execOp ρ o).run P w = .ok (.value v) w) ∧ K x S ∧ rel r x v := by
  have lift : ∀ (s : Sem Value) (heq : execOp ρ o = (do pure (.value (← s)) : Sem Next)), (∃ x v, (∀ w, s.run P w = .ok v w) ∧ K x S ∧ rel r x v) →
      ∃ x v, (∀ w, (execOp ρ o).run P w = .ok (.value v) w) ∧ K x S ∧ rel r x v := by
    intro s heq ⟨x, v, h1, h2, h3⟩
    exact ⟨x, v, fun w => by rw [heq]; simp only [Sem.run_bind, h1 w, Result.andThen_ok, Sem.run_pure], h2, h3⟩
  obtain ⟨dst, op, type, pos, after, guard⟩ := o
  simp only at h hop
  cases op <;> simp only [pureOp, Bool.false_eq_true] at hop <;> simp only [aop] at h <;> (try exact h.elim)
  case move x => exact ⟨_, _, fun w => rfl, h, hρ x⟩
  case assign x => exact ⟨_, _, fun w => rfl, h, hρ x⟩
  case pick c a b =>
    obtain ⟨bb, h1, h2, h3⟩ := h
    have hc := hρ c
    rw [h1] at hc
    have hc' := rel_lit_inv hc
    cases bb
    · exact ⟨_, _, fun w => by simp only [execOp, hc']; rfl, h3 rfl, hρ b⟩
    · exact ⟨_, _, fun w => by simp only [execOp, hc']; rfl, h2 rfl, hρ a⟩
  case nilCheck x =>
    have hx := hρ x
    unfold anil at h
    generalize hax : ρa x = ax at h hx
    generalize hu : ρ x = u at hx
    split at h
    · have hx0 := hx
      simp only [rel] at hx
      obtain ⟨b, o, rfl, _⟩ := hx
      exact ⟨_, _, fun w => by simp only [execOp, hu]; rfl, h, hx0⟩
    · have hx0 := hx
      have := rel_lit_inv hx; subst this
      exact ⟨_, _, fun w => by simp only [execOp, hu]; rfl, h, hx0⟩
    · have hx0 := hx
      simp only [rel] at hx
      obtain ⟨us, rfl, _⟩ := hx
      exact ⟨_, _, fun w => by simp only [execOp, hu]; rfl, h, hx0⟩
    · exact h.elim
  case binOp op t x y yt =>
    split at h
    · exact h.elim
    · split at h
      · rename_i e1 e2
        have hx := hρ x; have hy := hρ y
        rw [e1] at hx; rw [e2] at hy
        have hx' := rel_lit_inv hx; have hy' := rel_lit_inv hy
        obtain ⟨z, q, g1, g2, g3⟩ := abinNil_sound (r := r) (xo := x) (yo := y) h.1 h.2
        exact lift _ rfl ⟨z, q, by rw [hx', hy']; exact g1, g2, g3⟩
      · obtain ⟨z, q, g1, g2, g3⟩ := abin_sound (xo := x) (yo := y) (hρ x) (hρ y) h
        exact lift _ rfl ⟨z, q, g1, g2, g3⟩
  case unOp op t x => exact lift _ rfl (aunary_sound (hρ x) h)
  case convert s d x => exact lift _ rfl (aconv_sound (hρ x) h)
  case makeInterface t x =>
    obtain ⟨h1, h2⟩ := h
    obtain ⟨d, hu, hd⟩ := tplain_inv h1
    refine lift _ rfl ⟨_, .iface t (ρ x), fun w => ?_, h2, by simp only [rel]; exact ⟨_, rfl, hρ x⟩⟩
    simp only [Instr.makeInterface, Sem.run_bind, run_underlying hu, Result.andThen_ok]
    cases d <;> first | rfl | exact absurd rfl (hd _)
  case makeFunc f first caps =>
    obtain ⟨rfl, h2⟩ := h
    refine lift _ rfl ⟨_, .func f #[] (caps.map ρ), fun w => ?_, h2, by simp only [rel]; exact ⟨_, rfl, by simpa using relL_map hρ caps.toList⟩⟩
    simp [Instr.makeFunc]
  case slice t x lo hi mx => exact lift _ rfl (aslice_sound (hρ x) (opt_rel hρ lo) (opt_rel hρ hi) (opt_rel hρ mx) h)
  case fieldAddr t x f =>
    split at h
    · rename_i d e hf
      exact lift _ rfl (run_fieldAt_sound (hρ x) hf h)
    · exact h.elim
  case field t x f =>
    split at h
    · rename_i d u cs hf hx
      exact lift _ rfl (run_field_sound (by rw [← hx]; exact hρ x) hf h)
    · exact h.elim
  case indexAddr t x i => exact lift _ rfl (aindexAddr_sound (hρ x) (hρ i) h)
  case index t x i => exact lift _ rfl (aindex_sound (hρ x) (hρ i) h)
  case extract x i => exact lift _ rfl (aextract_sound (hρ x) h)
  case call c =>
    obtain ⟨callee, args, ts⟩ := c
    cases callee
    case value f => simp [pureOp] at hop
    case invoke f n => simp [pureOp] at hop
    rename_i b
    obtain ⟨args⟩ := args
    obtain ⟨ts⟩ := ts
    have hexec : ∀ (s : Sem Value), builtin b ⟨ts⟩ type ((⟨args⟩ : Array Operand).map fun | .const _ => true | _ => false) ((⟨args⟩ : Array Operand).map ρ) = (do pure (.value (← s)) : Sem Next) →
        execOp ρ ⟨dst, .call ⟨.builtin b, ⟨args⟩, ⟨ts⟩⟩, type, pos, after, guard⟩ = (do pure (.value (← s)) : Sem Next) := by
      intro s hb
      simp only [execOp, resolve]
      rw [← hb]
      rfl
    have h : abuiltin P b ts (args.map ρa) S K := h
    have two : ∀ x y, args.map ρa = [x, y] → ∃ x0 y0, args = [x0, y0] ∧ x = ρa x0 ∧ y = ρa y0 := by
      intro x y hx
      cases args with
      | nil => cases hx
      | cons a l => cases l with
        | nil => simp at hx
        | cons b l => cases l with
          | nil => simp at hx; exact ⟨a, b, rfl, hx.1.symm, hx.2.symm⟩
          | cons c l => simp at hx
    have one : ∀ x, args.map ρa = [x] → ∃ x0, args = [x0] ∧ x = ρa x0 := by
      intro x hx
      cases args with
      | nil => cases hx
      | cons a l => cases l with
        | nil => simp at hx; exact ⟨a, rfl, hx.symm⟩
        | cons b l => simp at hx
    generalize hxs : args.map ρa = xs at h one two
    cases b <;> simp only [Bool.false_eq_true] at hop
    case len =>
      cases ts with
      | nil => exact h.elim
      | cons t ts => cases ts with
        | cons t2 ts => exact h.elim
        | nil => cases xs with
          | nil => exact h.elim
          | cons x xs => cases xs with
            | cons x2 xs => exact h.elim
            | nil =>
              obtain ⟨x0, rfl, rfl⟩ := one x rfl
              obtain ⟨z, q, g1, g2, g3⟩ := alen_sound (P := P) (ty := type) (hρ x0) (show alen (tindex P t) (ρa x0) (fun v => K v S) from h)
              exact lift _ (hexec _ rfl) ⟨z, q, by simpa using g1, g2, g3⟩
    case min =>
      have h2 : ∃ x y, xs = [x, y] ∧ amin x y fun v => K v S := by
        cases xs with
        | nil => cases ts <;> exact h.elim
        | cons x xs => cases xs with
          | nil => cases ts <;> exact h.elim
          | cons y xs => cases xs with
            | cons z xs => cases ts <;> exact h.elim
            | nil => exact ⟨x, y, rfl, by cases ts <;> exact h⟩
      obtain ⟨x, y, rfl, hmm⟩ := h2
      obtain ⟨x0, y0, rfl, rfl, rfl⟩ := two x y rfl
      obtain ⟨z, q, g1, g2, g3⟩ := amin_sound (P := P) (ts := #[]) (ty := type) (hρ x0) (hρ y0) hmm
      exact lift _ (hexec _ rfl) ⟨z, q, by simpa [Builtin.min_] using g1, g2, g3⟩
    case max =>
      have h2 : ∃ x y, xs = [x, y] ∧ amax x y fun v => K v S := by
        cases xs with
        | nil => cases ts <;> exact h.elim
        | cons x xs => cases xs with
          | nil => cases ts <;> exact h.elim
          | cons y xs => cases xs with
            | cons z xs => cases ts <;> exact h.elim
            | nil => exact ⟨x, y, rfl, by cases ts <;> exact h⟩
      obtain ⟨x, y, rfl, hmm⟩ := h2
      obtain ⟨x0, y0, rfl, rfl, rfl⟩ := two x y rfl
      obtain ⟨z, q, g1, g2, g3⟩ := amax_sound (P := P) (ts := #[]) (ty := type) (hρ x0) (hρ y0) hmm
      exact lift _ (hexec _ rfl) ⟨z, q, by simpa [Builtin.max_] using g1, g2, g3⟩

/-! ### the schedule -/

inductive Sched where
  | done
  | take (i : Nat) (next : Sched)
  | all (branches : List (Nat × Sched))
  | last (i : Nat)

/-- what does not change in a region: what nobody may write, and the boxes of the list -/
structure Stays (S0 : St) (w0 : World) (keep : List Nat) (w : World) : Prop where
  ro : ∀ b off u, ro S0 w0 b off = some u → w.cell? ⟨b, off, none⟩ = some u
  box : ∀ b ∈ keep, ∀ cs vs, S0 b = some (.box cs vs) → ∀ off, w.cell? ⟨b, off, none⟩ = vs[off]?

/-- is the operand known from the region's beginning, up to what was taken first -/
def earlyOp (late : List Nat) : Operand → Bool
  | .tmp t => !late.contains t
  | _ => true
def earlyOper (late : List Nat) (o : Oper) : Bool := o.op.operands.toList.all (earlyOp late)

def loadPtr : Op → Option (TypeId × Operand)
  | .load t p => some (t, p)
  | _ => none

mutual
def Sched.ok (ops : Array Oper) : Sched → Nat → Array Bool → List Nat → Bool
  | .done, _, listed, _ => (Region.ready .any ops listed).isEmpty
  | .take i next, fuel, listed, late => match fuel, ops[i]? with
    | fuel + 1, some o => Region.free .any ops listed i && (Region.ready .any ops listed).contains i &&
      (if earlyOper late o then (pureOp o.op || (loadPtr o.op).isSome) && next.ok ops fuel (listed.setIfInBounds i true) late else pureOp o.op && next.ok ops fuel (listed.setIfInBounds i true) (o.dst.toList ++ late))
    | _, _ => false
  | .all l, fuel, listed, late => match fuel with
    | fuel + 1 => !l.isEmpty && (Region.ready .any ops listed == l.map (·.1)) && Sched.okAll ops l fuel listed late
    | _ => false
  | .last i, fuel, listed, late => match fuel with
    | fuel + 1 => (Region.ready .any ops listed == [i]) && lastB ops i && (Region.ready .any ops (listed.setIfInBounds i true)).isEmpty
    | _ => false
def Sched.okAll (ops : Array Oper) : List (Nat × Sched) → Nat → Array Bool → List Nat → Bool
  | [], _, _, _ => true
  | (i, next) :: l, fuel, listed, late => (match ops[i]? with
    | some o => next.ok ops fuel (listed.setIfInBounds i true) (o.dst.toList ++ late)
    | none => false) && Sched.okAll ops l fuel listed late
end

def aloadK (keep : List Nat) (k : Option (Option Nat)) (p : AVal) (S0 : St) (K : AVal → Prop) : Prop :=
  match p with
  | .rp cs off => acut k cs off K
  | .lit (.pointer (some ⟨b, o, none⟩)) => b ∈ keep ∧ aboxed (S0.get b) fun cs => acut k cs o K
  | _ => False
def atake (P : Program) (G : Glob) (N : Nat) (keep : List Nat) (S0 : St) (o : Oper) (env : Env) (S : St) (K : Env → Prop) : Prop :=
  match o.op with
  | .load t p => aloadK keep (tkind P t) (env.ev G p) S0 fun v => aput N o.dst v env K
  | op => aop P G op (env.ev G) S (fun v _ => aput N o.dst v env K) (fun _ _ => False)
def keeps (keep : List Nat) (S S' : St) : Prop := ∀ b ∈ keep, S'.get b = S.get b

mutual
def adraw (P : Program) (G : Glob) (N : Nat) (all : List Oper) (keep : List Nat) (S0 : St) (K : Env → St → Prop) (Pn : Env → AVal → St → Prop) : Sched → Env → St → Prop
  | .done, env, S => K env S
  | .take i next, env, S => match all[i]? with
    | some o => aguard all o.guard env (fun env => atake P G N keep S0 o env S fun env => adraw P G N all keep S0 K Pn next env S) (fun env => aput N o.dst skipV env fun env => adraw P G N all keep S0 K Pn next env S)
    | none => False
  | .all l, env, S => adrawAll P G N all keep S0 K Pn l env S
  | .last i, env, S => match all[i]? with
    | some o => aops P G N all [o] env S K Pn
    | none => False
def adrawAll (P : Program) (G : Glob) (N : Nat) (all : List Oper) (keep : List Nat) (S0 : St) (K : Env → St → Prop) (Pn : Env → AVal → St → Prop) : List (Nat × Sched) → Env → St → Prop
  | [], env, S => True
  | (i, next) :: l, env, S => (match all[i]? with
    | some o => aguard all o.guard env (fun env => astep P G N o env S (fun env S' => keeps keep S S' ∧ adraw P G N all keep S0 K Pn next env S') Pn) (fun env => aput N o.dst skipV env fun env => adraw P G N all keep S0 K Pn next env S)
    | none => False) ∧ adrawAll P G N all keep S0 K Pn l env S
end

/-! ### it is sound -/

section
variable {N : Nat} {ops : Array Oper} {keep : List Nat} {S0 : St} {w0 : World} {Q : AExit → Env → St → Prop}

/-- the state of a walk through such a region -/
structure DrawSt (G : Glob) (N : Nat) (keep : List Nat) (S0 : St) (w0 : World) (late : List Nat) (env : Env) (S : St) (a : Act) (w : World) : Prop where
  sim : Sim G S w
  ext : Ext S0 w0 S w
  fr : relEnv N (ro S w) env a
  early : ∀ t, t ∉ late → rel (ro S0 w0) (look env.m t) (a.tmps.getD t undef)
  keep : ∀ b ∈ keep, S b = S0 b

theorem DrawSt.stays {late : List Nat} {env : Env} {S : St} {a : Act} {w : World} (h : DrawSt G N keep S0 w0 late env S a w) : Stays S0 w0 keep w :=
  ⟨fun b off u hu => (ro_some.1 (h.ext.ro.val b off u hu)).2, fun b hb cs vs hbox off => by
    have hS := (h.keep b hb).trans hbox
    obtain ⟨T, h1, _⟩ := h.sim.own b _ hS
    simp [World.cell?, h1]⟩

theorem DrawSt.refine {late : List Nat} {env env' : Env} {S : St} {a : Act} {w : World} (h : DrawSt G N keep S0 w0 late env S a w) (he : relEnv N (ro S w) env' a) (hr : EnvRef env a env') : DrawSt G N keep S0 w0 late env' S a w :=
  ⟨h.sim, h.ext, he, fun t ht => by
    rcases hr t with h1 | ⟨v, h1, h2, h3⟩
    · rw [h1]; exact h.early t ht
    · rw [h1, h2]; exact rel_lit h3, h.keep⟩

theorem eval_late {late : List Nat} {env : Env} {a : Act} {r : RO} (hg : ∀ g cs, G g = some cs → relCells r cs g 0) (h : ∀ t, t ∉ late → rel r (look env.m t) (a.tmps.getD t undef)) (x : Operand) (hx : earlyOp late x = true) :
    rel r (env.ev G x) (a.eval x) := by
  cases x with
  | tmp t => exact h t (by simpa [earlyOp] using hx)
  | const v => exact rel_ofConst v
  | global g =>
    simp only [Env.ev, Act.eval]
    cases hq : G g with
    | none => exact rel_lit rfl
    | some cs => simp only [rel]; exact ⟨g, 0, rfl, hg g cs hq⟩
  | func f => simp only [Env.ev, Act.eval, rel]; exact ⟨#[], rfl, by simp [relL]⟩

/-- Only the operation's own operands matter. -/
theorem aop_congr {S : St} {op : Op} {ρ ρ' : Operand → AVal} {K : AVal → St → Prop} {Pn : AVal → St → Prop} (hp : pureOp op = true) (h : ∀ x ∈ op.operands.toList, ρ x = ρ' x) (ha : aop P G op ρ S K Pn) : aop P G op ρ' S K Pn := by
  cases op <;> simp only [pureOp, Bool.false_eq_true] at hp
  case move x => have h1 := h x (by simp [Op.operands]); simpa only [aop, h1] using ha
  case assign x => have h1 := h x (by simp [Op.operands]); simpa only [aop, h1] using ha
  case pick a b c =>
    have h1 := h a (by simp [Op.operands]); have h2 := h b (by simp [Op.operands]); have h3 := h c (by simp [Op.operands])
    simpa only [aop, h1, h2, h3] using ha
  case nilCheck x => have h1 := h x (by simp [Op.operands]); simpa only [aop, h1] using ha
  case binOp op t x y yt =>
    have h1 := h x (by simp [Op.operands]); have h2 := h y (by simp [Op.operands])
    simpa only [aop, h1, h2] using ha
  case unOp op t x => have h1 := h x (by simp [Op.operands]); simpa only [aop, h1] using ha
  case convert s t x => have h1 := h x (by simp [Op.operands]); simpa only [aop, h1] using ha
  case makeInterface t x => have h1 := h x (by simp [Op.operands]); simpa only [aop, h1] using ha
  case makeFunc f first caps =>
    have h1 : caps.toList.map ρ = caps.toList.map ρ' := List.map_congr_left fun x hx => h x (by simp [Op.operands]; right; simpa using hx)
    simpa only [aop, h1] using ha
  case slice t x lo hi mx =>
    have h1 := h x (by simp [Op.operands])
    have o1 : lo.map ρ = lo.map ρ' := by cases lo with
      | none => rfl
      | some v => simp only [Option.map_some, h v (by simp [Op.operands])]
    have o2 : hi.map ρ = hi.map ρ' := by cases hi with
      | none => rfl
      | some v => simp only [Option.map_some, h v (by simp [Op.operands])]
    have o3 : mx.map ρ = mx.map ρ' := by cases mx with
      | none => rfl
      | some v => simp only [Option.map_some, h v (by simp [Op.operands])]
    simpa only [aop, h1, o1, o2, o3] using ha
  case fieldAddr t x f => have h1 := h x (by simp [Op.operands]); simpa only [aop, h1] using ha
  case field t x f => have h1 := h x (by simp [Op.operands]); simpa only [aop, h1] using ha
  case indexAddr t x i => have h1 := h x (by simp [Op.operands]); have h2 := h i (by simp [Op.operands]); simpa only [aop, h1, h2] using ha
  case index t x i => have h1 := h x (by simp [Op.operands]); have h2 := h i (by simp [Op.operands]); simpa only [aop, h1, h2] using ha
  case extract x i => have h1 := h x (by simp [Op.operands]); simpa only [aop, h1] using ha
  case call c =>
    obtain ⟨callee, args, ts⟩ := c
    cases callee
    case value f => simp [pureOp] at hp
    case invoke f n => simp [pureOp] at hp
    rename_i b
    have h1 : args.toList.map ρ = args.toList.map ρ' := List.map_congr_left fun x hx => h x (by simpa [Op.operands, Call.operands] using hx)
    simpa only [aop, h1] using ha

def maskEv (G : Glob) (late : List Nat) (env : Env) (x : Operand) : AVal := if earlyOp late x then env.ev G x else .any

theorem atake_sound (hs0 : Sim G S0 w0) {late : List Nat} {o : Oper} {env : Env} {S : St} {a : Act} {w : World} {K : Env → Prop} (h : DrawSt G N keep S0 w0 late env S a w) (hop : (pureOp o.op || (loadPtr o.op).isSome) = true)
    (hearly : earlyOper late o = true) (hk : atake P G N keep S0 o env S K) :
    ∃ v env', (∀ w, Stays S0 w0 keep w → (execOp a.eval o).run P w = .ok (.value v) w) ∧ K env' ∧ DrawSt G N keep S0 w0 late env' S (a.put o.dst v) w := by
  -- the value, related at the region's beginning
  have fin : ∀ (x : AVal) (v : Value), rel (ro S0 w0) x v → aput N o.dst x env K → ∃ env', K env' ∧ DrawSt G N keep S0 w0 late env' S (a.put o.dst v) w := by
    intro x v hx hp
    obtain ⟨env', g1, g2, g3⟩ := aput_sound h.fr (rel_mono h.ext.ro _ _ hx) hp
    cases hdst : o.dst with
    | none =>
      rw [hdst] at hp
      exact ⟨env, hp, h⟩
    | some d =>
      rw [hdst] at hp
      refine ⟨env.put d x, hp.2, h.sim, h.ext, relEnv_put h.fr hp.1 (rel_mono h.ext.ro _ _ hx), fun t ht => ?_, h.keep⟩
      simp only [Env.put, look, Act.put]
      by_cases hdt : d = t
      · subst hdt
        rw [if_pos rfl]
        have : (a.tmps.setIfInBounds d v).getD d undef = v := by simp [Array.getD, Array.size_setIfInBounds, h.fr.size, hp.1]
        rw [this]; exact hx
      · rw [if_neg hdt]
        have := h.early t ht
        simp only [Array.getD_eq_getD_getElem?] at this ⊢
        rw [Array.getElem?_setIfInBounds_ne hdt]
        exact this
  have hρ : ∀ x, rel (ro S0 w0) (maskEv G late env x) (a.eval x) := by
    intro x
    unfold maskEv
    split
    · rename_i hx; exact eval_late hs0.glob h.early x hx
    · exact rel_any
  have hmask : ∀ x ∈ o.op.operands.toList, env.ev G x = maskEv G late env x := fun x hx => by
    have := List.all_eq_true.1 hearly x hx
    unfold maskEv
    rw [if_pos this]
  have hpure : ∀ (hp : pureOp o.op = true) (hk : aop P G o.op (env.ev G) S (fun v _ => aput N o.dst v env K) (fun _ _ => False)),
      ∃ v env', (∀ w, Stays S0 w0 keep w → (execOp a.eval o).run P w = .ok (.value v) w) ∧ K env' ∧ DrawSt G N keep S0 w0 late env' S (a.put o.dst v) w := by
    intro hp hk
    obtain ⟨x, v, h1, h2, h3⟩ := apure_sound (r := ro S0 w0) (ρa := maskEv G late env) (ρ := a.eval) hp hρ (aop_congr hp hmask hk)
    obtain ⟨env', g1, g2⟩ := fin x v h3 h2
    exact ⟨v, env', fun w' _ => h1 w', g1, g2⟩
  unfold atake at hk
  split at hk
  · rename_i t p hop'
    have hp := hρ p
    rw [← hmask p (by rw [hop']; simp [Op.operands])] at hp
    have hexec : ∀ (v : Value) (w' : World), (Instr.loadAt t (a.eval p)).run P w' = .ok v w' → (execOp a.eval o).run P w' = .ok (.value v) w' := by
      intro v w' hv
      obtain ⟨dst, op, type, pos, after, guard⟩ := o
      simp only at hop'
      subst hop'
      simp only [execOp, Sem.run_bind, hv, Result.andThen_ok, Sem.run_pure]
    unfold aloadK at hk
    split at hk
    · rename_i cs off hev
      rw [hev] at hp
      simp only [rel] at hp
      obtain ⟨b, ob, hv, hc⟩ := hp
      obtain ⟨us, h1, h2⟩ := relCells_vals hc
      obtain ⟨x, v, h3, h4, h5⟩ := acutU_sound (P := P) (b := b) (o := ob) hk h1
      obtain ⟨env', g1, g2⟩ := fin x v h5 h4
      refine ⟨v, env', fun w' hw' => hexec v w' ?_, g1, g2⟩
      rw [hv]
      have := h3 w' (fun i u hu => hw'.ro _ _ _ (h2 i u hu))
      simpa [Instr.loadAt, Instr.sureAddr] using this
    · rename_i b ob hev
      rw [hev] at hp
      have hv := rel_lit_inv hp
      obtain ⟨hkeep, cs, vs, hbox, hcut⟩ := hk
      obtain ⟨T, hb1, hb2⟩ := hs0.own b _ hbox
      obtain ⟨x, v, h3, h4, h5⟩ := acutU_sound (P := P) (b := b) (o := 0) hcut hb2
      obtain ⟨env', g1, g2⟩ := fin x v h5 h4
      refine ⟨v, env', fun w' hw' => hexec v w' ?_, g1, g2⟩
      rw [hv]
      have := h3 w' (fun i u hu => by rw [hw'.box b hkeep cs vs hbox]; simpa using hu)
      simpa [Instr.loadAt, Instr.sureAddr] using this
    · exact hk.elim
  · rename_i hnl
    refine hpure ?_ hk
    have : (loadPtr o.op).isSome = false := by
      cases hq : o.op <;> simp [loadPtr]
      exact absurd hq (hnl _ _)
    rw [this, Bool.or_false] at hop
    exact hop

theorem atakeLate_sound {late : List Nat} {o : Oper} {env : Env} {S : St} {a : Act} {w : World} {K : Env → Prop} (h : DrawSt G N keep S0 w0 late env S a w) (hop : pureOp o.op = true)
    (hk : atake P G N keep S0 o env S K) :
    ∃ v env', (∀ w, Stays S0 w0 keep w → (execOp a.eval o).run P w = .ok (.value v) w) ∧ K env' ∧ DrawSt G N keep S0 w0 (o.dst.toList ++ late) env' S (a.put o.dst v) w := by
  have hk' : aop P G o.op (env.ev G) S (fun v _ => aput N o.dst v env K) (fun _ _ => False) := by
    unfold atake at hk
    split at hk
    · rename_i t p hop'; rw [hop'] at hop; simp [pureOp] at hop
    · exact hk
  obtain ⟨x, v, h1, h2, h3⟩ := apure_sound (r := ro S w) (ρa := env.ev G) (ρ := a.eval) hop (fun x => rel_ev h.sim h.fr x) hk'
  obtain ⟨env', g1, g2, g3⟩ := aput_sound h.fr h3 h2
  refine ⟨v, env', fun w' _ => h1 w', g1, h.sim, h.ext, g2, fun t ht => ?_, h.keep⟩
  simp only [List.mem_append, Option.mem_toList, not_or] at ht
  obtain ⟨q1, q2⟩ := g3 t (fun hq => ht.1 (by rw [hq]))
  rw [q1, q2]
  exact h.early t ht.2

theorem DrawSt.more {late late' : List Nat} {env : Env} {S : St} {a : Act} {w : World} (h : DrawSt G N keep S0 w0 late env S a w) (hl : ∀ t ∈ late, t ∈ late') : DrawSt G N keep S0 w0 late' env S a w :=
  ⟨h.sim, h.ext, h.fr, fun t ht => h.early t fun hq => ht (hl t hq), h.keep⟩

theorem DrawSt.putAny {late : List Nat} {env : Env} {S : St} {a : Act} {w : World} {dst : Option Nat} {K : Env → Prop} (h : DrawSt G N keep S0 w0 late env S a w) (hp : aput N dst skipV env K) :
    ∃ env', K env' ∧ DrawSt G N keep S0 w0 late env' S (a.put dst undef) w := by
  cases dst with
  | none => exact ⟨env, hp, h⟩
  | some d =>
    refine ⟨env.put d skipV, hp.2, h.sim, h.ext, relEnv_put h.fr hp.1 rel_skip, fun t ht => ?_, h.keep⟩
    simp only [Env.put, look, Act.put]
    by_cases hdt : d = t
    · subst hdt
      rw [if_pos rfl]
      have : (a.tmps.setIfInBounds d undef).getD d undef = undef := by simp [Array.getD, Array.size_setIfInBounds]
      rw [this]; exact rel_skip
    · rw [if_neg hdt]
      have := h.early t ht
      simp only [Array.getD_eq_getD_getElem?] at this ⊢
      rw [Array.getElem?_setIfInBounds_ne hdt]
      exact this

/-- what the ends of the region must give -/
structure DrawEnds (P : Program) (G : Glob) (N : Nat) (ops : Array Oper) (S0 : St) (w0 : World) (K : Env → St → Prop) (Pn : Env → AVal → St → Prop) (Q : Exit → Act → World → Prop) : Prop where
  sim0 : Sim G S0 w0
  noSel : Region.noSelect ops = true
  done : ∀ env' S' w' a', K env' S' → Sim G S' w' → Ext S0 w0 S' w' → relEnv N (ro S' w') env' a' → Q .normal a' w'
  dies : ∀ v S' w' u env' a', Pn env' v S' → relEnv N (ro S' w') env' a' → Sim G S' w' → Ext S0 w0 S' w' → rel (ro S' w') v u → Q (.panic [{ v := u, recovered := false }]) a' w'
  blind : ∀ c a w v dst, Q (.panic c) (Act.put a dst v) w → Q (.panic c) a w

mutual
theorem adraw_sound {K : Env → St → Prop} {Pn : Env → AVal → St → Prop} {Q : Exit → Act → World → Prop} (hE : DrawEnds P G N ops S0 w0 K Pn Q) : ∀ (s : Sched) (fuel : Nat) (listed : Array Bool) (late : List Nat) (env : Env) (S : St) (a : Act) (w : World),
    s.ok ops fuel listed late = true → adraw P G N ops.toList keep S0 K Pn s env S → DrawSt G N keep S0 w0 late env S a w → wpAnyL P ops Q (Stays S0 w0 keep) fuel listed a w
  | .done, fuel, listed, late, env, S, a, w, hok, h, hd => by
    simp only [Sched.ok, List.isEmpty_iff] at hok
    exact wpAnyL_done hok (hE.done env S w a (by simpa only [adraw] using h) hd.sim hd.ext hd.fr) fuel
  | .take i next, fuel, listed, late, env, S, a, w, hok, h, hd => by
    cases fuel with
    | zero => simp [Sched.ok] at hok
    | succ fuel =>
      simp only [Sched.ok] at hok
      cases ho : ops[i]? with
      | none => rw [ho] at hok; simp at hok
      | some o =>
        rw [ho] at hok
        simp only [Bool.and_eq_true] at hok
        obtain ⟨⟨hfree, hready⟩, hcase⟩ := hok
        have hol : ops.toList[i]? = some o := by simpa using ho
        simp only [adraw, hol] at h
        obtain ⟨env', he', hr', hc⟩ := aguard_sound hd.fr h
        have hd' := hd.refine he' hr'
        by_cases hearly : earlyOper late o = true
        · rw [if_pos hearly, Bool.and_eq_true] at hcase
          obtain ⟨hop, hnext⟩ := hcase
          rcases hc with ⟨hw, h1⟩ | ⟨hw, h1⟩
          · obtain ⟨v, env2, g1, g2, g3⟩ := atake_sound hE.sim0 hd' hop hearly h1
            exact wpAnyL_take ho hE.noSel (fun c a w hq => hE.blind c a w v o.dst hq) fuel listed a w hfree (by simpa using hready) (.inl ⟨hw, g1⟩) hd.stays (adraw_sound hE next fuel _ late env2 S _ w hnext g2 g3)
          · obtain ⟨env2, g2, g3⟩ := hd'.putAny h1
            exact wpAnyL_take ho hE.noSel (fun c a w hq => hE.blind c a w undef o.dst hq) fuel listed a w hfree (by simpa using hready) (.inr ⟨hw, rfl⟩) hd.stays (adraw_sound hE next fuel _ late env2 S _ w hnext g2 g3)
        · rw [if_neg hearly, Bool.and_eq_true] at hcase
          obtain ⟨hop, hnext⟩ := hcase
          rcases hc with ⟨hw, h1⟩ | ⟨hw, h1⟩
          · obtain ⟨v, env2, g1, g2, g3⟩ := atakeLate_sound hd' hop h1
            exact wpAnyL_take ho hE.noSel (fun c a w hq => hE.blind c a w v o.dst hq) fuel listed a w hfree (by simpa using hready) (.inl ⟨hw, g1⟩) hd.stays (adraw_sound hE next fuel _ _ env2 S _ w hnext g2 g3)
          · obtain ⟨env2, g2, g3⟩ := hd'.putAny h1
            exact wpAnyL_take ho hE.noSel (fun c a w hq => hE.blind c a w undef o.dst hq) fuel listed a w hfree (by simpa using hready) (.inr ⟨hw, rfl⟩) hd.stays (adraw_sound hE next fuel _ _ env2 S _ w hnext g2 (g3.more fun t ht => List.mem_append_right _ ht))
  | .all l, fuel, listed, late, env, S, a, w, hok, h, hd => by
    cases fuel with
    | zero => simp [Sched.ok] at hok
    | succ fuel =>
      simp only [Sched.ok, Bool.and_eq_true, Bool.not_eq_true', beq_iff_eq] at hok
      obtain ⟨⟨hne, hready⟩, hall⟩ := hok
      simp only [adraw] at h
      refine wpAnyL_all hready ?_ (adrawAll_sound hE l fuel listed late env S a w hall h hd)
      cases l with
      | nil => simp at hne
      | cons x l => simp
  | .last i, fuel, listed, late, env, S, a, w, hok, h, hd => by
    cases fuel with
    | zero => simp [Sched.ok] at hok
    | succ fuel =>
      simp only [Sched.ok, Bool.and_eq_true, beq_iff_eq, List.isEmpty_iff] at hok
      obtain ⟨⟨hready, hlast⟩, hend⟩ := hok
      refine wpAnyL_all hready (by simp) fun j hj => ?_
      rw [List.mem_singleton] at hj
      subst hj
      cases ho : ops[j]? with
      | none => simp only [adraw, show ops.toList[j]? = none by simpa using ho] at h
      | some o =>
        simp only [adraw, show ops.toList[j]? = some o by simpa using ho, aops] at h
        unfold wpOp
        simp only [ho]
        obtain ⟨env', he', hr', hc⟩ := aguard_sound hd.fr h
        rcases hc with ⟨hw, h3⟩ | ⟨hw, h3⟩
        · rw [if_pos hw]
          refine .inl (astep_sound hd.sim he' h3 (fun env2 S2 w2 a2 k1 k2 k3 k4 k5 => ?_) (fun v S' w' u k1 k2 k3 k4 => hE.dies v S' w' u env' a k1 (relEnv_mono he' k3.ro) k2 (hd.ext.trans k3 fun b o h => hE.sim0.lt h) k4))
          exact ⟨fun q => absurd q (by rw [hlast]; simp), wpAnyL_done hend (hE.done env2 S2 w2 a2 k1 k2 (hd.ext.trans k3 fun b o h => hE.sim0.lt h) k4) fuel⟩
        · rw [if_neg (by rw [hw]; simp)]
          obtain ⟨env2, g2, g3⟩ := (hd.refine he' hr').putAny h3
          exact ⟨fun q => absurd q (by rw [hlast]; simp), wpAnyL_done hend (hE.done env2 S w _ g2 g3.sim g3.ext g3.fr) fuel⟩
theorem adrawAll_sound {K : Env → St → Prop} {Pn : Env → AVal → St → Prop} {Q : Exit → Act → World → Prop} (hE : DrawEnds P G N ops S0 w0 K Pn Q) : ∀ (l : List (Nat × Sched)) (fuel : Nat) (listed : Array Bool) (late : List Nat) (env : Env) (S : St) (a : Act) (w : World),
    Sched.okAll ops l fuel listed late = true → adrawAll P G N ops.toList keep S0 K Pn l env S → DrawSt G N keep S0 w0 late env S a w →
    ∀ i ∈ l.map (·.1), wpOp P ops Q i (fun a' w' => (lastB ops i = false → Stays S0 w0 keep w') ∧ wpAnyL P ops Q (Stays S0 w0 keep) fuel (listed.setIfInBounds i true) a' w') a w
  | [], fuel, listed, late, env, S, a, w, hok, h, hd, i, hi => by simp at hi
  | (j, next) :: l, fuel, listed, late, env, S, a, w, hok, h, hd, i, hi => by
    simp only [Sched.okAll, Bool.and_eq_true] at hok
    obtain ⟨hok1, hok2⟩ := hok
    simp only [adrawAll] at h
    obtain ⟨h1, h2⟩ := h
    simp only [List.map_cons, List.mem_cons] at hi
    rcases hi with rfl | hi
    · cases ho : ops[i]? with
      | none => rw [ho] at hok1; simp at hok1
      | some o =>
        rw [ho] at hok1
        simp only at hok1
        have hol : ops.toList[i]? = some o := by simpa using ho
        simp only [hol] at h1
        unfold wpOp
        simp only [ho]
        obtain ⟨env', he', hr', hc⟩ := aguard_sound hd.fr h1
        have hd' := hd.refine he' hr'
        have late_of : ∀ {env2 : Env} {S2 : St} {a2 : Act} {w2 : World}, Sim G S2 w2 → Ext S w S2 w2 → relEnv N (ro S2 w2) env2 a2 → EnvStep o.dst env' a env2 a2 → keeps keep S S2 → DrawSt G N keep S0 w0 (o.dst.toList ++ late) env2 S2 a2 w2 := by
          intro env2 S2 a2 w2 k1 k2 k3 k4 k5
          refine ⟨k1, hd.ext.trans k2 fun b o h => hE.sim0.lt h, k3, fun t ht => ?_, fun b hb => (k5 b hb).trans (hd.keep b hb)⟩
          simp only [List.mem_append, Option.mem_toList, not_or] at ht
          obtain ⟨q1, q2⟩ := k4 t (fun hq => ht.1 (by rw [hq]))
          rw [q1, q2]
          exact hd'.early t ht.2
        rcases hc with ⟨hw, h3⟩ | ⟨hw, h3⟩
        · rw [if_pos hw]
          refine .inl (astep_sound hd.sim he' h3 (fun env2 S2 w2 a2 k1 k2 k3 k4 k5 => ?_) (fun v S' w' u k1 k2 k3 k4 => hE.dies v S' w' u env' a k1 (relEnv_mono he' k3.ro) k2 (hd.ext.trans k3 fun b o h => hE.sim0.lt h) k4))
          have hds := late_of k2 k3 k4 k5 k1.1
          exact ⟨fun _ => hds.stays, adraw_sound hE next fuel _ _ env2 S2 a2 w2 hok1 k1.2 hds⟩
        · rw [if_neg (by rw [hw]; simp)]
          obtain ⟨env2, g2, g3⟩ := hd'.putAny h3
          have hds : DrawSt G N keep S0 w0 (o.dst.toList ++ late) env2 S (a.put o.dst undef) w := ⟨g3.sim, g3.ext, g3.fr, fun t ht => g3.early t (fun hq => ht (List.mem_append_right _ hq)), g3.keep⟩
          exact ⟨fun _ => hds.stays, adraw_sound hE next fuel _ _ env2 S _ w hok1 g2 hds⟩
    · exact adrawAll_sound hE l fuel listed late env S a w hok2 h2 hd i hi
end

theorem stays_drew {S : St} {w : World} (hs : Sim G S w) : Sim G S { w with drawn := w.drawn + 1 } ∧ Ext S w S { w with drawn := w.drawn + 1 } :=
  ⟨sim_of_heap hs rfl rfl rfl rfl, ext_of_heap rfl rfl rfl rfl⟩

/-- a post that knows nothing of the frame's slots where the region dies -/
def aPostD (G : Glob) (N : Nat) (Q : AExit → Env → St → Prop) (S0 : St) (w0 : World) : Exit → Act → World → Prop
  | .panic chain, a, w => ∃ v u S, chain = [{ v := u, recovered := false }] ∧ Q (.pan v) ⟨[], a.defers⟩ S ∧ Sim G S w ∧ Ext S0 w0 S w ∧ rel (ro S w) v u ∧ a.tmps.size = N
  | e, a, w => aPost G N Q S0 w0 e a w
theorem aPostD_post {Q : AExit → Env → St → Prop} {S0 : St} {w0 : World} : ∀ e a w, aPostD G N Q S0 w0 e a w → aPost G N Q S0 w0 e a w
  | .normal, _, _, h => h
  | .exit _, _, _, h => h
  | .ret, _, _, h => h
  | .goto _, _, _, h => h
  | .outgrown, _, _, h => h
  | .panic _, a, _, ⟨v, u, S, h0, h1, h2, h3, h4, h5⟩ => ⟨v, u, ⟨[], a.defers⟩, S, h0, h1, h2, h3, h4, ⟨h5, fun _ => rel_any, rfl⟩⟩

/-- A region that draws its order, by a schedule. -/
theorem awp_draw {id : Nat} {Q : AExit → Env → St → Prop} {env : Env} {S : St} (hm : P.follows .mixedOrders = true) (s : Sched) (keep : List Nat)
    (hok : (Region.noSelect ops && s.ok ops ops.size (Array.replicate ops.size false) []) = true) (h : adraw P G N ops.toList keep S (Q .normal) (fun e v S' => Q (.pan v) ⟨[], e.d⟩ S') s env S) : awp P G N (.region id ops true) Q env S := by
  intro w a hs he
  simp only [Bool.and_eq_true] at hok
  refine wp_mono (wp_region_last hm (S := Stays S { w with drawn := w.drawn + 1 } keep) (Q := aPostD G N Q S w) ?_) aPostD_post
  obtain ⟨h1, h2⟩ := stays_drew hs
  refine adraw_sound (S0 := S) (w0 := { w with drawn := w.drawn + 1 }) (K := Q .normal) (Pn := fun e v S' => Q (.pan v) ⟨[], e.d⟩ S') ⟨h1, hok.1, ?_, ?_, ?_⟩ s ops.size _ [] env S a _ hok.2 h ⟨h1, Ext.refl _ _, relEnv_mono he h2.ro, fun t _ => rel_mono h2.ro _ _ (he.tmp t), fun _ _ => rfl⟩
  · exact fun env' S' w' a' k1 k2 k3 k4 => ⟨env', S', k1, k2, h2.trans k3 fun b o h => hs.lt h, k4⟩
  · exact fun v S' w' u env' a' k1 k0 k2 k3 k4 => ⟨v, u, S', rfl, by rw [k0.defers]; exact k1, k2, h2.trans k3 fun b o h => hs.lt h, k4, k0.size⟩
  · intro c a w v dst hq
    obtain ⟨v', u, S', k0, k1, k2, k3, k4, k5⟩ := hq
    have e1 : (Act.put a dst v).defers = a.defers := by cases dst <;> rfl
    have e2 : (Act.put a dst v).tmps.size = a.tmps.size := by cases dst <;> simp [Act.put]
    exact ⟨v', u, S', k0, e1 ▸ k1, k2, k3, k4, e2.symm.trans k5⟩

end
end
end Go.Proofs.Abs
