/- The abstract layer, part 8: regions, code, bodies. -/
import Derived.Test.YtaeobokijndboaaDoorAbs7
set_option linter.unusedVariables false
set_option linter.unusedSimpArgs false
namespace Go.Proofs.Abs
open Go

def aput (N : Nat) (dst : Option Nat) (v : AVal) (env : Env) (k : Env → Prop) : Prop :=
  match dst with
  | some d => d < N ∧ k (env.put d v)
  | none => k env
/-- what a slot holds whose operation was passed over -/
abbrev skipV : AVal := .tup []
def aguardAt (d : Nat) (want : Bool) (x : AVal) (env : Env) (yes no : Env → Prop) : Prop :=
  match x with
  | .lit (.bool b) => (b = want → yes (env.put d (bool want))) ∧ (b = (!want) → no (env.put d (bool (!want))))
  | .tup _ => no env
  | _ => False
def aguard (all : List Oper) (g : Option (Nat × Bool)) (env : Env) (yes no : Env → Prop) : Prop :=
  match g with
  | none => yes env
  | some (j, want) => match (all[j]?).bind (·.dst) with
    | some d => aguardAt d want (look env.m d) env yes no
    | none => False

def litVals : List AVal → Option (List Value)
  | [] => some []
  | .lit v :: xs => (litVals xs).map (v :: ·)
  | _ => none
def adefer (f : AVal) (args : List AVal) (env : Env) (k : Env → Prop) : Prop :=
  match f with
  | .fn (.func g) caps => match litVals caps, litVals args with
    | some cs, some as => k ⟨env.m, { target := .fn (.func g) cs.toArray, args := as.toArray } :: env.d⟩
    | _, _ => False
  | _ => False
def astep (P : Program) (G : Glob) (N : Nat) (o : Oper) (env : Env) (S : St) (K : Env → St → Prop) (Pn : Env → AVal → St → Prop) : Prop :=
  match o.op with
  | .defer ⟨.value f, args, _⟩ => adefer (env.ev G f) (args.toList.map (env.ev G)) env fun env' => aput N o.dst skipV env' fun env' => K env' S
  | op => aop P G op (env.ev G) S (fun v S' => aput N o.dst v env fun env' => K env' S') (Pn env)

def aops (P : Program) (G : Glob) (N : Nat) (all : List Oper) : List Oper → Env → St → (Env → St → Prop) → (Env → AVal → St → Prop) → Prop
  | [], env, S, K, Pn => K env S
  | o :: rest, env, S, K, Pn => aguard all o.guard env
      (fun env => astep P G N o env S (fun env' S' => aops P G N all rest env' S' K Pn) Pn)
      (fun env => aput N o.dst skipV env fun env' => aops P G N all rest env' S K Pn)

inductive AExit where
  | normal
  | exit (id : Nat)
  | ret
  | pan (v : AVal)

def aPost (G : Glob) (N : Nat) (Q : AExit → Env → St → Prop) (S0 : St) (w0 : World) : Exit → Act → World → Prop
  | .normal, a, w => ∃ env S, Q .normal env S ∧ Sim G S w ∧ Ext S0 w0 S w ∧ relEnv N (ro S w) env a
  | .exit id, a, w => ∃ env S, Q (.exit id) env S ∧ Sim G S w ∧ Ext S0 w0 S w ∧ relEnv N (ro S w) env a
  | .ret, a, w => ∃ env S, Q .ret env S ∧ Sim G S w ∧ Ext S0 w0 S w ∧ relEnv N (ro S w) env a
  | .panic chain, a, w => ∃ v u env S, chain = [{ v := u, recovered := false }] ∧ Q (.pan v) env S ∧ Sim G S w ∧ Ext S0 w0 S w ∧ rel (ro S w) v u ∧ relEnv N (ro S w) env a
  | _, _, _ => False

/-- In every world and frame that fit, the code ends as Q says. -/
def ASem (P : Program) (G : Glob) (N : Nat) (c : Code) (Q : AExit → Env → St → Prop) (env : Env) (S : St) : Prop :=
  ∀ w a, Sim G S w → relEnv N (ro S w) env a → c.wp P (aPost G N Q S w) a w

/-- the same of a loop, at the head of a round -/
def ALoop (P : Program) (G : Glob) (N : Nat) (c : Code) (Q : AExit → Env → St → Prop) (env : Env) (S : St) : Prop :=
  ∀ w a, Sim G S w → relEnv N (ro S w) env a → ∀ (b : Frame) (k : List Item) (cs : List Frame),
    ∃ e a' w', aPost G N Q S w e a' w' ∧ Arrives P (lone (b.at a (.code c :: .inLoop c :: k)) cs w) b k cs e a' w'

def aThen (K : Env → St → Prop) (Q : AExit → Env → St → Prop) : AExit → Env → St → Prop
  | .normal, e, s => K e s
  | x, e, s => Q x e s
def aInBlock (id : Nat) (Q : AExit → Env → St → Prop) : AExit → Env → St → Prop
  | .exit j, e, s => if j = id then Q .normal e s else Q (.exit j) e s
  | x, e, s => Q x e s
theorem aThen_normal {K Q e s} : aThen K Q .normal e s = K e s := rfl
theorem aThen_ret {K Q e s} : aThen K Q .ret e s = Q .ret e s := rfl
theorem aThen_exit {K Q e s i} : aThen K Q (.exit i) e s = Q (.exit i) e s := rfl
theorem aThen_pan {K Q e s v} : aThen K Q (.pan v) e s = Q (.pan v) e s := rfl
theorem aInBlock_normal {i Q e s} : aInBlock i Q .normal e s = Q .normal e s := rfl
theorem aInBlock_ret {i Q e s} : aInBlock i Q .ret e s = Q .ret e s := rfl
theorem aInBlock_pan {i Q e s v} : aInBlock i Q (.pan v) e s = Q (.pan v) e s := rfl
theorem aInBlock_exit {i Q e s j} : aInBlock i Q (.exit j) e s = if j = i then Q .normal e s else Q (.exit j) e s := rfl

def awp (P : Program) (G : Glob) (N : Nat) : Code → (AExit → Env → St → Prop) → Env → St → Prop
  | .skip, Q, env, S => Q .normal env S
  | .label _, Q, env, S => Q .normal env S
  | .region id ops false, Q, env, S => aops P G N ops.toList ops.toList env S (Q .normal) (fun env v S' => Q (.pan v) env S')
  | .region id ops true, Q, env, S => ASem P G N (.region id ops true) Q env S
  | .seq a b, Q, env, S => awp P G N a (aThen (awp P G N b Q) Q) env S
  | .cond c a b, Q, env, S => abool (env.ev G c) (awp P G N a Q env S) (awp P G N b Q env S)
  | .block id c, Q, env, S => awp P G N c (aInBlock id Q) env S
  | .loop c, Q, env, S => ALoop P G N c Q env S
  | .exit id, Q, env, S => Q (.exit id) env S
  | .ret, Q, env, S => Q .ret env S
  | _, _, _, _ => False

section
variable {P : Program} {G : Glob} {N : Nat}

theorem rel_skip {r : RO} : rel r skipV undef := by simp only [rel]; exact ⟨#[], rfl, by simp [relL]⟩
theorem relEnv_refine {r : RO} {env : Env} {a : Act} (h : relEnv N r env a) {d : Nat} {v : AVal} (hv : rel r v (a.tmps.getD d undef)) : relEnv N r (env.put d v) a := by
  refine ⟨h.size, fun t => ?_, h.defers⟩
  simp only [Env.put, look]
  by_cases ht : d = t
  · subst ht; rw [if_pos rfl]; exact hv
  · rw [if_neg ht]; exact h.tmp t

/-- what a step that writes one slot leaves alone -/
def EnvStep (dst : Option Nat) (env : Env) (a : Act) (env' : Env) (a' : Act) : Prop := ∀ t, dst ≠ some t → look env'.m t = look env.m t ∧ a'.tmps.getD t undef = a.tmps.getD t undef
theorem EnvStep.refl (dst : Option Nat) (env : Env) (a : Act) : EnvStep dst env a env a := fun _ _ => ⟨rfl, rfl⟩
/-- of a frame more is known: what a test told -/
def EnvRef (env : Env) (a : Act) (env' : Env) : Prop := ∀ t, look env'.m t = look env.m t ∨ ∃ v, look env'.m t = .lit v ∧ a.tmps.getD t undef = v ∧ v.oneCell' = true

theorem aput_sound {r : RO} {env : Env} {a : Act} {dst : Option Nat} {v : AVal} {u : Value} {k : Env → Prop} (he : relEnv N r env a) (hv : rel r v u) (h : aput N dst v env k) : ∃ env', k env' ∧ relEnv N r env' (a.put dst u) ∧ EnvStep dst env a env' (a.put dst u) := by
  cases dst with
  | none => exact ⟨env, h, he, EnvStep.refl _ _ _⟩
  | some d =>
    refine ⟨_, h.2, relEnv_put he h.1 hv, fun t ht => ⟨?_, ?_⟩⟩
    · have : ¬ d = t := fun h => ht (by rw [h])
      simp [Env.put, look, this]
    · have : d ≠ t := fun h => ht (by rw [h])
      simp only [Act.put, Array.getD_eq_getD_getElem?]
      rw [Array.getElem?_setIfInBounds_ne this]

theorem aguard_sound {r : RO} {ops : Array Oper} {env : Env} {a : Act} {o : Oper} {yes no : Env → Prop} (he : relEnv N r env a) (h : aguard ops.toList o.guard env yes no) :
    ∃ env', relEnv N r env' a ∧ EnvRef env a env' ∧ ((Region.wanted o (yielded ops a.tmps) = true ∧ yes env') ∨ (Region.wanted o (yielded ops a.tmps) = false ∧ no env')) := by
  unfold aguard at h
  split at h
  · rename_i hg
    exact ⟨env, he, fun _ => .inl rfl, .inl ⟨by simp [Region.wanted, hg], h⟩⟩
  · rename_i j want hg
    split at h
    · rename_i d hd
      have ht := he.tmp d
      unfold aguardAt at h
      split at h
      rotate_left
      · rename_i vs hx
        rw [hx] at ht
        simp only [rel] at ht
        obtain ⟨us, hus, _⟩ := ht
        refine ⟨env, he, fun _ => .inl rfl, .inr ⟨?_, h⟩⟩
        have hd' : (ops[j]?).bind (·.dst) = some d := by simpa using hd
        have hy : yielded ops a.tmps j = none := by
          simp only [yielded, hd', Option.bind_some]
          rw [Array.getD_eq_getD_getElem?] at hus
          cases hq : a.tmps[d]? with
          | none => rfl
          | some q => rw [hq] at hus; simp at hus; subst hus; rfl
        simp [Region.wanted, hg, hy]
      · exact h.elim
      rename_i b h1
      obtain ⟨h2, h3⟩ := h
      rw [h1] at ht
      have hv := rel_lit_inv ht
      have hget : a.tmps[d]? = some (.bool b) := by
        rw [Array.getD_eq_getD_getElem?] at hv
        cases hq : a.tmps[d]? with
        | none => rw [hq] at hv; simp [undef] at hv
        | some q => rw [hq] at hv; simp at hv; rw [hv]
      have hd' : (ops[j]?).bind (·.dst) = some d := by simpa using hd
      have hy : yielded ops a.tmps j = some b := by simp [yielded, hd', hget]
      have hw : Region.wanted o (yielded ops a.tmps) = (b == want) := by simp [Region.wanted, hg, hy]
      have href : ∀ bb : Bool, a.tmps.getD d undef = .bool bb → EnvRef env a (env.put d (bool bb)) := by
        intro bb hbb t
        simp only [Env.put, look]
        by_cases ht : d = t
        · subst ht; rw [if_pos rfl]; exact .inr ⟨_, rfl, hbb, rfl⟩
        · rw [if_neg ht]; exact .inl rfl
      by_cases hb : b = want
      · subst hb
        exact ⟨_, relEnv_refine he (by rw [hv]; exact rel_lit rfl), href _ hv, .inl ⟨by simp [hw], h2 rfl⟩⟩
      · have hb' : b = (!want) := by cases b <;> cases want <;> simp_all
        exact ⟨_, relEnv_refine he (by rw [hv, hb']; exact rel_lit rfl), href _ (by rw [hv, hb']), .inr ⟨by rw [hw]; simp [hb], h3 hb'⟩⟩
    · exact h.elim

theorem litVals_rel {r : RO} : ∀ {xs : List AVal} {vs us : List Value}, litVals xs = some vs → relL r xs us → us = vs
  | [], vs, us, h, h' => by simp only [litVals, Option.some.injEq] at h; subst h; simpa only [relL] using h'
  | x :: xs, vs, us, h, h' => by
    cases x <;> simp only [litVals, reduceCtorEq] at h
    cases hx : litVals xs with
    | none => rw [hx] at h; cases h
    | some ws =>
      rw [hx] at h
      cases h
      simp only [relL] at h'
      obtain ⟨u, vs', rfl, h1, h2⟩ := h'
      rw [rel_lit_inv h1, litVals_rel hx h2]

/-- one operation, in a world and a frame that fit -/
theorem astep_sound {S : St} {w : World} {o : Oper} {env : Env} {a : Act} {K : Env → St → Prop} {Pn : Env → AVal → St → Prop} {next : Act → World → Prop} {Q : Exit → Act → World → Prop}
    (hs : Sim G S w) (he : relEnv N (ro S w) env a) (h : astep P G N o env S K Pn)
    (hK : ∀ env' S' w' a', K env' S' → Sim G S' w' → Ext S w S' w' → relEnv N (ro S' w') env' a' → EnvStep o.dst env a env' a' → next a' w')
    (hP : ∀ v S' w' u, Pn env v S' → Sim G S' w' → Ext S w S' w' → rel (ro S' w') v u → Q (.panic [{ v := u, recovered := false }]) a w') : o.wp P a w next Q := by
  unfold Oper.wp
  unfold astep at h
  split at h
  · rename_i f args ts ho
    unfold adefer at h
    split at h
    · rename_i g caps hf
      split at h
      · rename_i cs as hcs has
        have hf' := rel_ev hs he f
        rw [hf] at hf'
        simp only [rel] at hf'
        obtain ⟨us, hv, hcaps⟩ := hf'
        have hargs := relL_map (fun x => rel_ev hs he x) args.toList
        have e1 := litVals_rel hcs hcaps
        have e2 := litVals_rel has hargs
        have hrun : (execOp a.eval o).run P w = .ok (.defer { target := .fn (.func g) cs.toArray, args := as.toArray }) w := by
          obtain ⟨dst, op, type, pos, after, guard⟩ := o
          simp only at ho
          subst ho
          simp only [execOp, resolve, Deferred.ofValue, hv, Sem.run_bind, Sem.run_pure, Result.andThen_ok]
          rw [← e1, ← e2]
          have hm : args.map a.eval = (args.toList.map a.eval).toArray := by apply Array.ext'; simp
          rw [hm]
          simp
        rw [hrun]
        simp only [Oper.upon]
        have he2 : relEnv N (ro S w) ⟨env.m, { target := .fn (.func g) cs.toArray, args := as.toArray } :: env.d⟩ { a with defers := { target := .fn (.func g) cs.toArray, args := as.toArray } :: a.defers } :=
          ⟨he.size, he.tmp, by simp [he.defers]⟩
        obtain ⟨env', g1, g2, g3⟩ := aput_sound he2 (v := skipV) (u := undef) rel_skip h
        exact hK env' S w _ g1 hs (Ext.refl _ _) g2 g3
      · exact h.elim
    · exact h.elim
  · have hout := aop_sound hs (fun x => rel_ev hs he x) h
    generalize (execOp a.eval o).run P w = res at hout
    cases res with
    | ok nx w' =>
      cases nx <;> simp only [Outcome] at hout <;> (try exact hout.elim)
      case value u =>
        obtain ⟨x, S', h1, h2, h3, h4⟩ := hout
        obtain ⟨env', g1, g2, g3⟩ := aput_sound (relEnv_mono he h3.ro) h4 h1
        exact hK env' S' w' _ g1 h2 h3 g2 g3
      case skip =>
        obtain ⟨S', h1, h2, h3⟩ := hout
        obtain ⟨env', g1, g2, g3⟩ := aput_sound (relEnv_mono he h3.ro) (u := undef) rel_any h1
        exact hK env' S' w' _ g1 h2 h3 g2 g3
      case enter f vs =>
        simp only [Oper.upon]
        refine hout.mono fun e w'' ⟨ae, S', h1, h2, h3, h4⟩ => ?_
        cases ae with
        | ret v =>
          cases e with
          | returned u =>
            obtain ⟨env', g1, g2, g3⟩ := aput_sound (relEnv_mono he h3.ro) h4 h1
            exact hK env' S' w'' _ g1 h2 h3 g2 g3
          | panicked chain => exact h4.elim
          | outgrown => exact h4.elim
        | pan v =>
          cases e with
          | returned u => exact h4.elim
          | panicked chain =>
            obtain ⟨u, rfl, h5⟩ := h4
            exact hP v S' w'' u h1 h2 h3 h5
          | outgrown => exact h4.elim
    | halt x w' =>
      cases x <;> simp only [Outcome] at hout <;> (try exact hout.elim)
      case panic u =>
        obtain ⟨x, S', h1, h2, h3, h4⟩ := hout
        exact hP x S' w' u h1 h2 h3 h4

theorem aops_sound {ops : Array Oper} {K : Env → St → Prop} {Pn : Env → AVal → St → Prop} {Q : Exit → Act → World → Prop} {S0 : St} {w0 : World} (hs0 : Sim G S0 w0)
    (hK : ∀ env' S' w' a', K env' S' → Sim G S' w' → Ext S0 w0 S' w' → relEnv N (ro S' w') env' a' → Q .normal a' w')
    (hP : ∀ v S' w' u env' a', Pn env' v S' → Sim G S' w' → Ext S0 w0 S' w' → rel (ro S' w') v u → relEnv N (ro S' w') env' a' → Q (.panic [{ v := u, recovered := false }]) a' w') :
    ∀ (rest : List Oper) (k : Nat), ops.toList.drop k = rest → ∀ (env : Env) (S : St) (w : World) (a : Act), aops P G N ops.toList rest env S K Pn → Sim G S w → Ext S0 w0 S w → relEnv N (ro S w) env a →
      wpOps P ops Q (List.range' k rest.length) a w
  | [], k, hk, env, S, w, a, h, hs, hx, he => hK env S w a h hs hx he
  | o :: rest, k, hk, env, S, w, a, h, hs, hx, he => by
    have hko : ops[k]? = some o := by
      have : (ops.toList.drop k)[0]? = some o := by rw [hk]; rfl
      simpa using this
    have hk' : ops.toList.drop (k + 1) = rest := by
      have := congrArg (List.drop 1) hk
      simpa [List.drop_drop, Nat.add_comm] using this
    simp only [List.length_cons, List.range'_succ, wpOps, hko]
    have ih := aops_sound hs0 hK hP rest (k + 1) hk'
    obtain ⟨env', he', hd', hc⟩ := aguard_sound he h
    rcases hc with ⟨hw, h1⟩ | ⟨hw, h1⟩
    · rw [if_pos hw]
      refine .inl (astep_sound hs he' h1 (fun env2 S2 w2 a2 k1 k2 k3 k4 _ => ih env2 S2 w2 a2 k1 k2 (hx.trans k3 fun b o h => hs0.lt h) k4) (fun v S' w' u k1 k2 k3 k4 => hP v S' w' u env' a k1 k2 (hx.trans k3 fun b o h => hs0.lt h) k4 (relEnv_mono he' k3.ro)))
    · rw [if_neg (by rw [hw]; simp)]
      obtain ⟨env2, g1, g2, _⟩ := aput_sound he' (v := skipV) (u := undef) rel_skip h1
      exact ih env2 S w _ g1 hs hx g2

theorem aPost_ext {Q : AExit → Env → St → Prop} {S S' : St} {w w' : World} (hx : Ext S w S' w') (hin : ∀ b o, S b = some o → b < w.heap.size) : ∀ e a w'', aPost G N Q S' w' e a w'' → aPost G N Q S w e a w''
  | .normal, a, w'', ⟨env, S2, h1, h2, h3, h4⟩ => ⟨env, S2, h1, h2, hx.trans h3 hin, h4⟩
  | .exit id, a, w'', ⟨env, S2, h1, h2, h3, h4⟩ => ⟨env, S2, h1, h2, hx.trans h3 hin, h4⟩
  | .ret, a, w'', ⟨env, S2, h1, h2, h3, h4⟩ => ⟨env, S2, h1, h2, hx.trans h3 hin, h4⟩
  | .panic c, a, w'', ⟨v, u, env, S2, h0, h1, h2, h3, h4, h5⟩ => ⟨v, u, env, S2, h0, h1, h2, hx.trans h3 hin, h4, h5⟩
  | .goto l, a, w'', h => h.elim
  | .outgrown, a, w'', h => h.elim

theorem awp_sound : ∀ (c : Code) (Q : AExit → Env → St → Prop) (env : Env) (S : St), awp P G N c Q env S → ASem P G N c Q env S
  | .skip, Q, env, S, h => fun w a hs he => wp_skip ⟨env, S, h, hs, Ext.refl _ _, he⟩
  | .label l, Q, env, S, h => fun w a hs he => wp_label ⟨env, S, h, hs, Ext.refl _ _, he⟩
  | .region id ops false, Q, env, S, h => fun w a hs he => by
    refine wp_region ?_
    have := aops_sound (P := P) (ops := ops) (Q := aPost G N Q S w) hs (K := Q .normal) (Pn := fun env v S' => Q (.pan v) env S')
      (fun env' S' w' a' k1 k2 k3 k4 => ⟨env', S', k1, k2, k3, k4⟩) (fun v S' w' u env' a' k1 k2 k3 k4 k5 => ⟨v, u, env', S', rfl, k1, k2, k3, k4, k5⟩)
      ops.toList 0 rfl env S w a h hs (Ext.refl _ _) he
    rw [List.range_eq_range']
    simpa using this
  | .region id ops true, Q, env, S, h => h
  | .seq x y, Q, env, S, h => fun w a hs he => by
    refine wp_seq (wp_mono (awp_sound x _ env S h w a hs he) ?_)
    rintro e a' w' hq
    cases e with
    | normal =>
      obtain ⟨env', S', h1, h2, h3, h4⟩ := hq
      exact wp_mono (awp_sound y Q env' S' h1 w' a' h2 h4) (aPost_ext h3 fun b o h => hs.lt h)
    | exit id => exact hq
    | goto l => exact hq
    | ret => exact hq
    | panic c => exact hq
    | outgrown => exact hq
  | .cond c x y, Q, env, S, h => fun w a hs he => by
    obtain ⟨b, h1, h2, h3⟩ := h
    have hc := rel_ev hs he c
    rw [h1] at hc
    refine wp_cond_split (rel_lit_inv hc) (fun hb => awp_sound x Q env S (h2 hb) w a hs he) (fun hb => awp_sound y Q env S (h3 hb) w a hs he)
  | .block id c, Q, env, S, h => fun w a hs he => by
    refine wp_block (wp_mono (awp_sound c _ env S h w a hs he) ?_)
    rintro e a' w' hq
    cases e with
    | exit j =>
      obtain ⟨env', S', h1, h2, h3, h4⟩ := hq
      simp only [Exit.inBlock]
      by_cases hj : j = id
      · subst hj; rw [if_pos rfl]; rw [aInBlock_exit, if_pos rfl] at h1; exact ⟨env', S', h1, h2, h3, h4⟩
      · rw [if_neg hj]; rw [aInBlock_exit, if_neg hj] at h1; exact ⟨env', S', h1, h2, h3, h4⟩
    | normal => exact hq
    | goto l => exact hq
    | ret => exact hq
    | panic c => exact hq
    | outgrown => exact hq
  | .loop c, Q, env, S, h => fun w a hs he b k cs => by
    obtain ⟨e, a', w', h1, h2⟩ := h w a hs he b k cs
    exact ⟨e, a', w', h1, .of_steps (.one step_loop) h2⟩
  | .exit id, Q, env, S, h => fun w a hs he => wp_exit ⟨env, S, h, hs, Ext.refl _ _, he⟩
  | .ret, Q, env, S, h => fun w a hs he => wp_ret ⟨env, S, h, hs, Ext.refl _ _, he⟩
  | .rangeFunc _ _ _ _, Q, env, S, h => h.elim
  | .scope _, Q, env, S, h => h.elim
  | .goto _, Q, env, S, h => h.elim
  | .refuse _, Q, env, S, h => h.elim

/-! ### functions -/

def argEnv : List AVal → Nat → List (Nat × AVal)
  | [], _ => []
  | x :: xs, k => (k, x) :: argEnv xs (k + 1)

/-- what is weaker in every world -/
def Weak (v v' : AVal) : Prop := ∀ (r : RO) (u : Value), rel r v u → rel r v' u
theorem Weak.refl (v : AVal) : Weak v v := fun _ _ h => h

def aret (R : AEnd → St → Prop) (v : AVal) (S : St) : Prop := ∃ v' S', Sub S' S ∧ Weak v v' ∧ R (.ret v') S'
def packRes : List AVal → AVal
  | [v] => v
  | vs => .tup vs
def aresults (P : Program) : List ResultVar → Env → St → (List AVal → Prop) → Prop
  | [], env, S, K => K []
  | .tmp t :: rs, env, S, K => aresults P rs env S fun vs => K (look env.m t :: vs)
  | .cell a t :: rs, env, S, K => aload (tkind P t) (look env.m a) S fun v => aresults P rs env S fun vs => K (v :: vs)
def fnPost (P : Program) (rs : List ResultVar) (R : AEnd → St → Prop) : AExit → Env → St → Prop
  | .normal, env, S => env.d = [] ∧ aresults P rs env S fun vs => aret R (packRes vs) S
  | .ret, env, S => env.d = [] ∧ aresults P rs env S fun vs => aret R (packRes vs) S
  | .pan v, env, S => env.d = [] ∧ ∃ S', Sub S' S ∧ R (.pan v) S'
  | .exit _, _, _ => False

theorem look_argEnv : ∀ (xs : List AVal) (k t : Nat), look (argEnv xs k) t = if k ≤ t ∧ t < k + xs.length then xs.getD (t - k) .any else .any
  | [], k, t => by simp [argEnv, look]; 
  | x :: xs, k, t => by
    simp only [argEnv, look]
    by_cases h : k = t
    · subst h; simp
    · rw [if_neg h, look_argEnv xs (k + 1) t]
      by_cases h2 : k + 1 ≤ t ∧ t < k + 1 + xs.length
      · rw [if_pos h2, if_pos (by simp; omega)]
        rw [show t - k = (t - (k + 1)) + 1 by omega]
        simp
      · rw [if_neg h2, if_neg (by simp; omega)]

def resOne (tmps : Array Value) : ResultVar → Sem Value
  | .tmp t => pure (tmps.getD t undef)
  | .cell a t => do loadVar t (← asAddr (tmps.getD a undef))

theorem aresults_sound {S : St} {w : World} (hs : Sim G S w) {env : Env} {a : Act} (he : relEnv N (ro S w) env a) : ∀ (rs : List ResultVar) (K : List AVal → Prop), aresults P rs env S K →
    ∃ vs us, (rs.mapM (resOne a.tmps)).run P w = .ok us w ∧ K vs ∧ relL (ro S w) vs us
  | [], K, h => ⟨[], [], by simp, h, by simp [relL]⟩
  | .tmp t :: rs, K, h => by
    obtain ⟨vs, us, h1, h2, h3⟩ := aresults_sound hs he rs _ h
    refine ⟨_, a.tmps.getD t undef :: us, ?_, h2, by simp only [relL]; exact ⟨_, _, rfl, he.tmp t, h3⟩⟩
    have hone : (resOne a.tmps (.tmp t)).run P w = .ok (a.tmps.getD t undef) w := rfl
    simp only [List.mapM_cons, Sem.run_bind, hone, Sem.run_pure, Result.andThen_ok, h1]
  | .cell ad t :: rs, K, h => by
    obtain ⟨x, v, h1, h2, h3⟩ := aload_sound (P := P) hs (he.tmp ad) h
    obtain ⟨vs, us, k1, k2, k3⟩ := aresults_sound hs he rs _ h2
    refine ⟨_, v :: us, ?_, k2, by simp only [relL]; exact ⟨_, _, rfl, h3, k3⟩⟩
    have hload : (do loadVar t (← asAddr (a.tmps.getD ad undef)) : Sem Value).run P w = .ok v w := by
      cases hq : a.tmps.getD ad undef <;> rw [hq] at h1 <;> simp [Instr.loadAt, Instr.sureAddr] at h1
      rename_i p
      cases p with
      | none => simp at h1
      | some p => simpa [asAddr] using h1
    have hload' : (resOne a.tmps (.cell ad t)).run P w = .ok v w := hload
    simp only [List.mapM_cons, Sem.run_bind, hload', Sem.run_pure, Result.andThen_ok, k1]

theorem packRes_rel {r : RO} {vs : List AVal} {us : List Value} (h : relL r vs us) : rel r (packRes vs) (if h : us.toArray.size = 1 then us.toArray[0] else .tuple us.toArray) := by
  have hl := relL_length h
  cases vs with
  | nil =>
    simp only [relL] at h; subst h
    simp [packRes, rel, relL]
  | cons v vs =>
    simp only [relL] at h
    obtain ⟨u, us', rfl, h1, h2⟩ := h
    cases vs with
    | nil =>
      simp only [relL] at h2; subst h2
      simpa [packRes] using h1
    | cons v' vs' =>
      simp only [relL] at h2
      obtain ⟨u', us'', rfl, h3, h4⟩ := h2
      simp only [packRes, List.size_toArray, List.length_cons]
      rw [dif_neg (by omega)]
      simp only [rel]
      exact ⟨_, rfl, by simp only [relL]; exact ⟨_, _, rfl, h1, _, _, rfl, h3, h4⟩⟩

theorem fnPost_sound {fn : Func} {R : AEnd → St → Prop} {S : St} {w : World} (hin : ∀ b o, S b = some o → b < w.heap.size) : ∀ e a w',
    aPost G N (fnPost P fn.results.toList R) S w e a w' → bodyPost P fn (fun e w' => ∃ ae S', R ae S' ∧ Sim G S' w' ∧ Ext S w S' w' ∧ relE (ro S' w') ae e) e a w' := by
  intro e a w' h
  have key : ∀ (env : Env) (S' : St), (env.d = [] ∧ aresults P fn.results.toList env S' fun vs => aret R (packRes vs) S') → Sim G S' w' → Ext S w S' w' → relEnv N (ro S' w') env a →
      a.defers = [] ∧ ∃ v, (results fn a.tmps).run P w' = .ok v w' ∧ ∃ ae S'', R ae S'' ∧ Sim G S'' w' ∧ Ext S w S'' w' ∧ relE (ro S'' w') ae (.returned v) := by
    intro env S' ⟨hd, hr⟩ hs hx he
    obtain ⟨vs, us, h1, ⟨v', S'', h2, h3, h4⟩, h5⟩ := aresults_sound (P := P) hs he _ _ hr
    refine ⟨he.defers.trans hd, _, ?_, .ret v', S'', h4, relF_of_sub h2 hs, hx.trans (h2.ext fun b o h => hs.lt h) hin, h3 _ _ (rel_mono (h2.ro w') _ _ (packRes_rel h5))⟩
    have hres : results fn a.tmps = (do let vs ← fn.results.mapM (resOne a.tmps); pure (if h : vs.size = 1 then vs[0] else .tuple vs) : Sem Value) := by
      unfold results
      congr 2
    rw [hres]
    have hm : (fn.results.mapM (resOne a.tmps)).run P w' = .ok us.toArray w' := by
      rw [Array.mapM_eq_mapM_toList]
      refine (Sem.run_map P w' _ _).trans ?_
      rw [h1]
      rfl
    simp only [Sem.run_bind]
    rw [hm]
    rfl
  cases e with
  | normal => obtain ⟨env, S', h1, h2, h3, h4⟩ := h; exact key env S' h1 h2 h3 h4
  | ret => obtain ⟨env, S', h1, h2, h3, h4⟩ := h; exact key env S' h1 h2 h3 h4
  | exit id => obtain ⟨env, S', h1, _⟩ := h; exact h1.elim
  | goto l => exact h.elim
  | panic c =>
    obtain ⟨v, u, env, S', rfl, ⟨hd, S'', h1, h2⟩, h3, h4, h5, h6⟩ := h
    exact ⟨h6.defers.trans hd, .pan v, S'', h2, relF_of_sub h1 h3, h4.trans (h1.ext fun b o h => h3.lt h) hin, u, rfl, rel_mono (h1.ro w') _ _ h5⟩
  | outgrown => exact h.elim

/-- A function by its body. -/
theorem acalls_of_awp {f : FuncId} {fn : Func} {c : Code} {args : List AVal} {S : St} {R : AEnd → St → Prop} (hf : P.funcs[f]? = some fn) (hb : fn.body = some c) (hn : args.length ≤ fn.ntmps)
    (h : awp P G fn.ntmps c (fnPost P fn.results.toList R) ⟨argEnv args 0, []⟩ S) : ACalls P G f args S R := by
  intro w vs hs hv
  refine calls_of_wp hf hb (wp_mono (awp_sound c _ _ S h w _ hs ?_) (fnPost_sound fun b o h => hs.lt h))
  have hl := relL_length hv
  simp only [Array.length_toList] at hl
  refine ⟨by simp; omega, fun t => ?_, rfl⟩
  rw [look_argEnv]
  split
  · rename_i ht
    simp only [Nat.zero_le, true_and, Nat.zero_add, Nat.sub_zero] at ht ⊢
    obtain ⟨u, h1, h2⟩ := relL_get hv (List.getElem?_eq_getElem ht)
    have : (vs ++ Array.replicate (fn.ntmps - vs.size) undef).getD t undef = u := by
      rw [Array.getD_eq_getD_getElem?, Array.getElem?_append]
      rw [if_pos (by omega)]
      have : vs[t]? = some u := by simpa using h1
      simp [this]
    rw [this]
    simpa [List.getD, List.getElem?_eq_getElem ht] using h2
  · exact rel_any

end
end Go.Proofs.Abs
