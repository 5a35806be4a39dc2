/- The abstract layer, part 14: a deferred closure that recovers. -/
import Derived.Test.YtaeobokijndboaaDoorAbs13
import Derived.Recover
set_option linter.unusedVariables false
namespace Go.Proofs.Abs
open Go

def defPost (R : St → Prop) : AExit → Env → St → Prop
  | .normal, env, S => env.d = [] ∧ R S
  | .ret, env, S => env.d = [] ∧ R S
  | _, _, _ => False

/-- how the frame that deferred stands, and how behind the closure -/
def DefMode (x : Option AVal) (r : RO) (u u' : FrameMode) (v : Value) : Prop :=
  match x with
  | none => u = .returning ∧ u' = .returning ∧ v = .nilIface
  | some x => u = .panicking [{ v := v, recovered := false }] ∧ u' = .panicking [{ v := v, recovered := true }] ∧ rel r x v

def DefOk (P : Program) (G : Glob) (f : FuncId) (caps : Array Value) (x : Option AVal) (S : St) (R : St → Prop) : Prop :=
  ∀ w u u' v, Sim G S w → DefMode x (ro S w) u u' v → CallsD P f caps u w fun e u2 w' => (∃ r, e = .returned r) ∧ u2 = u' ∧ ∃ S', R S' ∧ Sim G S' w' ∧ Ext S w S' w'

section
variable {P : Program} {G : Glob}

theorem relL_of_lits {r : RO} : ∀ (xs : List Value), (∀ v ∈ xs, v.oneCell' = true) → relL r (xs.map .lit) xs
  | [], _ => by simp [relL]
  | x :: xs, h => by
    simp only [List.map_cons, relL]
    exact ⟨x, xs, rfl, rel_lit (h x (by simp)), relL_of_lits xs fun v hv => h v (by simp [hv])⟩

theorem relEnv_args {r : RO} {fn : Func} {args : List AVal} {vs : Array Value} (hv : relL r args vs.toList) (hn : args.length ≤ fn.ntmps) :
    relEnv fn.ntmps r ⟨argEnv args 0, []⟩ { tmps := vs ++ Array.replicate (fn.ntmps - vs.size) undef, defers := [] } := by
  have hl := relL_length hv
  simp only [Array.length_toList] at hl
  refine ⟨by simp; omega, fun t => ?_, rfl⟩
  rw [look_argEnv]
  split
  · rename_i ht
    simp only [Nat.zero_le, true_and, Nat.zero_add, Nat.sub_zero] at ht ⊢
    obtain ⟨u, h1, h2⟩ := relL_get hv (List.getElem?_eq_getElem ht)
    have : (vs ++ Array.replicate (fn.ntmps - vs.size) undef).getD t undef = u := by
      rw [Array.getD_eq_getD_getElem?, Array.getElem?_append]
      rw [if_pos (by omega)]
      have : vs[t]? = some u := by simpa using h1
      simp [this]
    rw [this]
    simpa [List.getD, List.getElem?_eq_getElem ht] using h2
  · exact rel_any

theorem defOk_of_awp {f : FuncId} {fn : Func} {id t x : Nat} {ts : Array TypeId} {ty0 ty1 : TypeId} {pos0 pos1 : String} {af0 af1 : Array Edge} {c2 : Code} {caps : Array Value} {xv : Option AVal} {S : St} {R : St → Prop}
    (hf : P.funcs[f]? = some fn) (hb : fn.body = some (.seq (.region id #[⟨some t, .call ⟨.builtin .recover, #[], ts⟩, ty0, pos0, af0, none⟩, ⟨some x, .assign (.tmp t), ty1, pos1, af1, none⟩] false) c2))
    (hr : fn.results = #[]) (hn : caps.size ≤ fn.ntmps) (ht : t < fn.ntmps) (hx : x < fn.ntmps) (hc : ∀ v ∈ caps.toList, v.oneCell' = true)
    (h : awp P G fn.ntmps c2 (defPost R) ⟨(x, xv.getD (.lit .nilIface)) :: (t, xv.getD (.lit .nilIface)) :: argEnv (caps.toList.map .lit) 0, []⟩ S) : DefOk P G f caps xv S R := by
  intro w u u' v hs hm
  refine callsD_of_wpS hf hb fun c₀ cs hu => ?_
  have hval : rel (ro S w) (xv.getD (.lit .nilIface)) v := by
    cases xv with
    | none => obtain ⟨_, _, rfl⟩ := hm; exact rel_lit rfl
    | some x => exact hm.2.2
  have h0 : relEnv fn.ntmps (ro S w) ⟨argEnv (caps.toList.map .lit) 0, []⟩ { tmps := caps ++ Array.replicate (fn.ntmps - caps.size) undef, defers := [] } :=
    relEnv_args (relL_of_lits _ hc) (by simpa using hn)
  have h1 := relEnv_put h0 ht hval
  have h2 := relEnv_put h1 hx hval
  have hrec : (recoverD (c₀ :: cs) = some (v, { c₀ with mode := u' } :: cs)) ∨ (recoverD (c₀ :: cs) = none ∧ v = .nilIface ∧ u' = c₀.mode) := by
    cases xv with
    | none =>
      obtain ⟨rfl, rfl, rfl⟩ := hm
      exact .inr ⟨by simp [recoverD, hu], rfl, hu.symm⟩
    | some x =>
      obtain ⟨rfl, rfl, _⟩ := hm
      exact .inl (by simp [recoverD, hu])
  refine wpS_seq (wpS_region ?_)
  have hend : ∀ a' cs' , a' = (Act.put (Act.put { tmps := caps ++ Array.replicate (fn.ntmps - caps.size) undef, defers := [] } (some t) v) (some x) v) → cs' = { c₀ with mode := u' } :: cs →
      c2.wpS P (bodyPostS P fn c₀ cs fun e u2 w' => (∃ r, e = .returned r) ∧ u2 = u' ∧ ∃ S', R S' ∧ Sim G S' w' ∧ Ext S w S' w') a' cs' w := by
    rintro a' cs' rfl rfl
    refine wpS_of_wp (wp_mono (awp_sound c2 _ _ S h w _ hs h2) ?_)
    rintro e a' w' hq
    have hres : ∀ tmps, (results fn tmps).run P w' = .ok (.tuple #[]) w' := by
      intro tmps
      unfold results
      rw [hr]
      simp [Sem.run_pure]
    cases e with
    | normal =>
      obtain ⟨env, S', ⟨hd, h3⟩, h4, h5, h6⟩ := hq
      exact ⟨h6.defers.trans hd, u', rfl, _, hres _, ⟨_, rfl⟩, rfl, S', h3, h4, h5⟩
    | ret =>
      obtain ⟨env, S', ⟨hd, h3⟩, h4, h5, h6⟩ := hq
      exact ⟨h6.defers.trans hd, u', rfl, _, hres _, ⟨_, rfl⟩, rfl, S', h3, h4, h5⟩
    | exit id => obtain ⟨env, S', h3, _⟩ := hq; exact h3.elim
    | goto l => exact hq.elim
    | panic ch => obtain ⟨v, u, env, S', _, h3, _⟩ := hq; exact h3.elim
    | outgrown => exact hq.elim
  have hlook : ∀ (b : Act), b.tmps.size = fn.ntmps → (b.put (some t) v).eval (.tmp t) = v := by
    intro b hb
    simp [Act.put, Act.eval, hb, ht]
  show wpOpsS P _ _ [0, 1] _ _ _
  have e0 : ∀ ρ : Operand → Value, (execOp ρ ⟨some t, .call ⟨.builtin .recover, #[], ts⟩, ty0, pos0, af0, none⟩).run P w = .ok .recover w := fun ρ => rfl
  have e1 : ∀ ρ : Operand → Value, (execOp ρ ⟨some x, .assign (.tmp t), ty1, pos1, af1, none⟩).run P w = .ok (.value (ρ (.tmp t))) w := fun ρ => rfl
  have hsz : (caps ++ Array.replicate (fn.ntmps - caps.size) undef).size = fn.ntmps := by simp; omega
  have hw0 : ∀ (d : Option Nat) (op : Op) (ty : TypeId) (pos : String) (af : Array Edge) (ys : Nat → Option Bool), Region.wanted ⟨d, op, ty, pos, af, none⟩ ys = true := fun _ _ _ _ _ _ => by simp [Region.wanted]
  rcases hrec with hrec | ⟨hrec, rfl, rfl⟩
  · simp only [wpOpsS, List.getElem?_toArray, List.getElem?_cons_zero, List.getElem?_cons_succ, hw0, if_true, e0, e1, hrec, Oper.upon]
    refine hend _ _ ?_ rfl
    rw [hlook _ hsz]
  · simp only [wpOpsS, List.getElem?_toArray, List.getElem?_cons_zero, List.getElem?_cons_succ, hw0, if_true, e0, e1, hrec, Oper.upon]
    refine hend _ _ ?_ rfl
    rw [hlook _ hsz]

/-! ### a function that may have deferred one such closure -/

def leaveX (P : Program) (G : Glob) (rs : List ResultVar) (R : AEnd → St → Prop) (m : List (Nat × AVal)) (x : Option AVal) (S : St) (f : FuncId) (caps : Array Value) : Prop :=
  entersB P f = true ∧ DefOk P G f caps x S fun S' => aresults P rs ⟨m, []⟩ S' (retK R S')
def endX (P : Program) (G : Glob) (rs : List ResultVar) (R : AEnd → St → Prop) (m : List (Nat × AVal)) (S : St) : List Deferred → Prop
  | [] => aresults P rs ⟨m, []⟩ S (retK R S)
  | [⟨.fn (.func f) caps, args⟩] => args = #[] ∧ leaveX P G rs R m none S f caps
  | _ => False
def panX (P : Program) (G : Glob) (rs : List ResultVar) (R : AEnd → St → Prop) (m : List (Nat × AVal)) (S : St) (v : AVal) : List Deferred → Prop
  | [] => ∃ S', Sub S' S ∧ R (.pan v) S'
  | [⟨.fn (.func f) caps, args⟩] => args = #[] ∧ leaveX P G rs R m (some v) S f caps
  | _ => False
def fnPostX (P : Program) (G : Glob) (rs : List ResultVar) (R : AEnd → St → Prop) : AExit → Env → St → Prop
  | .normal, env, S => endX P G rs R env.m S env.d
  | .ret, env, S => endX P G rs R env.m S env.d
  | .pan v, env, S => panX P G rs R env.m S v env.d
  | .exit _, _, _ => False
variable {rs : List ResultVar} {R : AEnd → St → Prop} {m : List (Nat × AVal)} {S : St} {f : FuncId} {caps args : Array Value}
@[go_sem] theorem fnPostX_normal {d : List Deferred} : fnPostX P G rs R .normal ⟨m, d⟩ S = endX P G rs R m S d := rfl
@[go_sem] theorem fnPostX_ret {d : List Deferred} : fnPostX P G rs R .ret ⟨m, d⟩ S = endX P G rs R m S d := rfl
@[go_sem] theorem fnPostX_pan {d : List Deferred} {v : AVal} : fnPostX P G rs R (.pan v) ⟨m, d⟩ S = panX P G rs R m S v d := rfl
@[go_sem] theorem endX_nil : endX P G rs R m S [] = aresults P rs ⟨m, []⟩ S (retK R S) := rfl
@[go_sem] theorem endX_one : endX P G rs R m S [⟨.fn (.func f) caps, #[]⟩] = leaveX P G rs R m none S f caps := by simp [endX]
@[go_sem] theorem panX_nil {v : AVal} : panX P G rs R m S v [] = ∃ S', Sub S' S ∧ R (.pan v) S' := rfl
@[go_sem] theorem panX_one {v : AVal} : panX P G rs R m S v [⟨.fn (.func f) caps, #[]⟩] = leaveX P G rs R m (some v) S f caps := by simp [panX]

theorem leaveX_sound {fn : Func} {x : Option AVal} {S0 : St} {w0 w : World} {u u' : FrameMode} {v : Value} {d : List Deferred} {a : Act} (hin : ∀ b o, S0 b = some o → b < w0.heap.size) (hs : Sim G S w) (hx : Ext S0 w0 S w) (he : relEnv fn.ntmps (ro S w) ⟨m, d⟩ a)
    (h : leaveX P G fn.results.toList R m x S f caps) (hm : DefMode x (ro S w) u u' v) :
    Leaves P fn a.tmps (fun e w' => ∃ ae S', R ae S' ∧ Sim G S' w' ∧ Ext S0 w0 S' w' ∧ relE (ro S' w') ae e) [⟨.fn (.func f) caps, #[]⟩] u w := by
  obtain ⟨h1, h2⟩ := h
  have hu : u ≠ .run := by
    cases x with
    | none => obtain ⟨rfl, _⟩ := hm; simp
    | some x => obtain ⟨rfl, _⟩ := hm; simp
  have hset : settle u' = .returning := by
    cases x with
    | none => obtain ⟨_, rfl, _⟩ := hm; rfl
    | some x => obtain ⟨_, rfl, _⟩ := hm; rfl
  refine leaves_cons (f := f) (args := #[] ++ caps) hu ?_ ?_
  · exact enters_run h1 _ _
  · have := h2 w u u' v hs hm
    rw [show (#[] ++ caps : Array Value) = caps by simp]
    refine this.mono ?_
    rintro e u2 w' ⟨⟨r, rfl⟩, rfl, S', h3, h4, h5⟩
    simp only [hset]
    have hq : aPost G fn.ntmps (fnPost P fn.results.toList R) S0 w0 .ret { a with defers := [] } w' :=
      ⟨⟨m, []⟩, S', ⟨rfl, h3⟩, h4, hx.trans h5 hin, ⟨he.size, fun t => rel_mono h5.ro _ _ (he.tmp t), rfl⟩⟩
    exact (fnPost_sound hin .ret _ w' hq).2

theorem acalls_of_awpX {fn : Func} {c : Code} {args : List AVal} (hf : P.funcs[f]? = some fn) (hb : fn.body = some c) (hn : args.length ≤ fn.ntmps)
    (h : awp P G fn.ntmps c (fnPostX P G fn.results.toList R) ⟨argEnv args 0, []⟩ S) : ACalls P G f args S R := by
  intro w vs hs hv
  have hin : ∀ b o, S b = some o → b < w.heap.size := fun b o h => hs.lt h
  refine calls_of_wp_defers hf hb (wp_mono (awp_sound c _ _ S h w _ hs (relEnv_args hv hn)) ?_)
  have fin : ∀ (env : Env) (S' : St) a w', endX P G fn.results.toList R env.m S' env.d → Sim G S' w' → Ext S w S' w' → relEnv fn.ntmps (ro S' w') env a →
      Leaves P fn a.tmps (fun e w' => ∃ ae S', R ae S' ∧ Sim G S' w' ∧ Ext S w S' w' ∧ relE (ro S' w') ae e) a.defers .returning w' := by
    intro env S' a w' h1 h2 h3 h4
    rw [h4.defers]
    obtain ⟨m, d⟩ := env
    simp only at h1 ⊢
    unfold endX at h1
    split at h1
    · have hq : aPost G fn.ntmps (fnPost P fn.results.toList R) S w .ret { a with defers := [] } w' :=
        ⟨⟨m, []⟩, S', ⟨rfl, h1⟩, h2, h3, ⟨h4.size, h4.tmp, rfl⟩⟩
      exact (fnPost_sound hin .ret _ w' hq).2
    · obtain ⟨rfl, h1⟩ := h1
      exact leaveX_sound hin h2 h3 h4 h1 ⟨rfl, rfl, rfl⟩
    · exact h1.elim
  rintro e a w' hq
  cases e with
  | normal => obtain ⟨env, S', h1, h2, h3, h4⟩ := hq; exact fin env S' a w' h1 h2 h3 h4
  | ret => obtain ⟨env, S', h1, h2, h3, h4⟩ := hq; exact fin env S' a w' h1 h2 h3 h4
  | exit id => obtain ⟨env, S', h1, _⟩ := hq; exact h1.elim
  | goto l => exact hq.elim
  | panic ch =>
    obtain ⟨v, u, env, S', rfl, h1, h2, h3, h5, h4⟩ := hq
    show Leaves P fn a.tmps _ a.defers (.panicking _) w'
    rw [h4.defers]
    obtain ⟨m, d⟩ := env
    simp only [fnPostX] at h1 ⊢
    unfold panX at h1
    split at h1
    · obtain ⟨S'', h6, h7⟩ := h1
      exact ⟨.pan v, S'', h7, relF_of_sub h6 h2, h3.trans (h6.ext fun b o h => h2.lt h) hin, u, rfl, rel_mono (h6.ro w') _ _ h5⟩
    · obtain ⟨rfl, h1⟩ := h1
      exact leaveX_sound hin h2 h3 h4 h1 ⟨rfl, rfl, h5⟩
    · exact h1.elim
  | outgrown => exact hq.elim

def adeferK (g : FuncId) (cs as : Option (List Value)) (env : Env) (k : Env → Prop) : Prop := match cs, as with
  | some cs, some as => k ⟨env.m, { target := .fn (.func g) cs.toArray, args := as.toArray } :: env.d⟩
  | _, _ => False
@[congr] theorem adeferK_congr {g : FuncId} {cs cs' as as' : Option (List Value)} {env : Env} {k : Env → Prop} (h : cs = cs') (h2 : as = as') : adeferK g cs as env k = adeferK g cs' as' env k := by rw [h, h2]
@[go_sem] theorem adefer_fn {g : FuncId} {cs as : List AVal} {env : Env} {k : Env → Prop} : adefer (.fn (.func g) cs) as env k = adeferK g (litVals cs) (litVals as) env k := by
  simp only [adefer, adeferK]
  rfl
@[go_sem] theorem adeferK_some {g : FuncId} {cs as : List Value} {m : List (Nat × AVal)} {d : List Deferred} {k : Env → Prop} : adeferK g (some cs) (some as) ⟨m, d⟩ k = k ⟨m, { target := .fn (.func g) cs.toArray, args := as.toArray } :: d⟩ := rfl
@[go_sem] theorem litVals_nil : litVals [] = some [] := rfl
@[go_sem] theorem litVals_cons {v : Value} {xs : List AVal} : litVals (.lit v :: xs) = (litVals xs).map (v :: ·) := rfl
@[go_sem] theorem defPost_normal {R : St → Prop} {d : List Deferred} : defPost R .normal ⟨m, d⟩ S = (d = [] ∧ R S) := rfl
@[go_sem] theorem defPost_ret {R : St → Prop} {d : List Deferred} : defPost R .ret ⟨m, d⟩ S = (d = [] ∧ R S) := rfl
/-- arguments of which more is known -/
theorem acalls_weak {args' args : List AVal} {R : AEnd → St → Prop} (hw : WeakL args' args) (h : ACalls P G f args S R) : ACalls P G f args' S R :=
  fun w vs hs hv => h w vs hs (hw.rel hv)
end
end Go.Proofs.Abs
