/- The abstract layer, part 9: the evaluator's equations, for simp ('go_sem'), and where simp may look ('congr'). -/
import Derived.Test.YtaeobokijndboaaDoorAbs8
set_option linter.unusedVariables false
namespace Go.Proofs.Abs
open Go

/-! ### continuations, named: simp does not look into what is not applied -/
def atS (K : AVal → St → Prop) (S : St) (v : AVal) : Prop := K v S
def withV (K : AVal → St → Prop) (v : AVal) (S : St) : Prop := K v S
def panQ (Q : AExit → Env → St → Prop) (e : Env) (v : AVal) (S : St) : Prop := Q (.pan v) e S
def allocK (S : St) (K : AVal → St → Prop) (cs : List AVal) : Prop := aalloc S cs K
def opsK (P : Program) (G : Glob) (N : Nat) (all rest : List Oper) (S : St) (K : Env → St → Prop) (Pn : Env → AVal → St → Prop) (env : Env) : Prop := aops P G N all rest env S K Pn
def skipK (N : Nat) (dst : Option Nat) (k : Env → Prop) (env : Env) : Prop := aput N dst skipV env k
def cutK (k : Option (Option Nat)) (o : Nat) (K : AVal → Prop) (cs : List AVal) : Prop := acut k cs o K
def storeK2 (n : Option Nat) (b o : Nat) (cs : List AVal) (S : St) (K : St → Prop) (vs : List AVal) : Prop := n = some vs.length ∧ o + vs.length ≤ cs.length ∧ ∀ us, K (S.set b (.box (splice cs o vs) us))
def storeK (n : Option Nat) (b o : Nat) (v : AVal) (S : St) (K : St → Prop) (cs : List AVal) : Prop := aflat v (storeK2 n b o cs S K)
def rpK (K : AVal → Prop) (c : List AVal) : Prop := K (.rp c 0)
def byteK (K : AVal → Prop) (c : UInt8) : Prop := K (.lit (.int .u8 c.toNat))
def slK (mk : Nat) (sz : Nat) (K : AVal → Prop) (rows : List (List AVal)) : Prop := K (.sl sz rows (.fresh mk))
def aggK (K : AVal → Prop) (cs : List AVal) : Prop := K (.agg cs)
def consK (v : AVal) (K : List AVal → Prop) (vs : List AVal) : Prop := K (v :: vs)
def retK (R : AEnd → St → Prop) (S : St) (vs : List AVal) : Prop := aret R (packRes vs) S
def resK (P : Program) (rs : List ResultVar) (env : Env) (S : St) (K : List AVal → Prop) (v : AVal) : Prop := aresults P rs env S (consK v K)

section
variable {P : Program} {G : Glob} {N : Nat}
@[go_sem] theorem atS_app {K : AVal → St → Prop} {S : St} {v : AVal} : atS K S v = K v S := rfl
@[go_sem] theorem withV_app {K : AVal → St → Prop} {S : St} {v : AVal} : withV K v S = K v S := rfl
@[go_sem] theorem panQ_app {Q : AExit → Env → St → Prop} {m : List (Nat × AVal)} {d : List Deferred} {v : AVal} {S : St} : panQ Q ⟨m, d⟩ v S = Q (.pan v) ⟨m, d⟩ S := rfl
def panD (Q : AExit → Env → St → Prop) (e : Env) (v : AVal) (S : St) : Prop := Q (.pan v) ⟨[], e.d⟩ S
@[go_sem] theorem panD_app {Q : AExit → Env → St → Prop} {m : List (Nat × AVal)} {d : List Deferred} {v : AVal} {S : St} : panD Q ⟨m, d⟩ v S = Q (.pan v) ⟨[], d⟩ S := rfl
@[go_sem] theorem allocK_app {K : AVal → St → Prop} {S : St} {cs : List AVal} : allocK S K cs = aalloc S cs K := rfl
@[go_sem] theorem opsK_app {all rest : List Oper} {S : St} {K : Env → St → Prop} {Pn : Env → AVal → St → Prop} {env : Env} : opsK P G N all rest S K Pn env = aops P G N all rest env S K Pn := rfl
@[go_sem] theorem skipK_app {dst : Option Nat} {k : Env → Prop} {env : Env} : skipK N dst k env = aput N dst skipV env k := rfl
@[go_sem] theorem cutK_app {k : Option (Option Nat)} {o : Nat} {K : AVal → Prop} {cs : List AVal} : cutK k o K cs = acut k cs o K := rfl
@[go_sem] theorem storeK_app {n : Option Nat} {b o : Nat} {v : AVal} {S : St} {K : St → Prop} {cs : List AVal} : storeK n b o v S K cs = aflat v (storeK2 n b o cs S K) := rfl
@[go_sem] theorem storeK2_app {n : Option Nat} {b o : Nat} {cs vs : List AVal} {S : St} {K : St → Prop} : storeK2 n b o cs S K vs = (n = some vs.length ∧ o + vs.length ≤ cs.length ∧ ∀ us, K (S.set b (.box (splice cs o vs) us))) := rfl
@[go_sem] theorem rpK_app {K : AVal → Prop} {c : List AVal} : rpK K c = K (.rp c 0) := rfl
@[go_sem] theorem byteK_app {K : AVal → Prop} {c : UInt8} : byteK K c = K (.lit (.int .u8 c.toNat)) := rfl
@[go_sem] theorem slK_app {mk sz : Nat} {K : AVal → Prop} {rows : List (List AVal)} : slK mk sz K rows = K (.sl sz rows (.fresh mk)) := rfl
@[go_sem] theorem aggK_app {K : AVal → Prop} {cs : List AVal} : aggK K cs = K (.agg cs) := rfl
@[go_sem] theorem consK_app {v : AVal} {K : List AVal → Prop} {vs : List AVal} : consK v K vs = K (v :: vs) := rfl
@[go_sem] theorem retK_app {R : AEnd → St → Prop} {S : St} {vs : List AVal} : retK R S vs = aret R (packRes vs) S := rfl
@[go_sem] theorem resK_app {rs : List ResultVar} {env : Env} {S : St} {K : List AVal → Prop} {v : AVal} : resK P rs env S K v = aresults P rs env S (consK v K) := rfl
end

section
variable {P : Program} {G : Glob} {N : Nat}

/-! ### where simp may look -/
@[congr] theorem abool_congr {x x' : AVal} {p q : Prop} (h : x = x') : abool x p q = abool x' p q := by rw [h]
@[congr] theorem aget_congr {α : Type} {xs xs' : List α} {i i' : Nat} {K : α → Prop} (h : xs = xs') (h2 : i = i') : aget xs i K = aget xs' i' K := by rw [h, h2]
@[congr] theorem acut_congr {k k' : Option (Option Nat)} {cs cs' : List AVal} {o o' : Nat} {K : AVal → Prop} (h : k = k') (h2 : cs = cs') (h3 : o = o') : acut k cs o K = acut k' cs' o' K := by rw [h, h2, h3]
@[congr] theorem aboxed_congr {o o' : Option Own} {K : List AVal → Prop} (h : o = o') : aboxed o K = aboxed o' K := by rw [h]
@[congr] theorem aload_congr {k k' : Option (Option Nat)} {p p' : AVal} {S : St} {K : AVal → Prop} (h : k = k') (h2 : p = p') : aload k p S K = aload k' p' S K := by rw [h, h2]
@[congr] theorem aflat_congr {v v' : AVal} {K : List AVal → Prop} (h : v = v') : aflat v K = aflat v' K := by rw [h]
@[congr] theorem astore_congr {n n' : Option Nat} {p p' v v' : AVal} {S : St} {K : St → Prop} (h : n = n') (h2 : p = p') (h3 : v = v') : astore n p v S K = astore n' p' v' S K := by rw [h, h2, h3]
@[congr] theorem aalloc_congr {S S' : St} {cs cs' : List AVal} {K : AVal → St → Prop} (h : S = S') (h2 : cs = cs') : aalloc S cs K = aalloc S' cs' K := by rw [h, h2]
@[congr] theorem aplace_congr {p p' : AVal} {d : Nat} {K : AVal → Prop} (h : p = p') : aplace p d K = aplace p' d K := by rw [h]
@[congr] theorem aput_congr {d : Option Nat} {v v' : AVal} {env : Env} {k : Env → Prop} (h : v = v') : aput N d v env k = aput N d v' env k := by rw [h]
@[congr] theorem aops_congr {all rest : List Oper} {env : Env} {S S' : St} {K : Env → St → Prop} {Pn : Env → AVal → St → Prop} (h : S = S') : aops P G N all rest env S K Pn = aops P G N all rest env S' K Pn := by rw [h]
@[congr] theorem awp_congr {c : Code} {Q : AExit → Env → St → Prop} {env : Env} {S S' : St} (h : S = S') : awp P G N c Q env S = awp P G N c Q env S' := by rw [h]
@[congr] theorem ASem_congr {c : Code} {Q : AExit → Env → St → Prop} {env : Env} {S S' : St} (h : S = S') : ASem P G N c Q env S = ASem P G N c Q env S' := by rw [h]
@[congr] theorem aThen_congr {K : Env → St → Prop} {Q : AExit → Env → St → Prop} {x : AExit} {e : Env} {s : St} : aThen K Q x e s = aThen K Q x e s := rfl
@[congr] theorem aInBlock_congr {i : Nat} {Q : AExit → Env → St → Prop} {x : AExit} {e : Env} {s : St} : aInBlock i Q x e s = aInBlock i Q x e s := rfl
@[congr] theorem fnPost_congr {rs : List ResultVar} {R : AEnd → St → Prop} {x : AExit} {e : Env} {s s' : St} (h : s = s') : fnPost P rs R x e s = fnPost P rs R x e s' := by rw [h]
@[congr] theorem aresults_congr {rs : List ResultVar} {e : Env} {s : St} {K : List AVal → Prop} : aresults P rs e s K = aresults P rs e s K := rfl
@[congr] theorem ACalls_congr {f : FuncId} {args args' : List AVal} {S S' : St} {R : AEnd → St → Prop} (h : args = args') (h2 : S = S') : ACalls P G f args S R = ACalls P G f args' S' R := by rw [h, h2]

def aguardAt' (d : Option Nat) (want : Bool) (env : Env) (yes no : Env → Prop) : Prop := match d with | some d => aguardAt d want (look env.m d) env yes no | none => False
@[congr] theorem aguardAt_congr {d : Nat} {want : Bool} {x x' : AVal} {env : Env} {yes no : Env → Prop} (h : x = x') : aguardAt d want x env yes no = aguardAt d want x' env yes no := by rw [h]
@[congr] theorem aguardAt'_congr {d d' : Option Nat} {want : Bool} {env : Env} {yes no : Env → Prop} (h : d = d') : aguardAt' d want env yes no = aguardAt' d' want env yes no := by rw [h]
@[go_sem] theorem aguardAt'_some {d : Nat} {want : Bool} {env : Env} {yes no : Env → Prop} : aguardAt' (some d) want env yes no = aguardAt d want (look env.m d) env yes no := rfl
@[go_sem] theorem aguardAt_tt {d : Nat} {env : Env} {yes no : Env → Prop} : aguardAt d true (.lit (.bool true)) env yes no = yes (env.put d (bool true)) := by simp [aguardAt]
@[go_sem] theorem aguardAt_tf {d : Nat} {env : Env} {yes no : Env → Prop} : aguardAt d true (.lit (.bool false)) env yes no = no (env.put d (bool false)) := by simp [aguardAt]
@[go_sem] theorem aguardAt_ft {d : Nat} {env : Env} {yes no : Env → Prop} : aguardAt d false (.lit (.bool true)) env yes no = no (env.put d (bool true)) := by simp [aguardAt]
@[go_sem] theorem aguardAt_ff {d : Nat} {env : Env} {yes no : Env → Prop} : aguardAt d false (.lit (.bool false)) env yes no = yes (env.put d (bool false)) := by simp [aguardAt]
/-- to part the ways by hand -/
theorem aguardAt_split {d : Nat} {want b : Bool} {env : Env} {yes no : Env → Prop} (h1 : b = want → yes (env.put d (bool want))) (h2 : b = (!want) → no (env.put d (bool (!want)))) : aguardAt d want (.lit (.bool b)) env yes no := ⟨h1, h2⟩
@[go_sem] theorem aguardAt_skip {d : Nat} {want : Bool} {vs : List AVal} {env : Env} {yes no : Env → Prop} : aguardAt d want (.tup vs) env yes no = no env := rfl
theorem abool_split {b : Bool} {p q : Prop} (h1 : b = true → p) (h2 : b = false → q) : abool (.lit (.bool b)) p q := ⟨b, rfl, h1, h2⟩

/-! ### code -/
@[go_sem] theorem awp_skip {Q : AExit → Env → St → Prop} {env : Env} {S : St} : awp P G N .skip Q env S = Q .normal env S := rfl
@[go_sem] theorem awp_region {id : Nat} {l : List Oper} {Q : AExit → Env → St → Prop} {env : Env} {S : St} :
    awp P G N (.region id l.toArray false) Q env S = aops P G N l l env S (Q .normal) (panQ Q) := rfl
@[go_sem] theorem awp_seq {a b : Code} {Q : AExit → Env → St → Prop} {env : Env} {S : St} : awp P G N (.seq a b) Q env S = awp P G N a (aThen (awp P G N b Q) Q) env S := rfl
@[go_sem] theorem awp_cond {c : Operand} {a b : Code} {Q : AExit → Env → St → Prop} {env : Env} {S : St} : awp P G N (.cond c a b) Q env S = abool (env.ev G c) (awp P G N a Q env S) (awp P G N b Q env S) := rfl
@[go_sem] theorem awp_block {id : Nat} {c : Code} {Q : AExit → Env → St → Prop} {env : Env} {S : St} : awp P G N (.block id c) Q env S = awp P G N c (aInBlock id Q) env S := rfl
@[go_sem] theorem awp_exit {id : Nat} {Q : AExit → Env → St → Prop} {env : Env} {S : St} : awp P G N (.exit id) Q env S = Q (.exit id) env S := rfl
@[go_sem] theorem awp_ret {Q : AExit → Env → St → Prop} {env : Env} {S : St} : awp P G N .ret Q env S = Q .ret env S := rfl
attribute [go_sem] aThen_normal aThen_ret aThen_exit aThen_pan aInBlock_normal aInBlock_ret aInBlock_pan aInBlock_exit

@[go_sem] theorem awp_loop {c : Code} {Q : AExit → Env → St → Prop} {env : Env} {S : St} : awp P G N (.loop c) Q env S = ALoop P G N c Q env S := rfl
@[congr] theorem ALoop_congr {c : Code} {Q : AExit → Env → St → Prop} {env : Env} {S S' : St} (h : S = S') : ALoop P G N c Q env S = ALoop P G N c Q env S' := by rw [h]

theorem ALoop_unroll {c : Code} {Q : AExit → Env → St → Prop} {env : Env} {S : St} (h : awp P G N c (aThen (ALoop P G N c Q) Q) env S) : ALoop P G N c Q env S := by
  intro w a hs he b k cs
  obtain ⟨e, a', w', hq, harr⟩ := awp_sound c _ env S h w a hs he b (.inLoop c :: k) cs
  cases e with
  | normal =>
    obtain ⟨env', S', h1, h2, h3, h4⟩ := hq
    obtain ⟨e2, a2, w2, hq2, harr2⟩ := h1 w' a' h2 h4 b k cs
    exact ⟨e2, a2, w2, aPost_ext h3 (fun b o h => hs.lt h) _ _ _ hq2, .of_steps (Steps.trans harr (.one step_inLoop)) harr2⟩
  | exit id => exact ⟨_, a', w', (show aPost G N Q S w (.exit id) a' w' from hq), .pass (x := .inLoop c) rfl (fun _ _ => .inl (by simp)) harr⟩
  | goto l => exact hq.elim
  | ret => exact ⟨_, a', w', (show aPost G N Q S w .ret a' w' from hq), .pass (x := .inLoop c) rfl (fun _ _ => .inl (by simp)) harr⟩
  | panic ch => exact ⟨_, a', w', (show aPost G N Q S w (.panic ch) a' w' from hq), .pass (x := .inLoop c) rfl (fun _ _ => .inl (by simp)) harr⟩
  | outgrown => exact hq.elim

/-- Code sees of a frame what its slots hold: a frame of which less is known, and a store with less in it, do as well. -/
def Env.le (e' e : Env) : Prop := (∀ t, look e'.m t = .any ∨ look e'.m t = look e.m t) ∧ e'.d = e.d

theorem relEnv_le {r : RO} {e e' : Env} {a : Act} (h : e'.le e) (he : relEnv N r e a) : relEnv N r e' a :=
  ⟨he.size, fun t => (h.1 t).elim (fun h1 => by rw [h1]; exact rel_any) (fun h1 => by rw [h1]; exact he.tmp t), he.defers.trans h.2.symm⟩

theorem ALoop_weak {c : Code} {Q : AExit → Env → St → Prop} {env env' : Env} {S S' : St} (h : ALoop P G N c Q env' S') (he : env'.le env) (hs' : Sub S' S) : ALoop P G N c Q env S := by
  intro w a hs hr b k cs
  obtain ⟨e, a', w', h1, h2⟩ := h w a (relF_of_sub hs' hs) (relEnv_mono (relEnv_le he hr) (hs'.ro w)) b k cs
  exact ⟨e, a', w', aPost_ext (hs'.ext fun b o h => hs.lt h) (fun b o h => hs.lt h) _ _ _ h1, h2⟩

/-- what a list of slots says, held against a frame -/
def leOn : List (Nat × AVal) → List (Nat × AVal) → Prop
  | [], _ => True
  | (k, v) :: m', m => v = look m k ∧ leOn m' m
theorem look_leOn : ∀ {m' m : List (Nat × AVal)}, leOn m' m → ∀ t, look m' t = .any ∨ look m' t = look m t
  | [], m, _, t => .inl rfl
  | (k, v) :: m', m, h, t => by
    simp only [look]
    by_cases hk : k = t
    · subst hk; rw [if_pos rfl]; exact .inr h.1
    · rw [if_neg hk]; exact look_leOn h.2 t
theorem le_of_leOn {m' m : List (Nat × AVal)} {d : List Deferred} (h : leOn m' m) : Env.le ⟨m', d⟩ ⟨m, d⟩ := ⟨look_leOn h, rfl⟩

/-! ### operations -/
section
variable {all rest : List Oper} {S : St} {K : Env → St → Prop} {Pn : Env → AVal → St → Prop} {dst : Option Nat} {ty : TypeId} {pos : String} {af : Array Edge} {m : List (Nat × AVal)} {d : List Deferred}
def partsEv (G : Glob) (env : Env) : List (Nat × Operand) → List (Nat × AVal)
  | [] => []
  | q :: l => (q.1, env.ev G q.2) :: partsEv G env l
@[go_sem] theorem partsEv_nil {env : Env} : partsEv G env [] = [] := rfl
@[go_sem] theorem partsEv_cons {env : Env} {i : Nat} {x : Operand} {l : List (Nat × Operand)} : partsEv G env ((i, x) :: l) = (i, env.ev G x) :: partsEv G env l := rfl
theorem partsEv_eq {env : Env} : ∀ l : List (Nat × Operand), partsEv G env l = l.map fun q => (q.1, env.ev G q.2)
  | [] => rfl
  | q :: l => by simp [partsEv, partsEv_eq l]
def aNext (P : Program) (G : Glob) (N : Nat) (all rest : List Oper) (dst : Option Nat) (env : Env) (K : Env → St → Prop) (Pn : Env → AVal → St → Prop) (v : AVal) (S : St) : Prop :=
  aput N dst v env fun env' => aops P G N all rest env' S K Pn
@[congr] theorem aNext_congr {env : Env} {v v' : AVal} {S' : St} (h : v = v') (h2 : S = S') : aNext P G N all rest dst env K Pn v S = aNext P G N all rest dst env K Pn v' S' := by rw [h, h2]
@[go_sem] theorem aNext_some {x : Nat} {v : AVal} : aNext P G N all rest (some x) ⟨m, d⟩ K Pn v S = (x < N ∧ aops P G N all rest ⟨(x, v) :: m, d⟩ S K Pn) := rfl
@[go_sem] theorem aNext_none {env : Env} {v : AVal} : aNext P G N all rest none env K Pn v S = aops P G N all rest env S K Pn := rfl
@[go_sem] theorem aput_some {x : Nat} {v : AVal} {k : Env → Prop} : aput N (some x) v ⟨m, d⟩ k = (x < N ∧ k ⟨(x, v) :: m, d⟩) := rfl
@[go_sem] theorem aput_none {env : Env} {v : AVal} {k : Env → Prop} : aput N none v env k = k env := rfl
@[go_sem] theorem put_mk {x : Nat} {v : AVal} : Env.put ⟨m, d⟩ x v = ⟨(x, v) :: m, d⟩ := rfl

def aallocZ (z : Option (List AVal)) (S : St) (K : AVal → St → Prop) : Prop := match z with | some cs => aalloc S cs K | none => False
@[congr] theorem aallocZ_congr {z z' : Option (List AVal)} {S S' : St} {K : AVal → St → Prop} (h : z = z') (h2 : S = S') : aallocZ z S K = aallocZ z' S' K := by rw [h, h2]
@[go_sem] theorem aallocZ_some {cs : List AVal} {S : St} {K : AVal → St → Prop} : aallocZ (some cs) S K = aalloc S cs K := rfl
def abuildZ (P : Program) (t : TypeId) (z : Option (List AVal)) (parts : List (Nat × AVal)) (K : AVal → Prop) : Prop := match z with
  | some cs => tstruct P t = true ∧ abuild (fun i => (tfield P t i).bind fun q => (tsize P q.2).map fun n => (q.1, n)) cs parts fun cs => K (.agg cs)
  | none => False
def abuildF (P : Program) (t : TypeId) (cs : List AVal) (parts : List (Nat × AVal)) (K : AVal → Prop) : Prop :=
  abuild (fun i => (tfield P t i).bind fun q => (tsize P q.2).map fun n => (q.1, n)) cs parts fun cs => K (.agg cs)
def aplaceF (P : Program) (p : Option (Nat × TypeId)) (cs : List AVal) (v : AVal) (K : List AVal → Prop) : Prop :=
  match p with
  | some (off, t) => aflat v fun vs => tsize P t = some vs.length ∧ off + vs.length ≤ cs.length ∧ K (splice cs off vs)
  | none => False
@[congr] theorem abuildZ_congr {t : TypeId} {z z' : Option (List AVal)} {parts parts' : List (Nat × AVal)} {K : AVal → Prop} (h : z = z') (h2 : parts = parts') : abuildZ P t z parts K = abuildZ P t z' parts' K := by rw [h, h2]
@[congr] theorem abuildF_congr {t : TypeId} {z z' : List AVal} {parts parts' : List (Nat × AVal)} {K : AVal → Prop} (h : z = z') (h2 : parts = parts') : abuildF P t z parts K = abuildF P t z' parts' K := by rw [h, h2]
@[congr] theorem aplaceF_congr {p p' : Option (Nat × TypeId)} {cs cs' : List AVal} {v v' : AVal} {K : List AVal → Prop} (h : p = p') (h2 : cs = cs') (h3 : v = v') : aplaceF P p cs v K = aplaceF P p' cs' v' K := by rw [h, h2, h3]
@[go_sem] theorem abuildZ_some {t : TypeId} {cs : List AVal} {parts : List (Nat × AVal)} {K : AVal → Prop} : abuildZ P t (some cs) parts K = (tstruct P t = true ∧ abuildF P t cs parts K) := rfl
def buildK (P : Program) (t : TypeId) (parts : List (Nat × AVal)) (K : AVal → Prop) (cs : List AVal) : Prop := abuildF P t cs parts K
@[go_sem] theorem buildK_app {t : TypeId} {parts : List (Nat × AVal)} {K : AVal → Prop} {cs : List AVal} : buildK P t parts K cs = abuildF P t cs parts K := rfl
@[go_sem] theorem abuildF_nil {t : TypeId} {cs : List AVal} {K : AVal → Prop} : abuildF P t cs [] K = K (.agg cs) := rfl
@[go_sem] theorem abuildF_cons {t : TypeId} {cs : List AVal} {i : Nat} {v : AVal} {parts : List (Nat × AVal)} {K : AVal → Prop} : abuildF P t cs ((i, v) :: parts) K = aplaceF P (tfield P t i) cs v (buildK P t parts K) := by
  unfold abuildF aplaceF buildK abuildF
  rw [abuild]
  cases tfield P t i with
  | none => rfl
  | some q =>
    obtain ⟨off, ty⟩ := q
    simp only [Option.bind_some]
    cases tsize P ty with
    | none =>
      simp only [Option.map_none]
      apply propext
      constructor
      · exact fun h => h.elim
      · intro h
        cases v <;> simp [aflat] at h
    | some n =>
      simp only [Option.map_some, Option.some.injEq]
      apply propext
      cases v <;> simp only [aflat, eq_comm (a := n)]
def placeK (n : Option Nat) (off : Nat) (cs : List AVal) (K : List AVal → Prop) (vs : List AVal) : Prop := n = some vs.length ∧ off + vs.length ≤ cs.length ∧ K (splice cs off vs)
@[go_sem] theorem placeK_app {n : Option Nat} {off : Nat} {cs vs : List AVal} {K : List AVal → Prop} : placeK n off cs K vs = (n = some vs.length ∧ off + vs.length ≤ cs.length ∧ K (splice cs off vs)) := rfl
@[go_sem] theorem aplaceF_some {off : Nat} {t : TypeId} {cs : List AVal} {v : AVal} {K : List AVal → Prop} : aplaceF P (some (off, t)) cs v K = aflat v (placeK (tsize P t) off cs K) := rfl
def abuildS (mk : Nat) (el : Option (TypeId × Nat × Nat × List AVal)) (len : Nat) (parts : List (Nat × AVal)) (K : AVal → Prop) : Prop := match el with
  | some (_, sz, _, z) => len * sz ≤ 16777216 ∧ arows sz (List.replicate len z) parts fun rows => K (.sl sz rows (.fresh mk))
  | none => False
@[congr] theorem abuildS_congr {mk : Nat} {z z' : Option (TypeId × Nat × Nat × List AVal)} {len : Nat} {parts parts' : List (Nat × AVal)} {K : AVal → Prop} (h : z = z') (h2 : parts = parts') : abuildS mk z len parts K = abuildS mk z' len parts' K := by rw [h, h2]
@[go_sem] theorem abuildS_some {mk e sz by_ : Nat} {z : List AVal} {len : Nat} {parts : List (Nat × AVal)} {K : AVal → Prop} : abuildS mk (some (e, sz, by_, z)) len parts K = (len * sz ≤ 16777216 ∧ arows sz (List.replicate len z) parts (slK mk sz K)) := rfl
@[congr] theorem arows_congr {sz : Nat} {rows rows' : List (List AVal)} {parts parts' : List (Nat × AVal)} {K : List (List AVal) → Prop} (h : rows = rows') (h2 : parts = parts') : arows sz rows parts K = arows sz rows' parts' K := by rw [h, h2]
@[go_sem] theorem arows_nil {sz : Nat} {rows : List (List AVal)} {K : List (List AVal) → Prop} : arows sz rows [] K = K rows := rfl
def rowsK (sz i : Nat) (rows : List (List AVal)) (parts : List (Nat × AVal)) (K : List (List AVal) → Prop) (vs : List AVal) : Prop := vs.length = sz ∧ i < rows.length ∧ arows sz (rows.set i vs) parts K
@[go_sem] theorem rowsK_app {sz i : Nat} {rows : List (List AVal)} {parts : List (Nat × AVal)} {K : List (List AVal) → Prop} {vs : List AVal} : rowsK sz i rows parts K vs = (vs.length = sz ∧ i < rows.length ∧ arows sz (rows.set i vs) parts K) := rfl
@[go_sem] theorem arows_cons {sz i : Nat} {v : AVal} {rows : List (List AVal)} {parts : List (Nat × AVal)} {K : List (List AVal) → Prop} : arows sz rows ((i, v) :: parts) K = aflat v (rowsK sz i rows parts K) := by rw [arows]; rfl
def afieldA (f : Option (Nat × TypeId)) (x : AVal) (K : AVal → Prop) : Prop := match f with | some (d, _) => aplace x d K | none => False
@[congr] theorem afieldA_congr {f f' : Option (Nat × TypeId)} {x x' : AVal} {K : AVal → Prop} (h : f = f') (h2 : x = x') : afieldA f x K = afieldA f' x' K := by rw [h, h2]
@[go_sem] theorem afieldA_some {o : Nat} {t : TypeId} {x : AVal} {K : AVal → Prop} : afieldA (some (o, t)) x K = aplace x o K := rfl
def afieldV (P : Program) (f : Option (Nat × TypeId)) (x : AVal) (K : AVal → Prop) : Prop := match f, x with | some (d, u), .agg cs => acut (tkind P u) cs d K | _, _ => False
@[congr] theorem afieldV_congr {f f' : Option (Nat × TypeId)} {x x' : AVal} {K : AVal → Prop} (h : f = f') (h2 : x = x') : afieldV P f x K = afieldV P f' x' K := by rw [h, h2]
@[go_sem] theorem afieldV_some {o : Nat} {t : TypeId} {cs : List AVal} {K : AVal → Prop} : afieldV P (some (o, t)) (.agg cs) K = acut (tkind P t) cs o K := rfl
def aassert (P : Program) (u : TypeId) (ok : Bool) (x : AVal) (K : AVal → Prop) : Prop := match x with
  | .ifc t y => tplain P u = true ∧ aassertZ (tzeroV P u) t u y ok K
  | _ => False
where aassertZ (z : Option AVal) (t u : TypeId) (y : AVal) (ok : Bool) (K : AVal → Prop) : Prop := match z with | some z => ahead t u y z ok K | none => False
@[congr] theorem aassert_congr {u : TypeId} {ok : Bool} {x x' : AVal} {K : AVal → Prop} (h : x = x') : aassert P u ok x K = aassert P u ok x' K := by rw [h]
@[congr] theorem aassertZ_congr {z z' : Option AVal} {t u : TypeId} {y : AVal} {ok : Bool} {K : AVal → Prop} (h : z = z') : aassert.aassertZ z t u y ok K = aassert.aassertZ z' t u y ok K := by rw [h]
@[go_sem] theorem aassert_ifc {t u : TypeId} {ok : Bool} {y : AVal} {K : AVal → Prop} : aassert P u ok (.ifc t y) K = (tplain P u = true ∧ aassert.aassertZ (tzeroV P u) t u y ok K) := rfl
@[go_sem] theorem aassertZ_some {t u : TypeId} {ok : Bool} {y z : AVal} {K : AVal → Prop} : aassert.aassertZ (some z) t u y ok K = ahead t u y z ok K := rfl
@[congr] theorem ahead_congr {t u : TypeId} {ok : Bool} {y z : AVal} {K : AVal → Prop} : ahead t u y z ok K = ahead t u y z ok K := rfl
@[go_sem] theorem ahead_eq {t : TypeId} {y z : AVal} {K : AVal → Prop} : ahead t t y z true K = K (.tup [y, bool true]) := by simp [ahead]
@[go_sem] theorem ahead_eq' {t : TypeId} {y z : AVal} {K : AVal → Prop} : ahead t t y z false K = K y := by simp [ahead]
theorem ahead_ne {t u : TypeId} {y z : AVal} {K : AVal → Prop} (h : t ≠ u) : ahead t u y z true K = K (.tup [z, bool false]) := by simp [ahead, h]
def apanic (x : AVal) (K : AVal → Prop) : Prop := match x with | .ifc t y => K (.ifc t y) | _ => False
@[congr] theorem apanic_congr {x x' : AVal} {K : AVal → Prop} (h : x = x') : apanic x K = apanic x' K := by rw [h]
@[go_sem] theorem apanic_ifc {t : TypeId} {y : AVal} {K : AVal → Prop} : apanic (.ifc t y) K = K (.ifc t y) := rfl
def abinOp (P : Program) (op : BinOp) (t : TypeId) (nx ny : Bool) (x y : AVal) (K : AVal → Prop) : Prop :=
  if nx && ny then False else match x, y with
    | .lit .nilIface, .lit .nilIface => (nx || ny) = true ∧ abinNil P op t K
    | a, b => abin P op t a b K
@[congr] theorem abinOp_congr {op : BinOp} {t : TypeId} {nx nx' ny ny' : Bool} {x x' y y' : AVal} {K : AVal → Prop} (h : x = x') (h2 : y = y') (h3 : nx = nx') (h4 : ny = ny') : abinOp P op t nx ny x y K = abinOp P op t nx' ny' x' y' K := by rw [h, h2, h3, h4]

section
def dstOf (o : Option Oper) : Option Nat := o.bind (·.dst)
@[go_sem] theorem dstOf_some {op : Op} {g : Option (Nat × Bool)} : dstOf (some ⟨dst, op, ty, pos, af, g⟩) = dst := rfl
@[go_sem] theorem aops_nil {env : Env} : aops P G N all [] env S K Pn = K env S := rfl
@[go_sem] theorem aops_guard {op : Op} {j : Nat} {want : Bool} {env : Env} : aops P G N all (⟨dst, op, ty, pos, af, some (j, want)⟩ :: rest) env S K Pn =
    aguardAt' (dstOf (all[j]?)) want env (opsK P G N all (⟨dst, op, ty, pos, af, none⟩ :: rest) S K Pn) (skipK N dst (opsK P G N all rest S K Pn)) := by
  simp only [aops, aguard, aguardAt', dstOf]
  rfl
variable {env : Env}
@[go_sem] theorem aops_move {x : Operand} : aops P G N all (⟨dst, .move x, ty, pos, af, none⟩ :: rest) env S K Pn =
    aNext P G N all rest dst env K Pn (env.ev G x) S := rfl
@[go_sem] theorem aops_assign {x : Operand} : aops P G N all (⟨dst, .assign x, ty, pos, af, none⟩ :: rest) env S K Pn =
    aNext P G N all rest dst env K Pn (env.ev G x) S := rfl
@[go_sem] theorem aops_pick {c a b : Operand} : aops P G N all (⟨dst, .pick c a b, ty, pos, af, none⟩ :: rest) env S K Pn =
    abool (env.ev G c) (aNext P G N all rest dst env K Pn (env.ev G a) S) (aNext P G N all rest dst env K Pn (env.ev G b) S) := rfl
@[go_sem] theorem aops_alloc {e : TypeId} : aops P G N all (⟨dst, .alloc e, ty, pos, af, none⟩ :: rest) env S K Pn =
    aallocZ (tzero P e) S (aNext P G N all rest dst env K Pn) := by simp only [aops, aguard, astep, aop, aallocZ]; rfl
@[go_sem] theorem aops_box {e : TypeId} {x : Operand} : aops P G N all (⟨dst, .box e x, ty, pos, af, none⟩ :: rest) env S K Pn =
    aflat (env.ev G x) (allocK S (aNext P G N all rest dst env K Pn)) := rfl
@[go_sem] theorem aops_build {t : TypeId} {parts : Array (Nat × Operand)} : aops P G N all (⟨dst, .build t parts, ty, pos, af, none⟩ :: rest) env S K Pn =
    abuildZ P t (tzero P t) (partsEv G env parts.toList) (atS (aNext P G N all rest dst env K Pn) S) := by rw [partsEv_eq]; rfl
@[go_sem] theorem aops_buildSlice {t : TypeId} {len : Nat} {parts : Array (Nat × Operand)} : aops P G N all (⟨dst, .buildSlice t len parts, ty, pos, af, none⟩ :: rest) env S K Pn =
    abuildS G.mark (telem P t) len (partsEv G env parts.toList) (atS (aNext P G N all rest dst env K Pn) S) := by rw [partsEv_eq]; rfl
@[go_sem] theorem aops_load {t : TypeId} {p : Operand} : aops P G N all (⟨dst, .load t p, ty, pos, af, none⟩ :: rest) env S K Pn =
    aload (tkind P t) (env.ev G p) S (atS (aNext P G N all rest dst env K Pn) S) := rfl
@[go_sem] theorem aops_store {t : TypeId} {p v : Operand} : aops P G N all (⟨dst, .store t p v, ty, pos, af, none⟩ :: rest) env S K Pn =
    astore (tsize P t) (env.ev G p) (env.ev G v) S (withV (aNext P G N all rest dst env K Pn) .any) := rfl
@[go_sem] theorem aops_nilCheck {x : Operand} : aops P G N all (⟨dst, .nilCheck x, ty, pos, af, none⟩ :: rest) env S K Pn =
    anil (env.ev G x) (aNext P G N all rest dst env K Pn (env.ev G x) S) := rfl
@[go_sem] theorem aops_unOp {op : UnOp} {t : TypeId} {x : Operand} : aops P G N all (⟨dst, .unOp op t x, ty, pos, af, none⟩ :: rest) env S K Pn =
    aunary op (env.ev G x) (atS (aNext P G N all rest dst env K Pn) S) := rfl
@[go_sem] theorem aops_convert {s t : TypeId} {x : Operand} : aops P G N all (⟨dst, .convert s t x, ty, pos, af, none⟩ :: rest) env S K Pn =
    aconv P s t (env.ev G x) (atS (aNext P G N all rest dst env K Pn) S) := rfl
@[go_sem] theorem aops_makeInterface {t : TypeId} {x : Operand} : aops P G N all (⟨dst, .makeInterface t x, ty, pos, af, none⟩ :: rest) env S K Pn =
    (tplain P t = true ∧ aNext P G N all rest dst env K Pn (.ifc t (env.ev G x)) S) := rfl
@[go_sem] theorem aops_makeFunc {f : Fn} {first caps : Array Operand} : aops P G N all (⟨dst, .makeFunc f first caps, ty, pos, af, none⟩ :: rest) env S K Pn =
    (first = #[] ∧ aNext P G N all rest dst env K Pn (.fn f (caps.toList.map (env.ev G))) S) := rfl
@[go_sem] theorem aops_slice {t : TypeId} {x : Operand} {lo hi mx : Option Operand} : aops P G N all (⟨dst, .slice t x lo hi mx, ty, pos, af, none⟩ :: rest) env S K Pn =
    aslice (tindex P t) (env.ev G x) (lo.map (env.ev G)) (hi.map (env.ev G)) (mx.map (env.ev G)) (atS (aNext P G N all rest dst env K Pn) S) := rfl
@[go_sem] theorem aops_fieldAddr {t : TypeId} {x : Operand} {f : Nat} : aops P G N all (⟨dst, .fieldAddr t x f, ty, pos, af, none⟩ :: rest) env S K Pn =
    afieldA (tfield P t f) (env.ev G x) (atS (aNext P G N all rest dst env K Pn) S) := rfl
@[go_sem] theorem aops_field {t : TypeId} {x : Operand} {f : Nat} : aops P G N all (⟨dst, .field t x f, ty, pos, af, none⟩ :: rest) env S K Pn =
    afieldV P (tfield P t f) (env.ev G x) (atS (aNext P G N all rest dst env K Pn) S) := rfl
@[go_sem] theorem aops_indexAddr {t : TypeId} {x i : Operand} : aops P G N all (⟨dst, .indexAddr t x i, ty, pos, af, none⟩ :: rest) env S K Pn =
    aindexAddr (tindex P t) (env.ev G x) (env.ev G i) (atS (aNext P G N all rest dst env K Pn) S) := rfl
@[go_sem] theorem aops_index {t : TypeId} {x i : Operand} : aops P G N all (⟨dst, .index t x i, ty, pos, af, none⟩ :: rest) env S K Pn =
    aindex (tindex P t) (env.ev G x) (env.ev G i) (atS (aNext P G N all rest dst env K Pn) S) := rfl
@[go_sem] theorem aops_extract {x : Operand} {i : Nat} : aops P G N all (⟨dst, .extract x i, ty, pos, af, none⟩ :: rest) env S K Pn =
    aextract (env.ev G x) i (atS (aNext P G N all rest dst env K Pn) S) := rfl
@[go_sem] theorem aops_typeAssert {x : Operand} {t u : TypeId} {ok : Bool} : aops P G N all (⟨dst, .typeAssert x t u ok, ty, pos, af, none⟩ :: rest) env S K Pn =
    aassert P u ok (env.ev G x) (atS (aNext P G N all rest dst env K Pn) S) := rfl
@[go_sem] theorem aops_panic {x : Operand} : aops P G N all (⟨dst, .panic x, ty, pos, af, none⟩ :: rest) env S K Pn =
    apanic (env.ev G x) (atS (Pn env) S) := rfl
@[go_sem] theorem aops_callv {f : Operand} {args : Array Operand} {ts : Array TypeId} : aops P G N all (⟨dst, .call ⟨.value f, args, ts⟩, ty, pos, af, none⟩ :: rest) env S K Pn =
    acall P G (env.ev G f) (args.toList.map (env.ev G)) S (aNext P G N all rest dst env K Pn) (Pn env) := rfl
@[go_sem] theorem aops_callb {b : Builtin} {args : Array Operand} {ts : Array TypeId} : aops P G N all (⟨dst, .call ⟨.builtin b, args, ts⟩, ty, pos, af, none⟩ :: rest) env S K Pn =
    abuiltin P b ts.toList (args.toList.map (env.ev G)) S (aNext P G N all rest dst env K Pn) := rfl
@[go_sem] theorem aops_binOp {op : BinOp} {t yt : TypeId} {x y : Operand} : aops P G N all (⟨dst, .binOp op t x y yt, ty, pos, af, none⟩ :: rest) env S K Pn =
    abinOp P op t (isNilConst x) (isNilConst y) (env.ev G x) (env.ev G y) (atS (aNext P G N all rest dst env K Pn) S) := rfl
@[go_sem] theorem aops_defer {f : Operand} {args : Array Operand} {ts : Array TypeId} : aops P G N all (⟨dst, .defer ⟨.value f, args, ts⟩, ty, pos, af, none⟩ :: rest) env S K Pn =
    adefer (env.ev G f) (args.toList.map (env.ev G)) env (skipK N dst (opsK P G N all rest S K Pn)) := rfl
end
end
end
end Go.Proofs.Abs
