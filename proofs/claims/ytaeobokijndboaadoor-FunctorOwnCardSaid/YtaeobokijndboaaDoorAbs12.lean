/- The abstract layer, part 12: the equations of regions that draw. -/
import Derived.Test.YtaeobokijndboaaDoorAbs11
set_option linter.unusedVariables false
namespace Go.Proofs.Abs
open Go

section
variable {P : Program} {G : Glob} {N : Nat} {all : List Oper} {keep : List Nat} {S0 S : St} {K : Env → St → Prop} {Pn : Env → AVal → St → Prop} {dst : Option Nat} {ty : TypeId} {pos : String} {af : Array Edge} {env : Env}

@[congr] theorem adraw_congr {s : Sched} {S S' : St} (h : S = S') : adraw P G N all keep S0 K Pn s env S = adraw P G N all keep S0 K Pn s env S' := by rw [h]
@[congr] theorem adrawAll_congr {l : List (Nat × Sched)} {S S' : St} (h : S = S') : adrawAll P G N all keep S0 K Pn l env S = adrawAll P G N all keep S0 K Pn l env S' := by rw [h]
@[go_sem] theorem adraw_done : adraw P G N all keep S0 K Pn .done env S = K env S := by simp only [adraw]
@[go_sem] theorem adraw_all {l : List (Nat × Sched)} : adraw P G N all keep S0 K Pn (.all l) env S = adrawAll P G N all keep S0 K Pn l env S := by simp only [adraw]
@[go_sem] theorem adrawAll_nil : adrawAll P G N all keep S0 K Pn [] env S = True := by simp only [adrawAll]

/-- one operation of the region, in the abstract -/
def atakeAt (P : Program) (G : Glob) (N : Nat) (all : List Oper) (keep : List Nat) (S0 : St) (K : Env → St → Prop) (Pn : Env → AVal → St → Prop) (o : Option Oper) (next : Sched) (env : Env) (S : St) : Prop :=
  match o with
  | some o => aguard all o.guard env (fun env => atake P G N keep S0 o env S fun env => adraw P G N all keep S0 K Pn next env S) (fun env => aput N o.dst skipV env fun env => adraw P G N all keep S0 K Pn next env S)
  | none => False
def astepAt (P : Program) (G : Glob) (N : Nat) (all : List Oper) (keep : List Nat) (S0 : St) (K : Env → St → Prop) (Pn : Env → AVal → St → Prop) (o : Option Oper) (next : Sched) (env : Env) (S : St) : Prop :=
  match o with
  | some o => aguard all o.guard env (fun env => astep P G N o env S (fun env S' => keeps keep S S' ∧ adraw P G N all keep S0 K Pn next env S') Pn) (fun env => aput N o.dst skipV env fun env => adraw P G N all keep S0 K Pn next env S)
  | none => False
@[congr] theorem atakeAt_congr {o o' : Option Oper} {next : Sched} {S S' : St} (h : o = o') (h2 : S = S') : atakeAt P G N all keep S0 K Pn o next env S = atakeAt P G N all keep S0 K Pn o' next env S' := by rw [h, h2]
@[congr] theorem astepAt_congr {o o' : Option Oper} {next : Sched} {S S' : St} (h : o = o') (h2 : S = S') : astepAt P G N all keep S0 K Pn o next env S = astepAt P G N all keep S0 K Pn o' next env S' := by rw [h, h2]
@[go_sem] theorem adraw_take {i : Nat} {next : Sched} : adraw P G N all keep S0 K Pn (.take i next) env S = atakeAt P G N all keep S0 K Pn (all[i]?) next env S := by
  simp only [adraw, atakeAt]
  cases all[i]? <;> rfl
def alastAt (P : Program) (G : Glob) (N : Nat) (all : List Oper) (K : Env → St → Prop) (Pn : Env → AVal → St → Prop) (o : Option Oper) (env : Env) (S : St) : Prop := match o with
  | some o => aops P G N all [o] env S K Pn
  | none => False
@[congr] theorem alastAt_congr {o o' : Option Oper} {S S' : St} (h : o = o') (h2 : S = S') : alastAt P G N all K Pn o env S = alastAt P G N all K Pn o' env S' := by rw [h, h2]
@[go_sem] theorem alastAt_some {o : Oper} : alastAt P G N all K Pn (some o) env S = aops P G N all [o] env S K Pn := rfl
@[go_sem] theorem adraw_last {i : Nat} : adraw P G N all keep S0 K Pn (.last i) env S = alastAt P G N all K Pn (all[i]?) env S := by
  simp only [adraw, alastAt]
  cases all[i]? <;> rfl
@[go_sem] theorem adrawAll_cons {i : Nat} {next : Sched} {l : List (Nat × Sched)} : adrawAll P G N all keep S0 K Pn ((i, next) :: l) env S = (astepAt P G N all keep S0 K Pn (all[i]?) next env S ∧ adrawAll P G N all keep S0 K Pn l env S) := by
  simp only [adrawAll, astepAt]
  cases all[i]? <;> rfl

def ignS (K : AVal → Prop) (v : AVal) (_ : St) : Prop := K v
@[go_sem] theorem ignS_app {K : AVal → Prop} {v : AVal} : ignS K v S = K v := rfl
/-- what follows a step taken first -/
def tNext (P : Program) (G : Glob) (N : Nat) (all : List Oper) (keep : List Nat) (S0 : St) (K : Env → St → Prop) (Pn : Env → AVal → St → Prop) (next : Sched) (dst : Option Nat) (env : Env) (S : St) (v : AVal) : Prop :=
  aput N dst v env fun env => adraw P G N all keep S0 K Pn next env S
@[congr] theorem tNext_congr {next : Sched} {v v' : AVal} (h : v = v') : tNext P G N all keep S0 K Pn next dst env S v = tNext P G N all keep S0 K Pn next dst env S v' := by rw [h]
@[go_sem] theorem tNext_some {next : Sched} {x : Nat} {m : List (Nat × AVal)} {d : List Deferred} {v : AVal} : tNext P G N all keep S0 K Pn next (some x) ⟨m, d⟩ S v = (x < N ∧ adraw P G N all keep S0 K Pn next ⟨(x, v) :: m, d⟩ S) := rfl
@[go_sem] theorem tNext_none {next : Sched} {v : AVal} : tNext P G N all keep S0 K Pn next none env S v = adraw P G N all keep S0 K Pn next env S := rfl
/-- what follows a step that may do more -/
def sNext (P : Program) (G : Glob) (N : Nat) (all : List Oper) (keep : List Nat) (S0 : St) (K : Env → St → Prop) (Pn : Env → AVal → St → Prop) (next : Sched) (dst : Option Nat) (env : Env) (S : St) (v : AVal) (S' : St) : Prop :=
  keeps keep S S' ∧ aput N dst v env fun env => adraw P G N all keep S0 K Pn next env S'
@[congr] theorem sNext_congr {next : Sched} {v v' : AVal} {S1 S2 : St} (h : v = v') (h2 : S1 = S2) : sNext P G N all keep S0 K Pn next dst env S v S1 = sNext P G N all keep S0 K Pn next dst env S v' S2 := by rw [h, h2]
@[go_sem] theorem sNext_some {next : Sched} {x : Nat} {m : List (Nat × AVal)} {d : List Deferred} {v : AVal} {S' : St} : sNext P G N all keep S0 K Pn next (some x) ⟨m, d⟩ S v S' = (keeps keep S S' ∧ x < N ∧ adraw P G N all keep S0 K Pn next ⟨(x, v) :: m, d⟩ S') := rfl
@[go_sem] theorem sNext_none {next : Sched} {v : AVal} {S' : St} : sNext P G N all keep S0 K Pn next none env S v S' = (keeps keep S S' ∧ adraw P G N all keep S0 K Pn next env S') := rfl
@[go_sem] theorem keeps_same {k : List Nat} {S : St} : keeps k S S = True := by simp [keeps]
@[go_sem] theorem keeps_nil {S S' : St} : keeps [] S S' = True := by simp [keeps]
@[go_sem] theorem keeps_cons {b : Nat} {k : List Nat} {S S' : St} : keeps (b :: k) S S' = (S'.get b = S.get b ∧ keeps k S S') := by simp [keeps]
@[congr] theorem aloadK_congr {k k' : Option (Option Nat)} {p p' : AVal} {K : AVal → Prop} (h : k = k') (h2 : p = p') : aloadK keep k p S0 K = aloadK keep k' p' S0 K := by rw [h, h2]
@[go_sem] theorem aloadK_rp {k : Option (Option Nat)} {cs : List AVal} {o : Nat} {K : AVal → Prop} : aloadK keep k (.rp cs o) S0 K = acut k cs o K := rfl
@[go_sem] theorem aloadK_ptr {k : Option (Option Nat)} {b o : Nat} {K : AVal → Prop} : aloadK keep k (.lit (.pointer (some ⟨b, o, none⟩))) S0 K = (b ∈ keep ∧ aboxed (S0.get b) (cutK k o K)) := rfl

def takeK (P : Program) (G : Glob) (N : Nat) (all : List Oper) (keep : List Nat) (S0 : St) (K : Env → St → Prop) (Pn : Env → AVal → St → Prop) (o : Option Oper) (next : Sched) (S : St) (env : Env) : Prop := atakeAt P G N all keep S0 K Pn o next env S
def stepK (P : Program) (G : Glob) (N : Nat) (all : List Oper) (keep : List Nat) (S0 : St) (K : Env → St → Prop) (Pn : Env → AVal → St → Prop) (o : Option Oper) (next : Sched) (S : St) (env : Env) : Prop := astepAt P G N all keep S0 K Pn o next env S
def drawK (P : Program) (G : Glob) (N : Nat) (all : List Oper) (keep : List Nat) (S0 : St) (K : Env → St → Prop) (Pn : Env → AVal → St → Prop) (next : Sched) (S : St) (env : Env) : Prop := adraw P G N all keep S0 K Pn next env S
@[go_sem] theorem takeK_app {o : Option Oper} {next : Sched} : takeK P G N all keep S0 K Pn o next S env = atakeAt P G N all keep S0 K Pn o next env S := rfl
@[go_sem] theorem stepK_app {o : Option Oper} {next : Sched} : stepK P G N all keep S0 K Pn o next S env = astepAt P G N all keep S0 K Pn o next env S := rfl
@[go_sem] theorem drawK_app {next : Sched} : drawK P G N all keep S0 K Pn next S env = adraw P G N all keep S0 K Pn next env S := rfl
@[go_sem] theorem atakeAt_guard {op : Op} {j : Nat} {want : Bool} {next : Sched} : atakeAt P G N all keep S0 K Pn (some ⟨dst, op, ty, pos, af, some (j, want)⟩) next env S =
    aguardAt' (dstOf (all[j]?)) want env (takeK P G N all keep S0 K Pn (some ⟨dst, op, ty, pos, af, none⟩) next S) (skipK N dst (drawK P G N all keep S0 K Pn next S)) := by
  simp only [atakeAt, aguard, aguardAt', dstOf]
  rfl
@[go_sem] theorem astepAt_guard {op : Op} {j : Nat} {want : Bool} {next : Sched} : astepAt P G N all keep S0 K Pn (some ⟨dst, op, ty, pos, af, some (j, want)⟩) next env S =
    aguardAt' (dstOf (all[j]?)) want env (stepK P G N all keep S0 K Pn (some ⟨dst, op, ty, pos, af, none⟩) next S) (skipK N dst (drawK P G N all keep S0 K Pn next S)) := by
  simp only [astepAt, aguard, aguardAt', dstOf]
  rfl
@[go_sem] theorem atakeAt_move {x : Operand} {next : Sched} : atakeAt P G N all keep S0 K Pn (some ⟨dst, .move x, ty, pos, af, none⟩) next env S =
    (tNext P G N all keep S0 K Pn next dst env S (env.ev G x)) := rfl
@[go_sem] theorem atakeAt_assign {x : Operand} {next : Sched} : atakeAt P G N all keep S0 K Pn (some ⟨dst, .assign x, ty, pos, af, none⟩) next env S =
    (tNext P G N all keep S0 K Pn next dst env S (env.ev G x)) := rfl
@[go_sem] theorem atakeAt_pick {c a b : Operand} {next : Sched} : atakeAt P G N all keep S0 K Pn (some ⟨dst, .pick c a b, ty, pos, af, none⟩) next env S =
    abool (env.ev G c) (tNext P G N all keep S0 K Pn next dst env S (env.ev G a)) (tNext P G N all keep S0 K Pn next dst env S (env.ev G b)) := rfl
@[go_sem] theorem atakeAt_nilCheck {x : Operand} {next : Sched} : atakeAt P G N all keep S0 K Pn (some ⟨dst, .nilCheck x, ty, pos, af, none⟩) next env S =
    anil (env.ev G x) (tNext P G N all keep S0 K Pn next dst env S (env.ev G x)) := rfl
@[go_sem] theorem atakeAt_unOp {op : UnOp} {t : TypeId} {x : Operand} {next : Sched} : atakeAt P G N all keep S0 K Pn (some ⟨dst, .unOp op t x, ty, pos, af, none⟩) next env S =
    aunary op (env.ev G x) (tNext P G N all keep S0 K Pn next dst env S) := rfl
@[go_sem] theorem atakeAt_convert {s t : TypeId} {x : Operand} {next : Sched} : atakeAt P G N all keep S0 K Pn (some ⟨dst, .convert s t x, ty, pos, af, none⟩) next env S =
    aconv P s t (env.ev G x) (tNext P G N all keep S0 K Pn next dst env S) := rfl
@[go_sem] theorem atakeAt_makeInterface {t : TypeId} {x : Operand} {next : Sched} : atakeAt P G N all keep S0 K Pn (some ⟨dst, .makeInterface t x, ty, pos, af, none⟩) next env S =
    (tplain P t = true ∧ tNext P G N all keep S0 K Pn next dst env S (.ifc t (env.ev G x))) := rfl
@[go_sem] theorem atakeAt_makeFunc {f : Fn} {first caps : Array Operand} {next : Sched} : atakeAt P G N all keep S0 K Pn (some ⟨dst, .makeFunc f first caps, ty, pos, af, none⟩) next env S =
    (first = #[] ∧ tNext P G N all keep S0 K Pn next dst env S (.fn f (caps.toList.map (env.ev G)))) := rfl
@[go_sem] theorem atakeAt_slice {t : TypeId} {x : Operand} {lo hi mx : Option Operand} {next : Sched} : atakeAt P G N all keep S0 K Pn (some ⟨dst, .slice t x lo hi mx, ty, pos, af, none⟩) next env S =
    aslice (tindex P t) (env.ev G x) (lo.map (env.ev G)) (hi.map (env.ev G)) (mx.map (env.ev G)) (tNext P G N all keep S0 K Pn next dst env S) := rfl
@[go_sem] theorem atakeAt_fieldAddr {t : TypeId} {x : Operand} {f : Nat} {next : Sched} : atakeAt P G N all keep S0 K Pn (some ⟨dst, .fieldAddr t x f, ty, pos, af, none⟩) next env S =
    afieldA (tfield P t f) (env.ev G x) (tNext P G N all keep S0 K Pn next dst env S) := rfl
@[go_sem] theorem atakeAt_field {t : TypeId} {x : Operand} {f : Nat} {next : Sched} : atakeAt P G N all keep S0 K Pn (some ⟨dst, .field t x f, ty, pos, af, none⟩) next env S =
    afieldV P (tfield P t f) (env.ev G x) (tNext P G N all keep S0 K Pn next dst env S) := rfl
@[go_sem] theorem atakeAt_indexAddr {t : TypeId} {x i : Operand} {next : Sched} : atakeAt P G N all keep S0 K Pn (some ⟨dst, .indexAddr t x i, ty, pos, af, none⟩) next env S =
    aindexAddr (tindex P t) (env.ev G x) (env.ev G i) (tNext P G N all keep S0 K Pn next dst env S) := rfl
@[go_sem] theorem atakeAt_index {t : TypeId} {x i : Operand} {next : Sched} : atakeAt P G N all keep S0 K Pn (some ⟨dst, .index t x i, ty, pos, af, none⟩) next env S =
    aindex (tindex P t) (env.ev G x) (env.ev G i) (tNext P G N all keep S0 K Pn next dst env S) := rfl
@[go_sem] theorem atakeAt_extract {x : Operand} {i : Nat} {next : Sched} : atakeAt P G N all keep S0 K Pn (some ⟨dst, .extract x i, ty, pos, af, none⟩) next env S =
    aextract (env.ev G x) i (tNext P G N all keep S0 K Pn next dst env S) := rfl
@[go_sem] theorem atakeAt_binOp {op : BinOp} {t yt : TypeId} {x y : Operand} {next : Sched} : atakeAt P G N all keep S0 K Pn (some ⟨dst, .binOp op t x y yt, ty, pos, af, none⟩) next env S =
    abinOp P op t (isNilConst x) (isNilConst y) (env.ev G x) (env.ev G y) (tNext P G N all keep S0 K Pn next dst env S) := rfl
@[go_sem] theorem atakeAt_load {t : TypeId} {p : Operand} {next : Sched} : atakeAt P G N all keep S0 K Pn (some ⟨dst, .load t p, ty, pos, af, none⟩) next env S =
    aloadK keep (tkind P t) (env.ev G p) S0 (tNext P G N all keep S0 K Pn next dst env S) := rfl
@[go_sem] theorem atakeAt_len {args : Array Operand} {ts : Array TypeId} {next : Sched} : atakeAt P G N all keep S0 K Pn (some ⟨dst, .call ⟨.builtin .len, args, ts⟩, ty, pos, af, none⟩) next env S =
    abuiltin P .len ts.toList (args.toList.map (env.ev G)) S (ignS (tNext P G N all keep S0 K Pn next dst env S)) := rfl
@[go_sem] theorem atakeAt_min {args : Array Operand} {ts : Array TypeId} {next : Sched} : atakeAt P G N all keep S0 K Pn (some ⟨dst, .call ⟨.builtin .min, args, ts⟩, ty, pos, af, none⟩) next env S =
    abuiltin P .min ts.toList (args.toList.map (env.ev G)) S (ignS (tNext P G N all keep S0 K Pn next dst env S)) := rfl
@[go_sem] theorem atakeAt_max {args : Array Operand} {ts : Array TypeId} {next : Sched} : atakeAt P G N all keep S0 K Pn (some ⟨dst, .call ⟨.builtin .max, args, ts⟩, ty, pos, af, none⟩) next env S =
    abuiltin P .max ts.toList (args.toList.map (env.ev G)) S (ignS (tNext P G N all keep S0 K Pn next dst env S)) := rfl
theorem astep_keeps_aput {k : List Nat} {S' : St} {v : AVal} {f : Env → Prop} {dst : Option Nat} : aput N dst v env (fun env => keeps k S S' ∧ f env) ↔ (keeps k S S' ∧ aput N dst v env f) := by
  cases dst with
  | none => exact Iff.rfl
  | some d => simp only [aput]; exact ⟨fun h => ⟨h.2.1, h.1, h.2.2⟩, fun h => ⟨h.2.1, h.1, h.2.2⟩⟩
theorem sNext_fun {next : Sched} : (fun v S' => aput N dst v env fun env => keeps keep S S' ∧ adraw P G N all keep S0 K Pn next env S') = sNext P G N all keep S0 K Pn next dst env S := by
  funext v S'
  exact propext astep_keeps_aput
@[go_sem] theorem astepAt_move {x : Operand} {next : Sched} : astepAt P G N all keep S0 K Pn (some ⟨dst, .move x, ty, pos, af, none⟩) next env S =
    (sNext P G N all keep S0 K Pn next dst env S (env.ev G x) S) := by
  rw [← sNext_fun]; rfl
@[go_sem] theorem astepAt_assign {x : Operand} {next : Sched} : astepAt P G N all keep S0 K Pn (some ⟨dst, .assign x, ty, pos, af, none⟩) next env S =
    (sNext P G N all keep S0 K Pn next dst env S (env.ev G x) S) := by
  rw [← sNext_fun]; rfl
@[go_sem] theorem astepAt_pick {c a b : Operand} {next : Sched} : astepAt P G N all keep S0 K Pn (some ⟨dst, .pick c a b, ty, pos, af, none⟩) next env S =
    abool (env.ev G c) (sNext P G N all keep S0 K Pn next dst env S (env.ev G a) S) (sNext P G N all keep S0 K Pn next dst env S (env.ev G b) S) := by
  rw [← sNext_fun]; rfl
@[go_sem] theorem astepAt_nilCheck {x : Operand} {next : Sched} : astepAt P G N all keep S0 K Pn (some ⟨dst, .nilCheck x, ty, pos, af, none⟩) next env S =
    anil (env.ev G x) (sNext P G N all keep S0 K Pn next dst env S (env.ev G x) S) := by
  rw [← sNext_fun]; rfl
@[go_sem] theorem astepAt_unOp {op : UnOp} {t : TypeId} {x : Operand} {next : Sched} : astepAt P G N all keep S0 K Pn (some ⟨dst, .unOp op t x, ty, pos, af, none⟩) next env S =
    aunary op (env.ev G x) (atS (sNext P G N all keep S0 K Pn next dst env S) S) := by
  rw [← sNext_fun]; rfl
@[go_sem] theorem astepAt_convert {s t : TypeId} {x : Operand} {next : Sched} : astepAt P G N all keep S0 K Pn (some ⟨dst, .convert s t x, ty, pos, af, none⟩) next env S =
    aconv P s t (env.ev G x) (atS (sNext P G N all keep S0 K Pn next dst env S) S) := by
  rw [← sNext_fun]; rfl
@[go_sem] theorem astepAt_makeInterface {t : TypeId} {x : Operand} {next : Sched} : astepAt P G N all keep S0 K Pn (some ⟨dst, .makeInterface t x, ty, pos, af, none⟩) next env S =
    (tplain P t = true ∧ sNext P G N all keep S0 K Pn next dst env S (.ifc t (env.ev G x)) S) := by
  rw [← sNext_fun]; rfl
@[go_sem] theorem astepAt_makeFunc {f : Fn} {first caps : Array Operand} {next : Sched} : astepAt P G N all keep S0 K Pn (some ⟨dst, .makeFunc f first caps, ty, pos, af, none⟩) next env S =
    (first = #[] ∧ sNext P G N all keep S0 K Pn next dst env S (.fn f (caps.toList.map (env.ev G))) S) := by
  rw [← sNext_fun]; rfl
@[go_sem] theorem astepAt_slice {t : TypeId} {x : Operand} {lo hi mx : Option Operand} {next : Sched} : astepAt P G N all keep S0 K Pn (some ⟨dst, .slice t x lo hi mx, ty, pos, af, none⟩) next env S =
    aslice (tindex P t) (env.ev G x) (lo.map (env.ev G)) (hi.map (env.ev G)) (mx.map (env.ev G)) (atS (sNext P G N all keep S0 K Pn next dst env S) S) := by
  rw [← sNext_fun]; rfl
@[go_sem] theorem astepAt_fieldAddr {t : TypeId} {x : Operand} {f : Nat} {next : Sched} : astepAt P G N all keep S0 K Pn (some ⟨dst, .fieldAddr t x f, ty, pos, af, none⟩) next env S =
    afieldA (tfield P t f) (env.ev G x) (atS (sNext P G N all keep S0 K Pn next dst env S) S) := by
  rw [← sNext_fun]; rfl
@[go_sem] theorem astepAt_field {t : TypeId} {x : Operand} {f : Nat} {next : Sched} : astepAt P G N all keep S0 K Pn (some ⟨dst, .field t x f, ty, pos, af, none⟩) next env S =
    afieldV P (tfield P t f) (env.ev G x) (atS (sNext P G N all keep S0 K Pn next dst env S) S) := by
  rw [← sNext_fun]; rfl
@[go_sem] theorem astepAt_indexAddr {t : TypeId} {x i : Operand} {next : Sched} : astepAt P G N all keep S0 K Pn (some ⟨dst, .indexAddr t x i, ty, pos, af, none⟩) next env S =
    aindexAddr (tindex P t) (env.ev G x) (env.ev G i) (atS (sNext P G N all keep S0 K Pn next dst env S) S) := by
  rw [← sNext_fun]; rfl
@[go_sem] theorem astepAt_index {t : TypeId} {x i : Operand} {next : Sched} : astepAt P G N all keep S0 K Pn (some ⟨dst, .index t x i, ty, pos, af, none⟩) next env S =
    aindex (tindex P t) (env.ev G x) (env.ev G i) (atS (sNext P G N all keep S0 K Pn next dst env S) S) := by
  rw [← sNext_fun]; rfl
@[go_sem] theorem astepAt_extract {x : Operand} {i : Nat} {next : Sched} : astepAt P G N all keep S0 K Pn (some ⟨dst, .extract x i, ty, pos, af, none⟩) next env S =
    aextract (env.ev G x) i (atS (sNext P G N all keep S0 K Pn next dst env S) S) := by
  rw [← sNext_fun]; rfl
@[go_sem] theorem astepAt_binOp {op : BinOp} {t yt : TypeId} {x y : Operand} {next : Sched} : astepAt P G N all keep S0 K Pn (some ⟨dst, .binOp op t x y yt, ty, pos, af, none⟩) next env S =
    abinOp P op t (isNilConst x) (isNilConst y) (env.ev G x) (env.ev G y) (atS (sNext P G N all keep S0 K Pn next dst env S) S) := by
  rw [← sNext_fun]; rfl
@[go_sem] theorem astepAt_alloc {e : TypeId} {next : Sched} : astepAt P G N all keep S0 K Pn (some ⟨dst, .alloc e, ty, pos, af, none⟩) next env S =
    aallocZ (tzero P e) S (sNext P G N all keep S0 K Pn next dst env S) := by
  rw [← sNext_fun]; rfl
@[go_sem] theorem astepAt_box {e : TypeId} {x : Operand} {next : Sched} : astepAt P G N all keep S0 K Pn (some ⟨dst, .box e x, ty, pos, af, none⟩) next env S =
    aflat (env.ev G x) (allocK S (sNext P G N all keep S0 K Pn next dst env S)) := by
  rw [← sNext_fun]; rfl
@[go_sem] theorem astepAt_build {t : TypeId} {parts : Array (Nat × Operand)} {next : Sched} : astepAt P G N all keep S0 K Pn (some ⟨dst, .build t parts, ty, pos, af, none⟩) next env S =
    abuildZ P t (tzero P t) (partsEv G env parts.toList) (atS (sNext P G N all keep S0 K Pn next dst env S) S) := by
  rw [← sNext_fun, partsEv_eq]; rfl
@[go_sem] theorem astepAt_buildSlice {t : TypeId} {len : Nat} {parts : Array (Nat × Operand)} {next : Sched} : astepAt P G N all keep S0 K Pn (some ⟨dst, .buildSlice t len parts, ty, pos, af, none⟩) next env S =
    abuildS G.mark (telem P t) len (partsEv G env parts.toList) (atS (sNext P G N all keep S0 K Pn next dst env S) S) := by
  rw [← sNext_fun, partsEv_eq]; rfl
@[go_sem] theorem astepAt_load {t : TypeId} {p : Operand} {next : Sched} : astepAt P G N all keep S0 K Pn (some ⟨dst, .load t p, ty, pos, af, none⟩) next env S =
    aload (tkind P t) (env.ev G p) S (atS (sNext P G N all keep S0 K Pn next dst env S) S) := by
  rw [← sNext_fun]; rfl
@[go_sem] theorem astepAt_store {t : TypeId} {p v : Operand} {next : Sched} : astepAt P G N all keep S0 K Pn (some ⟨dst, .store t p v, ty, pos, af, none⟩) next env S =
    astore (tsize P t) (env.ev G p) (env.ev G v) S (withV (sNext P G N all keep S0 K Pn next dst env S) .any) := by
  rw [← sNext_fun]; rfl
@[go_sem] theorem astepAt_typeAssert {x : Operand} {t u : TypeId} {ok : Bool} {next : Sched} : astepAt P G N all keep S0 K Pn (some ⟨dst, .typeAssert x t u ok, ty, pos, af, none⟩) next env S =
    aassert P u ok (env.ev G x) (atS (sNext P G N all keep S0 K Pn next dst env S) S) := by
  rw [← sNext_fun]; rfl
@[go_sem] theorem astepAt_panic {x : Operand} {next : Sched} : astepAt P G N all keep S0 K Pn (some ⟨dst, .panic x, ty, pos, af, none⟩) next env S =
    apanic (env.ev G x) (atS (Pn env) S) := rfl
@[go_sem] theorem astepAt_callv {f : Operand} {args : Array Operand} {ts : Array TypeId} {next : Sched} : astepAt P G N all keep S0 K Pn (some ⟨dst, .call ⟨.value f, args, ts⟩, ty, pos, af, none⟩) next env S =
    acall P G (env.ev G f) (args.toList.map (env.ev G)) S (sNext P G N all keep S0 K Pn next dst env S) (Pn env) := by
  rw [← sNext_fun]; rfl
@[go_sem] theorem astepAt_callb {b : Builtin} {args : Array Operand} {ts : Array TypeId} {next : Sched} : astepAt P G N all keep S0 K Pn (some ⟨dst, .call ⟨.builtin b, args, ts⟩, ty, pos, af, none⟩) next env S =
    abuiltin P b ts.toList (args.toList.map (env.ev G)) S (sNext P G N all keep S0 K Pn next dst env S) := by
  rw [← sNext_fun]; rfl
end
end Go.Proofs.Abs
namespace Go.Proofs.Abs
open Go
theorem awp_drawL {P : Program} {G : Glob} {N : Nat} {id : Nat} {l : List Oper} {Q : AExit → Env → St → Prop} {env : Env} {S : St} (hm : P.follows .mixedOrders = true) (s : Sched) (keep : List Nat)
    (hok : (Region.noSelect l.toArray && s.ok l.toArray l.toArray.size (Array.replicate l.toArray.size false) []) = true) (h : adraw P G N l keep S (Q .normal) (panD Q) s env S) : awp P G N (.region id l.toArray true) Q env S :=
  awp_draw hm s keep hok h
attribute [go_sem] List.map_cons List.map_nil List.cons_append List.nil_append List.append_nil List.getElem?_cons_zero List.getElem?_cons_succ Option.bind_some Option.map_some Option.map_none List.replicate_succ List.replicate_zero
  List.set_cons_zero List.set_cons_succ List.length_cons List.length_nil Option.isSome_some Option.isSome_none Option.isNone_some Option.isNone_none List.mem_cons List.take_succ_cons List.take_zero List.drop_succ_cons List.drop_zero
  Bool.not_true Bool.not_false decide_true decide_false ite_true ite_false Int.toNat_zero Int.toNat_one Int.toNat_natCast
end Go.Proofs.Abs
namespace Go.Proofs.Abs
open Go
/-- A loop by a state that goes down. -/
theorem ALoop_wf {P : Program} {G : Glob} {N : Nat} {c : Code} {Q : AExit → Env → St → Prop} {σ : Type} (μ : σ → Nat) (env : σ → Env) (st : σ → St) (I : σ → Prop)
    (step : ∀ s, I s → (∀ s', μ s' < μ s → I s' → ALoop P G N c Q (env s') (st s')) → awp P G N c (aThen (ALoop P G N c Q) Q) (env s) (st s)) (s : σ) (h : I s) : ALoop P G N c Q (env s) (st s) := by
  have key : ∀ n s, μ s = n → I s → ALoop P G N c Q (env s) (st s) := by
    intro n
    induction n using Nat.strongRecOn with
    | _ n ih =>
      intro s hn hs
      exact ALoop_unroll (step s hs fun s' hlt hs' => ih (μ s') (by omega) s' rfl hs')
  exact key _ s rfl h
/-- The same, entered and left in any frame that says as much; what follows a round is a name. -/
theorem ALoop_start {P : Program} {G : Glob} {N : Nat} {c : Code} {Q : AExit → Env → St → Prop} {σ : Type} (μ : σ → Nat) (env : σ → Env) (st : σ → St) (I : σ → Prop) (s : σ) {e : Env} {S : St}
    (he : (env s).le e) (hS : Sub (st s) S) (h : I s)
    (step : ∀ s, I s → ∀ Again : Env → St → Prop, (∀ s', I s' → μ s' < μ s → ∀ e' S', (env s').le e' → Sub (st s') S' → Again e' S') → awp P G N c (aThen Again Q) (env s) (st s)) : ALoop P G N c Q e S :=
  ALoop_weak (ALoop_wf μ env st I (fun s hs ih => step s hs _ fun s' h4 h3 e' S' h1 h2 => ALoop_weak (ih s' h3 h4) h1 h2) s h) he hS
@[go_sem] theorem wrap_zero : IntKind.i64.wrap 0 = 0 := by decide
@[go_sem] theorem wrap_one : IntKind.i64.wrap 1 = 1 := by decide
@[go_sem] theorem wrap_2 : IntKind.i64.wrap 2 = 2 := by decide
@[go_sem] theorem wrap_3 : IntKind.i64.wrap 3 = 3 := by decide
@[go_sem] theorem wrap_4 : IntKind.i64.wrap 4 = 4 := by decide
@[go_sem] theorem wrap_5 : IntKind.i64.wrap 5 = 5 := by decide
@[go_sem] theorem wrap_6 : IntKind.i64.wrap 6 = 6 := by decide
@[go_sem] theorem wrap_7 : IntKind.i64.wrap 7 = 7 := by decide
@[go_sem] theorem wrap_8 : IntKind.i64.wrap 8 = 8 := by decide
@[go_sem] theorem wrap_9 : IntKind.i64.wrap 9 = 9 := by decide
@[go_sem] theorem wrap_10 : IntKind.i64.wrap 10 = 10 := by decide
@[go_sem] theorem wrap_11 : IntKind.i64.wrap 11 = 11 := by decide
@[go_sem] theorem wrap_12 : IntKind.i64.wrap 12 = 12 := by decide
@[go_sem] theorem wrap_13 : IntKind.i64.wrap 13 = 13 := by decide
@[go_sem] theorem wrap_14 : IntKind.i64.wrap 14 = 14 := by decide
@[go_sem] theorem wrap_15 : IntKind.i64.wrap 15 = 15 := by decide
@[go_sem] theorem wrap_16 : IntKind.i64.wrap 16 = 16 := by decide
@[go_sem] theorem wrap_17 : IntKind.i64.wrap 17 = 17 := by decide
@[go_sem] theorem wrap_18 : IntKind.i64.wrap 18 = 18 := by decide
@[go_sem] theorem wrap_19 : IntKind.i64.wrap 19 = 19 := by decide
@[go_sem] theorem wrap_20 : IntKind.i64.wrap 20 = 20 := by decide
@[go_sem] theorem wrap_21 : IntKind.i64.wrap 21 = 21 := by decide
@[go_sem] theorem wrap_22 : IntKind.i64.wrap 22 = 22 := by decide
@[go_sem] theorem wrap_23 : IntKind.i64.wrap 23 = 23 := by decide
@[go_sem] theorem wrap_24 : IntKind.i64.wrap 24 = 24 := by decide
@[go_sem] theorem wrap_25 : IntKind.i64.wrap 25 = 25 := by decide
@[go_sem] theorem wrap_26 : IntKind.i64.wrap 26 = 26 := by decide
@[go_sem] theorem wrap_27 : IntKind.i64.wrap 27 = 27 := by decide
@[go_sem] theorem wrap_28 : IntKind.i64.wrap 28 = 28 := by decide
@[go_sem] theorem wrap_29 : IntKind.i64.wrap 29 = 29 := by decide
@[go_sem] theorem wrap_30 : IntKind.i64.wrap 30 = 30 := by decide
@[go_sem] theorem wrap_31 : IntKind.i64.wrap 31 = 31 := by decide
@[go_sem] theorem wrap_32 : IntKind.i64.wrap 32 = 32 := by decide
@[go_sem] theorem wrap_33 : IntKind.i64.wrap 33 = 33 := by decide
@[go_sem] theorem wrap_34 : IntKind.i64.wrap 34 = 34 := by decide
@[go_sem] theorem wrap_35 : IntKind.i64.wrap 35 = 35 := by decide
@[go_sem] theorem wrap_36 : IntKind.i64.wrap 36 = 36 := by decide
@[go_sem] theorem wrap_37 : IntKind.i64.wrap 37 = 37 := by decide
@[go_sem] theorem wrap_38 : IntKind.i64.wrap 38 = 38 := by decide
@[go_sem] theorem wrap_39 : IntKind.i64.wrap 39 = 39 := by decide
@[go_sem] theorem wrap_40 : IntKind.i64.wrap 40 = 40 := by decide
@[go_sem] theorem wrap_41 : IntKind.i64.wrap 41 = 41 := by decide
@[go_sem] theorem wrap_42 : IntKind.i64.wrap 42 = 42 := by decide
@[go_sem] theorem wrap_43 : IntKind.i64.wrap 43 = 43 := by decide
@[go_sem] theorem wrap_44 : IntKind.i64.wrap 44 = 44 := by decide
@[go_sem] theorem wrap_45 : IntKind.i64.wrap 45 = 45 := by decide
@[go_sem] theorem wrap_46 : IntKind.i64.wrap 46 = 46 := by decide
@[go_sem] theorem wrap_47 : IntKind.i64.wrap 47 = 47 := by decide
@[go_sem] theorem wrap_48 : IntKind.i64.wrap 48 = 48 := by decide
@[go_sem] theorem wrap_49 : IntKind.i64.wrap 49 = 49 := by decide
@[go_sem] theorem wrap_50 : IntKind.i64.wrap 50 = 50 := by decide
@[go_sem] theorem wrap_51 : IntKind.i64.wrap 51 = 51 := by decide
@[go_sem] theorem wrap_52 : IntKind.i64.wrap 52 = 52 := by decide
@[go_sem] theorem wrap_53 : IntKind.i64.wrap 53 = 53 := by decide
@[go_sem] theorem wrap_54 : IntKind.i64.wrap 54 = 54 := by decide
@[go_sem] theorem wrap_55 : IntKind.i64.wrap 55 = 55 := by decide
@[go_sem] theorem wrap_56 : IntKind.i64.wrap 56 = 56 := by decide
@[go_sem] theorem wrap_57 : IntKind.i64.wrap 57 = 57 := by decide
@[go_sem] theorem wrap_58 : IntKind.i64.wrap 58 = 58 := by decide
@[go_sem] theorem wrap_59 : IntKind.i64.wrap 59 = 59 := by decide
@[go_sem] theorem wrap_60 : IntKind.i64.wrap 60 = 60 := by decide
@[go_sem] theorem wrap_61 : IntKind.i64.wrap 61 = 61 := by decide
@[go_sem] theorem wrap_62 : IntKind.i64.wrap 62 = 62 := by decide
@[go_sem] theorem wrap_63 : IntKind.i64.wrap 63 = 63 := by decide
@[go_sem] theorem wrap_64 : IntKind.i64.wrap 64 = 64 := by decide
@[go_sem] theorem wrap_100 : IntKind.i64.wrap 100 = 100 := by decide
@[go_sem] theorem wrap_128 : IntKind.i64.wrap 128 = 128 := by decide
@[go_sem] theorem wrap_256 : IntKind.i64.wrap 256 = 256 := by decide
@[go_sem] theorem wrap_1000 : IntKind.i64.wrap 1000 = 1000 := by decide
end Go.Proofs.Abs
