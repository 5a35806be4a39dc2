/- The abstract layer, part 3: calls, frames, and the evaluator of operations. -/
import Derived.Test.YtaeobokijndboaaDoorAbs2
set_option linter.unusedVariables false
namespace Go.Proofs.Abs
open Go

inductive AEnd where
  | ret (v : AVal)
  | pan (v : AVal)

def relE (r : RO) : AEnd → Ending → Prop
  | .ret a, .returned v => rel r a v
  | .pan a, .panicked chain => ∃ v, chain = [{ v, recovered := false }] ∧ rel r a v
  | _, _ => False

/-- In every world that fits S, called with values that fit 'args', the function ends as R says. -/
def ACalls (P : Program) (G : Glob) (f : FuncId) (args : List AVal) (S : St) (R : AEnd → St → Prop) : Prop :=
  ∀ w vs, Sim G S w → relL (ro S w) args vs.toList →
    Calls P f vs w fun e w' => ∃ ae S', R ae S' ∧ Sim G S' w' ∧ Ext S w S' w' ∧ relE (ro S' w') ae e

theorem ACalls.mono {P : Program} {G : Glob} {f : FuncId} {args : List AVal} {S : St} {R R' : AEnd → St → Prop} (h : ACalls P G f args S R) (hr : ∀ e S', R e S' → R' e S') :
    ACalls P G f args S R' := fun w vs hs hv => (h w vs hs hv).mono fun e w' ⟨ae, S', h1, h2⟩ => ⟨ae, S', hr _ _ h1, h2⟩

abbrev ptr (b off : Nat) : AVal := .lit (.pointer (some ⟨b, off, none⟩))
abbrev bool (b : Bool) : AVal := .lit (.bool b)
abbrev int (k : IntKind) (n : Int) : AVal := .lit (.int k n)
abbrev str (l : List UInt8) : AVal := .lit (.string ⟨l.toArray⟩)

/-! ### frames -/

structure Env where
  m : List (Nat × AVal)
  d : List Deferred

def look : List (Nat × AVal) → Nat → AVal
  | [], _ => .any
  | (k, v) :: m, t => if k = t then v else look m t

def Env.put (env : Env) (t : Nat) (v : AVal) : Env := ⟨(t, v) :: env.m, env.d⟩

def ofConst1 : Value → AVal
  | .slice none 0 0 => .sl 0 [] (.own none)
  | .func f first caps => if first = #[] ∧ caps = #[] then .fn f [] else .any
  | .tuple _ => .any
  | .agg _ => .any
  | v => .lit v
def ofConst : Value → AVal
  | .agg cs => if cs.toList.all (fun v => (ofConst1 v).isCell) then .agg (cs.toList.map ofConst1) else .any
  | v => ofConst1 v

def Env.ev (G : Glob) (env : Env) : Operand → AVal
  | .tmp t => look env.m t
  | .const v => ofConst v
  | .global g => match G g with
    | some cs => .rp cs 0
    | none => ptr g 0
  | .func f => .fn (.func f) []

structure relEnv (N : Nat) (r : RO) (env : Env) (a : Act) : Prop where
  size : a.tmps.size = N
  tmp : ∀ t, rel r (look env.m t) (a.tmps.getD t undef)
  defers : a.defers = env.d

theorem relEnv_mono {N : Nat} {r r' : RO} {env : Env} {a : Act} (h : relEnv N r env a) (hr : r.le r') : relEnv N r' env a :=
  ⟨h.size, fun t => rel_mono hr _ _ (h.tmp t), h.defers⟩

theorem relEnv_put {N : Nat} {r : RO} {env : Env} {a : Act} (h : relEnv N r env a) {d : Nat} {v : AVal} {u : Value} (hd : d < N) (hv : rel r v u) : relEnv N r (env.put d v) (a.put (some d) u) := by
  refine ⟨by simp [Act.put, h.size], fun t => ?_, h.defers⟩
  simp only [Env.put, look, Act.put]
  by_cases ht : d = t
  · subst ht; simp [Array.getD, Array.size_setIfInBounds, h.size, hd]; exact hv
  · rw [if_neg ht]
    have := h.tmp t
    simp only [Array.getD_eq_getD_getElem?] at this ⊢
    rw [Array.getElem?_setIfInBounds_ne ht]
    exact this

theorem rel_any {r : RO} {u : Value} : rel r .any u := by simp only [rel]
theorem rel_lit {r : RO} {v : Value} (h : v.oneCell' = true) : rel r (.lit v) v := by simp only [rel]; exact ⟨trivial, h⟩

theorem rel_ofConst1 {r : RO} (v : Value) : rel r (ofConst1 v) v := by
  unfold ofConst1
  split
  · simp only [rel]; exact ⟨none, 0, by simp, Nat.le_refl _, Nat.zero_le _, by simp [growOk], .inl (by simp)⟩
  · rename_i f first caps
    split
    · rename_i h; obtain ⟨rfl, rfl⟩ := h
      simp only [rel]; exact ⟨#[], rfl, by simp [relL]⟩
    · exact rel_any
  · exact rel_any
  · exact rel_any
  · rename_i h1 h2 h3 h4
    refine rel_lit ?_
    cases v <;> simp_all [Value.oneCell']

def constOk : Value → Bool
  | .agg cs => cs.toList.all fun v => (ofConst1 v).isCell
  | _ => true

theorem relF_ofConst {r : RO} : ∀ {cs : List Value}, cs.all (fun v => (ofConst1 v).isCell) = true → relF r (cs.map ofConst1) cs
  | [], h => by simp [relF]
  | v :: cs, h => by
    simp only [List.all_cons, Bool.and_eq_true] at h
    simp only [List.map_cons, relF]
    exact ⟨v, cs, rfl, h.1, rel_ofConst1 v, relF_ofConst h.2⟩

theorem rel_ofConst {r : RO} (v : Value) : rel r (ofConst v) v := by
  cases v with
  | agg cs =>
    simp only [ofConst]
    split
    · rename_i h; simp only [rel]; exact ⟨cs, rfl, relF_ofConst h⟩
    · exact rel_any
  | _ => simp only [ofConst]; exact rel_ofConst1 _

theorem rel_ev {G : Glob} {S : St} {w : World} {N : Nat} {env : Env} {a : Act} (hs : Sim G S w) (h : relEnv N (ro S w) env a) (x : Operand) : rel (ro S w) (env.ev G x) (a.eval x) := by
  cases x with
  | tmp t => exact h.tmp t
  | const v => exact rel_ofConst v
  | global g =>
    simp only [Env.ev, Act.eval]
    cases hg : G g with
    | none => exact rel_lit rfl
    | some cs => simp only [rel]; exact ⟨g, 0, rfl, hs.glob g cs hg⟩
  | func f => simp only [Env.ev, Act.eval, rel]; exact ⟨#[], rfl, by simp [relL]⟩

/-! ### what the program's types say -/

/-- none: not known; some none: a type of one cell; some (some n): a struct or an array of n cells -/
def tkind (P : Program) (t : TypeId) : Option (Option Nat) :=
  match P.underlying t with
  | none => none
  | some (.struct _) | some (.array _ _) => (P.info? t).map fun i => some i.size
  | some _ => some none
def tsize (P : Program) (t : TypeId) : Option Nat := (P.info? t).map (·.size)
def tzero (P : Program) (t : TypeId) : Option (List AVal) := ((P.info? t).bind (·.zero)).bind fun z => if constOk (.agg z.cells) then some (z.cells.toList.map ofConst1) else none
def tzeroV (P : Program) (t : TypeId) : Option AVal := ((P.info? t).bind (·.zero)).bind fun z => if constOk z then some (ofConst z) else none
def tstruct (P : Program) (t : TypeId) : Bool := match P.underlying t with | some (.struct fs) => fs.toList.all fun f => (tsize P f.type).isSome | _ => false
/-- the offset of a field, and its type -/
def tfield (P : Program) (t : TypeId) (f : Nat) : Option (Nat × TypeId) :=
  match P.underlying t with
  | some (.struct fs) => match fs[f]? with
    | some fd => if tsize P fd.type = some 0 ∨ tsize P fd.type = none then none else some (fd.offset, fd.type)
    | none => none
  | _ => none
inductive Ix where
  | slice (sz : Nat)
  | array (len sz : Nat)
  | string
  | no
/-- what an index means at a type -/
def tindex (P : Program) (t : TypeId) : Ix :=
  match P.underlying t with
  | some (.slice e) => match tsize P e with | some n => .slice n | none => .no
  | some (.array len e) => match tsize P e with | some n => .array len n | none => .no
  | some .string => .string
  | _ => .no
/-- a slice type's element: its number, its cells, its bytes, its zero value's cells -/
def telem (P : Program) (t : TypeId) : Option (TypeId × Nat × Nat × List AVal) :=
  match P.underlying t with
  | some (.slice e) => match P.info? e, tzero P e with
    | some i, some z => if z.length = i.size ∧ 0 < i.size then some (e, i.size, i.bytes, z) else none
    | _, _ => none
  | _ => none
def tplain (P : Program) (t : TypeId) : Bool := match P.underlying t with | some (.interface _) | none => false | _ => true
def tiface (P : Program) (t : TypeId) : Bool := match P.underlying t with | some (.interface _) => true | _ => false
def tint (P : Program) (t : TypeId) : Option IntKind := match P.underlying t with | some (.int k) => some k | _ => none
def tstring (P : Program) (t : TypeId) : Bool := match P.underlying t with | some .string => true | _ => false
def entersB (P : Program) (f : FuncId) : Bool := match P.funcs[f]? with | some fn => fn.name != "runtime.NumGoroutine" && fn.body.isSome | none => false

/-! ### the evaluator's words -/

def abool (x : AVal) (p q : Prop) : Prop := ∃ b, x = .lit (.bool b) ∧ (b = true → p) ∧ (b = false → q)
def aget {α : Type} (xs : List α) (i : Nat) (K : α → Prop) : Prop := ∃ x, xs[i]? = some x ∧ K x
def cut (cs : List AVal) (off n : Nat) : List AVal := (cs.drop off).take n
def acut (k : Option (Option Nat)) (cs : List AVal) (off : Nat) (K : AVal → Prop) : Prop :=
  match k with
  | some (some n) => off + n ≤ cs.length ∧ K (.agg (cut cs off n))
  | some none => aget cs off K
  | none => False
def aboxed (o : Option Own) (K : List AVal → Prop) : Prop := ∃ cs vs, o = some (.box cs vs) ∧ K cs
def aload (k : Option (Option Nat)) (p : AVal) (S : St) (K : AVal → Prop) : Prop :=
  match p with
  | .rp cs off => acut k cs off K
  | .lit (.pointer (some ⟨b, o, none⟩)) => aboxed (S.get b) fun cs => acut k cs o K
  | _ => False
def aflat (v : AVal) (K : List AVal → Prop) : Prop :=
  match v with
  | .agg cs => K cs
  | v => v.isCell = true ∧ K [v]
def astore (n : Option Nat) (p v : AVal) (S : St) (K : St → Prop) : Prop :=
  match p with
  | .lit (.pointer (some ⟨b, o, none⟩)) => aboxed (S.get b) fun cs => aflat v fun vs => n = some vs.length ∧ o + vs.length ≤ cs.length ∧ ∀ us, K (S.set b (.box (splice cs o vs) us))
  | _ => False
def aalloc (S : St) (cs : List AVal) (K : AVal → St → Prop) : Prop := ∀ b vs, S b = none → K (ptr b 0) (S.upd b (.box cs vs))
def aplace (p : AVal) (d : Nat) (K : AVal → Prop) : Prop :=
  match p with
  | .rp cs off => K (.rp cs (off + d))
  | .lit (.pointer (some ⟨b, o, none⟩)) => K (ptr b (o + d))
  | _ => False
def abuild (place : Nat → Option (Nat × Nat)) : List AVal → List (Nat × AVal) → (List AVal → Prop) → Prop
  | cells, [], K => K cells
  | cells, (i, v) :: rest, K => match place i with
    | some (off, size) => aflat v fun vs => vs.length = size ∧ off + vs.length ≤ cells.length ∧ abuild place (splice cells off vs) rest K
    | none => False

/-- what a binary operation gives of two numbers, two bools -/
def binVal (op : BinOp) (a b : Value) : Option Value :=
  match a, b with
  | .int k x, .int k' y =>
    if k = k' then match op with
      | .add => some (.int k (k.wrap (x + y)))
      | .sub => some (.int k (k.wrap (x - y)))
      | .mul => some (.int k (k.wrap (x * y)))
      | .eql => some (.bool (decide (x = y)))
      | .neq => some (.bool (!decide (x = y)))
      | .lss => some (.bool (decide (x < y)))
      | .leq => some (.bool (decide (x ≤ y)))
      | .gtr => some (.bool (decide (x > y)))
      | .geq => some (.bool (decide (x ≥ y)))
      | _ => none
    else none
  | _, _ => none
def adiv (op : BinOp) (k : IntKind) (x y : Int) (K : AVal → Prop) : Prop :=
  y ≠ 0 ∧ match op with
    | .quo => K (int k (k.wrap (x.tdiv y)))
    | .rem => K (int k (x.tmod y))
    | _ => False
def abinStr (op : BinOp) (a b : List UInt8) (K : AVal → Prop) : Prop :=
  match op with
  | .add => a.length + b.length ≤ 9223372036854775807 ∧ K (str (a ++ b))
  | .eql => K (bool (decide (a = b)))
  | .neq => K (bool (!decide (a = b)))
  | _ => False
def abinBool (op : BinOp) (a b : Bool) (K : AVal → Prop) : Prop :=
  match op with
  | .eql => K (bool (a == b))
  | .neq => K (bool (!(a == b)))
  | _ => False
def abin (P : Program) (op : BinOp) (t : TypeId) (x y : AVal) (K : AVal → Prop) : Prop :=
  match x, y with
  | .lit (.int k x), .lit (.int k' y) => match op with
    | .quo => k = k' ∧ adiv .quo k x y K
    | .rem => k = k' ∧ adiv .rem k x y K
    | op => match binVal op (.int k x) (.int k' y) with
      | some v => K (.lit v)
      | none => False
  | .lit (.string a), .lit (.string b) => abinStr op a.data.toList b.data.toList K
  | .lit (.bool a), .lit (.bool b) => P.underlying t = some .bool ∧ abinBool op a b K
  | .ifc _ _, .lit .nilIface => tiface P t = true ∧ match op with
    | .eql => K (bool false)
    | .neq => K (bool true)
    | _ => False
  | _, _ => False
/-- an interface value held against the literal nil -/
def abinNil (P : Program) (op : BinOp) (t : TypeId) (K : AVal → Prop) : Prop :=
  tiface P t = true ∧ match op with
    | .eql => K (bool true)
    | .neq => K (bool false)
    | _ => False
def aunary (op : UnOp) (x : AVal) (K : AVal → Prop) : Prop :=
  match op, x with
  | .not, .lit (.bool b) => K (bool (!b))
  | .neg, .lit (.int k n) => K (int k (k.wrap (0 - n)))
  | _, _ => False
def anil (x : AVal) (K : Prop) : Prop :=
  match x with
  | .rp _ _ => K
  | .lit (.pointer (some _)) => K
  | .fn (.func _) _ => K
  | _ => False
def aindexAddr (ix : Ix) (x i : AVal) (K : AVal → Prop) : Prop :=
  match ix, x, i with
  | .slice n, .sl sz xs _, .lit (.int _ j) => sz = n ∧ 0 ≤ j ∧ aget xs j.toNat fun c => K (.rp c 0)
  | .slice n, .lit (.slice (some ⟨b, off, none⟩) len _), .lit (.int _ j) => 0 ≤ j ∧ j < len ∧ K (ptr b (off + j.toNat * n))
  | .array len n, .rp cs off, .lit (.int _ j) => 0 ≤ j ∧ j < len ∧ K (.rp cs (off + j.toNat * n))
  | .array len n, .lit (.pointer (some ⟨b, o, none⟩)), .lit (.int _ j) => 0 ≤ j ∧ j < len ∧ K (ptr b (o + j.toNat * n))
  | _, _, _ => False
def aindex (ix : Ix) (x i : AVal) (K : AVal → Prop) : Prop :=
  match ix, x, i with
  | .string, .lit (.string s), .lit (.int _ j) => 0 ≤ j ∧ aget s.data.toList j.toNat fun c => K (int .u8 c.toNat)
  | _, _, _ => False
def aextract (x : AVal) (i : Nat) (K : AVal → Prop) : Prop :=
  match x with
  | .tup vs => aget vs i K
  | _ => False
def abound (x : Option AVal) (d : Nat) (K : Nat → Prop) : Prop :=
  match x with
  | none => K d
  | some (.lit (.int _ j)) => 0 ≤ j ∧ K j.toNat
  | _ => False
def asliceStr (s : List UInt8) (lo hi : Option AVal) (K : AVal → Prop) : Prop :=
  abound lo 0 fun l => abound hi s.length fun h => l ≤ h ∧ h ≤ s.length ∧ K (str ((s.take h).drop l))
def asliceSl (n sz : Nat) (xs : List (List AVal)) (lo hi mx : Option AVal) (K : AVal → Prop) : Prop :=
  abound lo 0 fun l => abound hi xs.length fun h => abound mx h fun m =>
    (hi.isSome || mx.isNone) = true ∧ n = sz ∧ l ≤ h ∧ h ≤ xs.length ∧ m = h ∧ K (.sl sz ((xs.take h).drop l) (if mx.isSome then .full else .unk))
def aslice (ix : Ix) (x : AVal) (lo hi mx : Option AVal) (K : AVal → Prop) : Prop :=
  match ix, x with
  | .string, .lit (.string s) => mx = none ∧ asliceStr s.data.toList lo hi K
  | .slice n, .sl sz xs _ => asliceSl n sz xs lo hi mx K
  | _, _ => False
def ahead (t u : TypeId) (x : AVal) (zero : AVal) (ok : Bool) (K : AVal → Prop) : Prop :=
  if t = u then (if ok then K (.tup [x, bool true]) else K x) else ok = true ∧ K (.tup [zero, bool false])
def aconv (P : Program) (s d : TypeId) (x : AVal) (K : AVal → Prop) : Prop :=
  match x with
  | .lit (.int k n) => tint P s ≠ none ∧ match tint P d with
    | some k' => K (int k' (k'.wrap n))
    | none => False
  | _ => False
def alen (t : Ix) (x : AVal) (K : AVal → Prop) : Prop :=
  match t, x with
  | .slice _, .sl _ xs _ => xs.length ≤ maxLen → K (int .i64 xs.length)
  | .slice _, .lit (.slice _ n _) => K (int .i64 n)
  | .string, .lit (.string s) => K (int .i64 s.data.toList.length)
  | _, _ => False
/-- the token of a slice that may grow in place -/
def atok (S : St) (e : TypeId) (sz n : Nat) : Grow → (St → Prop) → Prop
  | .own none, K => K S
  | .full, K => K S
  | .fresh _, K => K S
  | .own (some (b, cap)), K => S.get b = some (.row e sz cap n) ∧ K (S.del b)
  | .unk, _ => False
/-- what is appended: rows of n cells -/
def asrc (P : Program) (n : Nat) (u : TypeId) (y : AVal) (K : List (List AVal) → Prop) : Prop :=
  match y with
  | .sl sz ys _ => (∃ e, P.underlying u = some (.slice e)) ∧ (ys = [] ∨ sz = n) ∧ K ys
  | .lit (.string s) => n = 1 ∧ P.underlying u = some .string ∧ K (s.data.toList.map fun b => [int .u8 b.toNat])
  | _ => False
def aappend (P : Program) (el : Option (TypeId × Nat × Nat × List AVal)) (u : TypeId) (x y : AVal) (S : St) (K : AVal → St → Prop) : Prop :=
  match el, x with
  | some (e, n, bytes, _), .sl sz xs g =>
    (xs = [] ∨ sz = n) ∧ asrc P n u y fun ys => (ys = [] → K x S) ∧ (ys ≠ [] → xs.length + ys.length ≤ maxLen ∧ (xs.length + ys.length) * bytes ≤ 140737488355328 ∧
      atok S e n xs.length g fun S0 => ∀ b cap, S0 b = none → K (.sl n (xs ++ ys) (.own (some (b, cap)))) (S0.upd b (.row e n cap (xs.length + ys.length))))
  | _, _ => False
def amin (x y : AVal) (K : AVal → Prop) : Prop :=
  match x, y with
  | .lit (.int k a), .lit (.int k' b) => K (int k (if b < a then b else a))
  | _, _ => False
def amax (x y : AVal) (K : AVal → Prop) : Prop :=
  match x, y with
  | .lit (.int k a), .lit (.int k' b) => K (int k (if b > a then b else a))
  | _, _ => False
def arows (sz : Nat) : List (List AVal) → List (Nat × AVal) → (List (List AVal) → Prop) → Prop
  | rows, [], K => K rows
  | rows, (i, v) :: rest, K => aflat v fun vs => vs.length = sz ∧ i < rows.length ∧ arows sz (rows.set i vs) rest K
def acall (P : Program) (G : Glob) (f : AVal) (args : List AVal) (S : St) (K : AVal → St → Prop) (Pn : AVal → St → Prop) : Prop :=
  match f with
  | .fn (.func k) caps => entersB P k = true ∧ ACalls P G k (args ++ caps) S fun e S' => match e with | .ret v => K v S' | .pan v => Pn v S'
  | _ => False
def abuiltin (P : Program) (b : Builtin) (ts : List TypeId) (xs : List AVal) (S : St) (K : AVal → St → Prop) : Prop :=
  match b, ts, xs with
  | .len, [t], [x] => alen (tindex P t) x fun v => K v S
  | .append, [t, u], [x, y] => aappend P (telem P t) u x y S K
  | .min, _, [x, y] => amin x y fun v => K v S
  | .max, _, [x, y] => amax x y fun v => K v S
  | _, _, _ => False

def isNilConst : Operand → Bool
  | .const .nilIface => true
  | _ => false

def aop (P : Program) (G : Glob) (op : Op) (ρ : Operand → AVal) (S : St) (K : AVal → St → Prop) (Pn : AVal → St → Prop) : Prop :=
  match op with
  | .move x | .assign x => K (ρ x) S
  | .pick c a b => abool (ρ c) (K (ρ a) S) (K (ρ b) S)
  | .alloc e => match tzero P e with
    | some cs => aalloc S cs K
    | none => False
  | .box e x => aflat (ρ x) fun cs => aalloc S cs K
  | .build t parts => match tzero P t with
    | some cs => tstruct P t = true ∧ abuild (fun i => (tfield P t i).bind fun q => (tsize P q.2).map fun n => (q.1, n)) cs (parts.toList.map fun q => (q.1, ρ q.2)) fun cs => K (.agg cs) S
    | none => False
  | .buildSlice t len parts => match telem P t with
    | some (_, sz, _, z) => len * sz ≤ 16777216 ∧ arows sz (List.replicate len z) (parts.toList.map fun q => (q.1, ρ q.2)) fun rows => K (.sl sz rows (.fresh G.mark)) S
    | none => False
  | .load t p => aload (tkind P t) (ρ p) S fun v => K v S
  | .store t p v => astore (tsize P t) (ρ p) (ρ v) S fun S' => K .any S'
  | .nilCheck x => anil (ρ x) (K (ρ x) S)
  | .binOp op t x y _ => if isNilConst x && isNilConst y then False else match ρ x, ρ y with
    | .lit .nilIface, .lit .nilIface => (isNilConst x || isNilConst y) = true ∧ abinNil P op t fun v => K v S
    | a, b => abin P op t a b fun v => K v S
  | .unOp op _ x => aunary op (ρ x) fun v => K v S
  | .convert s d x => aconv P s d (ρ x) fun v => K v S
  | .makeInterface t x => tplain P t = true ∧ K (.ifc t (ρ x)) S
  | .makeFunc f first caps => first = #[] ∧ K (.fn f (caps.toList.map ρ)) S
  | .slice t x lo hi mx => aslice (tindex P t) (ρ x) (lo.map ρ) (hi.map ρ) (mx.map ρ) fun v => K v S
  | .fieldAddr t x f => match tfield P t f with
    | some (d, _) => aplace (ρ x) d fun v => K v S
    | none => False
  | .field t x f => match tfield P t f, ρ x with
    | some (d, u), .agg cs => acut (tkind P u) cs d fun v => K v S
    | _, _ => False
  | .indexAddr t x i => aindexAddr (tindex P t) (ρ x) (ρ i) fun v => K v S
  | .index t x i => aindex (tindex P t) (ρ x) (ρ i) fun v => K v S
  | .extract x i => aextract (ρ x) i fun v => K v S
  | .typeAssert x _ u ok => match ρ x with
    | .ifc t y => tplain P u = true ∧ match tzeroV P u with
      | some z => ahead t u y z ok fun v => K v S
      | none => False
    | _ => False
  | .panic x => match ρ x with
    | .ifc t y => Pn (.ifc t y) S
    | _ => False
  | .call c => match c.callee with
    | .value f => acall P G (ρ f) (c.args.toList.map ρ) S K Pn
    | .builtin b => abuiltin P b c.argTypes.toList (c.args.toList.map ρ) S K
    | _ => False
  | _ => False

end Go.Proofs.Abs
