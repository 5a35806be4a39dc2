/- The abstract layer, part 10: the evaluator's words, equation by equation. -/
import Derived.Test.YtaeobokijndboaaDoorAbs9
set_option linter.unusedVariables false
namespace Go.Proofs.Abs
open Go

section
variable {P : Program} {G : Glob} {S : St} {m : List (Nat × AVal)} {d : List Deferred}

attribute [go_sem] int bool ptr str

/-! frames -/
@[go_sem] theorem ev_tmp {t : Nat} : Env.ev G ⟨m, d⟩ (.tmp t) = look m t := rfl
@[go_sem] theorem ev_func {env : Env} {f : FuncId} : Env.ev G env (.func f) = .fn (.func f) [] := rfl
@[go_sem] theorem ev_int {env : Env} {k : IntKind} {n : Int} : Env.ev G env (.const (.int k n)) = .lit (.int k n) := rfl
@[go_sem] theorem ev_bool {env : Env} {b : Bool} : Env.ev G env (.const (.bool b)) = .lit (.bool b) := rfl
@[go_sem] theorem ev_string {env : Env} {s : ByteArray} : Env.ev G env (.const (.string s)) = .lit (.string s) := rfl
@[go_sem] theorem ev_nilIface {env : Env} : Env.ev G env (.const .nilIface) = .lit .nilIface := rfl
@[go_sem] theorem ev_nilFunc {env : Env} : Env.ev G env (.const .nilFunc) = .lit .nilFunc := rfl
@[go_sem] theorem ev_pointer {env : Env} {a : Option Addr} : Env.ev G env (.const (.pointer a)) = .lit (.pointer a) := rfl
@[go_sem] theorem ev_nilSlice {env : Env} : Env.ev G env (.const (.slice none 0 0)) = .sl 0 [] (.own none) := rfl
theorem ev_global {env : Env} {g : Nat} {cs : List AVal} (h : G g = some cs) : Env.ev G env (.global g) = .rp cs 0 := by simp [Env.ev, h]
@[go_sem] theorem look_cons {k t : Nat} {v : AVal} : look ((k, v) :: m) t = if k = t then v else look m t := rfl
@[go_sem] theorem argEnv_nil {k : Nat} : argEnv [] k = [] := rfl
@[go_sem] theorem argEnv_cons {x : AVal} {xs : List AVal} {k : Nat} : argEnv (x :: xs) k = (k, x) :: argEnv xs (k + 1) := rfl

/-! results -/
@[go_sem] theorem fnPost_normal {rs : List ResultVar} {R : AEnd → St → Prop} : fnPost P rs R .normal ⟨m, d⟩ S = (d = [] ∧ aresults P rs ⟨m, d⟩ S (retK R S)) := rfl
@[go_sem] theorem fnPost_ret {rs : List ResultVar} {R : AEnd → St → Prop} : fnPost P rs R .ret ⟨m, d⟩ S = (d = [] ∧ aresults P rs ⟨m, d⟩ S (retK R S)) := rfl
@[go_sem] theorem fnPost_pan {rs : List ResultVar} {R : AEnd → St → Prop} {v : AVal} : fnPost P rs R (.pan v) ⟨m, d⟩ S = (d = [] ∧ ∃ S', Sub S' S ∧ R (.pan v) S') := rfl
@[go_sem] theorem aresults_nil {env : Env} {K : List AVal → Prop} : aresults P [] env S K = K [] := rfl
@[go_sem] theorem aresults_tmp {t : Nat} {rs : List ResultVar} {K : List AVal → Prop} : aresults P (.tmp t :: rs) ⟨m, d⟩ S K = aresults P rs ⟨m, d⟩ S (consK (look m t) K) := rfl
@[go_sem] theorem aresults_cell {a t : Nat} {rs : List ResultVar} {K : List AVal → Prop} : aresults P (.cell a t :: rs) ⟨m, d⟩ S K = aload (tkind P t) (look m a) S (resK P rs ⟨m, d⟩ S K) := rfl
@[go_sem] theorem packRes_one {v : AVal} : packRes [v] = v := rfl
@[go_sem] theorem packRes_nil : packRes [] = .tup [] := rfl
@[go_sem] theorem packRes_two {v u : AVal} {vs : List AVal} : packRes (v :: u :: vs) = .tup (v :: u :: vs) := rfl

/-! stores -/
@[go_sem] theorem get_upd {b x : Nat} {o : Own} : (S.upd b o).get x = if x = b then some o else S.get x := rfl
@[go_sem] theorem get_set {b x : Nat} {o : Own} : (S.set b o).get x = if x = b then some o else S.get x := rfl
@[go_sem] theorem get_del {b x : Nat} : (S.del b).get x = if x = b then none else S.get x := rfl
@[go_sem] theorem upd_at {b x : Nat} {o : Own} : (S.upd b o) x = if x = b then some o else S x := rfl
theorem upd_none {b x : Nat} {o : Own} : (S.upd b o) x = none ↔ ((¬ b = x) ∧ ¬ x = b) ∧ S x = none := by
  unfold St.upd; by_cases h : x = b
  · subst h; simp
  · rw [if_neg h]; exact ⟨fun h' => ⟨⟨fun h2 => h h2.symm, h⟩, h'⟩, fun h' => h'.2⟩
theorem set_none {b x : Nat} {o : Own} : (S.set b o) x = none ↔ ((¬ b = x) ∧ ¬ x = b) ∧ S x = none := upd_none
theorem del_none {b x : Nat} : (S.del b) x = none ↔ (¬ b = x → S x = none) := by
  unfold St.del; by_cases h : x = b
  · subst h; simp
  · rw [if_neg h]; exact ⟨fun h' _ => h', fun h' => h' fun h2 => h h2.symm⟩
theorem sub_upd_l {A B : St} {b : Nat} {o : Own} (h : B.get b = some o) (k : Sub A B) : Sub (A.upd b o) B := fun x => by
  unfold St.upd
  by_cases hx : x = b
  · subst hx; rw [if_pos rfl]; exact .inr h.symm
  · rw [if_neg hx]; exact k x
theorem sub_upd_r {A B : St} {b : Nat} {o : Own} (h : A b = none) (k : Sub A B) : Sub A (B.upd b o) := fun x => by
  unfold St.upd
  by_cases hx : x = b
  · subst hx; exact .inl h
  · rw [if_neg hx]; exact k x
@[go_sem] theorem set_upd {b x : Nat} {o o' : Own} : (S.upd x o).set b o' = if b = x then S.upd x o' else (S.set b o').upd x o := by
  by_cases h : b = x
  · subst h; rw [if_pos rfl]; funext y; simp only [St.upd, St.set]; split <;> rfl
  · rw [if_neg h]; funext y; simp only [St.upd, St.set]
    by_cases h1 : y = x
    · have h2 : ¬ y = b := fun h2 => h (h2.symm.trans h1)
      simp only [if_pos h1, if_neg h2]
    · simp only [if_neg h1]
@[go_sem] theorem del_upd {b x : Nat} {o : Own} : (S.upd x o).del b = if b = x then S.del b else (S.del b).upd x o := by
  by_cases h : b = x
  · subst h; rw [if_pos rfl]; funext y; simp only [St.upd, St.del]; split <;> rfl
  · rw [if_neg h]; funext y; simp only [St.upd, St.del]
    by_cases h1 : y = x
    · have h2 : ¬ y = b := fun h2 => h (h2.symm.trans h1)
      simp only [if_pos h1, if_neg h2]
    · simp only [if_neg h1]
theorem del_of_none {b : Nat} (h : S b = none) : S.del b = S := by
  funext y; unfold St.del; split
  · rename_i h1; subst h1; exact h.symm
  · rfl
theorem set_set {b : Nat} {o o' : Own} : (S.set b o).set b o' = S.set b o' := by funext y; simp only [St.set]; split <;> rfl
theorem set_self {b : Nat} {o : Own} (h : S b = some o) : S.set b o = S := by funext y; simp only [St.set]; split <;> simp_all

/-! words -/
@[go_sem] theorem abool_tt {p q : Prop} : abool (.lit (.bool true)) p q = p := by simp [abool]
@[go_sem] theorem abool_ff {p q : Prop} : abool (.lit (.bool false)) p q = q := by simp [abool]
@[go_sem] theorem aget_zero {α : Type} {x : α} {xs : List α} {K : α → Prop} : aget (x :: xs) 0 K = K x := by simp [aget]
@[go_sem] theorem aget_succ {α : Type} {x : α} {xs : List α} {n : Nat} {K : α → Prop} : aget (x :: xs) (n + 1) K = aget xs n K := by simp [aget]
theorem aget_of {α : Type} {x : α} {xs : List α} {n : Nat} {K : α → Prop} (h : xs[n]? = some x) (hk : K x) : aget xs n K := ⟨x, h, hk⟩
@[go_sem] theorem acut_one {cs : List AVal} {o : Nat} {K : AVal → Prop} : acut (some none) cs o K = aget cs o K := rfl
@[go_sem] theorem acut_agg {n : Nat} {cs : List AVal} {o : Nat} {K : AVal → Prop} : acut (some (some n)) cs o K = (o + n ≤ cs.length ∧ K (.agg (cut cs o n))) := rfl
@[go_sem] theorem cut_all {cs : List AVal} {n : Nat} (h : cs.length = n) : cut cs 0 n = cs := by unfold cut; subst h; simp
@[go_sem] theorem cut_cons_zero {x : AVal} {cs : List AVal} {n : Nat} : cut (x :: cs) 0 (n + 1) = x :: cut cs 0 n := by simp [cut]
@[go_sem] theorem cut_cons_succ {x : AVal} {cs : List AVal} {o n : Nat} : cut (x :: cs) (o + 1) n = cut cs o n := by simp [cut]
@[go_sem] theorem cut_zero {cs : List AVal} {o : Nat} : cut cs o 0 = [] := by simp [cut]
@[go_sem] theorem aboxed_some {cs : List AVal} {vs : Array Value} {K : List AVal → Prop} : aboxed (some (.box cs vs)) K = K cs := by simp [aboxed]
@[go_sem] theorem aload_rp {k : Option (Option Nat)} {cs : List AVal} {o : Nat} {K : AVal → Prop} : aload k (.rp cs o) S K = acut k cs o K := rfl
@[go_sem] theorem aload_ptr {k : Option (Option Nat)} {b o : Nat} {K : AVal → Prop} : aload k (.lit (.pointer (some ⟨b, o, none⟩))) S K = aboxed (S.get b) (cutK k o K) := rfl
@[go_sem] theorem aflat_agg {cs : List AVal} {K : List AVal → Prop} : aflat (.agg cs) K = K cs := rfl
@[go_sem] theorem aflat_lit {v : Value} {K : List AVal → Prop} : aflat (.lit v) K = K [.lit v] := by simp [aflat, AVal.isCell]
@[go_sem] theorem aflat_sl {sz : Nat} {xs : List (List AVal)} {g : Grow} {K : List AVal → Prop} : aflat (.sl sz xs g) K = K [.sl sz xs g] := by simp [aflat, AVal.isCell]
@[go_sem] theorem aflat_rp {cs : List AVal} {o : Nat} {K : List AVal → Prop} : aflat (.rp cs o) K = K [.rp cs o] := by simp [aflat, AVal.isCell]
@[go_sem] theorem aflat_fn {f : Fn} {cs : List AVal} {K : List AVal → Prop} : aflat (.fn f cs) K = K [.fn f cs] := by simp [aflat, AVal.isCell]
@[go_sem] theorem aflat_ifc {t : TypeId} {x : AVal} {K : List AVal → Prop} : aflat (.ifc t x) K = K [.ifc t x] := by simp [aflat, AVal.isCell]
@[go_sem] theorem astore_ptr {n : Option Nat} {b o : Nat} {v : AVal} {K : St → Prop} : astore n (.lit (.pointer (some ⟨b, o, none⟩))) v S K = aboxed (S.get b) (storeK n b o v S K) := rfl
@[go_sem] theorem splice_all {cs vs : List AVal} (h : vs.length = cs.length) : splice cs 0 vs = vs := by unfold splice; simp [h]
@[go_sem] theorem splice_succ {x : AVal} {cs vs : List AVal} {n : Nat} : splice (x :: cs) (n + 1) vs = x :: splice cs n vs := by
  unfold splice
  simp [Nat.succ_add]
@[go_sem] theorem splice_one {x y : AVal} {cs : List AVal} : splice (x :: cs) 0 [y] = y :: cs := by simp [splice]
@[go_sem] theorem aplace_rp {cs : List AVal} {o n : Nat} {K : AVal → Prop} : aplace (.rp cs o) n K = K (.rp cs (o + n)) := rfl
@[go_sem] theorem aplace_ptr {b o n : Nat} {K : AVal → Prop} : aplace (.lit (.pointer (some ⟨b, o, none⟩))) n K = K (.lit (.pointer (some ⟨b, o + n, none⟩))) := rfl

/-! numbers, strings -/
@[congr] theorem abin_congr {op : BinOp} {t : TypeId} {x y : AVal} {K : AVal → Prop} : abin P op t x y K = abin P op t x y K := rfl
@[go_sem] theorem abinOp_int {op : BinOp} {t : TypeId} {k k' : IntKind} {a b : Int} {K : AVal → Prop} : abinOp P op t false false (.lit (.int k a)) (.lit (.int k' b)) K = abin P op t (.lit (.int k a)) (.lit (.int k' b)) K := by simp [abinOp]
@[go_sem] theorem abinOp_string {op : BinOp} {t : TypeId} {a b : ByteArray} {K : AVal → Prop} : abinOp P op t false false (.lit (.string a)) (.lit (.string b)) K = abinStr op a.data.toList b.data.toList K := by simp [abinOp, abin]
@[go_sem] theorem abinOp_bool {op : BinOp} {t : TypeId} {a b : Bool} {K : AVal → Prop} : abinOp P op t false false (.lit (.bool a)) (.lit (.bool b)) K = (P.underlying t = some .bool ∧ abinBool op a b K) := by simp [abinOp, abin]
@[go_sem] theorem abinOp_ifc_eql {t u : TypeId} {y : AVal} {K : AVal → Prop} : abinOp P .eql t false true (.ifc u y) (.lit .nilIface) K = (tiface P t = true ∧ K (.lit (.bool false))) := by simp [abinOp, abin]
@[go_sem] theorem abinOp_ifc_neq {t u : TypeId} {y : AVal} {K : AVal → Prop} : abinOp P .neq t false true (.ifc u y) (.lit .nilIface) K = (tiface P t = true ∧ K (.lit (.bool true))) := by simp [abinOp, abin]
@[go_sem] theorem abinOp_nil_eql {t : TypeId} {K : AVal → Prop} : abinOp P .eql t false true (.lit .nilIface) (.lit .nilIface) K = (tiface P t = true ∧ K (.lit (.bool true))) := by simp [abinOp, abinNil]
@[go_sem] theorem abinOp_nil_neq {t : TypeId} {K : AVal → Prop} : abinOp P .neq t false true (.lit .nilIface) (.lit .nilIface) K = (tiface P t = true ∧ K (.lit (.bool false))) := by simp [abinOp, abinNil]
@[go_sem] theorem isNilConst_tmp {t : Nat} : isNilConst (.tmp t) = false := rfl
@[go_sem] theorem isNilConst_global {t : Nat} : isNilConst (.global t) = false := rfl
@[go_sem] theorem isNilConst_nil : isNilConst (.const .nilIface) = true := rfl
@[go_sem] theorem isNilConst_int {k : IntKind} {n : Int} : isNilConst (.const (.int k n)) = false := rfl
@[go_sem] theorem isNilConst_bool {b : Bool} : isNilConst (.const (.bool b)) = false := rfl
@[go_sem] theorem isNilConst_string {s : ByteArray} : isNilConst (.const (.string s)) = false := rfl
section
variable {t : TypeId} {k : IntKind} {a b : Int} {K : AVal → Prop}
@[go_sem] theorem abin_add : abin P .add t (.lit (.int k a)) (.lit (.int k b)) K = K (.lit (.int k (k.wrap (a + b)))) := by simp [abin, binVal]
@[go_sem] theorem abin_sub : abin P .sub t (.lit (.int k a)) (.lit (.int k b)) K = K (.lit (.int k (k.wrap (a - b)))) := by simp [abin, binVal]
@[go_sem] theorem abin_mul : abin P .mul t (.lit (.int k a)) (.lit (.int k b)) K = K (.lit (.int k (k.wrap (a * b)))) := by simp [abin, binVal]
@[go_sem] theorem abin_eql : abin P .eql t (.lit (.int k a)) (.lit (.int k b)) K = K (.lit (.bool (decide (a = b)))) := by simp [abin, binVal]
@[go_sem] theorem abin_neq : abin P .neq t (.lit (.int k a)) (.lit (.int k b)) K = K (.lit (.bool (!decide (a = b)))) := by simp [abin, binVal]
@[go_sem] theorem abin_lss : abin P .lss t (.lit (.int k a)) (.lit (.int k b)) K = K (.lit (.bool (decide (a < b)))) := by simp [abin, binVal]
@[go_sem] theorem abin_leq : abin P .leq t (.lit (.int k a)) (.lit (.int k b)) K = K (.lit (.bool (decide (a ≤ b)))) := by simp [abin, binVal]
@[go_sem] theorem abin_gtr : abin P .gtr t (.lit (.int k a)) (.lit (.int k b)) K = K (.lit (.bool (decide (b < a)))) := by simp [abin, binVal]
@[go_sem] theorem abin_geq : abin P .geq t (.lit (.int k a)) (.lit (.int k b)) K = K (.lit (.bool (decide (b ≤ a)))) := by simp [abin, binVal]
@[go_sem] theorem abin_quo : abin P .quo t (.lit (.int k a)) (.lit (.int k b)) K = (b ≠ 0 ∧ K (.lit (.int k (k.wrap (a.tdiv b))))) := by simp [abin, adiv]
@[go_sem] theorem abin_rem : abin P .rem t (.lit (.int k a)) (.lit (.int k b)) K = (b ≠ 0 ∧ K (.lit (.int k (a.tmod b)))) := by simp [abin, adiv]
end
@[congr] theorem abinStr_congr {op : BinOp} {a a' b b' : List UInt8} {K : AVal → Prop} (h : a = a') (h2 : b = b') : abinStr op a b K = abinStr op a' b' K := by rw [h, h2]
@[go_sem] theorem abinStr_add {a b : List UInt8} {K : AVal → Prop} : abinStr .add a b K = (a.length + b.length ≤ 9223372036854775807 ∧ K (str (a ++ b))) := rfl
@[go_sem] theorem abinStr_eql {a b : List UInt8} {K : AVal → Prop} : abinStr .eql a b K = K (.lit (.bool (decide (a = b)))) := rfl
@[go_sem] theorem abinStr_neq {a b : List UInt8} {K : AVal → Prop} : abinStr .neq a b K = K (.lit (.bool (!decide (a = b)))) := rfl
@[congr] theorem abinBool_congr {op : BinOp} {a a' b b' : Bool} {K : AVal → Prop} (h : a = a') (h2 : b = b') : abinBool op a b K = abinBool op a' b' K := by rw [h, h2]
@[go_sem] theorem abinBool_eql {a b : Bool} {K : AVal → Prop} : abinBool .eql a b K = K (.lit (.bool (a == b))) := rfl
@[go_sem] theorem abinBool_neq {a b : Bool} {K : AVal → Prop} : abinBool .neq a b K = K (.lit (.bool (!(a == b)))) := rfl
@[go_sem] theorem str_list {l : List UInt8} : (ByteArray.mk l.toArray).data.toList = l := rfl
@[congr] theorem aunary_congr {op : UnOp} {x x' : AVal} {K : AVal → Prop} (h : x = x') : aunary op x K = aunary op x' K := by rw [h]
@[go_sem] theorem aunary_not {b : Bool} {K : AVal → Prop} : aunary .not (.lit (.bool b)) K = K (.lit (.bool (!b))) := rfl
@[go_sem] theorem aunary_neg {k : IntKind} {n : Int} {K : AVal → Prop} : aunary .neg (.lit (.int k n)) K = K (.lit (.int k (k.wrap (0 - n)))) := rfl
@[congr] theorem anil_congr {x x' : AVal} {K : Prop} (h : x = x') : anil x K = anil x' K := by rw [h]
@[go_sem] theorem anil_rp {cs : List AVal} {o : Nat} {K : Prop} : anil (.rp cs o) K = K := rfl
@[go_sem] theorem anil_ptr {a : Addr} {K : Prop} : anil (.lit (.pointer (some a))) K = K := rfl
@[go_sem] theorem anil_fn {f : FuncId} {cs : List AVal} {K : Prop} : anil (.fn (.func f) cs) K = K := rfl
@[congr] theorem aindexAddr_congr {ix ix' : Ix} {x x' i i' : AVal} {K : AVal → Prop} (h : ix = ix') (h2 : x = x') (h3 : i = i') : aindexAddr ix x i K = aindexAddr ix' x' i' K := by rw [h, h2, h3]
@[go_sem] theorem aindexAddr_slice {n sz : Nat} {xs : List (List AVal)} {g : Grow} {k : IntKind} {j : Int} {K : AVal → Prop} : aindexAddr (.slice n) (.sl sz xs g) (.lit (.int k j)) K = (sz = n ∧ 0 ≤ j ∧ aget xs j.toNat (rpK K)) := rfl
@[go_sem] theorem aindexAddr_lit {n b off len cap : Nat} {k : IntKind} {j : Int} {K : AVal → Prop} : aindexAddr (.slice n) (.lit (.slice (some ⟨b, off, none⟩) len cap)) (.lit (.int k j)) K = (0 ≤ j ∧ j < len ∧ K (ptr b (off + j.toNat * n))) := rfl
@[go_sem] theorem aindexAddr_rp {len n o : Nat} {cs : List AVal} {k : IntKind} {j : Int} {K : AVal → Prop} : aindexAddr (.array len n) (.rp cs o) (.lit (.int k j)) K = (0 ≤ j ∧ j < len ∧ K (.rp cs (o + j.toNat * n))) := rfl
@[go_sem] theorem aindexAddr_ptr {len n b o : Nat} {k : IntKind} {j : Int} {K : AVal → Prop} : aindexAddr (.array len n) (.lit (.pointer (some ⟨b, o, none⟩))) (.lit (.int k j)) K = (0 ≤ j ∧ j < len ∧ K (ptr b (o + j.toNat * n))) := rfl
@[congr] theorem aindex_congr {ix ix' : Ix} {x x' i i' : AVal} {K : AVal → Prop} (h : ix = ix') (h2 : x = x') (h3 : i = i') : aindex ix x i K = aindex ix' x' i' K := by rw [h, h2, h3]
@[go_sem] theorem aindex_string {s : ByteArray} {k : IntKind} {j : Int} {K : AVal → Prop} : aindex .string (.lit (.string s)) (.lit (.int k j)) K = (0 ≤ j ∧ aget s.data.toList j.toNat (byteK K)) := rfl
@[congr] theorem aextract_congr {x x' : AVal} {i : Nat} {K : AVal → Prop} (h : x = x') : aextract x i K = aextract x' i K := by rw [h]
@[go_sem] theorem aextract_tup {vs : List AVal} {i : Nat} {K : AVal → Prop} : aextract (.tup vs) i K = aget vs i K := rfl
@[congr] theorem aslice_congr {ix ix' : Ix} {x x' : AVal} {lo lo' hi hi' mx mx' : Option AVal} {K : AVal → Prop} (h : ix = ix') (h2 : x = x') (h3 : lo = lo') (h4 : hi = hi') (h5 : mx = mx') : aslice ix x lo hi mx K = aslice ix' x' lo' hi' mx' K := by rw [h, h2, h3, h4, h5]
@[congr] theorem abound_congr {x : Option AVal} {n : Nat} {K : Nat → Prop} : abound x n K = abound x n K := rfl
@[go_sem] theorem abound_none {n : Nat} {K : Nat → Prop} : abound none n K = K n := rfl
@[go_sem] theorem abound_some {n : Nat} {k : IntKind} {j : Int} {K : Nat → Prop} : abound (some (.lit (.int k j))) n K = (0 ≤ j ∧ K j.toNat) := rfl
def strK2 (s : List UInt8) (l : Nat) (K : AVal → Prop) (h : Nat) : Prop := l ≤ h ∧ h ≤ s.length ∧ K (str ((s.take h).drop l))
def strK1 (s : List UInt8) (hi : Option AVal) (K : AVal → Prop) (l : Nat) : Prop := abound hi s.length (strK2 s l K)
@[go_sem] theorem strK1_app {s : List UInt8} {hi : Option AVal} {K : AVal → Prop} {l : Nat} : strK1 s hi K l = abound hi s.length (strK2 s l K) := rfl
@[go_sem] theorem strK2_app {s : List UInt8} {l h : Nat} {K : AVal → Prop} : strK2 s l K h = (l ≤ h ∧ h ≤ s.length ∧ K (str ((s.take h).drop l))) := rfl
def slcK3 (n sz : Nat) (xs : List (List AVal)) (hi mx : Option AVal) (l h : Nat) (K : AVal → Prop) (m : Nat) : Prop := (hi.isSome || mx.isNone) = true ∧ n = sz ∧ l ≤ h ∧ h ≤ xs.length ∧ m = h ∧ K (.sl sz ((xs.take h).drop l) (if mx.isSome then .full else .unk))
def slcK2 (n sz : Nat) (xs : List (List AVal)) (hi mx : Option AVal) (l : Nat) (K : AVal → Prop) (h : Nat) : Prop := abound mx h (slcK3 n sz xs hi mx l h K)
def slcK1 (n sz : Nat) (xs : List (List AVal)) (hi mx : Option AVal) (K : AVal → Prop) (l : Nat) : Prop := abound hi xs.length (slcK2 n sz xs hi mx l K)
@[go_sem] theorem slcK1_app {n sz : Nat} {xs : List (List AVal)} {hi mx : Option AVal} {K : AVal → Prop} {l : Nat} : slcK1 n sz xs hi mx K l = abound hi xs.length (slcK2 n sz xs hi mx l K) := rfl
@[go_sem] theorem slcK2_app {n sz : Nat} {xs : List (List AVal)} {hi mx : Option AVal} {K : AVal → Prop} {l h : Nat} : slcK2 n sz xs hi mx l K h = abound mx h (slcK3 n sz xs hi mx l h K) := rfl
@[go_sem] theorem slcK3_app {n sz : Nat} {xs : List (List AVal)} {hi mx : Option AVal} {K : AVal → Prop} {l h m : Nat} : slcK3 n sz xs hi mx l h K m = ((hi.isSome || mx.isNone) = true ∧ n = sz ∧ l ≤ h ∧ h ≤ xs.length ∧ m = h ∧ K (.sl sz ((xs.take h).drop l) (if mx.isSome then .full else .unk))) := rfl
@[go_sem] theorem aslice_string {s : ByteArray} {lo hi : Option AVal} {K : AVal → Prop} : aslice .string (.lit (.string s)) lo hi none K =
    abound lo 0 (strK1 s.data.toList hi K) := by simp [aslice, asliceStr]; rfl
@[go_sem] theorem aslice_slice {n sz : Nat} {xs : List (List AVal)} {g : Grow} {lo hi mx : Option AVal} {K : AVal → Prop} : aslice (.slice n) (.sl sz xs g) lo hi mx K =
    abound lo 0 (slcK1 n sz xs hi mx K) := rfl
@[congr] theorem aconv_congr {s t : TypeId} {x x' : AVal} {K : AVal → Prop} (h : x = x') : aconv P s t x K = aconv P s t x' K := by rw [h]
def aconvI (k : Option IntKind) (n : Int) (K : AVal → Prop) : Prop := match k with | some k' => K (int k' (k'.wrap n)) | none => False
@[congr] theorem aconvI_congr {k k' : Option IntKind} {n : Int} {K : AVal → Prop} (h : k = k') : aconvI k n K = aconvI k' n K := by rw [h]
@[go_sem] theorem aconvI_some {k : IntKind} {n : Int} {K : AVal → Prop} : aconvI (some k) n K = K (.lit (.int k (k.wrap n))) := rfl
@[go_sem] theorem aconv_int {s t : TypeId} {k : IntKind} {n : Int} {K : AVal → Prop} : aconv P s t (.lit (.int k n)) K = ((tint P s).isSome = true ∧ aconvI (tint P t) n K) := by
  unfold aconv aconvI
  cases tint P s <;> cases tint P t <;> simp
@[congr] theorem abuiltin_congr {b : Builtin} {ts ts' : List TypeId} {xs xs' : List AVal} {S S' : St} {K : AVal → St → Prop} (h : ts = ts') (h2 : xs = xs') (h3 : S = S') : abuiltin P b ts xs S K = abuiltin P b ts' xs' S' K := by rw [h, h2, h3]
@[go_sem] theorem abuiltin_len {t : TypeId} {x : AVal} {K : AVal → St → Prop} : abuiltin P .len [t] [x] S K = alen (tindex P t) x (atS K S) := rfl
@[go_sem] theorem abuiltin_append {t u : TypeId} {x y : AVal} {K : AVal → St → Prop} : abuiltin P .append [t, u] [x, y] S K = aappend P (telem P t) u x y S K := rfl
@[go_sem] theorem abuiltin_min {ts : List TypeId} {x y : AVal} {K : AVal → St → Prop} : abuiltin P .min ts [x, y] S K = amin x y (atS K S) := rfl
@[go_sem] theorem abuiltin_max {ts : List TypeId} {x y : AVal} {K : AVal → St → Prop} : abuiltin P .max ts [x, y] S K = amax x y (atS K S) := rfl
@[congr] theorem amin_congr {x y : AVal} {K : AVal → Prop} : amin x y K = amin x y K := rfl
@[congr] theorem amax_congr {x y : AVal} {K : AVal → Prop} : amax x y K = amax x y K := rfl
@[go_sem] theorem amin_int {k k' : IntKind} {a b : Int} {K : AVal → Prop} : amin (.lit (.int k a)) (.lit (.int k' b)) K = K (.lit (.int k (if b < a then b else a))) := rfl
@[go_sem] theorem amax_int {k k' : IntKind} {a b : Int} {K : AVal → Prop} : amax (.lit (.int k a)) (.lit (.int k' b)) K = K (.lit (.int k (if b > a then b else a))) := rfl
@[congr] theorem alen_congr {t t' : Ix} {x : AVal} {K : AVal → Prop} (h : t = t') : alen t x K = alen t' x K := by rw [h]
@[go_sem] theorem alen_slice {n sz : Nat} {xs : List (List AVal)} {g : Grow} {K : AVal → Prop} : alen (.slice n) (.sl sz xs g) K = (xs.length ≤ maxLen → K (.lit (.int .i64 xs.length))) := rfl
@[go_sem] theorem alen_lit {n len cap : Nat} {A : Option Addr} {K : AVal → Prop} : alen (.slice n) (.lit (.slice A len cap)) K = K (.lit (.int .i64 len)) := rfl
@[go_sem] theorem alen_string {s : ByteArray} {K : AVal → Prop} : alen .string (.lit (.string s)) K = K (.lit (.int .i64 s.data.toList.length)) := rfl
@[congr] theorem aappend_congr {el el' : Option (TypeId × Nat × Nat × List AVal)} {u : TypeId} {x y : AVal} {S : St} {K : AVal → St → Prop} (h : el = el') : aappend P el u x y S K = aappend P el' u x y S K := by rw [h]

def growK (e n : Nat) (xs ys : List (List AVal)) (K : AVal → St → Prop) (S0 : St) : Prop := ∀ b cap, S0 b = none → K (.sl n (xs ++ ys) (.own (some (b, cap)))) (S0.upd b (.row e n cap (xs.length + ys.length)))
def tsliceB (P : Program) (u : TypeId) : Bool := match P.underlying u with | some (.slice _) => true | _ => false
theorem tsliceB_of {u : TypeId} (h : tsliceB P u = true) : ∃ e, P.underlying u = some (.slice e) := by
  unfold tsliceB at h
  split at h
  · rename_i e he; exact ⟨e, he⟩
  · cases h
/-- append of something, to part by hand -/
theorem aappend_intro {e n bytes sz sz' : Nat} {z : List AVal} {u : TypeId} {xs ys : List (List AVal)} {g g' : Grow} {K : AVal → St → Prop} (hu : tsliceB P u = true) (h1 : xs = [] ∨ sz = n) (h2 : ys = [] ∨ sz' = n) (hne : ys ≠ [])
    (h3 : xs.length + ys.length ≤ maxLen) (h4 : (xs.length + ys.length) * bytes ≤ 140737488355328)
    (hk : atok S e n xs.length g (growK e n xs ys K)) :
    aappend P (some (e, n, bytes, z)) u (.sl sz xs g) (.sl sz' ys g') S K :=
  ⟨h1, tsliceB_of hu, h2, fun h => absurd h hne, fun _ => ⟨h3, h4, hk⟩⟩
@[go_sem] theorem atok_none {e sz n : Nat} {K : St → Prop} : atok S e sz n (.own none) K = K S := rfl
@[go_sem] theorem atok_fresh {e sz n mk : Nat} {K : St → Prop} : atok S e sz n (.fresh mk) K = K S := rfl
@[go_sem] theorem atok_full {e sz n : Nat} {K : St → Prop} : atok S e sz n .full K = K S := rfl
@[go_sem] theorem atok_own {e sz n b cap : Nat} {K : St → Prop} : atok S e sz n (.own (some (b, cap))) K = (S.get b = some (.row e sz cap n) ∧ K (S.del b)) := rfl

/-! calls -/
def callK (K : AVal → St → Prop) (Pn : AVal → St → Prop) : AEnd → St → Prop
  | .ret v, S' => K v S'
  | .pan v, S' => Pn v S'
@[go_sem] theorem callK_ret {K Pn : AVal → St → Prop} {v : AVal} : callK K Pn (.ret v) S = K v S := rfl
@[go_sem] theorem callK_pan {K Pn : AVal → St → Prop} {v : AVal} : callK K Pn (.pan v) S = Pn v S := rfl
@[congr] theorem callK_congr {K Pn : AVal → St → Prop} {e : AEnd} {S S' : St} (h : S = S') : callK K Pn e S = callK K Pn e S' := by rw [h]
@[congr] theorem acall_congr {f f' : AVal} {args args' : List AVal} {S S' : St} {K Pn : AVal → St → Prop} (h : f = f') (h2 : args = args') (h3 : S = S') : acall P G f args S K Pn = acall P G f' args' S' K Pn := by rw [h, h2, h3]
@[go_sem] theorem acall_fn {k : FuncId} {caps args : List AVal} {K Pn : AVal → St → Prop} : acall P G (.fn (.func k) caps) args S K Pn = (entersB P k = true ∧ ACalls P G k (args ++ caps) S (callK K Pn)) := by
  unfold acall
  simp only
  congr 2
  funext e S'
  cases e <;> rfl
@[congr] theorem adefer_congr {f f' : AVal} {args args' : List AVal} {env : Env} {k : Env → Prop} (h : f = f') (h2 : args = args') : adefer f args env k = adefer f' args' env k := by rw [h, h2]

/-! results -/
theorem aret_intro {R : AEnd → St → Prop} {v v' : AVal} {S S' : St} (h : R (.ret v') S') (hs : Sub S' S) (hw : Weak v v') : aret R v S := ⟨v', S', hs, hw, h⟩
theorem aret_same {R : AEnd → St → Prop} {v : AVal} {S S' : St} (h : R (.ret v) S') (hs : Sub S' S) : aret R v S := ⟨v, S', hs, Weak.refl v, h⟩
@[congr] theorem aret_congr {R : AEnd → St → Prop} {v v' : AVal} {S S' : St} (h : v = v') (h2 : S = S') : aret R v S = aret R v' S' := by rw [h, h2]

theorem weak_sl {sz sz' : Nat} {xs : List (List AVal)} {g : Grow} (h : xs = [] ∨ sz = sz') : Weak (.sl sz xs g) (.sl sz' xs .unk) := by
  intro r u hu
  simp only [rel] at hu ⊢
  obtain ⟨A, cap, h1, h2, h3, h4, h5⟩ := hu
  refine ⟨A, cap, h1, h2, h3, trivial, ?_⟩
  rcases h5 with h5 | ⟨b, off, h5, h6⟩
  · exact .inl h5
  · refine .inr ⟨b, off, h5, ?_⟩
    rcases h with rfl | rfl
    · simp [relRows]
    · exact h6

def WeakF : List AVal → List AVal → Prop
  | [], [] => True
  | x :: xs, y :: ys => (y.isCell = true ∧ Weak x y) ∧ WeakF xs ys
  | _, _ => False
theorem WeakF.rel {r : RO} : ∀ {xs ys : List AVal} {us : List Value}, WeakF xs ys → relF r xs us → relF r ys us
  | [], [], us, h, h' => h'
  | x :: xs, y :: ys, us, h, h' => by
    simp only [relF] at h' ⊢
    obtain ⟨u, vs, rfl, hc, h1, h2⟩ := h'
    exact ⟨u, vs, rfl, h.1.1, h.1.2 _ _ h1, WeakF.rel h.2 h2⟩
  | [], _ :: _, _, h, _ => h.elim
  | _ :: _, [], _, h, _ => h.elim
theorem weak_agg {xs ys : List AVal} (h : WeakF xs ys) : Weak (.agg xs) (.agg ys) := by
  intro r u hu
  simp only [rel] at hu ⊢
  obtain ⟨us, h1, h2⟩ := hu
  exact ⟨us, h1, h.rel h2⟩
def WeakL : List AVal → List AVal → Prop
  | [], [] => True
  | x :: xs, y :: ys => Weak x y ∧ WeakL xs ys
  | _, _ => False
theorem WeakL.rel {r : RO} : ∀ {xs ys : List AVal} {us : List Value}, WeakL xs ys → relL r xs us → relL r ys us
  | [], [], us, h, h' => h'
  | x :: xs, y :: ys, us, h, h' => by
    simp only [relL] at h' ⊢
    obtain ⟨u, vs, rfl, h1, h2⟩ := h'
    exact ⟨u, vs, rfl, h.1 _ _ h1, WeakL.rel h.2 h2⟩
  | [], _ :: _, _, h, _ => h.elim
  | _ :: _, [], _, h, _ => h.elim
theorem weak_tup {xs ys : List AVal} (h : WeakL xs ys) : Weak (.tup xs) (.tup ys) := by
  intro r u hu
  simp only [rel] at hu ⊢
  obtain ⟨us, h1, h2⟩ := hu
  exact ⟨us, h1, h.rel h2⟩
end
end Go.Proofs.Abs
