/- The abstract layer, part 1: abstract values, what it means that a value in a world represents one, the abstract store, the frame. -/
import Derived.OrdersHeld
import Derived.Laws.AppendOwn
import Derived.Laws.Cells
import Derived.Laws.Alloc2
import Derived.Below
import Derived.Defers
import Derived.KernelRfl
set_option linter.unusedVariables false
namespace Go.Proofs.Abs
open Go

inductive Grow where
  | unk
  | full
  | fresh (m : Nat)
  | own (o : Option (Nat × Nat))

inductive AVal where
  | lit (v : Value)
  | sl (sz : Nat) (xs : List (List AVal)) (g : Grow)
  | rp (cs : List AVal) (off : Nat)
  | fn (f : Fn) (caps : List AVal)
  | ifc (t : TypeId) (x : AVal)
  | agg (cs : List AVal)
  | tup (vs : List AVal)
  | any

instance : Inhabited AVal := ⟨.any⟩

/-- what may be read, and the blocks that are plain rows of cells, not frozen -/
structure RO where
  val : Nat → Nat → Option Value
  free : Nat → Prop
instance : CoeFun RO (fun _ => Nat → Nat → Option Value) := ⟨RO.val⟩

def AVal.isCell : AVal → Bool
  | .agg _ | .tup _ | .any => false
  | _ => true

def growOk (r : RO) (n : Nat) : Grow → Option Addr → Nat → Prop
  | .unk, _, _ => True
  | .full, _, cap => cap = n
  | .fresh m, a, cap => cap = n ∧ ∀ x, a = some x → x.off = 0 ∧ m ≤ x.block ∧ r.free x.block
  | .own none, a, _ => a = none
  | .own (some (b, c)), a, cap => a = some ⟨b, 0, none⟩ ∧ cap = c

mutual
def rel (r : RO) : AVal → Value → Prop
  | .lit v, u => u = v ∧ v.oneCell' = true
  | .sl sz xs g, u => ∃ A cap, u = .slice A xs.length cap ∧ xs.length ≤ cap ∧ cap ≤ maxLen ∧ growOk r xs.length g A cap ∧
      ((xs = [] ∧ cap = 0) ∨ ∃ b off, A = some ⟨b, off, none⟩ ∧ relRows r sz xs b off)
  | .rp cs off, u => ∃ b o, u = .pointer (some ⟨b, o + off, none⟩) ∧ relCells r cs b o
  | .fn f caps, u => ∃ us, u = .func f #[] us ∧ relL r caps us.toList
  | .ifc t x, u => ∃ y, u = .iface t y ∧ rel r x y
  | .agg cs, u => ∃ us, u = .agg us ∧ relF r cs us.toList
  | .tup vs, u => ∃ us, u = .tuple us ∧ relL r vs us.toList
  | .any, _ => True
def relL (r : RO) : List AVal → List Value → Prop
  | [], us => us = []
  | x :: xs, us => ∃ u vs, us = u :: vs ∧ rel r x u ∧ relL r xs vs
def relF (r : RO) : List AVal → List Value → Prop
  | [], us => us = []
  | x :: xs, us => ∃ u vs, us = u :: vs ∧ x.isCell = true ∧ rel r x u ∧ relF r xs vs
def relCells (r : RO) : List AVal → Nat → Nat → Prop
  | [], _, _ => True
  | x :: xs, b, off => x.isCell = true ∧ (∃ u, r b off = some u ∧ rel r x u) ∧ relCells r xs b (off + 1)
def relRows (r : RO) (sz : Nat) : List (List AVal) → Nat → Nat → Prop
  | [], _, _ => True
  | c :: xs, b, off => c.length = sz ∧ relCells r c b off ∧ relRows r sz xs b (off + sz)
end

structure RO.le (r r' : RO) : Prop where
  val : ∀ b off u, r b off = some u → r' b off = some u
  free : ∀ b, r.free b → r'.free b

theorem RO.le.refl (r : RO) : r.le r := ⟨fun _ _ _ h => h, fun _ h => h⟩
theorem RO.le.trans {a b c : RO} (h : a.le b) (k : b.le c) : a.le c := ⟨fun x y u g => k.val x y u (h.val x y u g), fun x g => k.free x (h.free x g)⟩
theorem growOk_mono {r r' : RO} (hr : r.le r') {n : Nat} {g : Grow} {a : Option Addr} {cap : Nat} (h : growOk r n g a cap) : growOk r' n g a cap := by
  cases g with
  | fresh m => exact ⟨h.1, fun x hx => ⟨(h.2 x hx).1, (h.2 x hx).2.1, hr.free _ (h.2 x hx).2.2⟩⟩
  | unk => exact h
  | full => exact h
  | own o => cases o <;> exact h

mutual
theorem rel_mono {r r' : RO} (hr : r.le r') : ∀ (x : AVal) (u : Value), rel r x u → rel r' x u
  | .lit v, u, h => by simpa only [rel] using h
  | .sl sz xs g, u, h => by
    simp only [rel] at h ⊢
    obtain ⟨A, cap, h1, h2, h3, h4, h5⟩ := h
    refine ⟨A, cap, h1, h2, h3, growOk_mono hr h4, ?_⟩
    rcases h5 with h5 | ⟨b, off, h5, h6⟩
    · exact .inl h5
    · exact .inr ⟨b, off, h5, relRows_mono hr sz xs b off h6⟩
  | .rp cs off, u, h => by
    simp only [rel] at h ⊢
    obtain ⟨b, o, h1, h2⟩ := h
    exact ⟨b, o, h1, relCells_mono hr cs b o h2⟩
  | .fn f caps, u, h => by
    simp only [rel] at h ⊢
    obtain ⟨us, h1, h2⟩ := h
    exact ⟨us, h1, relL_mono hr caps _ h2⟩
  | .ifc t x, u, h => by
    simp only [rel] at h ⊢
    obtain ⟨y, h1, h2⟩ := h
    exact ⟨y, h1, rel_mono hr x y h2⟩
  | .agg cs, u, h => by
    simp only [rel] at h ⊢
    obtain ⟨us, h1, h2⟩ := h
    exact ⟨us, h1, relF_mono hr cs _ h2⟩
  | .tup vs, u, h => by
    simp only [rel] at h ⊢
    obtain ⟨us, h1, h2⟩ := h
    exact ⟨us, h1, relL_mono hr vs _ h2⟩
  | .any, _, _ => by simp only [rel]
theorem relL_mono {r r' : RO} (hr : r.le r') : ∀ (xs : List AVal) (us : List Value), relL r xs us → relL r' xs us
  | [], us, h => by simpa only [relL] using h
  | x :: xs, us, h => by
    simp only [relL] at h ⊢
    obtain ⟨u, vs, h1, h2, h3⟩ := h
    exact ⟨u, vs, h1, rel_mono hr x u h2, relL_mono hr xs vs h3⟩
theorem relF_mono {r r' : RO} (hr : r.le r') : ∀ (xs : List AVal) (us : List Value), relF r xs us → relF r' xs us
  | [], us, h => by simpa only [relF] using h
  | x :: xs, us, h => by
    simp only [relF] at h ⊢
    obtain ⟨u, vs, h1, hc, h2, h3⟩ := h
    exact ⟨u, vs, h1, hc, rel_mono hr x u h2, relF_mono hr xs vs h3⟩
theorem relCells_mono {r r' : RO} (hr : r.le r') : ∀ (xs : List AVal) (b off : Nat), relCells r xs b off → relCells r' xs b off
  | [], _, _, _ => by simp only [relCells]
  | x :: xs, b, off, h => by
    simp only [relCells] at h ⊢
    obtain ⟨hc, ⟨u, h1, h2⟩, h3⟩ := h
    exact ⟨hc, ⟨u, hr.val _ _ _ h1, rel_mono hr x u h2⟩, relCells_mono hr xs b (off + 1) h3⟩
theorem relRows_mono {r r' : RO} (hr : r.le r') (sz : Nat) : ∀ (xs : List (List AVal)) (b off : Nat), relRows r sz xs b off → relRows r' sz xs b off
  | [], _, _, _ => by simp only [relRows]
  | c :: xs, b, off, h => by
    simp only [relRows] at h ⊢
    exact ⟨h.1, relCells_mono hr c b off h.2.1, relRows_mono hr sz xs b (off + sz) h.2.2⟩
end

/-! ### the store -/

inductive Own where
  | box (cs : List AVal) (vs : Array Value)
  | row (e : TypeId) (sz cap n : Nat)

def St := Nat → Option Own

def St.get (S : St) (b : Nat) : Option Own := S b
def St.none : St := fun _ => Option.none
/-- a new block -/
def St.upd (S : St) (b : Nat) (o : Own) : St := fun x => if x = b then some o else S x
/-- a block that is there, written -/
def St.set (S : St) (b : Nat) (o : Own) : St := fun x => if x = b then some o else S x
def St.del (S : St) (b : Nat) : St := fun x => if x = b then Option.none else S x

def roOk : Option Own → Nat → Bool
  | .none, _ => true
  | some (.box _ _), _ => false
  | some (.row _ sz _ n), off => decide (off < n * sz)

/-- a block that is a row of cells, not frozen -/
def FreeB (w : World) (b : Nat) : Prop := ∃ vs T, w.heap[b]? = some (.cells vs T (0, 0)) ∧ ∀ u ∈ vs.toList, u.oneCell' = true
theorem FreeB.of_block {w w' : World} {b : Nat} (h : FreeB w b) (hb : w'.heap[b]? = w.heap[b]?) : FreeB w' b := by
  obtain ⟨vs, T, h1, h2⟩ := h
  exact ⟨vs, T, hb.trans h1, h2⟩
theorem FreeB.lt {w : World} {b : Nat} (h : FreeB w b) : b < w.heap.size := by
  obtain ⟨vs, T, h1, h2⟩ := h
  exact (Array.getElem?_eq_some_iff.1 h1).1

def ro (S : St) (w : World) : RO := ⟨fun b off => if roOk (S b) off then w.cell? ⟨b, off, none⟩ else none, FreeB w⟩

theorem ro_some {S : St} {w : World} {b off : Nat} {u : Value} : ro S w b off = some u ↔ roOk (S b) off = true ∧ w.cell? ⟨b, off, none⟩ = some u := by
  unfold ro; simp only; split <;> simp_all

def OwnOk (S : St) (w : World) (b : Nat) : Own → Prop
  | .box cs vs => ∃ T, w.heap[b]? = some (.cells vs T (0, 0)) ∧ relF (ro S w) cs vs.toList
  | .row e sz cap n => ∃ vs, w.heap[b]? = some (.cells vs e (0, 0)) ∧ vs.size = cap * sz ∧ n ≤ cap ∧ cap ≤ maxLen

/-- what the program's tables read as, and a mark: a number of blocks that stand -/
structure Glob where
  tab : Nat → Option (List AVal)
  mark : Nat
instance : CoeFun Glob (fun _ => Nat → Option (List AVal)) := ⟨Glob.tab⟩

structure Sim (G : Glob) (S : St) (w : World) : Prop where
  own : ∀ b o, S b = some o → OwnOk S w b o
  glob : ∀ g cs, G g = some cs → relCells (ro S w) cs g 0
  mark : G.mark ≤ w.heap.size

theorem Sim.lt {G : Glob} {S : St} {w : World} (h : Sim G S w) {b : Nat} {o : Own} (hb : S b = some o) : b < w.heap.size := by
  have := h.own b o hb
  cases o with
  | box cs vs => obtain ⟨T, h1, _⟩ := this; exact (Array.getElem?_eq_some_iff.1 h1).1
  | row e sz cap n => obtain ⟨vs, h1, _⟩ := this; exact (Array.getElem?_eq_some_iff.1 h1).1

theorem Sim.fresh {G : Glob} {S : St} {w : World} (h : Sim G S w) {b : Nat} (hb : w.heap.size ≤ b) : S b = none := by
  cases hs : S b with
  | none => rfl
  | some o => have := h.lt hs; omega

structure Ext (S : St) (w : World) (S' : St) (w' : World) : Prop where
  os : w'.os = w.os
  tape : w'.tape = w.tape
  output : w'.output = w.output
  size : w.heap.size ≤ w'.heap.size
  none : ∀ b, b < w.heap.size → S b = none → S' b = none ∧ w'.heap[b]? = w.heap[b]?
  row : ∀ b e sz cap n, S b = some (.row e sz cap n) → (∀ off, off < n * sz → w'.cell? ⟨b, off, Option.none⟩ = w.cell? ⟨b, off, Option.none⟩) ∧
    (S' b = Option.none ∨ ∃ n', n ≤ n' ∧ S' b = some (.row e sz cap n'))
  free : ∀ b, FreeB w b → FreeB w' b

theorem Ext.refl (S : St) (w : World) : Ext S w S w :=
  ⟨rfl, rfl, rfl, Nat.le_refl _, fun _ _ h => ⟨h, rfl⟩, fun _ _ _ _ n h => ⟨fun _ _ => rfl, .inr ⟨n, Nat.le_refl _, h⟩⟩, fun _ h => h⟩

theorem Ext.trans {S S' S'' : St} {w w' w'' : World} (h : Ext S w S' w') (k : Ext S' w' S'' w'') (hin : ∀ b o, S b = some o → b < w.heap.size) : Ext S w S'' w'' := by
  refine ⟨k.os.trans h.os, k.tape.trans h.tape, k.output.trans h.output, Nat.le_trans h.size k.size, ?_, ?_, fun b hb => k.free b (h.free b hb)⟩
  · intro b hb hs
    obtain ⟨h1, h2⟩ := h.none b hb hs
    obtain ⟨h3, h4⟩ := k.none b (Nat.lt_of_lt_of_le hb h.size) h1
    exact ⟨h3, h4.trans h2⟩
  · intro b e sz cap n hs
    obtain ⟨h1, h2⟩ := h.row b e sz cap n hs
    rcases h2 with h2 | ⟨n', hn, h2⟩
    · obtain ⟨h3, h4⟩ := k.none b (Nat.lt_of_lt_of_le (hin b _ hs) h.size) h2
      exact ⟨fun off ho => (World.cell?_of_block (w := w') (a := ⟨b, off, Option.none⟩) h4).trans (h1 off ho), .inl h3⟩
    · obtain ⟨h3, h4⟩ := k.row b e sz cap n' h2
      refine ⟨fun off ho => (h3 off (Nat.lt_of_lt_of_le ho (Nat.mul_le_mul_right _ hn))).trans (h1 off ho), ?_⟩
      rcases h4 with h4 | ⟨n'', hn', h4⟩
      · exact .inl h4
      · exact .inr ⟨n'', Nat.le_trans hn hn', h4⟩

theorem Ext.ro {S S' : St} {w w' : World} (h : Ext S w S' w') : (ro S w).le (ro S' w') := by
  refine ⟨?_, h.free⟩
  intro b off u hu
  rw [ro_some] at hu ⊢
  obtain ⟨h1, h2⟩ := hu
  have hlt := World.block_lt_of_cell? w (a := ⟨b, off, Option.none⟩) h2
  cases hs : S b with
  | none =>
    obtain ⟨h3, h4⟩ := h.none b hlt hs
    exact ⟨by rw [h3]; rfl, (World.cell?_of_block (w := w) (a := ⟨b, off, Option.none⟩) h4).trans h2⟩
  | some o =>
    cases o with
    | box cs vs => rw [hs] at h1; simp [roOk] at h1
    | row e sz cap n =>
      rw [hs] at h1
      simp only [roOk, decide_eq_true_eq] at h1
      obtain ⟨h3, h4⟩ := h.row b e sz cap n hs
      refine ⟨?_, (h3 off h1).trans h2⟩
      rcases h4 with h4 | ⟨n', hn, h4⟩
      · rw [h4]; rfl
      · rw [h4]; simp only [roOk, decide_eq_true_eq]; exact Nat.lt_of_lt_of_le h1 (Nat.mul_le_mul_right _ hn)

theorem Ext.rel {S S' : St} {w w' : World} (h : Ext S w S' w') {x : AVal} {u : Value} (hx : rel (Abs.ro S w) x u) : rel (Abs.ro S' w') x u := rel_mono h.ro x u hx

theorem Ext.below {S' : St} {w w' : World} (h : Ext St.none w S' w') : RowKit.Below w.heap.size w w' :=
  ⟨h.os, h.tape, h.output, h.size, fun k hk => (h.none k hk rfl).2⟩

/-- S' is S with some of the blocks given up -/
def Sub (S' S : St) : Prop := ∀ b, S' b = none ∨ S' b = S b

theorem Sub.refl (S : St) : Sub S S := fun _ => .inr rfl
theorem Sub.trans {a b c : St} (h : Sub a b) (k : Sub b c) : Sub a c := fun x => (h x).elim .inl fun h1 => (k x).elim (fun h2 => .inl (h1.trans h2)) fun h2 => .inr (h1.trans h2)
theorem Sub.upd {S' S : St} {b : Nat} {o : Own} (h : Sub S' S) (hb : S b = none) : Sub S' (S.upd b o) := fun x => by
  unfold St.upd
  by_cases hx : x = b
  · subst hx; rcases h x with h1 | h1
    · exact .inl h1
    · exact .inl (h1.trans hb)
  · rw [if_neg hx]; exact h x

theorem Sub.ro {S' S : St} (h : Sub S' S) (w : World) : (Abs.ro S w).le (Abs.ro S' w) := by
  refine ⟨?_, fun _ h => h⟩
  intro b off u hu
  rw [ro_some] at hu ⊢
  refine ⟨?_, hu.2⟩
  rcases h b with h1 | h1
  · rw [h1]; rfl
  · rw [h1]; exact hu.1

theorem Sub.ext {S' S : St} (h : Sub S' S) {w : World} (hin : ∀ b o, S b = some o → b < w.heap.size) : Ext S w S' w :=
  ⟨rfl, rfl, rfl, Nat.le_refl _, fun b _ hb => ⟨(h b).elim id (fun h1 => h1.trans hb), rfl⟩, fun b e sz cap n hb => ⟨fun _ _ => rfl, (h b).elim .inl fun h1 => .inr ⟨n, Nat.le_refl _, h1.trans hb⟩⟩, fun _ h => h⟩

theorem relF_of_sub {G : Glob} {S' S : St} {w : World} (h : Sub S' S) (hs : Sim G S w) : Sim G S' w := by
  refine ⟨fun b o hb => ?_, fun g cs hg => relCells_mono (h.ro w) _ _ _ (hs.glob g cs hg), hs.mark⟩
  have hb' : S b = some o := (h b).elim (fun h1 => by rw [h1] at hb; cases hb) (fun h1 => h1.symm.trans hb)
  have := hs.own b o hb'
  cases o with
  | box cs vs => obtain ⟨T, h1, h2⟩ := this; exact ⟨T, h1, relF_mono (h.ro w) _ _ h2⟩
  | row e sz cap n => exact this

end Go.Proofs.Abs
