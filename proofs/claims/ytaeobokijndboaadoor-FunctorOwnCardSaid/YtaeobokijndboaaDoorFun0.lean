/- Functors: the trees, and what they are in memory. -/
import Derived.Test.YtaeobokijndboaaDoorSeat
import Derived.Test.YtaeobokijndboaaDoorAbs12
set_option linter.unusedSimpArgs false
set_option linter.unusedVariables false
set_option maxRecDepth 100000
namespace Go.Proofs.YtaeobokijndboaaDoor
open Go Go.Proofs.Abs

inductive Fun where
  | mk (kind n : Int) (args : List Fun)
def Fun.kind : Fun → Int | .mk k _ _ => k
def Fun.n : Fun → Int | .mk _ n _ => n
def Fun.args : Fun → List Fun | .mk _ _ l => l
def encF : Fun → List AVal
  | .mk k n l => [int .i64 k, int .i64 n, .sl 3 (l.map encF) .unk]
mutual
def Fun.size : Fun → Nat
  | .mk _ _ l => sizeL l + 1
def sizeL : List Fun → Nat
  | [] => 0
  | f :: l => f.size + sizeL l
end
theorem Fun.size_eq (f : Fun) : f.size = sizeL f.args + 1 := by cases f; simp [Fun.size, Fun.args]
theorem sizeL_len : ∀ l : List Fun, l.length ≤ sizeL l
  | [] => by simp
  | f :: l => by
    have := sizeL_len l
    have h : 1 ≤ f.size := by rw [Fun.size_eq]; omega
    simp [sizeL]; omega
theorem size_mem : ∀ {l : List Fun} {f : Fun}, f ∈ l → f.size ≤ sizeL l
  | [], _, h => by simp at h
  | g :: l, f, h => by
    rcases List.mem_cons.mp h with rfl | h
    · simp [sizeL]
    · have := size_mem h
      simp [sizeL]; omega
theorem mem_drop_head {α : Type} {xs l : List α} {i : Nat} {x : α} (h : xs.drop i = x :: l) : x ∈ xs := List.mem_of_mem_drop (i := i) (h ▸ List.mem_cons_self)
theorem take_succ_of {α : Type} {xs l : List α} {i : Nat} {x : α} (h : xs.drop i = x :: l) : xs.take (i + 1) = xs.take i ++ [x] := by
  have h1 : xs[i]? = some x := by
    have : (xs.drop i)[0]? = some x := by rw [h]; rfl
    simpa using this
  rw [List.take_add_one, h1]; rfl
theorem encF_eq (f : Fun) : encF f = [int .i64 f.kind, int .i64 f.n, .sl 3 (f.args.map encF) .unk] := by cases f; simp [encF, Fun.kind, Fun.n, Fun.args]
@[go_sem] theorem encF_len (f : Fun) : (encF f).length = 3 := by rw [encF_eq]; rfl
@[go_sem] theorem aget_encF (f : Fun) (i : Nat) (K : AVal → Prop) : aget (encF f) i K = aget [int .i64 f.kind, int .i64 f.n, .sl 3 (f.args.map encF) .unk] i K := by rw [encF_eq]
theorem wrap_i64 {x : Int} (h : -9223372036854775808 ≤ x) (h2 : x ≤ 9223372036854775807) : IntKind.i64.wrap x = x := by
  simp only [IntKind.wrap, IntKind.bits, IntKind.signed]
  simp
  omega

theorem aget_map {α : Type} {f : α → List AVal} {xs : List α} {n : Nat} {K : List AVal → Prop} {x : α} (h : xs[n]? = some x) (hk : K (f x)) : aget (xs.map f) n K := ⟨f x, by simp [h], hk⟩
theorem drop_get {α : Type} {xs l : List α} {i : Nat} {x : α} (h : xs.drop i = x :: l) : xs[i]? = some x ∧ xs.drop (i + 1) = l := by
  constructor
  · have : (xs.drop i)[0]? = some x := by rw [h]; rfl
    simpa using this
  · have := congrArg (List.drop 1) h
    simpa [List.drop_drop, Nat.add_comm] using this
theorem drop_lt {α : Type} {xs l : List α} {i : Nat} {x : α} (h : xs.drop i = x :: l) : i < xs.length := by
  have := congrArg List.length h
  simp at this; omega
theorem drop_ge {α : Type} {xs : List α} {i : Nat} (h : xs.drop i = []) : xs.length ≤ i := by simpa using h

end Go.Proofs.YtaeobokijndboaaDoor
