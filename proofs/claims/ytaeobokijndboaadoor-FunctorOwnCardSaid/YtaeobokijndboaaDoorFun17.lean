/- FunctorOwn: the row and the card. -/
import Derived.Test.YtaeobokijndboaaDoorFun16
import Derived.Test.YtaeobokijndboaaDoorAbs16
import Derived.Test.YtaeobokijndboaaDoorCards
import Derived.Test.YtaeobokijndboaaDoorTie
set_option linter.unusedSimpArgs false
set_option linter.unusedVariables false
set_option maxRecDepth 100000
namespace Go.Proofs.YtaeobokijndboaaDoor
open Go Go.Proofs.Abs Go.RowKit Go.ChangeShapes Go.WideShapes Go.ChangeAt

theorem laidOut : laidOutB Tryd.prog = true := by kernel_rfl
theorem own : ownKnob Tryd.prog.godebug = none := by kernel_rfl
theorem cellsF : Tryd.prog.cellsOf 24 = 3 := by kernel_rfl

section
variable {H : Type} {enc : TypeId × Value → H} {W : World} {held : Bool}
/-- a functor that is read is a tree -/
theorem fun_of : ∀ (n : Nat) (cs : List Value) (x : DataW H × List MemPlace), DataW.trod enc Tryd.prog W 0 (fun _ => true) held n 24 cs = some x → ∃ f : Fun, relF (ro St.none W) (encF f) cs
  | 0, cs, x, h => by simp [DataW.trod] at h
  | 1, cs, x, h => by
    obtain ⟨_, hf⟩ := trod_struct_inv Tryd.underlying24 h
    obtain ⟨y, hy⟩ := hf _ (List.mem_cons_self ..)
    simp [DataW.trod] at hy
  | n + 2, cs, x, h => by
    obtain ⟨hl, hf⟩ := trod_struct_inv Tryd.underlying24 h
    rw [cellsF] at hl
    obtain ⟨y0, h0⟩ := hf _ (List.mem_cons_self ..)
    obtain ⟨y1, h1⟩ := hf _ (List.mem_cons_of_mem _ (List.mem_cons_self ..))
    obtain ⟨y2, h2⟩ := hf _ (List.mem_cons_of_mem _ (List.mem_cons_of_mem _ (List.mem_cons_self ..)))
    have c3 : Tryd.prog.cellsOf 3 = 1 := by kernel_rfl
    have c22 : Tryd.prog.cellsOf 22 = 1 := by kernel_rfl
    simp only [c3, c22] at h0 h1 h2
    obtain ⟨z0, e0, _⟩ := trod_int_inv Tryd.underlying3 h0
    obtain ⟨z1, e1, _⟩ := trod_int_inv Tryd.underlying3 h1
    obtain ⟨l, u, e2, hrel⟩ := rel_slice Tryd.underlying22 cellsF (by omega) h2 encF encF_len (fun c y hy => fun_of n c y hy)
    refine ⟨.mk z0 z1 l, ?_⟩
    match cs, hl with
    | [a, b, c], _ =>
      simp at e0 e1 e2
      subst e0; subst e1; subst e2
      simp only [encF, relF, rel]
      exact ⟨_, _, rfl, rfl, ⟨rfl, rfl⟩, _, _, rfl, rfl, ⟨rfl, rfl⟩, _, _, rfl, rfl, by simpa only [rel] using hrel, rfl⟩
end
end Go.Proofs.YtaeobokijndboaaDoor
