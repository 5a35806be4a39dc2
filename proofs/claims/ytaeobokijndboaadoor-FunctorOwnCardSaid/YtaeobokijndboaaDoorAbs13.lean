/- The abstract layer, part 13: contracts of the library's functions, lifted. -/
import Derived.Test.YtaeobokijndboaaDoorAbs12
set_option linter.unusedVariables false
namespace Go.Proofs.Abs
open Go

theorem below_ext {G : Glob} {S : St} {w w' : World} (hs : Sim G S w) (h : RowKit.Below w.heap.size w w') : Ext S w S w' :=
  ⟨h.os, h.tape, h.output, h.size, fun b hb hS => ⟨hS, h.block b hb⟩, fun b e sz cap n hS => ⟨fun off _ => RowKit.Below.cell h (p := ⟨b, off, none⟩) (hs.lt hS), .inr ⟨n, Nat.le_refl _, hS⟩⟩, fun b hb => hb.of_block (h.block b hb.lt)⟩

theorem below_sim {G : Glob} {S : St} {w w' : World} (hs : Sim G S w) (h : RowKit.Below w.heap.size w w') : Sim G S w' := by
  have hro := (below_ext hs h).ro
  refine ⟨fun b o hb => ?_, fun g cs hg => relCells_mono hro cs g 0 (hs.glob g cs hg), Nat.le_trans hs.mark h.size⟩
  have hlt := hs.lt hb
  have := hs.own b o hb
  cases o with
  | box cs vs =>
    obtain ⟨T, h1, h2⟩ := this
    exact ⟨T, (h.block b hlt).trans h1, relF_mono hro cs _ h2⟩
  | row e sz cap n =>
    obtain ⟨vs, h1, h2⟩ := this
    exact ⟨vs, (h.block b hlt).trans h1, h2⟩

theorem relL_lits {r : RO} : ∀ {xs : List Value} {us : List Value}, relL r (xs.map .lit) us → us = xs
  | [], us, h => by simpa only [List.map_nil, relL] using h
  | x :: xs, us, h => by
    simp only [List.map_cons, relL] at h
    obtain ⟨u, vs, rfl, h1, h2⟩ := h
    simp only [rel] at h1
    rw [h1.1, relL_lits h2]

/-- A contract of the library, of values of one cell. -/
theorem acalls_lift {P : Program} {G : Glob} {S : St} {R : AEnd → St → Prop} {f : FuncId} {args : List Value} {x : AVal} {v : Value} (hv : ∀ r, rel r x v)
    (h : ∀ w, Calls P f args.toArray w fun e w' => e = .returned v ∧ RowKit.Below w.heap.size w w') (hR : R (.ret x) S) : ACalls P G f (args.map .lit) S R := by
  intro w vs hs hr
  have : vs = args.toArray := by
    have := relL_lits hr
    rw [← this]
  subst this
  refine (h w).mono fun e w' => ?_
  rintro ⟨rfl, hb⟩
  exact ⟨.ret x, S, hR, below_sim hs hb, below_ext hs hb, hv _⟩
end Go.Proofs.Abs
