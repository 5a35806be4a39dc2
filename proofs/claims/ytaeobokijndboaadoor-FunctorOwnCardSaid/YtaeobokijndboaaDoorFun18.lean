/- FunctorOwn: for every functor the law answers true, and its argument reads behind the call as before. Its row lists tables of the library and of the program; their contents are tied to the program's text (the card). -/
import Derived.Test.YtaeobokijndboaaDoorAbs17
import Derived.Test.YtaeobokijndboaaDoorFun17
set_option linter.unusedSimpArgs false
set_option linter.unusedVariables false
set_option maxRecDepth 100000
namespace Go.Proofs.YtaeobokijndboaaDoor
open Go Go.Proofs.Abs Go.RowKit Go.ChangeShapes Go.WideShapes Go.ChangeAt

theorem plainLaid : (Rows.functorOwnRow.laid.all fun x => x.2.handleName?.isNone) = true := by kernel_rfl
theorem gForms : Tryd.prog.globalNamed "ectype/functor.forms" = some 0 := by kernel_rfl
theorem gFormsT : ∃ t, (Tryd.prog.globals[0]?).map (·.type) = some t ∧ t < Tryd.prog.types.size := ⟨_, rfl, of_decide_eq_true (by kernel_rfl)⟩
def formsL : List Value := [.int .i64 0, .int .i64 0, .int .i64 16, .int .i64 0, .int .i64 0, .int .i64 2, .int .i64 0, .int .i64 2, .int .i64 4, .int .i64 1, .int .i64 0, .int .i64 1, .int .i64 0, .int .i64 1, .int .i64 0, .int .i64 1]
def tabs : Glob := ⟨fun g => if g = 0 then some formsA else none, 0⟩

theorem tabs_met {W : World} (h : laidMetH Tryd.prog Rows.functorOwnRow.laid W) : ∀ g cs, tabs g = some cs → relCells (ro St.none W) cs g 0 := by
  intro g cs hg
  have hg' : (if g = 0 then some formsA else none) = some cs := hg
  split at hg'
  · rename_i hgv
    subst hgv
    cases hg'
    rw [MakeChecks.laidMetH_plain _ _ _ plainLaid] at h
    obtain ⟨t, ht, hts⟩ := gFormsT
    exact table_cells (l := formsL) laidOut h (d := Rows.laid_ectype_functor_forms) (by simp [Rows.functorOwnRow]) gForms ht hts (by rfl) (by rfl)
  · cases hg'

/-- WHAT THE ROW ASKS OF A CALL. -/
theorem contract (H : Type) (enc : TypeId × Value → H) (W : World) (base : Nat) (args : Array Value) (ds gs : List (DataW H)) (before : List MemPlace)
    (hval : ∀ (j : Nat) t v, Tryd.f3.params[j]? = some t → args[j]? = some v → Value.okWide Tryd.prog W .any base t v)
    (hW : DataW.Whole enc Tryd.prog Tryd.f3.params.toList Rows.functorOwnSpec.vars false W args.toList ds gs before) (hL : laidMetH Tryd.prog Rows.functorOwnRow.laid W) :
    Calls Tryd.prog 3 args W fun e W' => ∃ v, e = .returned v ∧ Rows.functorOwnSpec.post enc Tryd.prog Tryd.f3 false true false false W args v W' := by
  have hW' := hW
  obtain ⟨p, q, hA0, hV, rfl, _, _⟩ := hW
  have hA : DataW.TrodAll enc Tryd.prog W 0 (fun _ => true) true Tryd.f3.params.toList args.toList ds p := hA0
  rw [Tryd.params3] at hA hval
  obtain ⟨v0, d0, rfl, rfl, h0⟩ := trodAll_one hA
  obtain ⟨rfl, rfl⟩ := trodVars_none hV
  have hok := hval 0 24 v0 rfl rfl
  unfold Value.okWide at hok
  rw [Tryd.underlying24] at hok
  obtain ⟨cs, rfl, _, _⟩ := hok
  obtain ⟨n, hn⟩ := h0
  obtain ⟨f, hf⟩ := fun_of n _ _ hn
  have hc := calls_of_acalls (G := tabs) (v := Abs.bool true) (tabs_met hL) rfl (args := [.agg (encF f)]) (vs := #[.agg cs]) (by simp only [relL, rel]; exact ⟨_, _, rfl, ⟨cs, rfl, hf⟩, rfl⟩)
    (law_spec (G := tabs) rfl f St.none _ ⟨rfl, rfl⟩)
  refine hc.mono fun e W' ⟨u, he, hu, hb⟩ => ?_
  subst he
  have := rel_lit_inv hu
  subst this
  exact ⟨_, rfl, post_true laidOut (tb := 4) rfl Tryd.underlying4 hW' rfl (by rw [Tryd.params3]; intro t ht; simp at ht; subst ht; exact ⟨by kernel_rfl, of_decide_eq_true (by kernel_rfl)⟩) rfl rfl rfl hb⟩

theorem lifted (os : Os) (started : os.Started) (H : Type) (enc : TypeId × Value → H) :
    ReturnsInHanded {} Tryd.checked os 3 .any (fun w args => (Rows.functorOwnSpec.pre enc Tryd.prog Tryd.f3 Rows.functorOwnRow.domain false w args ∧ laidMetH Tryd.prog Rows.functorOwnRow.laid w) ∧ sizedMet enc Tryd.prog Tryd.f3 (OpenSpec.ofChange Rows.functorOwnSpec) false w args)
      (Rows.functorOwnSpec.post enc Tryd.prog Tryd.f3 false true false false) := by
  refine returnsInHanded_of_change_and (C := Tryd.checked) (X := fun w _ => laidMetH Tryd.prog Rows.functorOwnRow.laid w) (fun _ _ _ hh h => h.of_heap hh) own started (by kernel_rfl) Tryd.func3
    (ChangeSpec.witness_shaped (enc := enc) (C := Tryd.checked) (os := os) (X := fun w _ => laidMetH Tryd.prog Rows.functorOwnRow.laid w) false (World.laidAll Tryd.prog os Rows.functorOwnRow.laid) #[.agg #[.int .i64 0, .int .i64 0, .slice none 0 0]] 8 (World.laidAll_os _ _ _)
      (World.shaped_of_ZipB (by kernel_rfl) (by kernel_rfl)) (by kernel_rfl) (by kernel_rfl) (by kernel_rfl)
      (by rw [MakeChecks.laidMetH_plain _ _ _ plainLaid]; exact laidMet_laidAll _ (by kernel_rfl) (by kernel_rfl))) ?_
  intro W base args ds gs before hval hW _ _ hL _
  exact contract H enc W base args ds gs before hval hW hL

theorem said : Rows.FunctorOwnSaid :=
  OpenClaim.holds_of_wide 3 Tryd.f3 rfl rfl rfl rfl rfl rfl rfl ⟨rfl, rfl, rfl, rfl, rfl⟩ rfl rfl rfl rfl rfl (by kernel_rfl) Tryd.func3 (by kernel_rfl)
    (of_decide_eq_true (by kernel_rfl)) (by unfold Func.isWrapper; first | (rw [if_pos (by decide +kernel)]; kernel_rfl) | (rw [if_neg (by decide +kernel)]; exact ⟨rfl, rfl⟩))
    (fun os started H enc _ => lifted os started H enc)

/-- No parameter wants a stand-in. -/
theorem noStand (f : FuncId) (fn : Func) (hf : Tryd.pinned.checked.prog.funcNamed "ectype/ectypelaw01.FunctorOwn" = some f) (hfn : Tryd.pinned.checked.prog.funcs[f]? = some fn) :
    true = Tryd.pinned.checked.prog.looks [] ∧ ∀ (j : Nat) t, fn.params[j]? = some t → Tryd.pinned.checked.prog.wantsStandIn t = false := by
  obtain rfl : f = 3 := Option.some.inj ((show Tryd.prog.funcNamed "ectype/ectypelaw01.FunctorOwn" = some 3 by kernel_rfl).symm.trans hf) |>.symm
  obtain rfl : fn = Tryd.f3 := (Option.some.inj (Tryd.func3.symm.trans hfn)).symm
  refine ⟨by kernel_rfl, fun j t ht => ?_⟩
  rw [Tryd.params3] at ht
  obtain rfl : t = 24 := by simpa using Array.mem_of_getElem? ht
  exact (show Tryd.prog.wantsStandIn 24 = false by kernel_rfl)

theorem card : Rows.FunctorOwnCardSaid :=
  Claim7.holds_tied_plain_at .later [] _ _ _ _ said (fun _ h => by cases h) (by kernel_rfl) (fun _ h => by cases h) functorOwn_row_tie rfl ⟨rfl, rfl⟩ (by kernel_rfl) rfl noStand (by kernel_rfl)
#print axioms card
end Go.Proofs.YtaeobokijndboaaDoor
