/- The abstract layer, part 15: a call whose result lies in new rows gives these rows to the caller. -/
import Derived.Test.YtaeobokijndboaaDoorAbs14
set_option linter.unusedVariables false
namespace Go.Proofs.Abs
open Go

theorem relF_lits {r : RO} : ∀ (vs : List Value), (∀ v ∈ vs, v.oneCell' = true) → relF r (vs.map .lit) vs
  | [], _ => by simp [relF]
  | x :: xs, h => by
    simp only [List.map_cons, relF]
    exact ⟨x, xs, rfl, rfl, rel_lit (h x (by simp)), relF_lits xs fun v hv => h v (by simp [hv])⟩

/-- the rows from mk on, as boxes of bare cells -/
noncomputable def takeOver (S : St) (mk : Nat) (w : World) : St := fun b =>
  open Classical in if h : mk ≤ b ∧ FreeB w b then some (.box (h.2.choose.toList.map .lit) h.2.choose) else S b

theorem takeOver_old {S : St} {mk : Nat} {w : World} {b : Nat} (h : ¬ mk ≤ b) : takeOver S mk w b = S b := by
  unfold takeOver
  rw [dif_neg fun k => h k.1]
theorem takeOver_new {S : St} {mk : Nat} {w : World} {b : Nat} (h : mk ≤ b) (hf : FreeB w b) : ∃ vs T, w.heap[b]? = some (.cells vs T (0, 0)) ∧ (∀ u ∈ vs.toList, u.oneCell' = true) ∧ takeOver S mk w b = some (.box (vs.toList.map .lit) vs) := by
  obtain ⟨T, h1, h2⟩ := hf.choose_spec
  exact ⟨hf.choose, T, h1, h2, by unfold takeOver; rw [dif_pos ⟨h, hf⟩]⟩

theorem acalls_own {P : Program} {G : Glob} {f : FuncId} {args : List AVal} {S : St} {R : AEnd → St → Prop} {X : Nat → AVal}
    (h : ∀ mk, ACalls P ⟨G.tab, mk⟩ f args S fun e S' => e = .ret (X mk) ∧ S' = S)
    (hR : ∀ (mk : Nat) (w : World) (u : Value), (∀ b o, S b = some o → b < mk) → Sub S (takeOver S mk w) → rel (ro S w) (X mk) u → ∃ v, rel (ro (takeOver S mk w) w) v u ∧ R (.ret v) (takeOver S mk w)) :
    ACalls P G f args S R := by
  intro w vs hs hv
  have hs1 : Sim ⟨G.tab, w.heap.size⟩ S w := ⟨hs.own, hs.glob, Nat.le_refl _⟩
  refine (h w.heap.size w vs hs1 hv).mono fun e w' ⟨ae, S0, ⟨hae, hS0⟩, hs', hx, hrel⟩ => ?_
  subst hae; subst hS0
  have hlt : ∀ b o, S0 b = some o → b < w.heap.size := fun b o hb => hs.lt hb
  have hsub : Sub S0 (takeOver S0 w.heap.size w') := fun b => by
    by_cases hb : w.heap.size ≤ b
    · exact .inl (hs.fresh hb)
    · exact .inr (takeOver_old hb).symm
  have hext : Ext S0 w (takeOver S0 w.heap.size w') w' := by
    refine ⟨hx.os, hx.tape, hx.output, hx.size, fun b hb hn => ?_, fun b e sz cap n hb => ?_, hx.free⟩
    · rw [takeOver_old (by omega)]; exact hx.none b hb hn
    · have := hlt b _ hb
      rw [takeOver_old (by omega)]
      exact ⟨(hx.row b e sz cap n hb).1, .inr ⟨n, Nat.le_refl _, hb⟩⟩
  cases e with
  | returned u =>
    obtain ⟨v, h1, h2⟩ := hR w.heap.size w' u hlt hsub hrel
    refine ⟨.ret v, _, h2, ⟨fun b o hb => ?_, fun g cs hg => relCells_mono hext.ro _ _ _ (hs.glob g cs hg), Nat.le_trans hs.mark hx.size⟩, hext, h1⟩
    by_cases hb2 : w.heap.size ≤ b
    · by_cases hf : FreeB w' b
      · obtain ⟨vs', T, k1, k2, k3⟩ := takeOver_new (S := S0) hb2 hf
        rw [k3] at hb
        cases hb
        exact ⟨T, k1, relF_lits _ k2⟩
      · have : takeOver S0 w.heap.size w' b = S0 b := by unfold takeOver; rw [dif_neg fun k => hf k.2]
        rw [this, hs.fresh hb2] at hb
        cases hb
    · rw [takeOver_old hb2] at hb
      have h3 := hs.own b o hb
      have h4 := hs'.own b o hb
      cases o with
      | box cs us =>
        obtain ⟨T, _, k2⟩ := h3
        obtain ⟨T', k1', _⟩ := h4
        exact ⟨T', k1', relF_mono hext.ro _ _ k2⟩
      | row e sz cap n => exact h4
  | panicked c => exact hrel.elim
  | outgrown => exact hrel.elim

/-- behind a call, some of what is owned may be given up -/
theorem acalls_sub {P : Program} {G : Glob} {f : FuncId} {args : List AVal} {S : St} {R : AEnd → St → Prop} (h : ACalls P G f args S fun e S' => ∃ S'', Sub S'' S' ∧ R e S'') : ACalls P G f args S R := by
  intro w vs hs hv
  refine (h w vs hs hv).mono fun e w' ⟨ae, S', ⟨S'', h1, h2⟩, h3, h4, h5⟩ => ⟨ae, S'', h2, relF_of_sub h1 h3, h4.trans (h1.ext fun b o h => h3.lt h) fun b o h => hs.lt h, ?_⟩
  cases ae <;> cases e <;> simp only [relE] at h5 ⊢
  · exact rel_mono (h1.ro w') _ _ h5
  · obtain ⟨v, k1, k2⟩ := h5
    exact ⟨v, k1, rel_mono (h1.ro w') _ _ k2⟩
end Go.Proofs.Abs
