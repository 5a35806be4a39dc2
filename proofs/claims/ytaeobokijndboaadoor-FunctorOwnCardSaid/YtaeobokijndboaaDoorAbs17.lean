/- The abstract layer, part 17: a table of bare values, out of what a row lists. -/
import Derived.Test.YtaeobokijndboaaDoorAbs16
set_option linter.unusedVariables false
namespace Go.Proofs.Abs
open Go Go.RowKit Go.ChangeShapes Go.WideShapes Go.ChangeAt

section
variable {H : Type} {enc : TypeId × Value → H} {P : Program} {w : World} {spare : Nat → Bool} {held : Bool}

mutual
/-- the cells of a datum of bare values -/
def flatD : DataW H → Option (List Value)
  | .lit (.int k n) => some [.int k n]
  | .lit (.bool b) => some [.bool b]
  | .lit (.string bs) => some [.string ⟨bs.toArray⟩]
  | .agg ps => flatDs ps
  | _ => none
def flatDs : List (DataW H) → Option (List Value)
  | [] => some []
  | d :: r => match flatD d, flatDs r with
    | some a, some b => some (a ++ b)
    | _, _ => none
end

theorem segs {α : Type} {ty off : α → Nat} {R : α → List Value → Option (DataW H × List MemPlace)} : ∀ (fs : List α) (o : Nat) (cs : List Value) (ys : List (DataW H × List MemPlace)) (l : List Value),
    (∀ (j : Nat) f, fs[j]? = some f → off f = o + ((fs.take j).map fun f => P.cellsOf (ty f)).sum) → cs.length = o + (fs.map fun f => P.cellsOf (ty f)).sum →
    (fs.mapM fun f => R f ((cs.drop (off f)).take (P.cellsOf (ty f)))) = some ys → flatDs (ys.map (·.1)) = some l →
    (∀ f ∈ fs, ∀ c y l, R f c = some y → flatD y.1 = some l → c = l) → cs.drop o = l
  | [], o, cs, ys, l, h1, h2, h3, h4, ih => by
    simp at h3; subst h3
    simp [flatDs] at h4; subst h4
    simp at h2
    simp; omega
  | f :: fs, o, cs, ys, l, h1, h2, h3, h4, ih => by
    have e0 : off f = o := by simpa using h1 0 f rfl
    rw [List.mapM_cons] at h3
    cases ha : R f ((cs.drop (off f)).take (P.cellsOf (ty f))) with
    | none => simp [ha] at h3
    | some y =>
      cases hr : (fs.mapM fun f => R f ((cs.drop (off f)).take (P.cellsOf (ty f)))) with
      | none => simp [ha, hr] at h3
      | some ys' =>
        simp only [ha, hr, Option.bind_eq_bind, Option.bind_some, Option.pure_def, Option.some.injEq] at h3
        subst h3
        simp only [List.map_cons, flatDs] at h4
        cases hfa : flatD y.1 with
        | none => simp [hfa] at h4
        | some a =>
          cases hfb : flatDs (ys'.map (·.1)) with
          | none => simp [hfa, hfb] at h4
          | some b =>
            simp only [hfa, hfb, Option.some.injEq] at h4
            subst h4
            have k1 := ih f (by simp) _ _ _ ha hfa
            have k2 := segs fs (o + P.cellsOf (ty f)) cs ys' b (fun j g hg => by
              have := h1 (j + 1) g (by simpa using hg)
              simp only [List.take_succ_cons, List.map_cons, List.sum_cons] at this
              omega) (by simp only [List.map_cons, List.sum_cons] at h2; omega) hr hfb (fun g hg => ih g (by simp [hg]))
            rw [← k1, ← k2, e0, ← List.drop_drop, List.take_append_drop]

theorem trod_flat (hl : laidOutB P = true) : ∀ (n : Nat) (t : TypeId) (cs : List Value) (x : DataW H × List MemPlace) (l : List Value), t < P.types.size →
    DataW.trod enc P w 0 spare held n t cs = some x → flatD x.1 = some l → cs = l := by
  intro n
  induction n with
  | zero => intro t cs x l _ h; simp [DataW.trod] at h
  | succ n ih =>
    intro t cs x l ht h hf
    unfold DataW.trod at h
    split at h
    all_goals (try (simp only [Option.some.injEq] at h; subst h; simp only [flatD, reduceCtorEq, Option.some.injEq] at hf; try (subst hf; rfl)))
    case h_2 =>
      split at h
      · rename_i hk
        cases h
        simp only [flatD, Option.some.injEq] at hf
        rw [← hf, hk.1]
      · cases h
    case h_3 => split at h <;> simp at h; subst h; simp [flatD] at hf
    case h_4 => split at h <;> simp at h; subst h; simp only [flatD, Option.some.injEq] at hf; rw [← hf]
    case h_6 => simp only [Option.map_eq_some_iff] at h; obtain ⟨y, _, rfl⟩ := h; simp [flatD] at hf
    case h_8 =>
      simp only at h
      split at h
      · obtain ⟨es, _, h⟩ := Option.bind_eq_some_iff.1 h
        obtain ⟨rs, _, rfl⟩ := Option.map_eq_some_iff.1 h
        simp [flatD] at hf
      · cases h
    case h_9 cs _ _ fs hu =>
      obtain ⟨k1, k2, k3⟩ := kid_struct hl ht hu
      split at h
      · rename_i hc
        obtain ⟨xs, h1, rfl⟩ := Option.map_eq_some_iff.1 h
        simp only [flatD] at hf
        have := segs (P := P) (ty := fun f : Field => f.type) (off := fun f : Field => f.offset) (R := fun f c => DataW.trod enc P w 0 spare held n f.type c) fs.toList 0 cs xs l (fun j f hj => by rw [Nat.zero_add]; exact k3 j f hj) (by rw [Nat.zero_add, hc, k2]) h1 hf
          (fun f hf c y l q1 q2 => ih f.type c y l (k1 f hf) q1 q2)
        simpa using this
      · cases h
    case h_10 cs _ _ m e hu =>
      obtain ⟨k1, k2⟩ := kid_array hl ht hu
      split at h
      · rename_i hc
        obtain ⟨xs, h1, rfl⟩ := Option.map_eq_some_iff.1 h
        simp only [flatD] at hf
        have hsum : ∀ k, ((List.range k).map fun _ => P.cellsOf e).sum = k * P.cellsOf e := by
          intro k
          rw [List.map_const', List.sum_replicate_nat, List.length_range]
        have := segs (P := P) (ty := fun _ : Nat => e) (off := fun i : Nat => i * P.cellsOf e) (R := fun _ c => DataW.trod enc P w 0 spare held n e c) (List.range m) 0 cs xs l (fun j f hj => by
            rw [Nat.zero_add]
            have hjm := (List.getElem?_eq_some_iff.1 hj).1
            simp at hjm
            have : f = j := by simp [hjm] at hj; exact hj.symm
            subst this
            rw [List.take_range, Nat.min_eq_left (by omega), hsum]) (by rw [Nat.zero_add, hc, k2, hsum]) h1 hf
          (fun f hf c y l q1 q2 => ih e c y l k1 q1 q2)
        simpa using this
      · cases h
    case h_12 =>
      split at h
      · simp at h; subst h; simp [flatD] at hf
      · obtain ⟨y, _, rfl⟩ := Option.map_eq_some_iff.1 h; simp [flatD] at hf
      · cases h
    case h_14 =>
      split at h
      · split at h
        · obtain ⟨es, _, h⟩ := Option.bind_eq_some_iff.1 h
          simp only at h
          split at h
          · simp at h; subst h; simp [flatD] at hf
          · cases h
        · cases h
      · cases h
    all_goals (first | (split at h <;> simp at h; subst h; simp [flatD] at hf; done) | cases h)
end

/-- a table of bare values that a row lists -/
theorem table_cells {P : Program} (hl : laidOutB P = true) {W : World} {laid : List (String × DataW Unit)} (h : laidMet P laid W) {n : String} {d : DataW Unit} (hm : (n, d) ∈ laid) {g : Nat} {t : TypeId} {l : List Value}
    (hg : P.globalNamed n = some g) (ht : (P.globals[g]?).map (·.type) = some t) (hts : t < P.types.size) (hf : flatD d = some l) (h1 : l.all (fun v => v.oneCell') = true) : relCells (ro St.none W) (l.map .lit) g 0 := by
  obtain ⟨g', t', cs, fuel, p, hg', ht', hv, hd⟩ := Lib.laidMet.reads h hm
  obtain rfl := Option.some.inj (hg.symm.trans hg')
  obtain rfl := Option.some.inj (ht.symm.trans ht')
  have he := trod_flat hl fuel t cs.toList (d, p) l hts hd hf
  refine relCells_of_F (us := l) (relF_lits l fun v hv => List.all_eq_true.1 h1 v hv) fun i u hu => ro_none ?_
  rw [Nat.zero_add, World.var?_cell hg hv i]
  rw [← he] at hu
  simpa using hu
end Go.Proofs.Abs
