/- The abstract layer, part 16: from what a row says of its arguments to abstract values; from a contract to the row's end. -/
import Derived.Test.YtaeobokijndboaaDoorAbs15
import Derived.ProofKit
import Derived.OpenShut
import Derived.Carry
import Derived.Lib.LaidU8
import Derived.LaidMore
import Derived.Lay
import Derived.Stop.Joined
set_option linter.unusedVariables false
namespace Go.Proofs.Abs
open Go Go.RowKit Go.ChangeShapes Go.WideShapes Go.ChangeAt

section
variable {H : Type} {enc : TypeId × Value → H} {P : Program} {w : World} {spare : Nat → Bool} {held : Bool}

theorem ro_none {b off : Nat} {u : Value} (h : w.cell? ⟨b, off, none⟩ = some u) : ro St.none w b off = some u := ro_some.2 ⟨rfl, h⟩

theorem mapM_range {β : Type} {f : Nat → Option β} {n : Nat} {l : List β} (h : (List.range n).mapM f = some l) : ∀ i, i < n → ∃ y, f i = some y := by
  have key : ∀ (xs : List Nat) (l : List β), xs.mapM f = some l → ∀ x ∈ xs, ∃ y, f x = some y := by
    intro xs
    induction xs with
    | nil => intro l _ x hx; cases hx
    | cons a xs ih =>
      intro l hl x hx
      rw [List.mapM_cons] at hl
      cases ha : f a with
      | none => simp [ha] at hl
      | some y =>
        cases hr : xs.mapM f with
        | none => simp [ha, hr] at hl
        | some ys =>
          rcases List.mem_cons.1 hx with rfl | hx
          · exact ⟨y, ha⟩
          · exact ih ys hr x hx
  exact fun i hi => key _ l h i (List.mem_range.2 hi)

theorem cells_get {a : Addr} {n : Nat} {cs : List Value} (h : w.cells? 0 a n = some cs) : cs.length = n ∧ ∀ j, j < n → w.cell? (a.add j) = cs[j]? := by
  unfold World.cells? at h
  rw [if_pos (Nat.zero_le _)] at h
  have key : ∀ (xs : List Nat) (l : List Value), (xs.mapM fun i => w.cell? (a.add i)) = some l → l.length = xs.length ∧ ∀ (j x : Nat), xs[j]? = some x → w.cell? (a.add x) = l[j]? := by
    intro xs
    induction xs with
    | nil => intro l hl; simp at hl; subst hl; simp
    | cons x xs ih =>
      intro l hl
      rw [List.mapM_cons] at hl
      cases ha : w.cell? (a.add x) with
      | none => simp [ha] at hl
      | some y =>
        cases hr : (xs.mapM fun i => w.cell? (a.add i)) with
        | none => simp [ha, hr] at hl
        | some ys =>
          simp only [ha, hr, Option.bind_eq_bind, Option.bind_some, Option.pure_def, Option.some.injEq] at hl
          subst hl
          obtain ⟨h1, h2⟩ := ih ys hr
          refine ⟨by simp [h1], fun j z hz => ?_⟩
          cases j with
          | zero => simp at hz; subst hz; simpa using ha
          | succ j => simpa using h2 j z (by simpa using hz)
  obtain ⟨h1, h2⟩ := key _ _ h
  exact ⟨by simpa using h1, fun j hj => h2 j j (by simp [hj])⟩

theorem trod_slice_inv {n : Nat} {t e : TypeId} {cs : List Value} {x : DataW H × List MemPlace} (hu : P.underlying t = some (.slice e)) (h : DataW.trod enc P w 0 (fun _ => true) held (n + 1) t cs = some x) :
    cs = [.slice none 0 0] ∨ ∃ a len cap, cs = [.slice (some a) len cap] ∧ len ≤ cap ∧ cap ≤ maxLen ∧
      ∀ i, i < cap → ∃ c y, w.cells? 0 (a.add (i * P.cellsOf e)) (P.cellsOf e) = some c ∧ DataW.trod enc P w 0 (fun _ => true) held n e c = some y := by
  match cs, h with
  | [], h => simp [DataW.trod, hu] at h
  | v :: v' :: r, h => simp [DataW.trod, hu] at h
  | [v], h =>
    cases v <;> try (simp [DataW.trod, hu] at h; done)
    rename_i A len cap
    cases A with
    | none =>
      cases len <;> cases cap <;> simp [DataW.trod, hu] at h
      exact .inl rfl
    | some a =>
      simp only [DataW.trod, hu] at h
      split at h
      · rename_i hc
        simp only [if_true] at h
        obtain ⟨elems, h3, h4⟩ := Option.bind_eq_some_iff.1 h
        obtain ⟨rest, h5, h6⟩ := Option.map_eq_some_iff.1 h4
        refine .inr ⟨a, len, cap, rfl, hc.2.1, hc.2.2, fun i hi => ?_⟩
        have hy : ∃ y, (w.cells? 0 (a.add (i * P.cellsOf e)) (P.cellsOf e)).bind (DataW.trod enc P w 0 (fun _ => true) held n e) = some y := by
          by_cases hil : i < len
          · exact mapM_range h3 i hil
          · obtain ⟨y, hy⟩ := mapM_range h5 (i - len) (by omega)
            exact ⟨y, by rw [show len + (i - len) = i by omega] at hy; exact hy⟩
        obtain ⟨y, hy⟩ := hy
        obtain ⟨c, h7, h8⟩ := Option.bind_eq_some_iff.1 hy
        exact ⟨c, y, h7, h8⟩
      · cases h

theorem rel_empty {r : RO} {sz : Nat} (A : Option Addr) : rel r (.sl sz [] .unk) (.slice A 0 0) := by
  simp only [rel]
  exact ⟨A, 0, rfl, Nat.le_refl _, Nat.zero_le _, trivial, .inl (by simp)⟩
theorem rel_slice {n sz : Nat} {t e : TypeId} {cs : List Value} {x : DataW H × List MemPlace} (hu : P.underlying t = some (.slice e)) (hc : P.cellsOf e = sz) (hpos : 0 < sz)
    (h : DataW.trod enc P w 0 (fun _ => true) held (n + 1) t cs = some x) {α : Type} (E : α → List AVal) (hlen : ∀ a, (E a).length = sz)
    (helem : ∀ c y, DataW.trod enc P w 0 (fun _ => true) held n e c = some y → ∃ a, relF (ro St.none w) (E a) c) : ∃ (l : List α) (u : Value), cs = [u] ∧ rel (ro St.none w) (.sl sz (l.map E) .unk) u := by
  rcases trod_slice_inv hu h with rfl | ⟨a, len, cap, rfl, h1, h2, h3⟩
  · exact ⟨[], _, rfl, rel_empty none⟩
  · rw [hc] at h3
    by_cases hcap : cap = 0
    · subst hcap
      have : len = 0 := by omega
      subst this
      exact ⟨[], _, rfl, rel_empty (some a)⟩
    · have hspot : a.spot = none := by
        obtain ⟨c, y, k1, k2⟩ := h3 0 (by omega)
        obtain ⟨k3, k4⟩ := cells_get k1
        have k5 := k4 0 hpos
        have hlt : 0 < c.length := by omega
        rw [List.getElem?_eq_getElem hlt] at k5
        unfold World.cell? at k5
        split at k5
        · cases hs : a.spot with
          | none => rfl
          | some q => simp [Addr.add, hs] at k5
        · cases k5
      obtain ⟨b, off, spot⟩ := a
      simp only at hspot
      subst hspot
      have key : ∀ k, k ≤ cap → ∃ l : List α, l.length = k ∧ relRows (ro St.none w) sz (l.map E) b off := by
        intro k
        induction k with
        | zero => intro _; exact ⟨[], rfl, by simp [relRows]⟩
        | succ k ih =>
          intro hk
          obtain ⟨l, q1, q2⟩ := ih (by omega)
          obtain ⟨c, y, k1, k2⟩ := h3 k (by omega)
          obtain ⟨k3, k4⟩ := cells_get k1
          obtain ⟨z, hz⟩ := helem c y k2
          refine ⟨l ++ [z], by simp [q1], ?_⟩
          rw [List.map_append]
          refine relRows_append q2 ?_
          simp only [List.map_cons, List.map_nil, relRows, List.length_map, q1, and_true]
          refine ⟨hlen z, relCells_of_F hz fun i u hu => ?_⟩
          have hi : i < c.length := (List.getElem?_eq_some_iff.1 hu).1
          have := k4 i (by omega)
          rw [addr_add, addr_add] at this
          exact ro_none (this.trans hu)
      obtain ⟨l, q1, q2⟩ := key len h1
      refine ⟨l, _, rfl, ?_⟩
      simp only [rel, List.length_map]
      exact ⟨some ⟨b, off, none⟩, cap, by rw [q1], by omega, h2, by simp [growOk], .inr ⟨b, off, rfl, q2⟩⟩

theorem trod_int_inv {n : Nat} {t : TypeId} {k : IntKind} {cs : List Value} {x : DataW H × List MemPlace} (hu : P.underlying t = some (.int k)) (h : DataW.trod enc P w 0 spare held n t cs = some x) : ∃ z, cs = [.int k z] ∧ (Lit.int k z).wf = true := by
  cases n with
  | zero => simp [DataW.trod] at h
  | succ n =>
    match cs, h with
    | [], h => simp [DataW.trod, hu] at h
    | v :: v' :: r, h => simp [DataW.trod, hu] at h
    | [v], h =>
      cases v <;> simp [DataW.trod, hu] at h
      obtain ⟨⟨rfl, h1⟩, _⟩ := h
      exact ⟨_, rfl, h1⟩
theorem trod_bool_inv {n : Nat} {t : TypeId} {cs : List Value} {x : DataW H × List MemPlace} (hu : P.underlying t = some .bool) (h : DataW.trod enc P w 0 spare held n t cs = some x) : ∃ z, cs = [.bool z] := by
  cases n with
  | zero => simp [DataW.trod] at h
  | succ n =>
    match cs, h with
    | [], h => simp [DataW.trod, hu] at h
    | v :: v' :: r, h => simp [DataW.trod, hu] at h
    | [v], h => cases v <;> simp [DataW.trod, hu] at h; exact ⟨_, rfl⟩
theorem trod_string_inv {n : Nat} {t : TypeId} {cs : List Value} {x : DataW H × List MemPlace} (hu : P.underlying t = some .string) (h : DataW.trod enc P w 0 spare held n t cs = some x) : ∃ s : ByteArray, cs = [.string s] ∧ s.size ≤ maxLen := by
  cases n with
  | zero => simp [DataW.trod] at h
  | succ n =>
    match cs, h with
    | [], h => simp [DataW.trod, hu] at h
    | v :: v' :: r, h => simp [DataW.trod, hu] at h
    | [v], h => cases v <;> simp [DataW.trod, hu] at h; exact ⟨_, rfl, h.1⟩

/-- the fields of a struct, one by one -/
theorem trod_struct_inv {n : Nat} {t : TypeId} {fs : Array Field} {cs : List Value} {x : DataW H × List MemPlace} (hu : P.underlying t = some (.struct fs)) (h : DataW.trod enc P w 0 spare held (n + 1) t cs = some x) :
    cs.length = P.cellsOf t ∧ ∀ f ∈ fs.toList, ∃ y, DataW.trod enc P w 0 spare held n f.type ((cs.drop f.offset).take (P.cellsOf f.type)) = some y := by
  simp only [DataW.trod, hu] at h
  split at h
  · rename_i hc
    obtain ⟨xs, h1, _⟩ := Option.map_eq_some_iff.1 h
    refine ⟨hc, fun f hf => ?_⟩
    have key : ∀ (l : List Field) (ys : List (DataW H × List MemPlace)), (l.mapM fun f => DataW.trod enc P w 0 spare held n f.type ((cs.drop f.offset).take (P.cellsOf f.type))) = some ys → ∀ f ∈ l, ∃ y, DataW.trod enc P w 0 spare held n f.type ((cs.drop f.offset).take (P.cellsOf f.type)) = some y := by
      intro l
      induction l with
      | nil => intro ys _ f hf; cases hf
      | cons a l ih =>
        intro ys hys f hf
        rw [List.mapM_cons] at hys
        cases ha : DataW.trod enc P w 0 spare held n a.type ((cs.drop a.offset).take (P.cellsOf a.type)) with
        | none => simp [ha] at hys
        | some y =>
          cases hr : (l.mapM fun f => DataW.trod enc P w 0 spare held n f.type ((cs.drop f.offset).take (P.cellsOf f.type))) with
          | none => simp [ha, hr] at hys
          | some ys' =>
            rcases List.mem_cons.1 hf with rfl | hf
            · exact ⟨y, ha⟩
            · exact ih ys' hr f hf
    exact key _ _ h1 f hf
  · cases h
end

/-! ### the row's end -/

/-- what a contract says of a call at a world that fits the tables alone -/
theorem calls_of_acalls {P : Program} {G : Glob} {f : FuncId} {args : List AVal} {W : World} {vs : Array Value} {v : AVal} (hG : ∀ g cs, G g = some cs → relCells (ro St.none W) cs g 0) (hm : G.mark = 0)
    (hargs : relL (ro St.none W) args vs.toList) (h : ACalls P G f args St.none fun e S' => e = .ret v ∧ S' = St.none) :
    Calls P f vs W fun e W' => ∃ u, e = .returned u ∧ rel (ro St.none W') v u ∧ Below W.heap.size W W' := by
  refine (h W vs ⟨fun b o hb => (by cases hb), hG, by omega⟩ hargs).mono fun e W' ⟨ae, S', ⟨h1, h2⟩, h3, h4, h5⟩ => ?_
  subst h1; subst h2
  cases e with
  | returned u => exact ⟨u, rfl, h5, h4.below⟩
  | panicked c => exact h5.elim
  | outgrown => exact h5.elim

theorem trodAll_below {H : Type} {enc : TypeId × Value → H} {P : Program} (hl : laidOutB P = true) {W W' : World} (hb : Below W.heap.size W W') : ∀ {ts : List TypeId} {vs : List Value} {ds : List (DataW H)} {ps : List MemPlace},
    (∀ t ∈ ts, P.readableRec t = true ∧ t < P.types.size) → (∀ x ∈ ps, x.block < W.heap.size) → DataW.TrodAll enc P W 0 (fun _ => true) true ts vs ds ps → DataW.TrodAll enc P W' 0 (fun b => decide (b < W.heap.size)) true ts vs ds ps
  | [], [], [], ps, _, _, h => h
  | t :: ts, v :: vs, d :: ds, ps, ht, hlt, ⟨p, q, h1, h2, e⟩ => by
    subst e
    exact ⟨p, q, Below.trod hl (ht t (by simp)).1 (ht t (by simp)).2 h1 hb (fun x hx => hlt x (List.mem_append_left _ hx)),
      trodAll_below hl hb (fun t' ht' => ht t' (List.mem_cons_of_mem _ ht')) (fun x hx => hlt x (List.mem_append_right _ hx)) h2, rfl⟩
  | [], [], _ :: _, _, _, _, h => h.elim
  | [], _ :: _, _, _, _, _, h => by cases ‹List (DataW H)› <;> exact h.elim
  | _ :: _, [], _, _, _, _, h => by cases ‹List (DataW H)› <;> exact h.elim
  | _ :: _, _ :: _, [], _, _, _, h => h.elim

/-- the law's answer, its arguments as they were -/
theorem post_true {H : Type} {enc : TypeId × Value → H} {P : Program} (hl : laidOutB P = true) {fn : Func} {s : ChangeSpec} {tb : TypeId} (hres : fn.resultTypes = #[tb]) (hb : P.underlying tb = some .bool)
    {W W' : World} {args : Array Value} {ds gs : List (DataW H)} {before : List MemPlace} (hW : DataW.Whole enc P fn.params.toList s.vars false W args.toList ds gs before) (hv : s.vars = [])
    (hts : ∀ t ∈ fn.params.toList, P.readableRec t = true ∧ t < P.types.size) (hs1 : (s.fn H (ds ++ gs)).results = [.lit (.bool true)]) (hs2 : (s.fn H (ds ++ gs)).args = ds) (hs3 : (s.fn H (ds ++ gs)).vars = [])
    (hbelow : Below W.heap.size W W') : s.post enc P fn false true false false W args (.bool true) W' := by
  have hW' := hW
  obtain ⟨p, q, h1, h2, rfl, _, _⟩ := hW
  rw [hv] at h2
  obtain ⟨rfl, rfl⟩ := trodVars_none h2
  refine ⟨ds, [], _, [], p, [], hW', ?_, ?_, ?_, hbelow.frame _, fun h => by cases h⟩
  · rw [hs1, hres]
    exact trodAll_mk1 (shut_bool hb _)
  · rw [hs2]
    exact trodAll_below hl hbelow hts (fun x hx => hW'.lt x (List.mem_append_left _ hx)) h1
  · rw [hs3, hv]; rfl
end Go.Proofs.Abs
