/- The abstract layer, part 7: composite values, calls; the evaluator of one operation is sound. -/
import Derived.Test.YtaeobokijndboaaDoorAbs6
set_option linter.unusedVariables false
set_option linter.unusedSimpArgs false
namespace Go.Proofs.Abs
open Go

section
variable {P : Program} {G : Glob} {S : St} {w : World}

/-! ### build -/

/-- parts that fit values -/
def relParts (r : RO) : List (Nat × AVal) → List (Nat × Value) → Prop
  | [], [] => True
  | (i, x) :: xs, (j, u) :: us => i = j ∧ rel r x u ∧ relParts r xs us
  | _, _ => False

theorem foldl_set (off : Nat) : ∀ (l : List Value) (k : Nat) (cells : Array Value), off + k + l.length ≤ cells.size →
    ((l.zipIdx k).foldl (fun cs (q : Value × Nat) => cs.setIfInBounds (off + q.2) q.1) cells).toList = cells.toList.take (off + k) ++ l ++ cells.toList.drop (off + k + l.length)
  | [], k, cells, h => by simp
  | v :: l, k, cells, h => by
    simp only [List.zipIdx_cons, List.foldl_cons]
    rw [foldl_set off l (k + 1) _ (by simp at h ⊢; omega)]
    simp only [Array.toList_setIfInBounds, List.length_cons] at h ⊢
    have hk : off + k < cells.toList.length := by simp; omega
    rw [show off + (k + 1) = off + k + 1 by omega, List.take_add_one, List.getElem?_set_self hk, List.take_set_of_le (by omega)]
    rw [List.drop_set_of_lt (by omega)]
    simp only [Option.toList_some, List.append_assoc, List.singleton_append]
    rw [show off + k + 1 + l.length = off + k + (l.length + 1) by omega]

theorem fill_sound {place : Nat → Option (Nat × Nat)} : ∀ {parts : List (Nat × AVal)} {vs : List (Nat × Value)} {cs : List AVal} {cells : Array Value} {K : List AVal → Prop},
    abuild place cs parts K → relParts (ro S w) parts vs → relF (ro S w) cs cells.toList → ∃ cells' cs', Instr.fill place cells vs = some cells' ∧ K cs' ∧ relF (ro S w) cs' cells'.toList
  | [], vs, cs, cells, K, h, hp, hc => by
    cases vs with
    | nil => exact ⟨cells, cs, rfl, h, hc⟩
    | cons v vs => exact hp.elim
  | (i, x) :: parts, vs, cs, cells, K, h, hp, hc => by
    cases vs with
    | nil => exact hp.elim
    | cons v vs =>
      obtain ⟨j, u⟩ := v
      obtain ⟨rfl, hx, hp⟩ := hp
      unfold abuild at h
      split at h
      · rename_i off size hpl
        obtain ⟨fs, ⟨h1, h2, h3⟩, h4⟩ := rel_flat h hx
        have hl : u.cells.size = fs.length := by simpa using relF_length h4
        have hcl : cells.size = cs.length := by simpa using relF_length hc
        have hfold := foldl_set off u.cells.toList 0 cells (by simp; omega)
        generalize hA : (u.cells.toList.zipIdx 0).foldl (fun cs (q : Value × Nat) => cs.setIfInBounds (off + q.2) q.1) cells = cells2 at hfold
        obtain ⟨cells', cs', g1, g2, g3⟩ := fill_sound (cells := cells2) h3 hp (by
          rw [hfold]
          simpa using relF_splice hc h4 (o := off))
        refine ⟨cells', cs', ?_, g2, g3⟩
        unfold Instr.fill
        rw [hpl]
        simp only
        rw [if_neg (by simp; omega)]
        rw [← g1, ← hA]
        congr 1
        rw [← Array.foldl_toList]
        simp
      · exact h.elim

theorem build_sound {t : TypeId} {zc : List AVal} {parts : List (Nat × AVal)} {vs : Array (Nat × Value)} {K : AVal → Prop} (hz : tzero P t = some zc)
    (h : abuild (fun i => (tfield P t i).bind fun q => (tsize P q.2).map fun n => (q.1, n)) zc parts fun cs => K (.agg cs)) (hp : relParts (ro S w) parts vs.toList) (ht : ∃ fs, P.underlying t = some (.struct fs) ∧ ∀ f ∈ fs.toList, ∃ n, tsize P f.type = some n) :
    ∃ x v, (Instr.build t vs).run P w = .ok v w ∧ K x ∧ rel (ro S w) x v := by
  obtain ⟨fs, hu, hfs⟩ := ht
  obtain ⟨z, hz1, hz2, hz3⟩ := run_zero hz w
  have hm : ∀ (l : List Field), (∀ f ∈ l, ∃ n, tsize P f.type = some n) → (l.mapM fun f => (do pure (f.offset, ← sizeOf f.type) : Sem (Nat × Nat))).run P w = .ok (l.map fun f => (f.offset, (tsize P f.type).getD 0)) w := by
    intro l
    induction l with
    | nil => intro _; simp
    | cons f l ih =>
      intro hl
      obtain ⟨n, hn⟩ := hl f (by simp)
      have ih' := ih (fun g hg => hl g (by simp [hg]))
      simp only [List.mapM_cons, Sem.run_bind, run_sizeOf hn, Result.andThen_ok, Sem.run_pure, List.map_cons, hn, Option.getD_some]
      rw [ih']
      rfl
  have hma : (fs.mapM fun f => (do pure (f.offset, ← sizeOf f.type) : Sem (Nat × Nat))).run P w = .ok (fs.toList.map fun f => (f.offset, (tsize P f.type).getD 0)).toArray w := by
    rw [Array.mapM_eq_mapM_toList]
    refine (Sem.run_map P w _ _).trans ?_
    rw [hm fs.toList hfs]
    rfl
  have hplace : ∀ i, ((tfield P t i).bind fun q => (tsize P q.2).map fun n => (q.1, n)) = none ∨ ((tfield P t i).bind fun q => (tsize P q.2).map fun n => (q.1, n)) = (fs.toList.map fun f => (f.offset, (tsize P f.type).getD 0)).toArray[i]? := by
    intro i
    unfold tfield
    rw [hu]
    cases hfi : fs[i]? with
    | none => simp [hfi]
    | some fd =>
      simp only [List.getElem?_toArray, List.getElem?_map, hfi]
      have : fs.toList[i]? = some fd := by simpa using hfi
      rw [this]
      obtain ⟨n, hn⟩ := hfs fd (List.mem_of_getElem? this)
      by_cases h0 : n = 0
      · simp [hn, h0]
      · right; simp [hn, h0]
  have hmono : ∀ (p p' : Nat → Option (Nat × Nat)) (hpp : ∀ i, p i = none ∨ p i = p' i) (parts : List (Nat × AVal)) (cs : List AVal) (K : List AVal → Prop), abuild p cs parts K → abuild p' cs parts K := by
    intro p p' hpp parts
    induction parts with
    | nil => intro cs K h; exact h
    | cons q parts ih =>
      intro cs K h
      obtain ⟨i, v⟩ := q
      unfold abuild at h ⊢
      rcases hpp i with h0 | h0
      · rw [h0] at h; exact h.elim
      · rw [← h0]
        cases hpi : p i with
        | none => rw [hpi] at h; exact h.elim
        | some o =>
          rw [hpi] at h
          obtain ⟨off, size⟩ := o
          simp only at h ⊢
          cases v <;> simp only [aflat] at h ⊢
          all_goals first | exact ⟨h.1, h.2.1, h.2.2.1, ih _ _ h.2.2.2⟩ | exact ⟨h.1, h.2.1, ih _ _ h.2.2⟩
  obtain ⟨cells', cs', g1, g2, g3⟩ := fill_sound (cells := z.cells) (hmono _ _ hplace _ _ _ h) hp (by rw [← hz3]; exact relF_ofConst hz2)
  refine ⟨_, .agg cells', ?_, g2, ?_⟩
  · simp only [Instr.build, Sem.run_bind, hz1, Result.andThen_ok, run_underlying hu, hma]
    rw [g1]
    rfl
  · simp only [rel]; exact ⟨_, rfl, g3⟩

/-! ### slices laid out -/

theorem flatten_length {α : Type} {sz : Nat} : ∀ {rows : List (List α)}, (∀ c ∈ rows, c.length = sz) → rows.flatten.length = rows.length * sz
  | [], _ => by simp
  | c :: rows, h => by
    have ih := flatten_length (rows := rows) (sz := sz) (fun c' hc => h c' (List.mem_cons_of_mem _ hc))
    simp only [List.flatten_cons, List.length_append, List.length_cons, h c (by simp), ih, Nat.succ_mul]
    omega

theorem flatten_set {sz : Nat} : ∀ {rows : List (List AVal)} {i : Nat} {vs : List AVal}, (∀ c ∈ rows, c.length = sz) → i < rows.length → vs.length = sz → (rows.set i vs).flatten = splice rows.flatten (i * sz) vs
  | [], i, vs, h, hi, hv => by simp at hi
  | c :: rows, 0, vs, h, hi, hv => by
    have hc := h c (by simp)
    simp only [List.set_cons_zero, List.flatten_cons, splice, Nat.zero_mul, List.take_zero, List.nil_append, Nat.zero_add]
    rw [hv, ← hc, List.drop_left']
    rfl
  | c :: rows, i + 1, vs, h, hi, hv => by
    have hc := h c (by simp)
    have ih := flatten_set (rows := rows) (i := i) (vs := vs) (fun c' hc' => h c' (by simp [hc'])) (by simpa using hi) hv
    simp only [List.set_cons_succ, List.flatten_cons, ih, splice]
    rw [List.take_append (l₁ := c), List.drop_append (l₁ := c), List.take_of_length_le (l := c) (by rw [hc, Nat.succ_mul]; omega), List.drop_of_length_le (l := c) (by rw [hc, Nat.succ_mul]; omega)]
    rw [show (i + 1) * sz - c.length = i * sz by rw [hc, Nat.succ_mul]; omega, show (i + 1) * sz + vs.length - c.length = i * sz + vs.length by rw [hc, Nat.succ_mul]; omega]
    simp [List.append_assoc]

theorem abuild_mono {p : Nat → Option (Nat × Nat)} {parts : List (Nat × AVal)} : ∀ {cs : List AVal} {K K' : List AVal → Prop}, (∀ cs, K cs → K' cs) → abuild p cs parts K → abuild p cs parts K' := by
  induction parts with
  | nil => intro cs K K' h h'; exact h _ h'
  | cons q parts ih =>
    intro cs K K' hK h
    obtain ⟨i, v⟩ := q
    unfold abuild at h ⊢
    cases hpi : p i with
    | none => rw [hpi] at h; exact h.elim
    | some o =>
      rw [hpi] at h
      obtain ⟨off, size⟩ := o
      simp only at h ⊢
      cases v <;> simp only [aflat] at h ⊢
      all_goals first | exact ⟨h.1, h.2.1, h.2.2.1, ih hK h.2.2.2⟩ | exact ⟨h.1, h.2.1, ih hK h.2.2⟩

theorem abuild_of_arows {sz : Nat} {parts : List (Nat × AVal)} : ∀ {rows : List (List AVal)} {K : List (List AVal) → Prop}, (∀ c ∈ rows, c.length = sz) → arows sz rows parts K →
    abuild (fun i => some (i * sz, sz)) rows.flatten parts fun cs => ∃ rows', K rows' ∧ rows'.flatten = cs ∧ (∀ c ∈ rows', c.length = sz) ∧ rows'.length = rows.length := by
  induction parts with
  | nil => intro rows K hr h; exact ⟨rows, h, rfl, hr, rfl⟩
  | cons q parts ih =>
    intro rows K hr h
    obtain ⟨i, v⟩ := q
    unfold arows at h
    unfold abuild
    have key : ∀ vs : List AVal, vs.length = sz → i < rows.length → arows sz (rows.set i vs) parts K →
        vs.length = sz ∧ i * sz + vs.length ≤ rows.flatten.length ∧ abuild (fun i => some (i * sz, sz)) (splice rows.flatten (i * sz) vs) parts
          fun cs => ∃ rows', K rows' ∧ rows'.flatten = cs ∧ (∀ c ∈ rows', c.length = sz) ∧ rows'.length = rows.length := by
      intro vs hv hi h
      have hr' : ∀ c ∈ rows.set i vs, c.length = sz := fun c hc => by
        rcases List.mem_or_eq_of_mem_set hc with h1 | h1
        · exact hr c h1
        · rw [h1]; exact hv
      refine ⟨hv, ?_, ?_⟩
      · rw [flatten_length hr, hv, ← Nat.succ_mul]; exact Nat.mul_le_mul_right _ hi
      · have := ih hr' h
        rw [flatten_set hr hi hv] at this
        simpa using this
    cases v <;> simp only [aflat] at h ⊢
    all_goals first | exact ⟨h.1, key _ h.2.1 h.2.2.1 h.2.2.2⟩ | exact key _ h.1 h.2.1 h.2.2

theorem range_mod (zs : Array Value) : ∀ n : Nat, ((Array.range (n * zs.size)).map (zs[· % zs.size]!)).toList = (List.replicate n zs.toList).flatten
  | 0 => by simp
  | n + 1 => by
    have ih := range_mod zs n
    rw [List.replicate_succ', List.flatten_append, ← ih]
    simp only [Array.toList_map, Array.toList_range, Nat.succ_mul, List.range_add, List.map_append, List.map_map, List.flatten_cons, List.flatten_nil, List.append_nil]
    congr 1
    apply List.ext_getElem
    · simp
    · intro i h1 h2
      simp at h1 h2
      simp [Nat.mul_add_mod', Nat.mod_eq_of_lt h1, h1]

theorem buildSlice_sound (hs : Sim G S w) {t e : TypeId} {sz bytes len : Nat} {zc : List AVal} {parts : List (Nat × AVal)} {vs : Array (Nat × Value)} {K : AVal → Prop} (hel : telem P t = some (e, sz, bytes, zc))
    (h24 : len * sz ≤ 16777216) (h : arows sz (List.replicate len zc) parts fun rows => K (.sl sz rows (.fresh G.mark))) (hp : relParts (ro S w) parts vs.toList) :
    ∃ x v w', (Instr.buildSlice t len vs).run P w = .ok v w' ∧ K x ∧ Sim G S w' ∧ Ext S w S w' ∧ rel (ro S w') x v := by
  obtain ⟨i, z, hu, hi, hz, hin, hib, hzs, hpos, hok, hmap⟩ := telem_inv hel
  subst hin
  have hzl : zc.length = i.size := by rw [← hmap]; simpa using hzs
  have hrl : ∀ c ∈ List.replicate len zc, c.length = i.size := fun c hc => by rw [List.eq_of_mem_replicate hc]; exact hzl
  have hb := abuild_of_arows hrl h
  generalize hcells : (Array.range (len * i.size)).map ((if len * i.size = 0 then #[] else z.cells)[· % (if len * i.size = 0 then (#[] : Array Value) else z.cells).size]!) = cells
  have hcl : cells.toList = (List.replicate len z.cells.toList).flatten := by
    rw [← hcells]
    by_cases h0 : len * i.size = 0
    · have : len = 0 := by rcases Nat.mul_eq_zero.1 h0 with h | h <;> omega
      subst this
      simp
    · simp only [h0, if_false]
      rw [← range_mod z.cells len, hzs]
  have hrel : relF (ro S w) (List.replicate len zc).flatten cells.toList := by
    rw [hcl]
    clear hb h hcl hcells hrl h24
    induction len with
    | zero => simp [relF]
    | succ n ih => simp only [List.replicate_succ, List.flatten_cons]; exact relF_append (by rw [← hmap]; exact relF_ofConst hok) ih
  obtain ⟨cells', cs', g1, ⟨rows', k1, k2, k3, k4⟩, g3⟩ := fill_sound (cells := cells) hb hp hrel
  have hlen : rows'.length = len := by rw [k4]; simp
  refine ⟨_, .slice (some ⟨w.heap.size, 0, none⟩) len len, w.alloc (.cells cells' e (0, 0)), ?_, k1, sim_alloc hs _, ext_alloc hs _, ?_⟩
  · have h24' : ¬ 16777216 < len * i.size := by omega
    simp only [Instr.buildSlice, Sem.run_bind, run_underlying hu, Result.andThen_ok]
    have hsize : (sizeOf e).run P w = .ok i.size w := run_sizeOf (by simp [tsize, hi]) w
    simp only [hsize, Result.andThen_ok]
    rw [if_neg (by simpa using h24')]
    by_cases h0 : len * i.size = 0
    · rw [if_pos h0]
      simp only [if_pos h0] at hcells
      simp only [Sem.run_bind, Sem.run_pure, Result.andThen_ok]
      rw [hcells, g1]
      simp [newRow]
    · rw [if_neg h0]
      simp only [if_neg h0] at hcells
      simp only [Sem.run_bind, run_zero' hi hz, Sem.run_pure, Result.andThen_ok]
      rw [hcells, g1]
      simp [newRow]
  · have he := ext_alloc hs (.cells cells' e (0, 0))
    simp only [rel]
    have hll : len ≤ maxLen := by
      have : len ≤ len * i.size := Nat.le_mul_of_pos_right _ hpos
      simp only [maxLen]; omega
    refine ⟨_, len, by rw [hlen], by omega, hll, ⟨hlen.symm, fun x hx => by cases hx; exact ⟨rfl, hs.mark, cells', e, heap_alloc_at w _, relF_one g3⟩⟩, .inr ⟨w.heap.size, 0, rfl, relRows_of_flat k3 ?_⟩⟩
    rw [k2]
    refine relCells_of_F (relF_mono he.ro _ _ g3) fun j u hj => ?_
    rw [Nat.zero_add]
    exact ro_alloc_unowned hs cells' e (0, 0) (by simpa using hj)

/-! ### the evaluator of one operation -/

theorem relParts_map {ρa : Operand → AVal} {ρ : Operand → Value} {r : RO} (h : ∀ x, rel r (ρa x) (ρ x)) : ∀ (l : List (Nat × Operand)), relParts r (l.map fun q => (q.1, ρa q.2)) (l.map fun q => (q.1, ρ q.2))
  | [] => trivial
  | q :: l => ⟨rfl, h q.2, relParts_map h l⟩

theorem relL_map {ρa : Operand → AVal} {ρ : Operand → Value} {r : RO} (h : ∀ x, rel r (ρa x) (ρ x)) : ∀ (l : List Operand), relL r (l.map ρa) (l.map ρ)
  | [] => by simp [relL]
  | q :: l => by simp only [List.map_cons, relL]; exact ⟨_, _, rfl, h q, relL_map h l⟩

theorem relL_append {r : RO} : ∀ {cs : List AVal} {us : List Value} {cs' : List AVal} {us' : List Value}, relL r cs us → relL r cs' us' → relL r (cs ++ cs') (us ++ us')
  | [], us, cs', us', h, h' => by simp only [relL] at h; subst h; simpa using h'
  | x :: cs, us, cs', us', h, h' => by
    simp only [relL] at h
    obtain ⟨v, vs, rfl, h1, h2⟩ := h
    simp only [List.cons_append, relL]
    exact ⟨v, vs ++ us', rfl, h1, relL_append h2 h'⟩

theorem tplain_inv {t : TypeId} (h : tplain P t = true) : ∃ d, P.underlying t = some d ∧ ∀ ms, d ≠ .interface ms := by
  unfold tplain at h
  split at h
  · cases h
  · cases h
  · rename_i h1 h2
    cases hu : P.underlying t with
    | none => exact absurd hu h2
    | some d => exact ⟨d, rfl, fun ms he => h1 ms (by rw [hu, he])⟩

theorem enters_run {k : FuncId} (h : entersB P k = true) (args : Array Value) (w : World) : (callFunc k args).run P w = .ok (.enter k args) w := by
  unfold entersB at h
  split at h
  · rename_i fn hf
    simp only [Bool.and_eq_true, bne_iff_ne, ne_eq] at h
    obtain ⟨c, hc⟩ := Option.isSome_iff_exists.1 h.2
    simp [callFunc, hf, h.1, hc]
  · cases h

theorem opt_rel {ρa : Operand → AVal} {ρ : Operand → Value} {r : RO} (h : ∀ x, rel r (ρa x) (ρ x)) (x : Option Operand) : optRel r (x.map ρa) (x.map ρ) := by
  cases x with
  | none => trivial
  | some y => exact h y

theorem out_value {K : AVal → St → Prop} {Pn : AVal → St → Prop} {s : Sem Value} (h : ∃ x v w' S', s.run P w = .ok v w' ∧ K x S' ∧ Sim G S' w' ∧ Ext S w S' w' ∧ rel (ro S' w') x v) :
    Outcome P G S w K Pn ((do pure (.value (← s)) : Sem Next).run P w) := by
  obtain ⟨x, v, w', S', h1, h2, h3, h4, h5⟩ := h
  simp only [Sem.run_bind, h1, Result.andThen_ok, Sem.run_pure]
  exact ⟨x, S', h2, h3, h4, h5⟩

theorem out_pure {K : AVal → St → Prop} {Pn : AVal → St → Prop} {s : Sem Value} (hs : Sim G S w) (h : ∃ x v, s.run P w = .ok v w ∧ K x S ∧ rel (ro S w) x v) :
    Outcome P G S w K Pn ((do pure (.value (← s)) : Sem Next).run P w) := by
  obtain ⟨x, v, h1, h2, h3⟩ := h
  exact out_value ⟨x, v, w, S, h1, h2, hs, Ext.refl _ _, h3⟩

theorem out_pureU {K : AVal → St → Prop} {Pn : AVal → St → Prop} {s : Sem Value} (hs : Sim G S w) (h : ∃ x v, (∀ w, s.run P w = .ok v w) ∧ K x S ∧ rel (ro S w) x v) :
    Outcome P G S w K Pn ((do pure (.value (← s)) : Sem Next).run P w) := by
  obtain ⟨x, v, h1, h2, h3⟩ := h
  exact out_value ⟨x, v, w, S, h1 w, h2, hs, Ext.refl _ _, h3⟩

theorem aop_sound {o : Oper} {ρa : Operand → AVal} {ρ : Operand → Value} {K : AVal → St → Prop} {Pn : AVal → St → Prop} (hs : Sim G S w) (hρ : ∀ x, rel (ro S w) (ρa x) (ρ x))
    (h : aop P G o.op ρa S K Pn) : Outcome P G S w K Pn ((execOp ρ o).run P w) := by
  obtain ⟨dst, op, type, pos, after, guard⟩ := o
  simp only at h
  cases op <;> simp only [aop] at h <;> (try exact h.elim)
  case move x => exact outcome_value hs h (hρ x)
  case assign x => exact outcome_value hs h (hρ x)
  case pick c a b =>
    obtain ⟨bb, h1, h2, h3⟩ := h
    have hc := hρ c
    rw [h1] at hc
    have hc' := rel_lit_inv hc
    simp only [execOp, hc']
    cases bb
    · exact outcome_value hs (h3 rfl) (hρ b)
    · exact outcome_value hs (h2 rfl) (hρ a)
  case alloc e =>
    split at h
    · rename_i cs hz
      obtain ⟨u, w', x, S', h1, h2, h3, h4, h5⟩ := run_alloc_sound hs hz h
      exact out_value ⟨x, u, w', S', h1, h2, h3, h4, h5⟩
    · exact h.elim
  case box e x =>
    obtain ⟨v, w', y, S', h1, h2, h3, h4, h5⟩ := run_box_sound (e := e) hs (hρ x) h
    exact out_value ⟨y, v, w', S', h1, h2, h3, h4, h5⟩
  case build t parts =>
    split at h
    · rename_i cs hz
      obtain ⟨hst, h⟩ := h
      have ht : ∃ fs, P.underlying t = some (.struct fs) ∧ ∀ f ∈ fs.toList, ∃ n, tsize P f.type = some n := by
        unfold tstruct at hst
        split at hst
        · rename_i fs hu
          refine ⟨fs, hu, fun f hf => ?_⟩
          have := List.all_eq_true.1 hst f hf
          exact Option.isSome_iff_exists.1 this
        · cases hst
      refine out_pure hs (build_sound (vs := parts.map fun q => (q.1, ρ q.2)) (K := fun x => K x S) hz h ?_ ht)
      simpa using relParts_map hρ parts.toList
    · exact h.elim
  case buildSlice t len parts =>
    split at h
    · rename_i e sz bytes z hel
      obtain ⟨x, v, w', h1, h2, h3, h4, h5⟩ := buildSlice_sound hs (vs := parts.map fun q => (q.1, ρ q.2)) (K := fun x => K x S) hel h.1 h.2 (by simpa using relParts_map hρ parts.toList)
      exact out_value ⟨x, v, w', S, h1, h2, h3, h4, h5⟩
    · exact h.elim
  case load t p => exact out_pure hs (aload_sound hs (hρ p) h)
  case store t p v =>
    obtain ⟨w', S', h1, h2, h3, h4⟩ := astore_sound (t := t) hs (hρ p) (hρ v) h
    show Outcome P G S w K Pn ((do Instr.storeAt t (ρ p) (ρ v); pure .skip : Sem Next).run P w)
    simp only [Sem.run_bind, h1, Result.andThen_ok, Sem.run_pure]
    exact ⟨S', h2, h3, h4⟩
  case nilCheck x =>
    have hx := hρ x
    unfold anil at h
    simp only [execOp]
    generalize hax : ρa x = ax at h hx
    generalize ρ x = u at hx
    split at h
    · have hx0 := hx
      simp only [rel] at hx
      obtain ⟨b, o, rfl, _⟩ := hx
      exact outcome_value hs h hx0
    · have hx0 := hx
      have := rel_lit_inv hx; subst this
      exact outcome_value hs h hx0
    · have hx0 := hx
      simp only [rel] at hx
      obtain ⟨us, rfl, _⟩ := hx
      exact outcome_value hs h hx0
    · exact h.elim
  case binOp op t x y yt =>
    split at h
    · exact h.elim
    · rename_i hnn
      split at h
      · rename_i e1 e2
        have hx := hρ x; have hy := hρ y
        rw [e1] at hx; rw [e2] at hy
        have hx' := rel_lit_inv hx; have hy' := rel_lit_inv hy
        obtain ⟨z, q, g1, g2, g3⟩ := abinNil_sound (r := ro S w) (xo := x) (yo := y) h.1 h.2
        exact out_pureU hs ⟨z, q, by rw [hx', hy']; exact g1, g2, g3⟩
      · obtain ⟨z, q, g1, g2, g3⟩ := abin_sound (xo := x) (yo := y) (hρ x) (hρ y) h
        exact out_pureU hs ⟨z, q, g1, g2, g3⟩
  case unOp op t x => exact out_pureU hs (aunary_sound (hρ x) h)
  case convert s d x => exact out_pureU hs (aconv_sound (hρ x) h)
  case makeInterface t x =>
    obtain ⟨h1, h2⟩ := h
    obtain ⟨d, hu, hd⟩ := tplain_inv h1
    refine out_pure hs ⟨_, .iface t (ρ x), ?_, h2, by simp only [rel]; exact ⟨_, rfl, hρ x⟩⟩
    simp only [Instr.makeInterface, Sem.run_bind, run_underlying hu, Result.andThen_ok]
    cases d <;> first | rfl | exact absurd rfl (hd _)
  case makeFunc f first caps =>
    obtain ⟨rfl, h2⟩ := h
    refine out_pure hs ⟨_, .func f #[] (caps.map ρ), ?_, h2, by simp only [rel]; exact ⟨_, rfl, by simpa using relL_map hρ caps.toList⟩⟩
    simp [Instr.makeFunc]
  case slice t x lo hi mx => exact out_pureU hs (aslice_sound (hρ x) (opt_rel hρ lo) (opt_rel hρ hi) (opt_rel hρ mx) h)
  case fieldAddr t x f =>
    split at h
    · rename_i d e hf
      exact out_pureU hs (run_fieldAt_sound (hρ x) hf h)
    · exact h.elim
  case field t x f =>
    split at h
    · rename_i d u cs hf hx
      exact out_pureU hs (run_field_sound (by rw [← hx]; exact hρ x) hf h)
    · exact h.elim
  case indexAddr t x i => exact out_pureU hs (aindexAddr_sound (hρ x) (hρ i) h)
  case index t x i => exact out_pureU hs (aindex_sound (hρ x) (hρ i) h)
  case extract x i => exact out_pureU hs (aextract_sound (hρ x) h)
  case typeAssert x xt u ok =>
    split at h
    · rename_i t y hx
      obtain ⟨h1, h2⟩ := h
      obtain ⟨d, hu, hd⟩ := tplain_inv h1
      have hx' := hρ x
      rw [hx] at hx'
      simp only [rel] at hx'
      obtain ⟨v, hv, hy⟩ := hx'
      split at h2
      · rename_i z hz
        unfold ahead at h2
        refine out_pure hs ?_
        simp only [Instr.typeAssert, Sem.run_bind, run_underlying hu, Result.andThen_ok, hv]
        have hmatch : ∀ (A B C D E : Sem Value), (match d, Value.iface t v with
            | .interface _, .nilIface => A
            | .interface want, .iface t _ => B
            | _, .nilIface => C
            | _, .iface t v => D
            | _, _ => E) = D := by
          intro A B C D E
          cases d <;> first | rfl | exact absurd rfl (hd _)
        split at h2
        · rename_i htu
          subst htu
          cases ok
          · refine ⟨_, v, ?_, h2, hy⟩
            cases d <;> first | (simp; done) | exact absurd rfl (hd _)
          · refine ⟨_, .tuple #[v, .bool true], ?_, h2, by simp only [rel]; exact ⟨_, rfl, by simp only [relL]; exact ⟨_, _, rfl, hy, _, _, rfl, rel_lit rfl, rfl⟩⟩⟩
            cases d <;> first | (simp; done) | exact absurd rfl (hd _)
        · rename_i htu
          obtain ⟨rfl, h3⟩ := h2
          unfold tzeroV at hz
          cases hi : P.info? u with
          | none => rw [hi] at hz; simp at hz
          | some i =>
            rw [hi] at hz
            cases hzz : i.zero with
            | none => simp [hzz] at hz
            | some zv =>
              simp only [Option.bind_some, hzz] at hz
              split at hz
              · cases hz
                refine ⟨_, .tuple #[zv, .bool false], ?_, h3, by simp only [rel]; exact ⟨_, rfl, by simp only [relL]; exact ⟨_, _, rfl, rel_ofConst zv, _, _, rfl, rel_lit rfl, rfl⟩⟩⟩
                have hzr := run_zero' hi hzz w
                cases d <;> first | (simp [htu, hzr]; done) | exact absurd rfl (hd _)
              · cases hz
      · exact h2.elim
    · exact h.elim
  case panic x =>
    split at h
    · rename_i t y hx
      have hx' := hρ x
      rw [hx] at hx'
      have hx0 := hx'
      simp only [rel] at hx'
      obtain ⟨v, hv, hy⟩ := hx'
      simp only [execOp, Instr.panic, hv, Sem.run_bind, run_goPanic, Result.andThen_halt]
      exact ⟨_, S, h, hs, Ext.refl _ _, by rw [← hv]; exact hx0⟩
    · exact h.elim
  case call c =>
    obtain ⟨callee, args, ts⟩ := c
    simp only at h
    cases callee <;> simp only at h <;> (try exact h.elim)
    case value f =>
      unfold acall at h
      split at h
      · rename_i k caps hf
        obtain ⟨h1, h2⟩ := h
        have hf' := hρ f
        rw [hf] at hf'
        simp only [rel] at hf'
        obtain ⟨us, hv, hcaps⟩ := hf'
        have hrun : (execOp ρ ⟨dst, .call ⟨.value f, args, ts⟩, type, pos, after, guard⟩).run P w = .ok (.enter k (args.map ρ ++ us)) w := by
          simp [execOp, resolve, Deferred.ofValue, hv, invoke, enters_run h1]
        rw [hrun]
        refine (h2 w (args.map ρ ++ us) hs ?_).mono fun e w' ⟨ae, S', g1, g2, g3, g4⟩ => ⟨ae, S', g1, g2, g3, g4⟩
        simpa using relL_append (relL_map hρ args.toList) hcaps
      · exact h.elim
    case builtin b =>
      have hexec : ∀ (s : Sem Value), builtin b ts type (args.map fun | .const _ => true | _ => false) (args.map ρ) = (do pure (.value (← s)) : Sem Next) →
          execOp ρ ⟨dst, .call ⟨.builtin b, args, ts⟩, type, pos, after, guard⟩ = (do pure (.value (← s)) : Sem Next) := by
        intro s hb
        simp only [execOp, resolve]
        rw [← hb]
        rfl
      obtain ⟨args⟩ := args
      obtain ⟨ts⟩ := ts
      unfold abuiltin at h
      simp only at h
      split at h
      · rename_i t x hx
        obtain ⟨x0, rfl, rfl⟩ : ∃ x0, args = [x0] ∧ x = ρa x0 := by
          cases args with
          | nil => cases hx
          | cons a l => cases l with
            | nil => simp at hx; exact ⟨a, rfl, hx.symm⟩
            | cons b l => simp at hx
        rw [hexec _ rfl]
        obtain ⟨z, q, g1, g2, g3⟩ := alen_sound (P := P) (ty := type) (hρ x0) h
        exact out_pureU hs ⟨z, q, by simpa using g1, g2, g3⟩
      · rename_i t u x y hx
        obtain ⟨x0, y0, rfl, rfl, rfl⟩ : ∃ x0 y0, args = [x0, y0] ∧ x = ρa x0 ∧ y = ρa y0 := by
          cases args with
          | nil => cases hx
          | cons a l => cases l with
            | nil => simp at hx
            | cons b l => cases l with
              | nil => simp at hx; exact ⟨a, b, rfl, hx.1.symm, hx.2.symm⟩
              | cons c l => simp at hx
        rw [hexec _ rfl]
        obtain ⟨z, r, w', S', g1, g2, g3, g4, g5⟩ := aappend_sound (P := P) (ty := type) hs (hρ x0) (hρ y0) h
        exact out_value ⟨z, r, w', S', by simpa using g1, g2, g3, g4, g5⟩
      · rename_i x y hx
        obtain ⟨x0, y0, rfl, rfl, rfl⟩ : ∃ x0 y0, args = [x0, y0] ∧ x = ρa x0 ∧ y = ρa y0 := by
          cases args with
          | nil => cases hx
          | cons a l => cases l with
            | nil => simp at hx
            | cons b l => cases l with
              | nil => simp at hx; exact ⟨a, b, rfl, hx.1.symm, hx.2.symm⟩
              | cons c l => simp at hx
        rw [hexec _ rfl]
        obtain ⟨z, q, g1, g2, g3⟩ := amin_sound (P := P) (ts := #[]) (ty := type) (hρ x0) (hρ y0) h
        exact out_pureU hs ⟨z, q, by simpa [Builtin.min_] using g1, g2, g3⟩
      · rename_i x y hx
        obtain ⟨x0, y0, rfl, rfl, rfl⟩ : ∃ x0 y0, args = [x0, y0] ∧ x = ρa x0 ∧ y = ρa y0 := by
          cases args with
          | nil => cases hx
          | cons a l => cases l with
            | nil => simp at hx
            | cons b l => cases l with
              | nil => simp at hx; exact ⟨a, b, rfl, hx.1.symm, hx.2.symm⟩
              | cons c l => simp at hx
        rw [hexec _ rfl]
        obtain ⟨z, q, g1, g2, g3⟩ := amax_sound (P := P) (ts := #[]) (ty := type) (hρ x0) (hρ y0) h
        exact out_pureU hs ⟨z, q, by simpa [Builtin.max_] using g1, g2, g3⟩
      · exact h.elim
end
end Go.Proofs.Abs
