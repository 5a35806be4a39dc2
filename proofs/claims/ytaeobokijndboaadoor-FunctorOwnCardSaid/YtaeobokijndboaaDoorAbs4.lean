/- The abstract layer, part 4: the evaluator of operations is sound. -/
import Derived.Test.YtaeobokijndboaaDoorAbs3
import Derived.WalkKit
set_option linter.unusedVariables false
set_option linter.unusedSimpArgs false
namespace Go.Proofs.Abs
open Go

def Outcome (P : Program) (G : Glob) (S : St) (w : World) (K : AVal → St → Prop) (Pn : AVal → St → Prop) : Result Next → Prop
  | .ok (.value u) w' => ∃ x S', K x S' ∧ Sim G S' w' ∧ Ext S w S' w' ∧ rel (ro S' w') x u
  | .ok .skip w' => ∃ S', K .any S' ∧ Sim G S' w' ∧ Ext S w S' w'
  | .ok (.enter f vs) w' => Calls P f vs w' fun e w'' => ∃ ae S', (match ae with | .ret v => K v S' | .pan v => Pn v S') ∧ Sim G S' w'' ∧ Ext S w S' w'' ∧ relE (ro S' w'') ae e
  | .halt (.panic u) w' => ∃ x S', Pn x S' ∧ Sim G S' w' ∧ Ext S w S' w' ∧ rel (ro S' w') x u
  | _ => False

section
variable {P : Program} {G : Glob} {S : St} {w : World}

theorem outcome_value {K : AVal → St → Prop} {Pn : AVal → St → Prop} {x : AVal} {u : Value} (hs : Sim G S w) (hk : K x S) (hr : rel (ro S w) x u) :
    Outcome P G S w K Pn (.ok (.value u) w) := ⟨x, S, hk, hs, Ext.refl _ _, hr⟩

theorem run_typeInfo {t : TypeId} {i : TypeInfo} (h : P.info? t = some i) (w : World) : (typeInfo t).run P w = .ok i w := by
  simp [typeInfo, h]

theorem run_sizeOf {t : TypeId} {n : Nat} (h : tsize P t = some n) (w : World) : (sizeOf t).run P w = .ok n w := by
  unfold tsize at h
  cases hi : P.info? t with
  | none => rw [hi] at h; cases h
  | some i => rw [hi] at h; cases h; simp [sizeOf, run_typeInfo hi]

theorem run_zero {t : TypeId} {cs : List AVal} (h : tzero P t = some cs) (w : World) :
    ∃ z, (zeroValue t).run P w = .ok z w ∧ constOk (.agg z.cells) = true ∧ z.cells.toList.map ofConst1 = cs := by
  unfold tzero at h
  cases hi : P.info? t with
  | none => rw [hi] at h; cases h
  | some i =>
    rw [hi] at h
    cases hz : i.zero with
    | none => simp [hz] at h
    | some z =>
      simp only [Option.bind_some, hz] at h
      split at h
      · rename_i hc
        cases h
        exact ⟨z, by simp [zeroValue, run_typeInfo hi, hz], hc, rfl⟩
      · cases h

theorem run_isAgg {t : TypeId} (w : World) : (tkind P t = some none → (isAgg t).run P w = .ok false w) ∧ (∀ n, tkind P t = some (some n) → (isAgg t).run P w = .ok true w ∧ (sizeOf t).run P w = .ok n w) := by
  constructor
  · intro h
    unfold tkind at h
    cases hu : P.underlying t with
    | none => rw [hu] at h; cases h
    | some d =>
      simp only [isAgg, Sem.run_bind, run_underlying hu, Result.andThen_ok]
      rw [hu] at h
      cases d <;> first | rfl | (simp at h)
  · intro n h
    unfold tkind at h
    cases hu : P.underlying t with
    | none => rw [hu] at h; cases h
    | some d =>
      simp only [isAgg, Sem.run_bind, run_underlying hu, Result.andThen_ok]
      rw [hu] at h
      cases d <;> simp at h
      all_goals
        obtain ⟨i, hi, rfl⟩ := h
        exact ⟨rfl, by simp [sizeOf, run_typeInfo hi]⟩

theorem run_alloc_sound {e : TypeId} {cs : List AVal} {K : AVal → St → Prop} (hs : Sim G S w) (hz : tzero P e = some cs) (h : aalloc S cs K) :
    ∃ u w' x S', (Instr.alloc e true (.tuple #[])).run P w = .ok u w' ∧ K x S' ∧ Sim G S' w' ∧ Ext S w S' w' ∧ rel (ro S' w') x u := by
  obtain ⟨z, h1, h2, h3⟩ := run_zero hz w
  refine ⟨_, w.alloc (.cells z.cells e (0, 0)), _, _, ?_, h w.heap.size z.cells (hs.fresh (Nat.le_refl _)), sim_box hs e ?_, ext_upd hs _ _, rel_lit rfl⟩
  · simp [Instr.alloc, h1, newVar, newRow]
  · rw [← h3]; exact relF_ofConst h2

theorem rel_flat {r : RO} {x : AVal} {u : Value} {K : List AVal → Prop} (h : aflat x K) (hx : rel r x u) : ∃ cs, K cs ∧ relF r cs u.cells.toList := by
  cases x with
  | agg cs =>
    simp only [rel] at hx
    obtain ⟨us, rfl, h1⟩ := hx
    exact ⟨cs, h, h1⟩
  | _ =>
    have hc := h.1
    refine ⟨_, h.2, ?_⟩
    have h1 := rel_cell hx hc
    have : u.cells = #[u] := by cases u <;> simp_all [Value.oneCell', Value.cells]
    rw [this]
    simp only [relF]
    exact ⟨u, [], rfl, hc, hx, rfl⟩

theorem run_box_sound {e : TypeId} {x : AVal} {u : Value} {K : AVal → St → Prop} (hs : Sim G S w) (hx : rel (ro S w) x u) (h : aflat x fun cs => aalloc S cs K) :
    ∃ v w' y S', (Instr.box e u).run P w = .ok v w' ∧ K y S' ∧ Sim G S' w' ∧ Ext S w S' w' ∧ rel (ro S' w') y v := by
  obtain ⟨cs, h1, h2⟩ := rel_flat h hx
  refine ⟨_, w.alloc (.cells u.cells e (0, 0)), _, _, ?_, h1 w.heap.size u.cells (hs.fresh (Nat.le_refl _)), sim_box hs e h2, ext_upd hs _ _, rel_lit rfl⟩
  simp [Instr.box, newVar, newRow]

/-! loads -/

theorem addr_add (b o n : Nat) : Addr.add ⟨b, o, none⟩ n = ⟨b, o + n, none⟩ := by unfold Addr.add; split <;> simp_all

/-- A load: the value hangs on the cells alone. -/
theorem acutU_sound {r : RO} {t : TypeId} {cs : List AVal} {us : List Value} {b o off : Nat} {K : AVal → Prop} (h : acut (tkind P t) cs off K) (hv : relF r cs us) :
    ∃ x u, (∀ w : World, (∀ i u, us[i]? = some u → w.cell? ⟨b, o + i, none⟩ = some u) → (loadVar t ⟨b, o + off, none⟩).run P w = .ok u w) ∧ K x ∧ rel r x u := by
  unfold acut at h
  split at h
  · rename_i n hk
    obtain ⟨h1, h2⟩ := h
    have hl := relF_length hv
    refine ⟨_, .agg ((us.drop off).take n).toArray, fun w hc => ?_, h2, ?_⟩
    · obtain ⟨g1, g2⟩ := (run_isAgg (P := P) w).2 n hk
      simp only [loadVar, Sem.run_bind, g1, Result.andThen_ok, if_true, g2]
      have := run_loadCells_list (P := P) w ⟨b, o + off, none⟩ ((us.drop off).take n) (fun j v hj => by
        rw [addr_add]
        rw [List.getElem?_take] at hj
        split at hj
        · rw [List.getElem?_drop] at hj
          have := hc _ _ hj
          rwa [show o + off + j = o + (off + j) by omega]
        · cases hj)
      rw [show ((us.drop off).take n).length = n by simp; omega] at this
      rw [this]; rfl
    · simp only [rel]
      exact ⟨_, rfl, by simpa [cut] using relF_take (relF_drop hv off) n⟩
  · rename_i hk
    obtain ⟨x, h1, h2⟩ := h
    obtain ⟨u, h3, h4, h5⟩ := relF_get hv h1
    refine ⟨x, u, fun w hc => ?_, h2, h5⟩
    simp only [loadVar, Sem.run_bind, (run_isAgg (P := P) w).1 hk, Result.andThen_ok, Bool.false_eq_true, if_false, run_load, hc _ _ h3]
  · exact h.elim

theorem acut_sound {t : TypeId} {cs : List AVal} {us : List Value} {b o off : Nat} {K : AVal → Prop} (h : acut (tkind P t) cs off K) (hv : relF (ro S w) cs us)
    (hc : ∀ i u, us[i]? = some u → w.cell? ⟨b, o + i, none⟩ = some u) :
    ∃ x u, (loadVar t ⟨b, o + off, none⟩).run P w = .ok u w ∧ K x ∧ rel (ro S w) x u := by
  obtain ⟨x, u, h1, h2, h3⟩ := acutU_sound (P := P) (b := b) (o := o) h hv
  exact ⟨x, u, h1 w hc, h2, h3⟩

theorem aload_sound {t : TypeId} {p : AVal} {u : Value} {K : AVal → Prop} (hs : Sim G S w) (hp : rel (ro S w) p u) (h : aload (tkind P t) p S K) :
    ∃ x v, (Instr.loadAt t u).run P w = .ok v w ∧ K x ∧ rel (ro S w) x v := by
  unfold aload at h
  split at h
  · rename_i cs off
    simp only [rel] at hp
    obtain ⟨b, o, rfl, hc⟩ := hp
    obtain ⟨us, h1, h2⟩ := relCells_vals hc
    obtain ⟨x, v, h3, h4, h5⟩ := acut_sound (b := b) (o := o) h h1 (fun i u hu => (ro_some.1 (h2 i u hu)).2)
    exact ⟨x, v, by simpa [Instr.loadAt, Instr.sureAddr] using h3, h4, h5⟩
  · rename_i b o
    simp only [rel] at hp
    obtain ⟨rfl, _⟩ := hp
    obtain ⟨cs, vs, h1, h2⟩ := h
    obtain ⟨T, h3, h4⟩ := hs.own b _ h1
    obtain ⟨x, v, h5, h6, h7⟩ := acut_sound (b := b) (o := 0) h2 h4 (fun i u hu => by simpa [World.cell?, h3] using hu)
    exact ⟨x, v, by simpa [Instr.loadAt, Instr.sureAddr] using h5, h6, h7⟩
  · exact h.elim

/-! stores -/

theorem relF_splice {r : RO} {cs vs : List AVal} {us ws : List Value} {o : Nat} (h : relF r cs us) (k : relF r vs ws) :
    relF r (splice cs o vs) (us.take o ++ ws ++ us.drop (o + ws.length)) := by
  unfold splice
  rw [relF_length k]
  exact relF_append (relF_append (relF_take h o) k) (relF_drop h _)

theorem run_storeVar_box {t : TypeId} {b o : Nat} {v : Value} {cur : Array Value} {T : TypeId} (hg : w.heap[b]? = some (.cells cur T (0, 0)))
    (hn : tsize P t = some v.cells.size) (hl : o + v.cells.size ≤ cur.size) (h1 : ∀ u ∈ v.cells.toList, u.oneCell' = true) :
    (storeVar t ⟨b, o, none⟩ v).run P w = .ok () (w.setRow b (cur.toList.take o ++ v.cells.toList ++ cur.toList.drop (o + v.cells.toList.length)).toArray) := by
  have := run_storeCells_at (P := P) b o T v.cells.toList 0 cur w hg (by simpa using hl) h1
  simp only [Nat.add_zero] at this
  simp [storeVar, run_sizeOf hn, this]

theorem setRow_at {b : Nat} {cur : Array Value} {T : TypeId} (hg : w.heap[b]? = some (.cells cur T (0, 0))) (vs : Array Value) : (w.setRow b vs).heap[b]? = some (.cells vs T (0, 0)) := by
  unfold World.setRow
  simp [Array.getElem?_modify, hg]

theorem astore_sound {t : TypeId} {p v : AVal} {u x : Value} {K : St → Prop} (hs : Sim G S w) (hp : rel (ro S w) p u) (hv : rel (ro S w) v x) (h : astore (tsize P t) p v S K) :
    ∃ w' S', (Instr.storeAt t u x).run P w = .ok () w' ∧ K S' ∧ Sim G S' w' ∧ Ext S w S' w' := by
  unfold astore at h
  split at h
  · rename_i b o
    simp only [rel] at hp
    obtain ⟨rfl, _⟩ := hp
    obtain ⟨cs, cur, h1, h2⟩ := h
    obtain ⟨vs, ⟨h3, h4, h5⟩, h6⟩ := rel_flat h2 hv
    obtain ⟨T, h7, h8⟩ := hs.own b _ h1
    have hl := relF_length h6
    have hl2 := relF_length h8
    have hsz : x.cells.size = vs.length := by simpa using hl
    have hcur : cur.size = cs.length := by simpa using hl2
    have hrun := run_storeVar_box (P := P) (t := t) (b := b) (o := o) (v := x) h7 (by rw [h3, hsz]) (by rw [hsz, hcur]; exact h4) (relF_one h6)
    have hrun' : (Instr.storeAt t (.pointer (some ⟨b, o, none⟩)) x).run P w = (storeVar t ⟨b, o, none⟩ x).run P w := by simp [Instr.storeAt, Instr.sureAddr]
    refine ⟨_, S.set b (.box (splice cs o vs) (cur.toList.take o ++ x.cells.toList ++ cur.toList.drop (o + x.cells.toList.length)).toArray), hrun'.trans hrun, h5 _, ?_, ?_⟩
    · refine sim_set (T := T) hs h1 rfl rfl rfl (by simp [World.setRow]) (fun k hk => heap_setRow_ne w b _ k hk) (setRow_at h7 _) ?_
      simpa using relF_splice h8 h6
    · refine ext_set (T := T) hs h1 _ rfl rfl rfl (by simp [World.setRow]) (fun k hk => heap_setRow_ne w b _ k hk) (setRow_at h7 _) ?_
      have := relF_one (relF_splice h8 h6 (o := o))
      simpa using this
  · exact h.elim

/-! addresses -/

theorem run_fieldAt_sound {r : RO} {t : TypeId} {p : AVal} {u : Value} {f d : Nat} {e : TypeId} {K : AVal → Prop} (hp : rel r p u) (hf : tfield P t f = some (d, e)) (h : aplace p d K) :
    ∃ x v, (∀ w, (Instr.fieldAt t u f).run P w = .ok v w) ∧ K x ∧ rel r x v := by
  unfold tfield at hf
  cases hu : P.underlying t with
  | none => rw [hu] at hf; cases hf
  | some ds =>
    rw [hu] at hf
    cases ds <;> simp only [reduceCtorEq] at hf
    rename_i fs
    cases hfd : fs[f]? with
    | none => rw [hfd] at hf; simp at hf
    | some fd =>
      rw [hfd] at hf
      simp only at hf
      split at hf
      · cases hf
      · rename_i hne
        cases hf
        have hsz : ∃ n, tsize P fd.type = some n ∧ n ≠ 0 := by
          cases hts : tsize P fd.type with
          | none => simp [hts] at hne
          | some n => exact ⟨n, rfl, fun h0 => by subst h0; simp [hts] at hne⟩
        obtain ⟨n, hn, hn0⟩ := hsz
        have key : ∀ b o w, (Instr.fieldAt t (.pointer (some ⟨b, o, none⟩)) f).run P w = .ok (.pointer (some ⟨b, o + fd.offset, none⟩)) w := by
          intro b o w
          simp [Instr.fieldAt, run_underlying hu, hfd, Instr.sureAddr, fieldPlace, run_sizeOf hn, hn0, addr_add]
        unfold aplace at h
        split at h
        · simp only [rel] at hp
          obtain ⟨b, o, rfl, hc⟩ := hp
          refine ⟨_, _, key _ _, h, ?_⟩
          simp only [rel]
          exact ⟨b, o, by rw [Nat.add_assoc], hc⟩
        · simp only [rel] at hp
          obtain ⟨rfl, _⟩ := hp
          exact ⟨_, _, key _ _, h, rel_lit rfl⟩
        · exact h.elim

theorem tindex_slice {t : TypeId} {n : Nat} (h : tindex P t = .slice n) : ∃ e, P.underlying t = some (.slice e) ∧ tsize P e = some n := by
  unfold tindex at h
  split at h
  · rename_i e hu
    split at h
    · rename_i m hs; cases h; exact ⟨e, hu, hs⟩
    · cases h
  · split at h <;> cases h
  · cases h
  · cases h
theorem tindex_array {t : TypeId} {len n : Nat} (h : tindex P t = .array len n) : ∃ e, P.underlying t = some (.array len e) ∧ tsize P e = some n := by
  unfold tindex at h
  split at h
  · split at h <;> cases h
  · rename_i m e hu
    split at h
    · rename_i m hs; cases h; exact ⟨e, hu, hs⟩
    · cases h
  · cases h
  · cases h
theorem tindex_string {t : TypeId} (h : tindex P t = .string) : P.underlying t = some .string := by
  unfold tindex at h
  split at h
  · split at h <;> cases h
  · split at h <;> cases h
  · assumption
  · cases h

theorem aindexAddr_sound {r : RO} {t : TypeId} {x i : AVal} {u j : Value} {K : AVal → Prop} (hx : rel r x u) (hi : rel r i j) (h : aindexAddr (tindex P t) x i K) :
    ∃ y v, (∀ w, (Instr.indexAt t u j).run P w = .ok v w) ∧ K y ∧ rel r y v := by
  generalize hix : tindex P t = ix at h
  unfold aindexAddr at h
  split at h
  · rename_i n sz xs g k jj
    obtain ⟨e, hu, hs⟩ := tindex_slice hix
    obtain ⟨rfl, h0, c, hc, hk⟩ := h
    simp only [rel] at hx hi
    obtain ⟨A, cap, rfl, hle, _, _, hA⟩ := hx
    obtain ⟨rfl, _⟩ := hi
    have hlt : jj.toNat < xs.length := (List.getElem?_eq_some_iff.1 hc).1
    rcases hA with ⟨rfl, _⟩ | ⟨b, off, rfl, hrows⟩
    · simp at hlt
    · obtain ⟨h1, h2⟩ := relRows_get hrows hc
      refine ⟨_, .pointer (some ⟨b, off + jj.toNat * sz, none⟩), ?_, hk, ?_⟩
      · have hj : jj < (xs.length : Int) := by omega
        intro w
        simp [Instr.indexAt, asIntOf, run_underlying hu, h0, hj, run_sizeOf hs, addr_add]
      · simp only [rel]; exact ⟨b, _, rfl, h2⟩
  · rename_i n b off len cap k jj
    obtain ⟨e, hu, hs⟩ := tindex_slice hix
    obtain ⟨h0, h1, hk⟩ := h
    simp only [rel] at hx hi
    obtain ⟨rfl, _⟩ := hx
    obtain ⟨rfl, _⟩ := hi
    refine ⟨_, .pointer (some ⟨b, off + jj.toNat * n, none⟩), ?_, hk, rel_lit rfl⟩
    intro w
    simp [Instr.indexAt, asIntOf, run_underlying hu, h0, h1, run_sizeOf hs, addr_add]
  · rename_i len n cs off k jj
    obtain ⟨e, hu, hs⟩ := tindex_array hix
    obtain ⟨h0, h1, hk⟩ := h
    simp only [rel] at hx hi
    obtain ⟨b, o, rfl, hc⟩ := hx
    obtain ⟨rfl, _⟩ := hi
    refine ⟨_, .pointer (some ⟨b, o + off + jj.toNat * n, none⟩), ?_, hk, ?_⟩
    · intro w; simp [Instr.indexAt, asIntOf, run_underlying hu, Instr.sureAddr, h0, h1, run_sizeOf hs, addr_add]
    · simp only [rel]; exact ⟨b, o, by rw [Nat.add_assoc], hc⟩
  · rename_i len n b o k jj
    obtain ⟨e, hu, hs⟩ := tindex_array hix
    obtain ⟨h0, h1, hk⟩ := h
    simp only [rel] at hx hi
    obtain ⟨rfl, _⟩ := hx
    obtain ⟨rfl, _⟩ := hi
    refine ⟨_, .pointer (some ⟨b, o + jj.toNat * n, none⟩), ?_, hk, rel_lit rfl⟩
    intro w
    simp [Instr.indexAt, asIntOf, run_underlying hu, Instr.sureAddr, h0, h1, run_sizeOf hs, addr_add]
  · exact h.elim

theorem aindex_sound {r : RO} {t : TypeId} {x i : AVal} {u j : Value} {K : AVal → Prop} (hx : rel r x u) (hi : rel r i j) (h : aindex (tindex P t) x i K) :
    ∃ y v, (∀ w, (Instr.index t u j).run P w = .ok v w) ∧ K y ∧ rel r y v := by
  generalize hix : tindex P t = ix at h
  unfold aindex at h
  split at h
  · rename_i s k jj
    have hu := tindex_string hix
    obtain ⟨h0, c, hc, hk⟩ := h
    simp only [rel] at hx hi
    obtain ⟨rfl, _⟩ := hx
    obtain ⟨rfl, _⟩ := hi
    refine ⟨_, .int .u8 c.toNat, ?_, hk, rel_lit rfl⟩
    have hb : s[jj.toNat]? = some c := by
      have hlt := (List.getElem?_eq_some_iff.1 hc).1
      simp only [Array.length_toList] at hlt
      have hlt' : jj.toNat < s.size := hlt
      rw [getElem?_pos s jj.toNat hlt']
      congr 1
      have h8 := (List.getElem?_eq_some_iff.1 hc).2
      have h9 : s.data[jj.toNat] = c := by simpa using h8
      exact h9
    intro w
    simp [Instr.index, asIntOf, run_underlying hu, h0, hb]
  · exact h.elim

theorem aextract_sound {r : RO} {x : AVal} {i : Nat} {u : Value} {K : AVal → Prop} (hx : rel r x u) (h : aextract x i K) : ∃ y v, (∀ w, (Instr.extract u i).run P w = .ok v w) ∧ K y ∧ rel r y v := by
  unfold aextract at h
  split at h
  · simp only [rel] at hx
    obtain ⟨us, rfl, h1⟩ := hx
    obtain ⟨y, h2, h3⟩ := h
    obtain ⟨v, h4, h5⟩ := relL_get h1 h2
    refine ⟨y, v, ?_, h3, h5⟩
    have : us[i]? = some v := by simpa using h4
    intro w
    simp [Instr.extract, this]
  · exact h.elim

theorem run_field_sound {r : RO} {t : TypeId} {cs : List AVal} {u : Value} {f d : Nat} {e : TypeId} {K : AVal → Prop} (hx : rel r (.agg cs) u) (hf : tfield P t f = some (d, e)) (h : acut (tkind P e) cs d K) :
    ∃ x v, (∀ w, (Instr.field t u f).run P w = .ok v w) ∧ K x ∧ rel r x v := by
  simp only [rel] at hx
  obtain ⟨us, rfl, hv⟩ := hx
  unfold tfield at hf
  split at hf
  · rename_i fs hu
    split at hf
    · rename_i fd hfd
      split at hf
      · cases hf
      · cases hf
        unfold acut at h
        split at h
        · rename_i n hk
          obtain ⟨h1, h2⟩ := h
          refine ⟨_, .agg (us.extract fd.offset (fd.offset + n)), ?_, h2, ?_⟩
          · intro w
            obtain ⟨g1, g2⟩ := (run_isAgg (P := P) w).2 n hk
            simp [Instr.field, run_underlying hu, hfd, asAgg, part, g1, g2]
          · simp only [rel]
            refine ⟨_, rfl, ?_⟩
            have := relF_take (relF_drop hv fd.offset) n
            simp only [cut]
            rw [Array.toList_extract, List.extract_eq_take_drop]
            simpa using this
        · rename_i hk
          obtain ⟨x, h1, h2⟩ := h
          obtain ⟨v, h3, h4, h5⟩ := relF_get hv h1
          have h3' : us[fd.offset]? = some v := by simpa using h3
          exact ⟨x, v, fun w => by simp [Instr.field, run_underlying hu, hfd, asAgg, part, (run_isAgg (P := P) w).1 hk, h3'], h2, h5⟩
        · exact h.elim
    · cases hf
  · cases hf

end
end Go.Proofs.Abs
