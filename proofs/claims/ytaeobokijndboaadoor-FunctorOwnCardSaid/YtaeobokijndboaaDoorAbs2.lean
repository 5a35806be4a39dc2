/- The abstract layer, part 2: what one step of memory does to the relation between the abstract store and the world. -/
import Derived.Test.YtaeobokijndboaaDoorAbs1
set_option linter.unusedVariables false
namespace Go.Proofs.Abs
open Go

theorem rel_cell {r : RO} {x : AVal} {u : Value} (h : rel r x u) (hc : x.isCell = true) : u.oneCell' = true := by
  cases x with
  | lit v => simp only [rel] at h; rw [h.1]; exact h.2
  | sl sz xs g => simp only [rel] at h; obtain ⟨A, cap, rfl, _⟩ := h; rfl
  | rp cs off => simp only [rel] at h; obtain ⟨b, o, rfl, _⟩ := h; rfl
  | fn f caps => simp only [rel] at h; obtain ⟨us, rfl, _⟩ := h; rfl
  | ifc t x => simp only [rel] at h; obtain ⟨y, rfl, _⟩ := h; rfl
  | agg cs => simp [AVal.isCell] at hc
  | tup vs => simp [AVal.isCell] at hc
  | any => simp [AVal.isCell] at hc

theorem relF_one {r : RO} : ∀ {cs : List AVal} {us : List Value}, relF r cs us → ∀ u ∈ us, u.oneCell' = true
  | [], us, h, u, hu => by simp only [relF] at h; subst h; cases hu
  | x :: cs, us, h, u, hu => by
    simp only [relF] at h
    obtain ⟨v, vs, rfl, hc, h1, h2⟩ := h
    rcases List.mem_cons.1 hu with rfl | hu
    · exact rel_cell h1 hc
    · exact relF_one h2 u hu

theorem relF_length {r : RO} : ∀ {cs : List AVal} {us : List Value}, relF r cs us → us.length = cs.length
  | [], us, h => by simp only [relF] at h; subst h; rfl
  | x :: cs, us, h => by
    simp only [relF] at h
    obtain ⟨v, vs, rfl, hc, h1, h2⟩ := h
    simp [relF_length h2]

theorem relL_length {r : RO} : ∀ {cs : List AVal} {us : List Value}, relL r cs us → us.length = cs.length
  | [], us, h => by simp only [relL] at h; subst h; rfl
  | x :: cs, us, h => by
    simp only [relL] at h
    obtain ⟨v, vs, rfl, h1, h2⟩ := h
    simp [relL_length h2]

theorem relF_get {r : RO} : ∀ {cs : List AVal} {us : List Value}, relF r cs us → ∀ {i : Nat} {x : AVal}, cs[i]? = some x → ∃ u, us[i]? = some u ∧ x.isCell = true ∧ rel r x u
  | [], us, h, i, x, hx => by simp at hx
  | y :: cs, us, h, i, x, hx => by
    simp only [relF] at h
    obtain ⟨v, vs, rfl, hc, h1, h2⟩ := h
    cases i with
    | zero => simp at hx; subst hx; exact ⟨v, rfl, hc, h1⟩
    | succ i => simp at hx; simpa using relF_get h2 hx

theorem relL_get {r : RO} : ∀ {cs : List AVal} {us : List Value}, relL r cs us → ∀ {i : Nat} {x : AVal}, cs[i]? = some x → ∃ u, us[i]? = some u ∧ rel r x u
  | [], us, h, i, x, hx => by simp at hx
  | y :: cs, us, h, i, x, hx => by
    simp only [relL] at h
    obtain ⟨v, vs, rfl, h1, h2⟩ := h
    cases i with
    | zero => simp at hx; subst hx; exact ⟨v, rfl, h1⟩
    | succ i => simp at hx; simpa using relL_get h2 hx

theorem relF_append {r : RO} : ∀ {cs : List AVal} {us : List Value} {cs' : List AVal} {us' : List Value}, relF r cs us → relF r cs' us' → relF r (cs ++ cs') (us ++ us')
  | [], us, cs', us', h, h' => by simp only [relF] at h; subst h; simpa using h'
  | x :: cs, us, cs', us', h, h' => by
    simp only [relF] at h
    obtain ⟨v, vs, rfl, hc, h1, h2⟩ := h
    simp only [List.cons_append, relF]
    exact ⟨v, vs ++ us', rfl, hc, h1, relF_append h2 h'⟩

theorem relF_take {r : RO} : ∀ {cs : List AVal} {us : List Value}, relF r cs us → ∀ n, relF r (cs.take n) (us.take n)
  | [], us, h, n => by simp only [relF] at h; subst h; simp [relF]
  | x :: cs, us, h, n => by
    simp only [relF] at h
    obtain ⟨v, vs, rfl, hc, h1, h2⟩ := h
    cases n with
    | zero => simp [relF]
    | succ n => simp only [List.take_succ_cons, relF]; exact ⟨v, _, rfl, hc, h1, relF_take h2 n⟩

theorem relF_drop {r : RO} : ∀ {cs : List AVal} {us : List Value}, relF r cs us → ∀ n, relF r (cs.drop n) (us.drop n)
  | [], us, h, n => by simp only [relF] at h; subst h; simp [relF]
  | x :: cs, us, h, n => by
    cases n with
    | zero => simpa using h
    | succ n =>
      simp only [relF] at h
      obtain ⟨v, vs, rfl, hc, h1, h2⟩ := h
      simpa using relF_drop h2 n

theorem relCells_of_F {r : RO} {b : Nat} : ∀ {cs : List AVal} {us : List Value} {off : Nat}, relF r cs us → (∀ i u, us[i]? = some u → r b (off + i) = some u) → relCells r cs b off
  | [], us, off, h, hr => by simp only [relCells]
  | x :: cs, us, off, h, hr => by
    simp only [relF] at h
    obtain ⟨v, vs, rfl, hc, h1, h2⟩ := h
    simp only [relCells]
    exact ⟨hc, ⟨v, by simpa using hr 0 v rfl, h1⟩, relCells_of_F h2 fun i u hu => by have := hr (i + 1) u (by simpa using hu); rwa [show off + 1 + i = off + (i + 1) by omega]⟩

/-- the values that lie where cells are represented -/
theorem relCells_vals {r : RO} {b : Nat} : ∀ {cs : List AVal} {off : Nat}, relCells r cs b off → ∃ us, relF r cs us ∧ ∀ i u, us[i]? = some u → r b (off + i) = some u
  | [], off, h => ⟨[], by simp [relF]⟩
  | x :: cs, off, h => by
    simp only [relCells] at h
    obtain ⟨hc, ⟨u, h1, h2⟩, h3⟩ := h
    obtain ⟨us, h4, h5⟩ := relCells_vals h3
    refine ⟨u :: us, ?_, ?_⟩
    · simp only [relF]; exact ⟨u, us, rfl, hc, h2, h4⟩
    · intro i v hv
      cases i with
      | zero => simp at hv; subst hv; simpa using h1
      | succ i => have := h5 i v (by simpa using hv); rwa [show off + (i + 1) = off + 1 + i by omega]

theorem relCells_get {r : RO} {b : Nat} {cs : List AVal} {off i : Nat} {x : AVal} (h : relCells r cs b off) (hx : cs[i]? = some x) :
    ∃ u, r b (off + i) = some u ∧ x.isCell = true ∧ rel r x u := by
  obtain ⟨us, h1, h2⟩ := relCells_vals h
  obtain ⟨u, h3, h4, h5⟩ := relF_get h1 hx
  exact ⟨u, h2 i u h3, h4, h5⟩

theorem relRows_get {r : RO} {sz b : Nat} : ∀ {xs : List (List AVal)} {off i : Nat} {c : List AVal}, relRows r sz xs b off → xs[i]? = some c → c.length = sz ∧ relCells r c b (off + i * sz)
  | [], off, i, c, h, hx => by simp at hx
  | y :: xs, off, i, c, h, hx => by
    simp only [relRows] at h
    cases i with
    | zero => simp at hx; subst hx; simpa using ⟨h.1, h.2.1⟩
    | succ i =>
      have := relRows_get h.2.2 (by simpa using hx : xs[i]? = some c)
      rwa [show off + sz + i * sz = off + (i + 1) * sz by rw [Nat.succ_mul]; omega] at this

theorem relRows_append {r : RO} {sz b : Nat} : ∀ {xs ys : List (List AVal)} {off : Nat}, relRows r sz xs b off → relRows r sz ys b (off + xs.length * sz) → relRows r sz (xs ++ ys) b off
  | [], ys, off, h, h' => by simpa using h'
  | x :: xs, ys, off, h, h' => by
    simp only [List.cons_append, relRows] at h ⊢
    refine ⟨h.1, h.2.1, relRows_append h.2.2 ?_⟩
    simp only [List.length_cons, Nat.succ_mul] at h'
    rwa [show off + sz + xs.length * sz = off + (xs.length * sz + sz) by omega]

theorem relRows_flat {r : RO} {sz b : Nat} : ∀ {xs : List (List AVal)} {off : Nat}, relRows r sz xs b off → relCells r xs.flatten b off ∧ xs.flatten.length = xs.length * sz
  | [], off, h => by simp [relCells]
  | x :: xs, off, h => by
    simp only [relRows] at h
    obtain ⟨h1, h2, h3⟩ := h
    obtain ⟨h4, h5⟩ := relRows_flat h3
    refine ⟨?_, by simp [h5, h1, Nat.succ_mul]; omega⟩
    obtain ⟨us, g1, g2⟩ := relCells_vals h2
    obtain ⟨vs, k1, k2⟩ := relCells_vals h4
    refine relCells_of_F (by simpa using relF_append g1 k1) ?_
    intro i u hu
    rw [List.getElem?_append] at hu
    have hl := relF_length g1
    split at hu
    · exact g2 i u hu
    · have := k2 _ u hu
      rwa [show off + sz + (i - us.length) = off + i by omega] at this

theorem relRows_of_flat {r : RO} {sz b : Nat} : ∀ {xs : List (List AVal)} {off : Nat}, (∀ c ∈ xs, c.length = sz) → relCells r xs.flatten b off → relRows r sz xs b off
  | [], off, h, h' => by simp only [relRows]
  | x :: xs, off, h, h' => by
    simp only [relRows]
    have hx := h x (by simp)
    obtain ⟨us, g1, g2⟩ := relCells_vals h'
    refine ⟨hx, ?_, relRows_of_flat (fun c hc => h c (by simp [hc])) ?_⟩
    · have := relF_take g1 x.length
      simp only [List.flatten_cons, List.take_left'] at this
      refine relCells_of_F this ?_
      intro i u hu
      rw [List.getElem?_take] at hu
      split at hu
      · exact g2 i u hu
      · cases hu
    · have := relF_drop g1 x.length
      simp only [List.flatten_cons, List.drop_left'] at this
      refine relCells_of_F this ?_
      intro i u hu
      rw [List.getElem?_drop] at hu
      have := g2 _ u hu
      rwa [show off + sz + i = off + (x.length + i) by omega]

/-! ### a new block -/

section
variable {G : Glob} {S : St} {w : World}

theorem heap_alloc_lt (w : World) (o : Obj) {k : Nat} (h : k < w.heap.size) : (w.alloc o).heap[k]? = w.heap[k]? := RowKit.Below.heap_alloc w o k h

theorem heap_alloc_at (w : World) (o : Obj) : (w.alloc o).heap[w.heap.size]? = some o := by
  show (w.heap.push o)[w.heap.size]? = _
  simp

theorem ext_alloc (hs : Sim G S w) (o : Obj) : Ext S w S (w.alloc o) :=
  ⟨rfl, rfl, rfl, by simp, fun b hb h => ⟨h, heap_alloc_lt w o hb⟩, fun b e sz cap n h =>
    ⟨fun off ho => World.cell?_of_block (w := w) (a := ⟨b, off, none⟩) (heap_alloc_lt w o (hs.lt h)), .inr ⟨n, Nat.le_refl _, h⟩⟩, fun b h => h.of_block (heap_alloc_lt w o h.lt)⟩

theorem sim_step {S' : St} {w' : World} (hs : Sim G S w) (he : Ext S w S' w') (h : ∀ b o, S' b = some o → OwnOk S' w' b o) : Sim G S' w' :=
  ⟨h, fun g cs hg => relCells_mono he.ro _ _ _ (hs.glob g cs hg), Nat.le_trans hs.mark he.size⟩

theorem ownOk_keep {S' : St} {w' : World} (he : Ext S w S' w') {b : Nat} {o : Own} (h : OwnOk S w b o) (hb : w'.heap[b]? = w.heap[b]?) : OwnOk S' w' b o := by
  cases o with
  | box cs vs =>
    obtain ⟨T, h1, h2⟩ := h
    exact ⟨T, hb.trans h1, relF_mono he.ro _ _ h2⟩
  | row e sz cap n =>
    obtain ⟨vs, h1, h2⟩ := h
    exact ⟨vs, hb.trans h1, h2⟩

/-- a block that nobody owns: read only from the first -/
theorem sim_alloc (hs : Sim G S w) (o : Obj) : Sim G S (w.alloc o) :=
  sim_step hs (ext_alloc hs o) fun b o' hb => ownOk_keep (ext_alloc hs o) (hs.own b o' hb) (heap_alloc_lt w o (hs.lt hb))

theorem ext_upd (hs : Sim G S w) (o : Obj) (x : Own) : Ext S w (S.upd w.heap.size x) (w.alloc o) := by
  refine ⟨rfl, rfl, rfl, by simp, fun b hb h => ⟨?_, heap_alloc_lt w o hb⟩, fun b e sz cap n h => ⟨fun off ho => ?_, .inr ⟨n, Nat.le_refl _, ?_⟩⟩, fun b h => h.of_block (heap_alloc_lt w o h.lt)⟩
  · unfold St.upd; rw [if_neg (by omega)]; exact h
  · exact World.cell?_of_block (w := w) (a := ⟨b, off, none⟩) (heap_alloc_lt w o (hs.lt h))
  · have := hs.lt h; unfold St.upd; rw [if_neg (by omega)]; exact h

theorem sim_box (hs : Sim G S w) {cs : List AVal} {vs : Array Value} (T : TypeId) (hv : relF (ro S w) cs vs.toList) :
    Sim G (S.upd w.heap.size (.box cs vs)) (w.alloc (.cells vs T (0, 0))) := by
  have he := ext_upd hs (.cells vs T (0, 0)) (.box cs vs)
  refine sim_step hs he fun b o hb => ?_
  by_cases h : b = w.heap.size
  · subst h
    simp only [St.upd, if_pos] at hb
    cases hb
    exact ⟨T, heap_alloc_at w _, relF_mono he.ro _ _ hv⟩
  · have hb' : S b = some o := by simpa [St.upd, h] using hb
    exact ownOk_keep he (hs.own b o hb') (heap_alloc_lt w _ (hs.lt hb'))

theorem ro_alloc_unowned (hs : Sim G S w) (vs : Array Value) (T : TypeId) (fz : Nat × Nat) {i : Nat} {u : Value} (h : vs[i]? = some u) :
    ro S (w.alloc (.cells vs T fz)) w.heap.size i = some u := by
  rw [ro_some]
  refine ⟨by rw [hs.fresh (Nat.le_refl _)]; rfl, ?_⟩
  have hh := heap_alloc_at w (.cells vs T fz)
  simp only [World.cell?, hh]
  simpa using h

/-! ### a draw -/

theorem ext_of_heap {w' : World} (hh : w'.heap = w.heap) (ho : w'.os = w.os) (ht : w'.tape = w.tape) (hp : w'.output = w.output) : Ext S w S w' :=
  ⟨ho, ht, hp, by rw [hh]; exact Nat.le_refl _, fun b _ h => ⟨h, by rw [hh]⟩, fun b e sz cap n h => ⟨fun off _ => World.cell?_of_block (w := w) (by rw [hh]), .inr ⟨n, Nat.le_refl _, h⟩⟩, fun b h => h.of_block (by rw [hh])⟩

theorem sim_of_heap {w' : World} (hs : Sim G S w) (hh : w'.heap = w.heap) (ho : w'.os = w.os) (ht : w'.tape = w.tape) (hp : w'.output = w.output) : Sim G S w' :=
  sim_step hs (ext_of_heap hh ho ht hp) fun b o hb => ownOk_keep (ext_of_heap hh ho ht hp) (hs.own b o hb) (by rw [hh])

/-! ### a store -/

def splice (cs : List AVal) (off : Nat) (p : List AVal) : List AVal := cs.take off ++ p ++ cs.drop (off + p.length)

theorem cell?_heap {w : World} {b : Nat} {vs : Array Value} {T : TypeId} {fz : Nat × Nat} (h : w.heap[b]? = some (.cells vs T fz)) (off : Nat) : w.cell? ⟨b, off, none⟩ = vs[off]? := by
  simp [World.cell?, h]

theorem ext_set {w' : World} {b : Nat} {cs : List AVal} {vs vs' : Array Value} {T : TypeId} (hs : Sim G S w) (hb : S b = some (.box cs vs)) (x : Own) (ho : w'.os = w.os) (ht : w'.tape = w.tape) (hp : w'.output = w.output)
    (hz : w'.heap.size = w.heap.size) (hh : ∀ k, k ≠ b → w'.heap[k]? = w.heap[k]?) (hn : w'.heap[b]? = some (.cells vs' T (0, 0))) (h1 : ∀ u ∈ vs'.toList, u.oneCell' = true) : Ext S w (S.set b x) w' := by
  refine ⟨ho, ht, hp, by omega, fun k hk h => ?_, fun k e sz cap n h => ?_, fun k hk => ?_⟩
  · have hkb : k ≠ b := fun hkb => by subst hkb; rw [hb] at h; cases h
    exact ⟨by unfold St.set; rw [if_neg hkb]; exact h, hh k hkb⟩
  · have hkb : k ≠ b := fun hkb => by subst hkb; rw [hb] at h; cases h
    exact ⟨fun off _ => World.cell?_of_block (w := w) (a := ⟨k, off, none⟩) (hh k hkb), .inr ⟨n, Nat.le_refl _, by unfold St.set; rw [if_neg hkb]; exact h⟩⟩
  · by_cases hkb : k = b
    · subst hkb; exact ⟨vs', T, hn, h1⟩
    · exact hk.of_block (hh k hkb)

theorem sim_set {w' : World} {b : Nat} {cs cs' : List AVal} {vs vs' : Array Value} {T : TypeId} (hs : Sim G S w) (hb : S b = some (.box cs vs)) (ho : w'.os = w.os) (ht : w'.tape = w.tape) (hp : w'.output = w.output)
    (hz : w'.heap.size = w.heap.size) (hh : ∀ k, k ≠ b → w'.heap[k]? = w.heap[k]?) (hn : w'.heap[b]? = some (.cells vs' T (0, 0))) (hv : relF (ro S w) cs' vs'.toList) :
    Sim G (S.set b (.box cs' vs')) w' := by
  have he := ext_set hs hb (.box cs' vs') ho ht hp hz hh hn (relF_one hv)
  refine sim_step hs he fun k o hk => ?_
  by_cases hkb : k = b
  · subst hkb
    simp only [St.set, if_pos] at hk
    cases hk
    exact ⟨T, hn, relF_mono he.ro _ _ hv⟩
  · have hk' : S k = some o := by simpa [St.set, hkb] using hk
    exact ownOk_keep he (hs.own k o hk') (hh k hkb)

theorem heap_setRow_ne (w : World) (g : Nat) (vs : Array Value) (k : Nat) (h : k ≠ g) : (w.setRow g vs).heap[k]? = w.heap[k]? := by
  unfold World.setRow
  simp only [Array.getElem?_modify]
  rw [if_neg (by omega)]

end
end Go.Proofs.Abs
