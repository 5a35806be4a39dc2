/- The abstract layer, part 6: append, composite values; the evaluator of operations is sound. -/
import Derived.Test.YtaeobokijndboaaDoorAbs5
import Derived.Deep.AppendSrc
set_option linter.unusedVariables false
set_option linter.unusedSimpArgs false
namespace Go.Proofs.Abs
open Go

section
variable {P : Program} {G : Glob} {S : St} {w : World}

theorem telem_inv {t e : TypeId} {n bytes : Nat} {zc : List AVal} (h : telem P t = some (e, n, bytes, zc)) :
    ∃ i z, P.underlying t = some (.slice e) ∧ P.info? e = some i ∧ i.zero = some z ∧ i.size = n ∧ i.bytes = bytes ∧ z.cells.size = n ∧ 0 < n ∧ constOk (.agg z.cells) = true ∧ z.cells.toList.map ofConst1 = zc := by
  unfold telem at h
  split at h
  · rename_i e' hu
    split at h
    · rename_i i z' hi hz
      split at h
      · rename_i hc
        cases h
        unfold tzero at hz
        rw [hi] at hz
        cases hzz : i.zero with
        | none => simp [hzz] at hz
        | some z =>
          simp only [Option.bind_some, hzz] at hz
          split at hz
          · rename_i hok
            cases hz
            exact ⟨i, z, hu, hi, hzz, rfl, rfl, by simpa using hc.1, hc.2, hok, rfl⟩
          · cases hz
      · cases h
    · cases h
  · cases h

theorem run_zero' {t : TypeId} {i : TypeInfo} {z : Value} (hi : P.info? t = some i) (hz : i.zero = some z) (w : World) : (zeroValue t).run P w = .ok z w := by
  simp [zeroValue, run_typeInfo hi, hz]

theorem relRows_src {sz b off : Nat} {xs : List (List AVal)} (h : relRows (ro S w) sz xs b off) :
    ∃ us, relF (ro S w) xs.flatten us ∧ us.length = xs.length * sz ∧ (∀ c ∈ xs, c.length = sz) ∧ ∀ i u, us[i]? = some u → ro S w b (off + i) = some u := by
  obtain ⟨h1, h2⟩ := relRows_flat h
  obtain ⟨us, h3, h4⟩ := relCells_vals h1
  refine ⟨us, h3, by rw [relF_length h3, h2], fun c hc => ?_, h4⟩
  obtain ⟨i, hi⟩ := List.getElem?_of_mem hc
  exact (relRows_get h hi).1

theorem asrc_sound {n : Nat} {u : TypeId} {y : AVal} {v : Value} {K : List (List AVal) → Prop} (hy : rel (ro S w) y v) (h : asrc P n u y K) :
    ∃ ys us m, K ys ∧ relF (ro S w) ys.flatten us ∧ (∀ c ∈ ys, c.length = n) ∧ ys.length = m ∧ Src P n u v m us w := by
  unfold asrc at h
  split at h
  · rename_i sz ys g
    obtain ⟨⟨e, hu⟩, hsz, hk⟩ := h
    simp only [rel] at hy
    obtain ⟨A, cap, rfl, hle, hcap, hg, hA⟩ := hy
    rcases hA with ⟨rfl, rfl⟩ | ⟨b, off, rfl, hrows⟩
    · cases A with
      | none => exact ⟨[], [], 0, hk, by simp [relF], by simp, rfl, Src.ofNil w hu 0⟩
      | some a => exact ⟨[], [], 0, hk, by simp [relF], by simp, rfl, Src.ofSlice w hu _ 0 0 [] (by simp) (by simp) (by simp)⟩
    · by_cases hys : ys = []
      · subst hys
        exact ⟨[], [], 0, hk, by simp [relF], by simp, rfl, Src.ofSlice w hu _ 0 cap [] (by simp) (by simp) (by simp)⟩
      · have hszn : sz = n := hsz.resolve_left hys
        subst hszn
        obtain ⟨us, h1, h2, h3, h4⟩ := relRows_src hrows
        refine ⟨ys, us, ys.length, hk, h1, h3, rfl, Src.ofSlice w hu _ _ cap us h2 (fun j u hj => ?_) (relF_one h1)⟩
        rw [addr_add]
        exact (ro_some.1 (h4 j u hj)).2
  · rename_i s
    obtain ⟨rfl, hu, hk⟩ := h
    have := rel_lit_inv hy; subst this
    refine ⟨_, byteCells s, s.size, hk, ?_, by simp, by simp, Src.ofString w hu s⟩
    unfold byteCells
    generalize s.data.toList = l
    induction l with
    | nil => simp [relF]
    | cons a l ih => simp only [List.map_cons, List.flatten_cons, List.singleton_append, relF]; exact ⟨_, _, rfl, rfl, rel_lit rfl, ih⟩
  · exact h.elim

theorem relRows_append_flat {r : RO} {sz b : Nat} {xs ys : List (List AVal)} {us vs : List Value} (hx : relF r xs.flatten us) (hy : relF r ys.flatten vs)
    (hxl : ∀ c ∈ xs, c.length = sz) (hyl : ∀ c ∈ ys, c.length = sz) (hr : ∀ i u, (us ++ vs)[i]? = some u → r b i = some u) : relRows r sz (xs ++ ys) b 0 := by
  refine relRows_of_flat (fun c hc => ?_) ?_
  · rcases List.mem_append.1 hc with h | h
    · exact hxl c h
    · exact hyl c h
  · rw [List.flatten_append]
    exact relCells_of_F (relF_append hx hy) (fun i u hu => by simpa using hr i u hu)

theorem ro_upd_row (S : St) (w' : World) {b e sz cap n : Nat} {i : Nat} {u : Value} {vs : Array Value} (hb : w'.heap[b]? = some (.cells vs e (0, 0))) (hi : i < n * sz) (hu : vs[i]? = some u) :
    ro (S.upd b (.row e sz cap n)) w' b i = some u := by
  rw [ro_some]
  exact ⟨by simp [St.upd, roOk, hi], by simp [World.cell?, hb, hu]⟩

/-- A row that is made by an append: a new block. -/
theorem append_new (hs : Sim G S w) {S0 : St} (hsub : Sub S0 S) {e sz cap n : Nat} {o : World} {vs : Array Value} (ho : o.heap = w.heap) (hos : o.os = w.os) (hot : o.tape = w.tape) (hop : o.output = w.output)
    (hsz : vs.size = cap * sz) (hn : n ≤ cap) (hcap : cap ≤ maxLen) :
    Sim G (S0.upd w.heap.size (.row e sz cap n)) (o.alloc (.cells vs e (0, 0))) ∧ Ext S w (S0.upd w.heap.size (.row e sz cap n)) (o.alloc (.cells vs e (0, 0))) := by
  have hs0 := relF_of_sub hsub hs
  have hs1 : Sim G S0 o := sim_of_heap hs0 ho hos hot hop
  have e1 : Ext S w S0 w := hsub.ext fun b o h => hs.lt h
  have e2 : Ext S0 w S0 o := ext_of_heap ho hos hot hop
  have e3 : Ext S0 o (S0.upd o.heap.size (.row e sz cap n)) (o.alloc (.cells vs e (0, 0))) := ext_upd hs1 _ _
  have e4 := (e1.trans e2 fun b o h => hs.lt h).trans e3 fun b o h => hs.lt h
  rw [ho] at e3 e4
  refine ⟨sim_step hs e4 fun b o' hb => ?_, e4⟩
  by_cases h : b = w.heap.size
  · subst h
    simp only [St.upd, if_pos] at hb
    cases hb
    exact ⟨vs, by rw [← ho]; exact heap_alloc_at o _, hsz, hn, hcap⟩
  · have hb' : S0 b = some o' := by simpa [St.upd, h] using hb
    refine ownOk_keep e3 (hs1.own b o' hb') (heap_alloc_lt o _ (hs1.lt hb'))

theorem sub_del (S : St) (b : Nat) : Sub (S.del b) S := fun x => by unfold St.del; by_cases h : x = b <;> simp [h]

theorem run_append_zero {t u ty e : TypeId} {i : TypeInfo} (ht : P.underlying t = some (.slice e)) (hi : P.info? e = some i) {A : Option Addr} {n cap : Nat} {q : Value} (hle : n ≤ cap)
    (hs : Src P i.size u q 0 [] w) : (Builtin.append_ #[t, u] ty #[.slice A n cap, q]).run P w = .ok (.slice A n cap) w := by
  rcases hs.kind with ⟨e', hk⟩ | hk <;> cases A <;>
    simp [Builtin.append_, run_underlying ht, run_underlying hk, sizeOf, typeInfo, hi, hs.len, hle, hs.cells, storeCells]

theorem run_append_at {t u ty e : TypeId} {i : TypeInfo} (ht : P.underlying t = some (.slice e)) (hi : P.info? e = some i) {b n m cap : Nat} {q : Value} {cur : Array Value} {news : List Value}
    (hg : w.heap[b]? = some (.cells cur e (0, 0))) (hs : Src P i.size u q m news w) (hroom : n + m ≤ cap) (hsz : cur.size = cap * i.size) :
    (Builtin.append_ #[t, u] ty #[.slice (some ⟨b, 0, none⟩) n cap, q]).run P w =
      .ok (.slice (some ⟨b, 0, none⟩) (n + m) cap) (w.setRow b (cur.toList.take (n * i.size) ++ news ++ cur.toList.drop (n * i.size + news.length)).toArray) := by
  have hfit : n * i.size + news.length ≤ cur.size := by
    rw [hs.newsLen, hsz, ← Nat.add_mul]; exact Nat.mul_le_mul_right _ hroom
  have hst := run_storeCells_at (P := P) b (n * i.size) e news 0 cur w hg (by simpa using hfit) hs.one
  simp only [Nat.add_zero] at hst
  have ha : (⟨b, 0, none⟩ : Addr).add (n * i.size) = ⟨b, n * i.size, none⟩ := by rw [addr_add]; simp
  rcases hs.kind with ⟨e', hk⟩ | hk <;> simp [Builtin.append_, run_underlying ht, run_underlying hk, sizeOf, typeInfo, hi, hs.len, hroom, hs.cells, ha, hst]

theorem append_grow (hs : Sim G S w) {S0 : St} (hsub : Sub S0 S) {t u ty e : TypeId} {n bytes : Nat} {zc : List AVal} (hel : telem P t = some (e, n, bytes, zc)) {A : Option Addr} {cap m : Nat} {q : Value}
    {xs ys : List (List AVal)} {us news : List Value} (hold : (Builtin.firstCells n xs.length (.slice A xs.length cap)).run P w.drew = .ok us.toArray w.drew)
    (hus : relF (ro S w) xs.flatten us) (hxl : ∀ c ∈ xs, c.length = n) (hul : us.length = xs.length * n)
    (hnews : relF (ro S w) ys.flatten news) (hyl : ∀ c ∈ ys, c.length = n) (hm : ys.length = m) (hsrc : Src P n u q m news w)
    (hgt : cap < xs.length + m) (h63 : xs.length + m ≤ maxLen) (hb : (xs.length + m) * bytes ≤ 140737488355328) {K : AVal → St → Prop}
    (hk : ∀ b cap, S0 b = none → K (.sl n (xs ++ ys) (.own (some (b, cap)))) (S0.upd b (.row e n cap (xs.length + ys.length)))) :
    ∃ z r w' S', (Builtin.append_ #[t, u] ty #[.slice A xs.length cap, q]).run P w = .ok r w' ∧ K z S' ∧ Sim G S' w' ∧ Ext S w S' w' ∧ rel (ro S' w') z r := by
  obtain ⟨i, z, hu, hi, hz, hin, hib, hzs, hpos, _, _⟩ := telem_inv hel
  subst hin; subst hib
  have hrun := run_append_grow_src (P := P) w t u ty e i z hu hi hz A xs.length cap us hold q m news hsrc hgt (by simp only [maxLen] at h63; omega) (growslice_fits hgt hb)
  generalize hC : grownCap w (xs.length + m) cap e = C at hrun
  have hCge : xs.length + m ≤ C := hC ▸ grownCap_ge w _ _ e
  have hCle : C ≤ maxLen := hC ▸ grownCap_le_maxLen w _ _ e h63
  generalize hvs : (us ++ news).toArray ++ Builtin.zeroCells z.cells (C - (xs.length + m)) = vs at hrun
  have hsize : vs.size = C * i.size := by
    rw [← hvs, Array.size_append, List.size_toArray, List.length_append, hul, hsrc.newsLen, size_zeroCells, hzs, ← Nat.add_mul, ← Nat.add_mul]
    congr 1; omega
  obtain ⟨h1, h2⟩ := append_new (G := G) (S := S) (w := w) hs hsub (e := e) (sz := i.size) (cap := C) (n := xs.length + ys.length) (o := w.drew) (vs := vs) rfl rfl rfl rfl hsize (by omega) hCle
  refine ⟨_, _, _, _, hrun, hk w.heap.size C ((hsub _).elim id fun h => h.trans (hs.fresh (Nat.le_refl _))), h1, h2, ?_⟩
  have hlen : (xs ++ ys).length = xs.length + m := by simp [hm]
  simp only [rel]
  refine ⟨_, C, by rw [hlen], by rw [hlen]; exact hCge, hCle, ⟨rfl, rfl⟩, .inr ⟨w.heap.size, 0, rfl, ?_⟩⟩
  refine relRows_append_flat (relF_mono h2.ro _ _ hus) (relF_mono h2.ro _ _ hnews) hxl hyl fun j v hj => ?_
  have hjlt : j < (us ++ news).length := (List.getElem?_eq_some_iff.1 hj).1
  refine ro_upd_row S0 _ (heap_alloc_at w.drew _) ?_ ?_
  · rw [List.length_append, hul, hsrc.newsLen, ← Nat.add_mul] at hjlt
    rw [hm]; exact hjlt
  · rw [← hvs, Array.getElem?_append]
    simp only [List.size_toArray]
    rw [if_pos hjlt]
    simpa using hj

theorem atok_cases {e sz n : Nat} {g : Grow} {K : St → Prop} (h : atok S e sz n g K) :
    (∃ S0, Sub S0 S ∧ K S0) ∧ (g = .own none ∨ (g = .full ∨ ∃ m, g = .fresh m) ∨ ∃ b cap, g = .own (some (b, cap)) ∧ S b = some (.row e sz cap n) ∧ K (S.del b)) ∧ ((g = .own none ∨ g = .full ∨ ∃ m, g = .fresh m) → K S) := by
  unfold atok at h
  split at h
  · exact ⟨⟨S, Sub.refl S, h⟩, .inl rfl, fun _ => h⟩
  · exact ⟨⟨S, Sub.refl S, h⟩, .inr (.inl (.inl rfl)), fun _ => h⟩
  · exact ⟨⟨S, Sub.refl S, h⟩, .inr (.inl (.inr ⟨_, rfl⟩)), fun _ => h⟩
  · rename_i b cap
    exact ⟨⟨S.del b, sub_del S b, h.2⟩, .inr (.inr ⟨b, cap, rfl, h.1, h.2⟩), fun hg => by simp at hg⟩
  · exact h.elim

theorem hold_rows {n : Nat} {A : Option Addr} {cap : Nat} {xs : List (List AVal)} (hA : (xs = [] ∧ cap = 0) ∨ ∃ b off, A = some ⟨b, off, none⟩ ∧ relRows (ro S w) n xs b off) :
    ∃ us, (Builtin.firstCells n xs.length (.slice A xs.length cap)).run P w.drew = .ok us.toArray w.drew ∧ relF (ro S w) xs.flatten us ∧ (∀ c ∈ xs, c.length = n) ∧ us.length = xs.length * n := by
  rcases hA with ⟨rfl, rfl⟩ | ⟨b, off, rfl, hrows⟩
  · exact ⟨[], by cases A <;> simp [Builtin.firstCells, loadCells, loadCellsFrom], by simp [relF], by simp, by simp⟩
  · obtain ⟨us, h1, h2, h3, h4⟩ := relRows_src hrows
    refine ⟨us, run_firstCells_some w.drew n xs.length ⟨b, off, none⟩ xs.length cap us h2 (fun j u hj => ?_), h1, h3, h2⟩
    rw [addr_add]
    exact (ro_some.1 (h4 j u hj)).2

theorem aappend_sound (hs : Sim G S w) {t u ty : TypeId} {x y : AVal} {v q : Value} {K : AVal → St → Prop} (hx : rel (ro S w) x v) (hy : rel (ro S w) y q) (h : aappend P (telem P t) u x y S K) :
    ∃ z r w' S', (Builtin.append_ #[t, u] ty #[v, q]).run P w = .ok r w' ∧ K z S' ∧ Sim G S' w' ∧ Ext S w S' w' ∧ rel (ro S' w') z r := by
  generalize hel : telem P t = el at h
  unfold aappend at h
  split at h
  · rename_i e n bytes zc sz xs g
    obtain ⟨hsz, h⟩ := h
    obtain ⟨ys, news, m, ⟨h0, h1⟩, hnews, hyl, hm, hsrc⟩ := asrc_sound hy h
    obtain ⟨i, z, hu, hi, hz, hin, hib, hzs, hpos, _, _⟩ := telem_inv hel
    have hx0 := hx
    simp only [rel] at hx
    obtain ⟨A, cap, rfl, hle, hcap, hg, hA⟩ := hx
    by_cases hys : ys = []
    · subst hys
      simp at hm
      subst hm
      have hn0 : news = [] := by have := hsrc.newsLen; simpa using this
      subst hn0
      refine ⟨_, _, _, _, run_append_zero hu hi hle (by rw [hin]; exact hsrc), h0 rfl, hs, Ext.refl _ _, hx0⟩
    · obtain ⟨h63, hb, htok⟩ := h1 hys
      have hA' : (xs = [] ∧ cap = 0) ∨ ∃ b off, A = some ⟨b, off, none⟩ ∧ relRows (ro S w) n xs b off := by
        rcases hA with hA | ⟨b, off, rfl, hr⟩
        · exact .inl hA
        · refine .inr ⟨b, off, rfl, ?_⟩
          rcases hsz with rfl | rfl
          · simp [relRows]
          · exact hr
      obtain ⟨us, hold, hus, hxl, hul⟩ := hold_rows (P := P) hA'
      rw [hm] at h63 hb
      have hmpos : 0 < m := by rw [← hm]; exact List.length_pos_iff.2 hys
      obtain ⟨_, hcase, hfull⟩ := atok_cases htok
      rcases hcase with rfl | (rfl | ⟨mk, rfl⟩) | ⟨b, c, rfl, hrow, hdel⟩
      · have hcap0 : cap = 0 := by
          simp only [growOk] at hg
          rcases hA with ⟨_, h⟩ | ⟨b, off, h, _⟩
          · exact h
          · rw [hg] at h; cases h
        exact append_grow hs (Sub.refl S) hel hold hus hxl hul hnews hyl hm hsrc (by omega) h63 hb (hfull (.inl rfl))
      · simp only [growOk] at hg
        exact append_grow hs (Sub.refl S) hel hold hus hxl hul hnews hyl hm hsrc (by omega) h63 hb (hfull (.inr (.inl rfl)))
      · simp only [growOk] at hg
        exact append_grow hs (Sub.refl S) hel hold hus hxl hul hnews hyl hm hsrc (by omega) h63 hb (hfull (.inr (.inr ⟨_, rfl⟩)))
      · simp only [growOk] at hg
        obtain ⟨rfl, rfl⟩ := hg
        by_cases hroom : xs.length + m ≤ cap
        · obtain ⟨cur, hcur, hcs, hcn, hcm⟩ := hs.own b _ hrow
          subst hin
          have hrun := run_append_at (P := P) (ty := ty) hu hi hcur hsrc hroom hcs
          have hb0 : (S.del b) b = none := by simp [St.del]
          generalize hvs : (cur.toList.take (xs.length * i.size) ++ news ++ cur.toList.drop (xs.length * i.size + news.length)).toArray = vs at hrun
          have hcl : cur.toList.length = cap * i.size := by simpa using hcs
          have hfit : xs.length * i.size + news.length ≤ cap * i.size := by
            rw [hsrc.newsLen, ← Nat.add_mul]; exact Nat.mul_le_mul_right _ hroom
          have hvsz : vs.size = cap * i.size := by
            rw [← hvs]; simp only [List.size_toArray, List.length_append, List.length_take, List.length_drop]; omega
          have hold' : ∀ j, j < xs.length * i.size → vs[j]? = cur[j]? := by
            intro j hj
            rw [← hvs, List.getElem?_toArray, List.append_assoc, List.getElem?_append_left (by simp only [List.length_take]; omega), List.getElem?_take, if_pos hj]
            simp
          have hext : Ext S w ((S.del b).upd b (.row e i.size cap (xs.length + ys.length))) (w.setRow b vs) := by
            refine ⟨rfl, rfl, rfl, by simp [World.setRow], fun k hk hn => ?_, fun k e' sz' cap' n' hkr => ?_, fun k hk => ?_⟩
            · have hkb : k ≠ b := fun h => by subst h; rw [hrow] at hn; cases hn
              exact ⟨by simp [St.upd, St.del, hkb, hn], heap_setRow_ne w b vs k hkb⟩
            · by_cases hkb : k = b
              · subst hkb
                rw [hrow] at hkr
                cases hkr
                refine ⟨fun off ho => ?_, .inr ⟨xs.length + ys.length, by omega, by simp [St.upd]⟩⟩
                simp only [World.cell?, setRow_at hcur, hcur]
                simpa using hold' off ho
              · exact ⟨fun off _ => World.cell?_of_block (w := w) (a := ⟨k, off, none⟩) (heap_setRow_ne w b vs k hkb), .inr ⟨n', Nat.le_refl _, by simp [St.upd, St.del, hkb, hkr]⟩⟩
            · by_cases hkb : k = b
              · subst hkb
                obtain ⟨vs0, T0, q1, q2⟩ := hk
                rw [hcur] at q1
                cases q1
                refine ⟨vs, e, setRow_at hcur vs, fun u hu => ?_⟩
                rw [← hvs] at hu
                simp only [List.mem_append] at hu
                rcases hu with (hu | hu) | hu
                · exact q2 u (List.mem_of_mem_take hu)
                · exact hsrc.one u hu
                · exact q2 u (List.mem_of_mem_drop hu)
              · exact hk.of_block (heap_setRow_ne w b vs k hkb)
          refine ⟨_, _, _, _, hrun, hdel b cap hb0, sim_step hs hext fun k o hk => ?_, hext, ?_⟩
          · by_cases hkb : k = b
            · subst hkb
              simp only [St.upd, if_pos] at hk
              cases hk
              exact ⟨vs, setRow_at hcur vs, hvsz, by omega, hcm⟩
            · have hk' : S k = some o := by simpa [St.upd, St.del, hkb] using hk
              exact ownOk_keep hext (hs.own k o hk') (heap_setRow_ne w b vs k hkb)
          · have hlen : (xs ++ ys).length = xs.length + m := by simp [hm]
            simp only [rel]
            refine ⟨_, cap, by rw [hlen], by rw [hlen]; exact hroom, hcap, ⟨rfl, rfl⟩, .inr ⟨b, 0, rfl, ?_⟩⟩
            have husv : ∀ (j : Nat) (u : Value), us[j]? = some u → cur[j]? = some u := by
              rcases hA' with ⟨h, _⟩ | ⟨b', off', h, hr⟩
              · subst h
                intro j u hj
                have : us.length = 0 := by rw [hul]; simp
                rw [List.eq_nil_of_length_eq_zero this] at hj
                simp at hj
              · cases h
                obtain ⟨us', g1, g2, g3, g4⟩ := relRows_src hr
                have hold2 := run_firstCells_some (P := P) w.drew i.size xs.length ⟨b, 0, none⟩ xs.length cap us' g2 (fun j u hj => by
                  rw [addr_add]; exact (ro_some.1 (g4 j u hj)).2)
                rw [hold] at hold2
                have : us = us' := by
                  have := (Result.ok.injEq _ _ _ _).mp hold2
                  simpa using this.1
                subst this
                intro j u hj
                have := (ro_some.1 (g4 j u hj)).2
                simpa [World.cell?, hcur] using this
            refine relRows_append_flat (relF_mono hext.ro _ _ hus) (relF_mono hext.ro _ _ hnews) hxl hyl fun j u hj => ?_
            have hjlt : j < (us ++ news).length := (List.getElem?_eq_some_iff.1 hj).1
            rw [List.length_append, hul, hsrc.newsLen, ← Nat.add_mul] at hjlt
            refine ro_upd_row (S.del b) _ (setRow_at hcur vs) (by rw [hm]; exact hjlt) ?_
            rw [List.getElem?_append] at hj
            split at hj
            · rename_i hlt
              rw [hold' j (by rw [← hul]; exact hlt)]
              exact husv j u hj
            · rename_i hge
              rw [← hvs, List.getElem?_toArray, List.append_assoc, List.getElem?_append_right (by simp only [List.length_take]; omega),
                List.getElem?_append_left (by simp only [List.length_take]; rw [hsrc.newsLen, Nat.add_mul] at *; omega)]
              rw [show j - (cur.toList.take (xs.length * i.size)).length = j - us.length by simp only [List.length_take]; omega]
              exact hj
        · exact append_grow hs (sub_del S b) hel hold hus hxl hul hnews hyl hm hsrc (by omega) h63 hb hdel
  · exact h.elim

end
end Go.Proofs.Abs
