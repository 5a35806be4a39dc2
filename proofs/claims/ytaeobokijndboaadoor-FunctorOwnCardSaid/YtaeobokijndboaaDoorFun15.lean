/- Functors: Parse's result as the caller's own. -/
import Derived.Test.YtaeobokijndboaaDoorFun14
set_option linter.unusedSimpArgs false
set_option linter.unusedVariables false
set_option maxRecDepth 100000
namespace Go.Proofs.YtaeobokijndboaaDoor
open Go Go.Proofs.Abs

mutual
theorem tree_of_cells {p : Nat → Prop} {S : St} {mk : Nat} {w : World} (hp : ∀ b, mk ≤ b → p b) : ∀ (f : Fun) (b off : Nat), mk ≤ b → FreeB w b → off % 3 = 0 → relCells (ro S w) (encP mk f) b off → TreeS p (takeOver S mk w) f b off
  | .mk k n l, b, off, hb, hf, ho, h => by
    obtain ⟨vs, T, k1, k2, k3⟩ := takeOver_new (S := S) hb hf
    simp only [encP, relCells, rel, growOk, encPL_map] at h
    obtain ⟨_, _, _, _, _, ⟨u, h6, A, cap, h7, h8, h9, h10, h11⟩, _⟩ := h
    subst h7
    have hcell := (ro_some.1 h6).2
    simp only [World.cell?, k1] at hcell
    have hc : vs[off + 2]? = some (.slice A l.length cap) := by simpa using hcell
    have hlt := (Array.getElem?_eq_some_iff.1 hc).1
    simp only [List.length_map] at h8 h10 h11
    simp only [TreeS]
    refine ⟨hp b hb, ho, by omega, _, vs, A, cap, k3, by simp; omega, by simp [hc], ?_⟩
    rcases h11 with ⟨g2, g3⟩ | ⟨b', o', g1, g2⟩
    · exact .inl (by simpa using g2)
    · subst g1
      obtain ⟨q1, q2, q3⟩ := h10.2 _ rfl
      simp only at q1 q2 q3
      subst q1
      exact .inr ⟨b', rfl, trees_of_rows hp l b' 0 q2 q3 rfl g2⟩
theorem trees_of_rows {p : Nat → Prop} {S : St} {mk : Nat} {w : World} (hp : ∀ b, mk ≤ b → p b) : ∀ (l : List Fun) (b off : Nat), mk ≤ b → FreeB w b → off % 3 = 0 → relRows (ro S w) 3 (l.map (encP mk)) b off → TreesS p (takeOver S mk w) l b off
  | [], b, off, hb, hf, ho, h => by simp only [TreesS]
  | f :: l, b, off, hb, hf, ho, h => by
    simp only [List.map_cons, relRows] at h
    simp only [TreesS]
    exact ⟨tree_of_cells hp f b off hb hf ho h.2.1, trees_of_rows hp l b (off + 3) hb hf (by omega) h.2.2⟩
end

section
variable {G : Glob}

theorem Parse_own (hG : G 0 = some formsA) (n : Nat) (s : List UInt8) (S : St) (R : AEnd → St → Prop) (hl : s.length ≤ 1000000000) (f : Fun) (e : Int) (hp : parseS n s = some (f, e))
    (h : ∀ S' A cap, Sub S S' → f.args.length ≤ maxLen → (f.args = [] ∨ ∃ b', A = some ⟨b', 0, none⟩ ∧ TreesS (fun b => S b = none) S' f.args b' 0) →
      R (.ret (.tup [.agg [int .i64 f.kind, int .i64 f.n, .lit (.slice A f.args.length cap)], int .i64 e])) S') : ACalls Tryd.prog G 11 [str s] S R := by
  refine acalls_own (X := fun mk => .tup [.agg (encP mk f), int .i64 e]) (fun mk => Parse_spec (G := ⟨G.tab, mk⟩) hG n s S _ hl f e hp ⟨rfl, rfl⟩) ?_
  intro mk w u hlt hsub hrel
  rw [encP_eq] at hrel
  simp only [rel, relL, relF, growOk] at hrel
  obtain ⟨us, rfl, x, xs, hx, ⟨us2, rfl, y1, ys1, e1, c1, ⟨rfl, _⟩, y2, ys2, e2, c2, ⟨rfl, _⟩, y3, ys3, e3, c3, ⟨A, cap, g1, g2, g3, g4, g5⟩, e4⟩, z, zs, hz, ⟨rfl, _⟩, e5⟩ := hrel
  simp only [List.length_map] at g1 g2 g4 g5
  subst g1
  have hu2 : us2 = #[.int .i64 f.kind, .int .i64 f.n, .slice A f.args.length cap] := by
    apply Array.ext'; rw [e1, e2, e3, e4]
  subst hu2
  have hus : us = #[.agg #[.int .i64 f.kind, .int .i64 f.n, .slice A f.args.length cap], .int .i64 e] := by
    apply Array.ext'; rw [hx, hz, e5]
  subst hus
  refine ⟨.tup [.agg [int .i64 f.kind, int .i64 f.n, .lit (.slice A f.args.length cap)], int .i64 e], ?_, h _ A cap hsub (by omega) ?_⟩
  · simp [rel, relL, relF, Value.oneCell', AVal.isCell]
  · rcases g5 with ⟨q2, q3⟩ | ⟨b', o', q1, q2⟩
    · exact .inl (by simpa using q2)
    · subst q1
      obtain ⟨r1, r2, r3⟩ := g4.2 _ rfl
      simp only at r1 r2 r3
      subst r1
      refine .inr ⟨b', rfl, trees_of_rows (fun b hb => ?_) f.args b' 0 r2 r3 rfl q2⟩
      cases hS : S b with
      | none => rfl
      | some o => have := hlt b o hS; omega
end
end Go.Proofs.YtaeobokijndboaaDoor
