/- Specs: circuits that are drawn, continued. -/
import Derived.Test.YtjbdahlhphdalaaLc10
namespace Go.Proofs.Ytjbdahlhphdalaa
open Go Go.Sep Go.Pc
set_option linter.unusedSimpArgs false
set_option linter.unusedVariables false
attribute [local irreducible] CallT

/-- What the drawing of a circuit asks. -/
structure CG (H G : Heap) (r r2 r3 : Nat) (code : List Int) (k : Nat) (seed ins : Int) (x : AV) (gs : List Gt) (y : AV) (outs : List Int) : Prop where
  cr : G r = some (cur code k seed)
  c2 : ∃ a b c, G r2 = some [a, b, c]
  c3 : G r3 = some [I ins, x, y]
  ne : r2 ≠ r ∧ r3 ≠ r ∧ r2 ≠ r3
  nn : H r2 = none ∧ H r3 = none
  bx : (x = .p .nil ∧ gs = []) ∨ ∃ q, x = .sl q 3 0 gs.length ∧ G q = some (cells (gs.map eG)) ∧ H q = none ∧ q ≠ r ∧ q ≠ r2 ∧ q ≠ r3
  bY : (y = .p .nil ∧ outs = []) ∨ ∃ q, y = rowP q outs ∧ G q = some (cP fI outs) ∧ H q = none ∧ q ≠ r ∧ q ≠ r2 ∧ q ≠ r3 ∧ (∀ q1, x = .sl q1 3 0 gs.length → q1 ≠ q)
  le : ∀ z b, z ≠ r → H z = some b → G z = some b

variable {H G : Heap} {r r2 r3 k : Nat} {code : List Int} {seed ins : Int} {x y : AV} {gs : List Gt} {outs : List Int}
theorem CG.b3 (g : CG H G r r2 r3 code k seed ins x gs y outs) : B3 x gs G := by
  rcases g.bx with h | ⟨q, h1, h2, _⟩
  · exact .inl h
  · exact .inr ⟨q, h1, h2⟩

theorem CG.fresh (g : CG H G r r2 r3 code k seed ins x gs y outs) {q : Nat} (hq : G q = none) : q ≠ r ∧ q ≠ r2 ∧ q ≠ r3 ∧ (H q = none) ∧ (∀ q1, x = .sl q1 3 0 gs.length → q ≠ q1) ∧ (∀ q1, y = rowP q1 outs → q ≠ q1) := by
  have h1 : q ≠ r := fun e => by rw [e, g.cr] at hq; cases hq
  refine ⟨h1, (fun e => by obtain ⟨a, b, c, h⟩ := g.c2; rw [e, h] at hq; cases hq), (fun e => by rw [e, g.c3] at hq; cases hq), ?_, ?_, ?_⟩
  · cases hh : H q with
    | none => rfl
    | some b => rw [g.le q b h1 hh] at hq; cases hq
  · rintro q1 hx rfl
    rcases g.bx with ⟨h, _⟩ | ⟨q2, h1, h2, _⟩
    · rw [h] at hx; cases hx
    · rw [hx] at h1; injection h1 with e; subst e; rw [h2] at hq; cases hq
  · rintro q1 hx rfl
    rcases g.bY with ⟨h, _⟩ | ⟨q2, h1, h2, _⟩
    · rw [h] at hx; cases hx
    · rw [hx] at h1; injection h1 with e; subst e; rw [h2] at hq; cases hq

theorem CG.cur (g : CG H G r r2 r3 code k seed ins x gs y outs) (k1 : Nat) (s1 : Int) : CG H (G.set r (Proofs.Ytjbdahlhphdalaa.cur code k1 s1)) r r2 r3 code k1 s1 ins x gs y outs := by
  obtain ⟨n1, n2, n3⟩ := g.ne
  refine ⟨Heap.set_same _ _ _, by rw [Heap.set_other n1]; exact g.c2, by rw [Heap.set_other n2]; exact g.c3, g.ne, g.nn, ?_, ?_, fun z b e hz => by rw [Heap.set_other e]; exact g.le z b e hz⟩
  · rcases g.bx with h | ⟨q, h1, h2, h3, h4, h5⟩
    · exact .inl h
    · exact .inr ⟨q, h1, by rw [Heap.set_other h4]; exact h2, h3, h4, h5⟩
  · rcases g.bY with h | ⟨q, h1, h2, h3, h4, h5⟩
    · exact .inl h
    · exact .inr ⟨q, h1, by rw [Heap.set_other h4]; exact h2, h3, h4, h5⟩

theorem CG.alloc (g : CG H G r r2 r3 code k seed ins x gs y outs) {q : Nat} (hq : G q = none) (b : List AV) : CG H (G.set q b) r r2 r3 code k seed ins x gs y outs := by
  have f := g.fresh hq
  refine ⟨by rw [Heap.set_other f.1.symm]; exact g.cr, by rw [Heap.set_other f.2.1.symm]; exact g.c2, by rw [Heap.set_other f.2.2.1.symm]; exact g.c3, g.ne, g.nn, ?_, ?_, fun z c e hz => ?_⟩
  · rcases g.bx with h | ⟨q1, h1, h2, h3⟩
    · exact .inl h
    · exact .inr ⟨q1, h1, by rw [Heap.set_other (f.2.2.2.2.1 q1 h1).symm]; exact h2, h3⟩
  · rcases g.bY with h | ⟨q1, h1, h2, h3⟩
    · exact .inl h
    · exact .inr ⟨q1, h1, by rw [Heap.set_other (f.2.2.2.2.2 q1 h1).symm]; exact h2, h3⟩
  · rw [Heap.set_other (fun e2 => by rw [e2, f.2.2.2.1] at hz; cases hz)]; exact g.le z c e hz

/-- A block of the round is written. -/
theorem CG.put (g : CG H G r r2 r3 code k seed ins x gs y outs) {q : Nat} (hq : H q = none) (h1 : q ≠ r) (h2 : q ≠ r2) (h3 : q ≠ r3) (h4 : ∀ q1, x = .sl q1 3 0 gs.length → q ≠ q1) (h5 : ∀ q1, y = rowP q1 outs → q ≠ q1) (b : List AV) : CG H (G.set q b) r r2 r3 code k seed ins x gs y outs := by
  refine ⟨by rw [Heap.set_other h1.symm]; exact g.cr, by rw [Heap.set_other h2.symm]; exact g.c2, by rw [Heap.set_other h3.symm]; exact g.c3, g.ne, g.nn, ?_, ?_, fun z c e hz => ?_⟩
  · rcases g.bx with h | ⟨q1, e1, e2, e3⟩
    · exact .inl h
    · exact .inr ⟨q1, e1, by rw [Heap.set_other (h4 q1 e1).symm]; exact e2, e3⟩
  · rcases g.bY with h | ⟨q1, e1, e2, e3⟩
    · exact .inl h
    · exact .inr ⟨q1, e1, by rw [Heap.set_other (h5 q1 e1).symm]; exact e2, e3⟩
  · rw [Heap.set_other (fun e2 => by rw [e2, hq] at hz; cases hz)]; exact g.le z c e hz

/-- One gate more. -/
theorem CG.push (g : CG H G r r2 r3 code k seed ins x gs y outs) (hl : gs.length ≤ 1000000) {gt : Gt} {K : AV → Heap → Prop}
    (h : ∀ q' m G1, G1 r3 = some [I ins, x, y] → CG H (G1.set r3 [I ins, .sl q' 3 0 m, y]) r r2 r3 code k seed ins (.sl q' 3 0 m) (gs ++ [gt]) y outs → K (.sl q' 3 0 m) G1) :
    buildSliceV tab 35 1 [(0, aG gt)] G (wkK fun v H1 => appendV tab 35 35 x v H1 (wkK K)) := by
  refine push_gate g.b3 hl fun q' m G1 hq' hG1 hm hfr => ?_
  have f := g.fresh hq'
  obtain ⟨n1, n2, n3⟩ := g.ne
  have hx : ∀ q, x = .sl q 3 0 gs.length → H q = none ∧ q ≠ r ∧ q ≠ r2 ∧ q ≠ r3 := by
    intro q hx
    rcases g.bx with ⟨h, _⟩ | ⟨q2, h1, _, h3⟩
    · rw [h] at hx; cases hx
    · rw [hx] at h1; injection h1 with e; subst e; exact h3
  have e1 : G1 r = G r := hfr r f.1.symm fun q e => (hx q e).2.1.symm
  have e2 : G1 r2 = G r2 := hfr r2 f.2.1.symm fun q e => (hx q e).2.2.1.symm
  have e3 : G1 r3 = G r3 := hfr r3 f.2.2.1.symm fun q e => (hx q e).2.2.2.symm
  subst hm
  refine h q' _ G1 (by rw [e3]; exact g.c3) ⟨by rw [Heap.set_other n2.symm, e1]; exact g.cr, by rw [Heap.set_other n3, e2]; exact g.c2, Heap.set_same _ _ _, g.ne, g.nn, ?_, ?_, fun z b e hz => ?_⟩
  · exact .inr ⟨q', rfl, by rw [Heap.set_other f.2.2.1]; exact hG1, f.2.2.2.1, f.1, f.2.1, f.2.2.1⟩
  · rcases g.bY with h | ⟨q1, e1, e2, e3, e4, e5, e6, e7⟩
    · exact .inl h
    · refine .inr ⟨q1, e1, ?_, e3, e4, e5, e6, fun q2 hq2 => ?_⟩
      · rw [Heap.set_other e6, hfr q1 (f.2.2.2.2.2 q1 e1).symm fun q e => (e7 q e).symm]; exact e2
      · injection hq2 with e; subst e; exact f.2.2.2.2.2 q1 e1
  · rw [Heap.set_other (fun e2 => by rw [e2, g.nn.2] at hz; cases hz), hfr z (fun e2 => by rw [e2, f.2.2.2.1] at hz; cases hz) (fun q hq e2 => by rw [e2, (hx q hq).1] at hz; cases hz)]
    exact g.le z b e hz

/-- The circuit told by value. -/
theorem CG.wk (g : CG H G r r2 r3 code k seed ins x gs y outs) (C : AV → AV) (hC1 : ∀ {q sz es a a'}, FrzR q sz es a a' → FrzR q sz es (C a) (C a')) (hC2 : ∀ {a a'}, AV.wk a a' → AV.wk (C a) (C a')) :
    ∃ G1, Wk (C (.agg [I ins, x, y])) G (C (aC ins gs outs)) G1 ∧ ∀ z, H z ≠ none ∨ z = r ∨ z = r2 ∨ z = r3 → G1 z = G z := by
  have s1 : ∃ G1, Wk (C (.agg [I ins, x, y])) G (C (.agg [I ins, Gs gs, y])) G1 ∧ (∀ z, H z ≠ none ∨ z = r ∨ z = r2 ∨ z = r3 → G1 z = G z) ∧ ∀ q, y = rowP q outs → G1 q = G q := by
    rcases g.bx with ⟨rfl, rfl⟩ | ⟨q, rfl, h2, h3, h4, h5, h6⟩
    · exact ⟨G, .val (hC2 (wk_agg ⟨.refl _, .nil, .refl _, trivial⟩)), fun _ _ => rfl, fun _ _ => rfl⟩
    · refine ⟨G.del q, Wk.frz (r := q) (sz := 3) (es := gs.map eG) (by omega) h2 (szG gs) (hC1 (.agg (.cons (.same _) (.cons ?_ (.cons (.same _) .nil))))), fun z hz => ?_, fun q1 hq1 => ?_⟩
      · have : FrzR q 3 (gs.map eG) (.sl q 3 0 (gs.map eG).length) (.p (.sl (gs.map eG))) := .here
        rwa [List.length_map] at this
      · refine Heap.del_other fun e => ?_
        subst e
        rcases hz with hz | hz | hz | hz
        · exact hz h3
        · exact h4 hz
        · exact h5 hz
        · exact h6 hz
      · refine Heap.del_other fun e => ?_
        subst e
        rcases g.bY with ⟨h, _⟩ | ⟨q2, e1, _, _, _, _, _, e7⟩
        · rw [h] at hq1; cases hq1
        · rw [hq1] at e1; injection e1 with e; subst e; exact e7 q1 rfl rfl
  obtain ⟨G1, w1, k1, k2⟩ := s1
  rcases g.bY with ⟨rfl, rfl⟩ | ⟨q, rfl, h2, h3, h4, h5, h6, h7⟩
  · exact ⟨G1, .trans w1 (.val (hC2 (wk_agg ⟨.refl _, .refl _, .nil, trivial⟩))), k1⟩
  · refine ⟨G1.del q, .trans w1 (Wk.frz (r := q) (sz := 1) (es := outs.map fun n => [fI n]) (by omega) (by rw [flat_P, k2 q rfl]; exact h2) (szP _ _) (hC1 (.agg (.cons (.same _) (.cons (.same _) (.cons frz_row .nil)))))), fun z hz => ?_⟩
    rw [Heap.del_other fun e => ?_]
    · exact k1 z hz
    · subst e
      rcases hz with hz | hz | hz | hz
      · exact hz h3
      · exact h4 hz
      · exact h5 hz
      · exact h6 hz

theorem CG.le' (g : CG H G r r2 r3 code k seed ins x gs y outs) {G1 : Heap} (h : ∀ z, H z ≠ none ∨ z = r ∨ z = r2 ∨ z = r3 → G1 z = G z) : Heap.le (H.set r (Proofs.Ytjbdahlhphdalaa.cur code k seed)) G1 := by
  intro z b hz
  by_cases e : z = r
  · subst e
    rw [Heap.set_same] at hz
    rw [h z (.inr (.inl rfl)), g.cr]; exact hz
  · rw [Heap.set_other e] at hz
    rw [h z (.inl (by rw [hz]; simp))]; exact g.le z b e hz

theorem CG.wires (g : CG H G r r2 r3 code k seed ins x gs y outs) (hi : -1000 ≤ ins) (hi2 : ins ≤ 1000) (hl : gs.length ≤ 1000000) {K : AV → Heap → Prop} (h : K (I (ins + gs.length)) G) : CallT Try.prog 139 [.agg [I ins, x, y]] G K := by
  obtain ⟨G1, w, _⟩ := g.wk (fun a => .tup [a]) (fun h => .tup (.cons h .nil)) (fun h => wk_tup ⟨h, trivial⟩)
  exact Pu.thaw (wires_139 ins gs outs hi hi2 hl) (.int _ _) w h
end Go.Proofs.Ytjbdahlhphdalaa
