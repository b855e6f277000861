/- Sep, part 14t: what a function of values alone is told of frozen arguments holds of live ones, which stay live. -/
import Derived.Test.YtjbdahlhphdalaaSep14
namespace Go.Sep
open Go Go.RowKit

/-- A value that points nowhere. -/
def Plain (v : AV) : Prop := ∀ (Z Z' : Fro) (φ φ' : Pm) (x : Value), Cv Z φ v x → Cv Z' φ' v x
theorem Plain.int (k : IntKind) (n : Int) : Plain (.p (.int k n)) := by
  intro Z Z' φ φ' x c
  cases c with
  | p h => cases h; exact .p (.int k n)
theorem Plain.bool (b : Bool) : Plain (.p (.bool b)) := by
  intro Z Z' φ φ' x c
  cases c with
  | p h => cases h; exact .p (.bool b)
theorem Plain.tup {vs : List AV} (h : ∀ v ∈ vs, Plain v) : Plain (.tup vs) := by
  intro Z Z' φ φ' x c
  cases c with
  | tup _ xs hs hh => exact .tup vs xs hs fun i av y hi hy => h av (List.mem_of_getElem? hi) _ _ _ _ _ (hh i av y hi hy)
theorem Plain.tup2 {a b : AV} (ha : Plain a) (hb : Plain b) : Plain (.tup [a, b]) := .tup fun v hv => by
  rcases List.mem_cons.1 hv with rfl | hv
  · exact ha
  · rcases List.mem_cons.1 hv with rfl | hv
    · exact hb
    · cases hv

theorem World.cell?_below {w w' : World} (hb : Below w.heap.size w w') {b : Nat} {i : Nat} {v : Value} (h : w.cell? ⟨b, i, none⟩ = some v) : w'.cell? ⟨b, i, none⟩ = some v := by
  have hlt := World.block_lt_of_cell? w ⟨b, i, none⟩ (by first | exact h | (rw [h]; simp) | exact ⟨v, h⟩)
  rw [World.cell?_of_block (w := w) (a := ⟨b, i, none⟩) (hb.block b hlt)]; exact h

theorem Sim.later {Z : Fro} {φ : Pm} {B0 : Nat} {w0 w w' : World} {H : Heap} (s : Sim Z φ B0 w0 H w) (hb : Below w.heap.size w w') : Sim Z φ B0 w0 H w' := by
  refine ⟨Nat.le_trans s.b0 hb.size, s.below.trans (hb.mono s.b0), s.bnd, ?_, s.disj, fun b i v h => World.cell?_below hb (s.froz b i v h), s.zsep⟩
  intro r blk hr
  obtain ⟨pl, hp, hl⟩ := s.live r blk hr
  exact ⟨pl, hp, hl.world fun o ho => by rw [hb.block _ (Array.getElem?_eq_some_iff.1 ho).1]; exact ho⟩

theorem CallT.thaw {P : Program} {f : Nat} {args args' : List AV} {v : AV} {H H1 : Heap} {Q : AV → Heap → Prop} (h : CallT P f args' (fun _ => none) (fun r _ => r = v)) (hv : Plain v) (hw : Wk (.tup args) H (.tup args') H1) (k : Q v H) : CallT P f args H Q := by
  refine ⟨h.1, ?_⟩
  intro B0 w0 F Z φ w xs hd hs ha
  obtain ⟨Z2, φ2, b1, b2, b3, b4, b5⟩ := UpV.wk hw hd hs (Cv.tup args xs ha.1 ha.2)
  cases b5 with
  | tup _ _ c1 c2 =>
    have hs2 : Sim Z2 φ2 w.heap.size w (Heap.or (fun _ => none) (fun _ => none)) w := by
      refine ⟨Nat.le_refl _, .refl _ _, b4.bnd, ?_, ?_, b4.froz, ?_⟩
      · intro r blk hr; cases hr
      · intro r r' pl pl' hr; exact absurd rfl hr
      · intro b i v hz r pl hr; exact absurd rfl hr
    refine (h.2 w.heap.size w (fun _ => none) Z2 φ2 w xs (fun r hr => absurd rfl hr) hs2 ⟨c1, c2⟩).mono ?_
    rintro e w' ⟨x, rfl, v', H2, Z3, φ3, hq, h1, h2, h3, h4, h5⟩
    subst hq
    exact ⟨x, rfl, _, H, Z, φ, k, Fro.le_refl _, Pm.le_refl _, hd, hs.later h4.below, hv _ _ _ _ _ h5⟩

/-- A function of values alone, called with what is live. -/
theorem Pu.thaw {P : Program} {f : Nat} {args args' : List AV} {v : AV} {H H1 : Heap} {Q : AV → Heap → Prop} (h : Pu P f args' v) (hv : Plain v) (hw : Wk (.tup args) H (.tup args') H1) (k : Q v H) : CallT P f args H Q :=
  CallT.thaw ((h.all _).mono fun _ _ ⟨e, _⟩ => e) hv hw k
end Go.Sep
