/- Sep, part 14t: what a function of values alone is told of frozen arguments holds of live ones, which stay live. -/
import Derived.Test.YthlbkcgnacemgaaSep14
namespace Go.Sep
open Go Go.RowKit

/-- A value that points nowhere. -/
def Plain (v : AV) : Prop := ∀ (Z Z' : Fro) (φ φ' : Pm) (x : Value), Cv Z φ v x → Cv Z' φ' v x
theorem Plain.int (k : IntKind) (n : Int) : Plain (.p (.int k n)) := by
  intro Z Z' φ φ' x c
  cases c with
  | p h => cases h; exact .p (.int k n)
theorem Plain.bool (b : Bool) : Plain (.p (.bool b)) := by
  intro Z Z' φ φ' x c
  cases c with
  | p h => cases h; exact .p (.bool b)
theorem Plain.tup {vs : List AV} (h : ∀ v ∈ vs, Plain v) : Plain (.tup vs) := by
  intro Z Z' φ φ' x c
  cases c with
  | tup _ xs hs hh => exact .tup vs xs hs fun i av y hi hy => h av (List.mem_of_getElem? hi) _ _ _ _ _ (hh i av y hi hy)
theorem Plain.tup2 {a b : AV} (ha : Plain a) (hb : Plain b) : Plain (.tup [a, b]) := .tup fun v hv => by
  rcases List.mem_cons.1 hv with rfl | hv
  · exact ha
  · rcases List.mem_cons.1 hv with rfl | hv
    · exact hb
    · cases hv

theorem World.cell?_below {w w' : World} (hb : Below w.heap.size w w') {b : Nat} {i : Nat} {v : Value} (h : w.cell? ⟨b, i, none⟩ = some v) : w'.cell? ⟨b, i, none⟩ = some v := by
  have hlt := World.block_lt_of_cell? w ⟨b, i, none⟩ (by first | exact h | (rw [h]; simp) | exact ⟨v, h⟩)
  rw [World.cell?_of_block (w := w) (a := ⟨b, i, none⟩) (hb.block b hlt)]; exact h

theorem Sim.later {Z : Fro} {φ : Pm} {B0 : Nat} {w0 w w' : World} {H : Heap} (s : Sim Z φ B0 w0 H w) (hb : Below w.heap.size w w') : Sim Z φ B0 w0 H w' := by
  refine ⟨Nat.le_trans s.b0 hb.size, s.below.trans (hb.mono s.b0), s.bnd, ?_, s.disj, fun b i v h => World.cell?_below hb (s.froz b i v h), s.zsep⟩
  intro r blk hr
  obtain ⟨pl, hp, hl⟩ := s.live r blk hr
  exact ⟨pl, hp, hl.world fun o ho => by rw [hb.block _ (Array.getElem?_eq_some_iff.1 ho).1]; exact ho⟩

theorem CallT.thaw {P : Program} {f : Nat} {args args' : List AV} {v : AV} {H H1 : Heap} {Q : AV → Heap → Prop} (h : CallT P f args' (fun _ => none) (fun r _ => r = v)) (hv : Plain v) (hw : Wk (.tup args) H (.tup args') H1) (k : Q v H) : CallT P f args H Q := by
  refine ⟨h.1, ?_⟩
  intro B0 w0 F Z φ w xs hd hs ha
  obtain ⟨Z2, φ2, b1, b2, b3, b4, b5⟩ := UpV.wk hw hd hs (Cv.tup args xs ha.1 ha.2)
  cases b5 with
  | tup _ _ c1 c2 =>
    have hs2 : Sim Z2 φ2 w.heap.size w (Heap.or (fun _ => none) (fun _ => none)) w := by
      refine ⟨Nat.le_refl _, .refl _ _, b4.bnd, ?_, ?_, b4.froz, ?_⟩
      · intro r blk hr; cases hr
      · intro r r' pl pl' hr; exact absurd rfl hr
      · intro b i v hz r pl hr; exact absurd rfl hr
    refine (h.2 w.heap.size w (fun _ => none) Z2 φ2 w xs (fun r hr => absurd rfl hr) hs2 ⟨c1, c2⟩).mono ?_
    rintro e w' ⟨x, rfl, v', H2, Z3, φ3, hq, h1, h2, h3, h4, h5⟩
    subst hq
    exact ⟨x, rfl, _, H, Z, φ, k, Fro.le_refl _, Pm.le_refl _, hd, hs.later h4.below, hv _ _ _ _ _ h5⟩

/-- A function of values alone, called with what is live. -/
theorem Pu.thaw {P : Program} {f : Nat} {args args' : List AV} {v : AV} {H H1 : Heap} {Q : AV → Heap → Prop} (h : Pu P f args' v) (hv : Plain v) (hw : Wk (.tup args) H (.tup args') H1) (k : Q v H) : CallT P f args H Q :=
  CallT.thaw ((h.all _).mono fun _ _ ⟨e, _⟩ => e) hv hw k

/-! ### Freezing what points into a row: parts of it, pointers, function values -/
mutual
inductive FrzS (r : Nat) (es : List PV) : AV → AV → Prop where
  | part (off len : Nat) (h : off + len ≤ es.length) : FrzS r es (.sl r 1 off len) (.p (.sl (((es.drop off).take len).map fun v => [v])))
  | ptr (off : Nat) : FrzS r es (.ptr r off) (.fp (es.drop off))
  | same (v : AV) : FrzS r es v v
  | fn (f : Nat) {vs vs' : List AV} (h : FrzSL r es vs vs') : FrzS r es (.fn f vs) (.fn f vs')
  | agg {vs vs' : List AV} (h : FrzSL r es vs vs') : FrzS r es (.agg vs) (.agg vs')
  | tup {vs vs' : List AV} (h : FrzSL r es vs vs') : FrzS r es (.tup vs) (.tup vs')
inductive FrzSL (r : Nat) (es : List PV) : List AV → List AV → Prop where
  | nil : FrzSL r es [] []
  | cons {v v' : AV} {vs vs' : List AV} (h : FrzS r es v v') (t : FrzSL r es vs vs') : FrzSL r es (v :: vs) (v' :: vs')
end

section
variable {Z : Fro} {φ : Pm} {r : Nat} {es : List PV}
theorem frzS_part {pl : Place} (hp : φ r = some pl) {vals : Nat → Value} (h1 : ∀ i, i < es.length → Z pl.b (pl.o + i) = some (vals i)) (h2 : ∀ (i : Nat) (p : PV), es[i]? = some p → Cz Z p (vals i))
    {off len : Nat} (hl : off + len ≤ es.length) {x : Value} (c : Cv Z φ (.sl r 1 off len) x) : Cv Z φ (.p (.sl (((es.drop off).take len).map fun v => [v]))) x := by
  have hlen : (((es.drop off).take len).map fun v => [v]).length = len := by simp; omega
  cases c with
  | slz _ _ _ a =>
    have : (((es.drop off).take 0).map fun v => [v]) = ([] : List (List PV)) := by simp
    rw [this]; exact .p (.emp a 0)
  | sl hp' hc hC =>
    rw [hp] at hp'; cases hp'
    refine .p ?_
    generalize hes : ((es.drop off).take len).map (fun v => [v]) = es' at hlen ⊢
    have key := Cz.sl (Z := Z) es' 1 pl.b (pl.o + off) _ (fun i => vals (off + i)) (by rw [hlen]; exact hc) ?_ ?_ ?_
    · rw [hlen] at key; exact key
    · intro e he; rw [← hes] at he; obtain ⟨v, _, rfl⟩ := List.mem_map.1 he; rfl
    · intro i hi
      rw [Nat.add_assoc]; exact h1 _ (by omega)
    · intro i e he j p hj
      rw [← hes] at he
      simp only [List.getElem?_map, Option.map_eq_some_iff] at he
      obtain ⟨v, hv, rfl⟩ := he
      have hj0 : j = 0 := by
        have := (List.getElem?_eq_some_iff.1 hj).1
        simp at this; exact this
      subst hj0
      simp at hj; subst hj
      have hil : i < len := by
        have := (List.getElem?_eq_some_iff.1 hv).1
        simp at this; omega
      rw [List.getElem?_take_of_lt hil, List.getElem?_drop] at hv
      simpa using h2 _ _ hv

theorem frzS_rel {pl : Place} (hp : φ r = some pl) {vals : Nat → Value} (h1 : ∀ i, i < es.length → Z pl.b (pl.o + i) = some (vals i)) (h2 : ∀ (i : Nat) (p : PV), es[i]? = some p → Cz Z p (vals i)) :
    ∀ {v v' : AV}, FrzS r es v v' → ∀ x, Cv Z φ v x → Cv Z φ v' x := by
  intro v v' h
  refine FrzS.rec (motive_1 := fun v v' _ => ∀ x, Cv Z φ v x → Cv Z φ v' x)
    (motive_2 := fun vs vs' _ => vs'.length = vs.length ∧ ∀ (i : Nat) (v v' : AV) (x : Value), vs[i]? = some v → vs'[i]? = some v' → Cv Z φ v x → Cv Z φ v' x) ?_ ?_ ?_ ?_ ?_ ?_ ?_ ?_ h
  · intro off len hl x c; exact frzS_part hp h1 h2 hl c
  · intro off x c
    cases c with
    | ptr _ hp' =>
      rw [hp] at hp'; cases hp'
      refine .fp _ _ _ (fun i => vals (off + i)) ?_ ?_
      · intro i hi
        rw [Nat.add_assoc]; exact h1 _ (by simp at hi; omega)
      · intro i p hi
        rw [List.getElem?_drop] at hi
        exact h2 _ _ hi
  · intro v x c; exact c
  · intro f vs vs' _ ih x c
    cases c with
    | fn _ _ xs hs hh =>
      refine .fn f vs' xs (hs.trans ih.1.symm) ?_
      intro i av y hi hy
      have hl : i < vs.length := by rw [← ih.1]; exact (List.getElem?_eq_some_iff.1 hi).1
      exact ih.2 i _ av y (List.getElem?_eq_getElem hl) hi (hh i _ y (List.getElem?_eq_getElem hl) hy)
  · intro vs vs' _ ih x c
    cases c with
    | agg _ xs hs hh =>
      refine .agg vs' xs (hs.trans ih.1.symm) ?_
      intro i av y hi hy
      have hl : i < vs.length := by rw [← ih.1]; exact (List.getElem?_eq_some_iff.1 hi).1
      exact ih.2 i _ av y (List.getElem?_eq_getElem hl) hi (hh i _ y (List.getElem?_eq_getElem hl) hy)
  · intro vs vs' _ ih x c
    cases c with
    | tup _ xs hs hh =>
      refine .tup vs' xs (hs.trans ih.1.symm) ?_
      intro i av y hi hy
      have hl : i < vs.length := by rw [← ih.1]; exact (List.getElem?_eq_some_iff.1 hi).1
      exact ih.2 i _ av y (List.getElem?_eq_getElem hl) hi (hh i _ y (List.getElem?_eq_getElem hl) hy)
  · exact ⟨rfl, fun i v v' x h => by simp at h⟩
  · intro v v' vs vs' _ _ ih1 ih2
    refine ⟨by simp [ih2.1], ?_⟩
    intro i u u' x hu hu' c
    cases i with
    | zero => simp at hu hu'; subst hu; subst hu'; exact ih1 x c
    | succ i => simp at hu hu'; exact ih2.2 i u u' x hu hu' c
end

theorem Wk.frzS {v v' : AV} {H : Heap} {r : Nat} {es : List PV} (hr : H r = some (es.map .p)) (hv : FrzS r es v v') : Wk v H v' (H.del r) :=
  .freeze hr fun _ _ _ _ hp _ h1 h2 x c => frzS_rel hp h1 h2 hv x c
end Go.Sep
