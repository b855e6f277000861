/- Rules for rows that grow, held by a slot or by a block. -/
import Derived.Test.YtgcklgeifdefhaaGreatLb0
namespace Go.Proofs.YtgcklgeifdefhaaGreat
open Go Go.Sep
set_option linter.unusedSimpArgs false
set_option linter.unusedVariables false
attribute [local irreducible] CallT

abbrev fI (n : Int) : PV := .int .i64 n
abbrev rowP {α : Type} (q : Nat) (xs : List α) : AV := .sl q 1 0 xs.length
abbrev cP {α : Type} (f : α → PV) (xs : List α) : List AV := xs.map fun x => AV.p (f x)
abbrev vP {α : Type} (f : α → PV) (xs : List α) : AV := .p (.sl (xs.map fun x => [f x]))
theorem cells_P {α : Type} (f : α → PV) (xs : List α) : cells (xs.map fun x => [f x]) = cP f xs := by
  induction xs with
  | nil => rfl
  | cons x xs ih => simp only [cells, List.map_cons, List.flatten_cons, List.map_append] at ih ⊢; rw [ih]; rfl
theorem flat_P {α : Type} (f : α → PV) (xs : List α) : (xs.map fun x => [f x]).flatten.map AV.p = cP f xs := cells_P f xs
theorem szP {α : Type} (f : α → PV) (xs : List α) : Sized 1 (xs.map fun x => [f x]) := sized_map (f := fun x => [f x]) (fun _ => rfl) xs
theorem cP_cell {α : Type} (f : α → PV) (xs : List α) : (cP f xs).all AV.isCell = true := by
  rw [← cells_P]; exact cells_cell _

theorem read_row {α : Type} {f : α → PV} {xs : List α} {k : Nat} (d : α) (h : k < xs.length) : ((((cP f xs).drop k).take 1).headD .any) = .p (f (xs.getD k d)) := by
  rw [List.drop_eq_getElem_cons (by simpa using h)]
  simp [List.getD, h]

/-- What may stand in front of an append: nothing yet, or a row of one's own. -/
def Base {α : Type} (f : α → PV) (x : AV) (xs : List α) (G : Heap) : Prop := (x = .p .nil ∧ xs = []) ∨ ∃ q, x = rowP q xs ∧ G q = some (cP f xs)

/-- Elements behind a row. -/
theorem app_row {α : Type} {f : α → PV} {tab : Tab} {t e : Nat} {d ed : TD} {q : Nat} {xs ys : List α} {G : Heap} {K : AV → Heap → Prop} (h1 : tab t = some d) (h2 : d.k = .slice e) (h3 : tab e = some ed) (h6 : ed.size = 1) (h7 : ed.bytes ≤ 64)
    (hq : G q = some (cP f xs)) (hl : xs.length + ys.length ≤ 1000000000)
    (h : ∀ q', G q' = none → K (rowP q' (xs ++ ys)) ((G.del q).set q' (cP f (xs ++ ys)))) : appendV tab t t (rowP q xs) (vP f ys) G (wkK K) := by
  have := app_own (x := vP f ys) (r := q) (es := xs.map fun x => [f x]) (fs := ys.map fun x => [f x]) (H := G) (K := K) h1 h2 h3 h1 h2 h6 (bz := ed.bytes) rfl (.inl rfl) (by rw [cells_P]; exact hq) (szP f xs) (szP f ys)
    (by simp only [List.length_map]; exact Nat.le_trans (Nat.mul_le_mul hl h7) (by omega)) (by simp only [List.length_map]; omega) fun r' hr' => by
      have := h r' hr'
      rw [← List.map_append, cells_P]
      simpa only [own, List.length_map] using this
  simpa only [own, List.length_map] using this

/-- Elements behind a row, or behind none. -/
theorem app_base {α : Type} {f : α → PV} {tab : Tab} {t e : Nat} {d ed : TD} {x : AV} {xs ys : List α} {G : Heap} {K : AV → Heap → Prop} (h1 : tab t = some d) (h2 : d.k = .slice e) (h3 : tab e = some ed) (h6 : ed.size = 1) (h7 : ed.bytes ≤ 64)
    (hb : Base f x xs G) (hl : xs.length + ys.length ≤ 1000000000)
    (h : ∀ q' G1, G q' = none → G1 q' = some (cP f (xs ++ ys)) → (∀ y, y ≠ q' → (∀ q, x = rowP q xs → y ≠ q) → G1 y = G y) → K (rowP q' (xs ++ ys)) G1) : appendV tab t t x (vP f ys) G (wkK K) := by
  rcases hb with ⟨rfl, rfl⟩ | ⟨q, rfl, hq⟩
  · simp only [appendV, h1, h2, h3, h6, srcV, baseV]
    refine ⟨szP f ys, ?_, ?_, ?_, fun r' hr' => wkK.keep ?_⟩
    · have hl2 : 0 + (ys.map fun x => [f x]).length ≤ 1000000000 := by simpa using hl
      exact Nat.le_trans (Nat.mul_le_mul hl2 h7) (by omega)
    · simp only [List.length_map]; simp at hl; omega
    · exact cells_cell _
    · have := h r' (G.set r' (cP f ys)) hr' (by rw [Heap.set_same]; rfl) (fun y hy _ => Heap.set_other hy)
      rw [flat_P]
      simpa using this
  · refine app_row h1 h2 h3 h6 h7 hq hl fun q' hq' => ?_
    have hne : q' ≠ q := by rintro rfl; rw [hq] at hq'; cases hq'
    refine h q' _ hq' (Heap.set_same _ _ _) fun y hy hy2 => ?_
    rw [Heap.set_other hy, Heap.del_other (hy2 q rfl)]

/-- A block r of one's own, the last of whose cells holds a list that grows. -/
structure Own1 {α : Type} (f : α → PV) (H0 G : Heap) (r : Nat) (pre : List AV) (x : AV) (xs : List α) : Prop where
  hr : G r = some (pre ++ [x])
  base : (x = .p .nil ∧ xs = []) ∨ ∃ q, x = rowP q xs ∧ G q = some (cP f xs) ∧ H0 q = none ∧ q ≠ r
  le : Heap.le H0 G
  nr : H0 r = none

theorem Own1.alloc {α : Type} {f : α → PV} {H0 G : Heap} {r : Nat} {pre : List AV} {x : AV} {xs : List α} (o : Own1 f H0 G r pre x xs) {q : Nat} (hq : G q = none) (b : List AV) : Own1 f H0 (G.set q b) r pre x xs := by
  have ne : ∀ {y c}, G y = some c → y ≠ q := fun h e => by rw [e, hq] at h; cases h
  refine ⟨by rw [Heap.set_other (ne o.hr)]; exact o.hr, ?_, Heap.le_setN o.le ?_, o.nr⟩
  · rcases o.base with h | ⟨q1, h1, h2, h3, h4⟩
    · exact .inl h
    · exact .inr ⟨q1, h1, by rw [Heap.set_other (ne h2)]; exact h2, h3, h4⟩
  · cases hh : H0 q with
    | none => rfl
    | some c => rw [o.le q c hh] at hq; cases hq

/-- Elements are put behind the list, and it is stored again. -/
theorem Own1.app {α : Type} {f : α → PV} {H0 G : Heap} {r : Nat} {pre : List AV} {x : AV} {xs : List α} (o : Own1 f H0 G r pre x xs) {tab : Tab} {t e : Nat} {d ed : TD} {ys : List α} {K : AV → Heap → Prop} (h1 : tab t = some d) (h2 : d.k = .slice e) (h3 : tab e = some ed) (h6 : ed.size = 1) (h7 : ed.bytes ≤ 64)
    (hl : xs.length + ys.length ≤ 1000000000)
    (h : ∀ q' m G1, G1 r = some (pre ++ [x]) → Own1 f H0 (G1.set r (pre ++ [.sl q' 1 0 m])) r pre (.sl q' 1 0 m) (xs ++ ys) → (∀ y b, y ≠ r → H0 y = some b → G1 y = some b) → K (.sl q' 1 0 m) G1) : appendV tab t t x (vP f ys) G (wkK K) := by
  refine app_base (f := f) h1 h2 h3 h6 h7 (xs := xs) ?_ hl fun q' G1 hq' hG1 hfr => ?_
  · rcases o.base with h | ⟨q1, h1, h2, h3, h4⟩
    · exact .inl h
    · exact .inr ⟨q1, h1, h2⟩
  · have hrq : r ≠ q' := fun e => by rw [← e, o.hr] at hq'; cases hq'
    have hxr : ∀ q, x = rowP q xs → H0 q = none ∧ q ≠ r := by
      intro q hx
      rcases o.base with ⟨h, _⟩ | ⟨q1, h1, h2, h3, h4⟩
      · rw [h] at hx; cases hx
      · rw [h1] at hx; cases hx; exact ⟨h3, h4⟩
    have hle1 : ∀ y b, H0 y = some b → G1 y = some b := by
      intro y b hy
      rw [hfr y (fun e => by rw [← e, o.le y b hy] at hq'; cases hq') (fun q hx e => by rw [e, (hxr q hx).1] at hy; cases hy)]
      exact o.le y b hy
    have hnq : H0 q' = none := by
      cases hh : H0 q' with
      | none => rfl
      | some c => rw [o.le q' c hh] at hq'; cases hq'
    refine h q' _ G1 ?_ ⟨Heap.set_same _ _ _, .inr ⟨q', rfl, by rw [Heap.set_other hrq.symm]; exact hG1, hnq, hrq.symm⟩, ?_, o.nr⟩ fun y b _ hy => hle1 y b hy
    · rw [hfr r hrq (fun q hx e => (hxr q hx).2 e.symm)]; exact o.hr
    · refine Heap.le_setN (fun y b hy => hle1 y b hy) o.nr

/-- The list, and the block, told by value. -/
theorem Own1.wk {α : Type} {f : α → PV} {H0 G : Heap} {r : Nat} {pre : List AV} {x : AV} {xs : List α} (o : Own1 f H0 G r pre x xs) {v v' : AV}
    (hn : x = .p .nil → xs = [] → AV.wk v v') (hf : ∀ q, x = rowP q xs → FrzR q 1 (xs.map fun x => [f x]) v v') (hp : ∀ q, q ≠ r → FrzL q 1 (xs.map fun x => [f x]) (pre ++ [rowP q xs]) (pre ++ [vP f xs])) :
    ∃ G', Wk v G v' G' ∧ G' r = some (pre ++ [vP f xs]) ∧ Heap.le H0 G' := by
  rcases o.base with ⟨rfl, rfl⟩ | ⟨q, rfl, hq, hq0, hqr⟩
  · refine ⟨G.set r (pre ++ [vP f []]), .trans (.val (hn rfl rfl)) (.cell o.hr (by simp) fun i a a' ha ha' => ?_), Heap.set_same _ _ _, Heap.le_setN o.le o.nr⟩
    by_cases hi : i < pre.length
    · rw [List.getElem?_append_left hi] at ha ha'
      rw [ha] at ha'; cases ha'; exact .refl _
    · rw [List.getElem?_append_right (by omega)] at ha ha'
      cases hj : i - pre.length with
      | zero =>
        rw [hj] at ha ha'
        simp at ha ha'
        subst ha; subst ha'; exact .nil
      | succ j => rw [hj] at ha; simp at ha
  · refine ⟨(G.del q).set r (pre ++ [vP f xs]), Wk.frzAt (r := q) (s := r) (sz := 1) (es := xs.map fun x => [f x]) (by omega) (by rw [flat_P]; exact hq) (szP f xs) o.hr hqr.symm (hp q hqr) (hf q rfl) (by simp), Heap.set_same _ _ _, ?_⟩
    exact Heap.le_setN (Heap.le_del o.le hq0) o.nr

theorem FrzL.refl {r sz : Nat} {es : List (List PV)} : ∀ vs, FrzL r sz es vs vs
  | [] => .nil
  | v :: vs => .cons (.same v) (FrzL.refl vs)
theorem FrzL.app {r sz : Nat} {es : List (List PV)} : ∀ {vs ws ws' : List AV}, FrzL r sz es ws ws' → FrzL r sz es (vs ++ ws) (vs ++ ws')
  | [], _, _, h => h
  | v :: vs, _, _, h => .cons (.same v) (FrzL.app (vs := vs) h)
theorem frz_row {α : Type} {f : α → PV} {q : Nat} {xs : List α} : FrzR q 1 (xs.map fun x => [f x]) (rowP q xs) (vP f xs) := by
  have : FrzR q 1 (xs.map fun x => [f x]) (.sl q 1 0 (xs.map fun x => [f x]).length) (.p (.sl (xs.map fun x => [f x]))) := .here
  rwa [List.length_map] at this
end Go.Proofs.YtgcklgeifdefhaaGreat
