/- Sep, part 9w: telling less of a value and a heap. -/
import Derived.Test.YthlbkcgnacemgaaSep9
namespace Go.Sep
open Go Go.RowKit

theorem Heap.set_set (H : Heap) (r : Nat) (b c : List AV) : (H.set r b).set r c = H.set r c := by
  funext x; by_cases h : x = r <;> simp [Heap.set, h]
theorem Heap.set_comm {H : Heap} {r s : Nat} (h : r ≠ s) (b c : List AV) : (H.set r b).set s c = (H.set s c).set r b := by
  funext x; by_cases h1 : x = r <;> by_cases h2 : x = s <;> simp_all [Heap.set]
theorem Heap.set_none {H : Heap} {r s : Nat} {b : List AV} : ((H.set r b) s = none) = (s ≠ r ∧ H s = none) := by
  by_cases h : s = r <;> simp [Heap.set, h]
theorem Heap.del_set {H : Heap} {r : Nat} {b : List AV} (h : H r = none) : (H.set r b).del r = H := by
  funext x; by_cases hx : x = r <;> simp [Heap.set, Heap.del, hx, h]
theorem Heap.del_set_other {H : Heap} {r s : Nat} {b : List AV} (h : r ≠ s) : (H.set r b).del s = (H.del s).set r b := by
  funext x; by_cases h1 : x = r <;> by_cases h2 : x = s <;> simp_all [Heap.set, Heap.del]
theorem Heap.le_setN {H0 H : Heap} {r : Nat} {b : List AV} (h : Heap.le H0 H) (hr : H0 r = none) : Heap.le H0 (H.set r b) := by
  intro x c e
  have : x ≠ r := fun e' => by subst e'; rw [hr] at e; cases e
  rw [Heap.set_other this]; exact h x c e
theorem Heap.le_setS {H0 H : Heap} {r : Nat} {b : List AV} (h : Heap.le H0 H) : Heap.le (H0.set r b) (H.set r b) := Heap.set_le h
theorem Heap.le_del {H0 H : Heap} {r : Nat} (h : Heap.le H0 H) (hr : H0 r = none) : Heap.le H0 (H.del r) := by
  intro x c e
  have : x ≠ r := fun e' => by subst e'; rw [hr] at e; cases e
  rw [Heap.del_other this]; exact h x c e

theorem fresh_intro {H : Heap} {C : Nat → Prop} (h : ∀ r, H r = none → C r) : ∀ r, H r = none → C r := h

/-- One step of telling less of a value and a heap: forget a block; freeze a block whose cells are all told by value. -/
inductive Wk : AV → Heap → AV → Heap → Prop where
  | refl (v : AV) (H : Heap) : Wk v H v H
  | forget {v : AV} {H H' : Heap} (h : Heap.le H' H) : Wk v H v H'
  | freeze {v v' : AV} {H : Heap} {r : Nat} {cells : List PV} (hr : H r = some (cells.map .p))
      (hv : ∀ (Z : Fro) (φ : Pm) (pl : Place) (vals : Nat → Value), φ r = some pl → cells.length ≤ pl.C ∨ cells = [] → (∀ i, i < cells.length → Z pl.b (pl.o + i) = some (vals i)) → (∀ (i : Nat) (p : PV), cells[i]? = some p → Cz Z p (vals i)) → ∀ x, Cv Z φ v x → Cv Z φ v' x) : Wk v H v' (H.del r)
  | val {v v' : AV} {H : Heap} (h : AV.wk v v') : Wk v H v' H
  | cell {v : AV} {H : Heap} {r : Nat} {cs cs' : List AV} (hr : H r = some cs) (hl : cs'.length ≤ cs.length) (h : ∀ (i : Nat) (a a' : AV), cs[i]? = some a → cs'[i]? = some a' → AV.wk a a') : Wk v H v (H.set r cs')
  | frzIn {v v' : AV} {H : Heap} {r s : Nat} {cells : List PV} {cs cs' : List AV} (hr : H r = some (cells.map .p)) (hs : H s = some cs) (hrs : s ≠ r) (hl : cs'.length = cs.length)
      (hw : ∀ (Z : Fro) (φ : Pm) (pl : Place) (vals : Nat → Value), φ r = some pl → cells.length ≤ pl.C ∨ cells = [] → (∀ i, i < cells.length → Z pl.b (pl.o + i) = some (vals i)) → (∀ (i : Nat) (p : PV), cells[i]? = some p → Cz Z p (vals i)) → ∀ x, Cv Z φ v x → Cv Z φ v' x)
      (hv : ∀ (Z : Fro) (φ : Pm) (pl : Place) (vals : Nat → Value), φ r = some pl → cells.length ≤ pl.C ∨ cells = [] → (∀ i, i < cells.length → Z pl.b (pl.o + i) = some (vals i)) → (∀ (i : Nat) (p : PV), cells[i]? = some p → Cz Z p (vals i)) →
        ∀ (i : Nat) (a a' : AV) (x : Value), cs[i]? = some a → cs'[i]? = some a' → Cv Z φ a x → Cv Z φ a' x) : Wk v H v' ((H.del r).set s cs')
  | trans {v v' v'' : AV} {H H' H'' : Heap} (h : Wk v H v' H') (k : Wk v' H' v'' H'') : Wk v H v'' H''

theorem Heap.del_le (H : Heap) (r : Nat) : Heap.le (H.del r) H := by
  intro x b hx
  by_cases h : x = r
  · subst h; rw [Heap.del_same] at hx; cases hx
  · rwa [Heap.del_other h] at hx

theorem LiveAt.cells' {Z : Fro} {φ : Pm} {B0 : Nat} {w : World} {pl : Place} {cs cs' : List AV} (hl : cs'.length ≤ cs.length) (h : ∀ (i : Nat) (a a' : AV) (x : Value), cs[i]? = some a → cs'[i]? = some a' → Cv Z φ a x → Cv Z φ a' x)
    (k : LiveAt Z φ B0 w pl cs) : LiveAt Z φ B0 w pl cs' := by
  rcases k with ⟨h1, rfl⟩ | ⟨cur, e, h1, h2, h3, h4, h5⟩
  · exact .inl ⟨h1, List.eq_nil_of_length_eq_zero (by simpa using hl)⟩
  · refine .inr ⟨cur, e, h1, h2, Nat.le_trans hl h3, h4, fun i av hi => ?_⟩
    have hlt : i < cs.length := Nat.lt_of_lt_of_le (List.getElem?_eq_some_iff.1 hi).1 hl
    obtain ⟨x, hx, hc⟩ := h5 i _ (List.getElem?_eq_getElem hlt)
    exact ⟨x, hx, h i _ av x (List.getElem?_eq_getElem hlt) hi hc⟩
/-- A block told in another way. -/
theorem Sim.recell {Z : Fro} {φ : Pm} {B0 : Nat} {w0 w : World} {H : Heap} (s : Sim Z φ B0 w0 H w) {r : Nat} {cs cs' : List AV} (hr : H r = some cs)
    (h : ∀ pl, φ r = some pl → LiveAt Z φ B0 w pl cs → LiveAt Z φ B0 w pl cs') : Sim Z φ B0 w0 (H.set r cs') w := by
  have hn : ∀ x, (H.set r cs') x ≠ none → H x ≠ none := by
    intro x hx
    by_cases e : x = r
    · subst e; rw [hr]; simp
    · rwa [Heap.set_other e] at hx
  refine ⟨s.b0, s.below, s.bnd, ?_, fun x y pl pl' e e' => s.disj x y pl pl' (hn x e) (hn y e'), s.froz, fun b i v hz x pl e => s.zsep b i v hz x pl (hn x e)⟩
  intro x blk hx
  by_cases e : x = r
  · subst e
    rw [Heap.set_same] at hx; cases hx
    obtain ⟨pl, hp, hla⟩ := s.live x _ hr
    exact ⟨pl, hp, h pl hp hla⟩
  · rw [Heap.set_other e] at hx; exact s.live x blk hx

theorem UpV.wk {B0 : Nat} {w0 : World} {F : Heap} {v v' : AV} {H H' : Heap} (h : Wk v H v' H') : ∀ {Z : Fro} {φ : Pm} {x : Value} {w : World}, Disj H F → Sim Z φ B0 w0 (H.or F) w → Cv Z φ v x →
    ∃ Z' φ', Fro.le Z Z' ∧ Pm.le φ φ' ∧ Disj H' F ∧ Sim Z' φ' B0 w0 (H'.or F) w ∧ Cv Z' φ' v' x := by
  induction h with
  | refl v H => intro Z φ x w hd hs hc; exact ⟨Z, φ, Fro.le_refl _, Pm.le_refl _, hd, hs, hc⟩
  | forget hl => intro Z φ x w hd hs hc; exact ⟨Z, φ, Fro.le_refl _, Pm.le_refl _, hd.of_le hl, hs.forget (Heap.or_le hl hd), hc⟩
  | freeze hr hv =>
    intro Z φ x w hd hs hc
    rename_i v v' H r cells
    obtain ⟨pl, hp, hla⟩ := hs.live r _ (Heap.or_left hr)
    obtain ⟨Z', vals, hz, h1, h2, h3⟩ := hs.freeze (Heap.or_left hr) hp
    rw [← Heap.or_del (hd.fresh hr)] at h3
    refine ⟨Z', φ, hz, Pm.le_refl _, hd.del, h3, hv Z' φ pl vals hp ?_ h1 h2 x (hc.mono hz (Pm.le_refl _))⟩
    rcases hla with ⟨_, h⟩ | ⟨_, _, _, _, h, _⟩
    · exact .inr (by simpa using h)
    · exact .inl (by simpa using h)
  | val h => intro Z φ x w hd hs hc; exact ⟨Z, φ, Fro.le_refl _, Pm.le_refl _, hd, hs, AV.wk_ok h hc⟩
  | cell hr hl hk =>
    intro Z φ x w hd hs hc
    rename_i v H r cs cs'
    refine ⟨Z, φ, Fro.le_refl _, Pm.le_refl _, hd.set (hd.fresh hr), ?_, hc⟩
    rw [Heap.or_set]
    exact hs.recell (Heap.or_left hr) fun pl _ hla => hla.cells' hl fun i a a' x h1 h2 h3 => AV.wk_ok (hk i a a' h1 h2) h3
  | frzIn hr hs' hrs hl hw hv =>
    intro Z φ x w hd hs hc
    rename_i v v' H r s cells cs cs'
    obtain ⟨pl, hp, hla⟩ := hs.live r _ (Heap.or_left hr)
    obtain ⟨Z', vals, hz, h1, h2, h3⟩ := hs.freeze (Heap.or_left hr) hp
    rw [← Heap.or_del (hd.fresh hr)] at h3
    have hd' : Disj (H.del r) F := hd.del
    have hs2 : (H.del r) s = some cs := by rw [Heap.del_other hrs]; exact hs'
    have hC : cells.length ≤ pl.C ∨ cells = [] := by
      rcases hla with ⟨_, h⟩ | ⟨_, _, _, _, h, _⟩
      · exact .inr (by simpa using h)
      · exact .inl (by simpa using h)
    refine ⟨Z', φ, hz, Pm.le_refl _, hd'.set (hd.fresh hs'), ?_, hw Z' φ pl vals hp hC h1 h2 x (hc.mono hz (Pm.le_refl _))⟩
    rw [Heap.or_set]
    exact h3.recell (Heap.or_left hs2) fun pl' _ hla' => hla'.cells' (Nat.le_of_eq hl) fun i a a' x a1 a2 a3 => hv Z' φ pl vals hp hC h1 h2 i a a' x a1 a2 a3
  | trans h k ih1 ih2 =>
    intro Z φ x w hd hs hc
    obtain ⟨Z1, φ1, a1, a2, a3, a4, a5⟩ := ih1 hd hs hc
    obtain ⟨Z2, φ2, b1, b2, b3, b4, b5⟩ := ih2 a3 a4 a5
    exact ⟨Z2, φ2, Fro.le_trans a1 b1, Pm.le_trans a2 b2, b3, b4, b5⟩

mutual
/-- A value in which the row r, all of it, is told by value. -/
inductive FrzR (r sz : Nat) (es : List (List PV)) : AV → AV → Prop where
  | here : FrzR r sz es (.sl r sz 0 es.length) (.p (.sl es))
  | same (v : AV) : FrzR r sz es v v
  | agg {vs vs' : List AV} (h : FrzL r sz es vs vs') : FrzR r sz es (.agg vs) (.agg vs')
  | tup {vs vs' : List AV} (h : FrzL r sz es vs vs') : FrzR r sz es (.tup vs) (.tup vs')
inductive FrzL (r sz : Nat) (es : List (List PV)) : List AV → List AV → Prop where
  | nil : FrzL r sz es [] []
  | cons {v v' : AV} {vs vs' : List AV} (h : FrzR r sz es v v') (t : FrzL r sz es vs vs') : FrzL r sz es (v :: vs) (v' :: vs')
end

section
variable {Z : Fro} {φ : Pm} {r sz : Nat} {es : List (List PV)}

theorem frz_here (hpos : 0 < sz) (hsz : ∀ e ∈ es, e.length = sz) {pl : Place} (hp : φ r = some pl) {vals : Nat → Value}
    (h1 : ∀ i, i < es.flatten.length → Z pl.b (pl.o + i) = some (vals i)) (h2 : ∀ (i : Nat) (p : PV), es.flatten[i]? = some p → Cz Z p (vals i)) {x : Value} (c : Cv Z φ (.sl r sz 0 es.length) x) : Cv Z φ (.p (.sl es)) x := by
  generalize hn : es.length = n at c
  cases c with
  | slz _ _ _ a =>
    have : es = [] := List.eq_nil_of_length_eq_zero hn
    subst this
    exact .p (.emp a 0)
  | sl hp' hl hC =>
    rw [hp] at hp'; cases hp'
    subst hn
    refine .p ?_
    rw [Nat.add_zero]
    refine Cz.sl es sz pl.b pl.o _ vals hl hsz ?_ ?_
    · intro i hi; exact h1 i (by rw [flatten_len es hsz]; exact hi)
    · intro i e he j p hpj
      refine h2 _ p ?_
      have hj : j < sz := by
        have := (List.getElem?_eq_some_iff.1 hpj).1
        rw [hsz e (List.mem_of_getElem? he)] at this; exact this
      rw [flatten_get hpos es hsz]
      have e1 : (i * sz + j) / sz = i := by rw [Nat.mul_comm, Nat.mul_add_div hpos, Nat.div_eq_of_lt hj, Nat.add_zero]
      have e2 : (i * sz + j) % sz = j := by rw [Nat.mul_comm, Nat.mul_add_mod, Nat.mod_eq_of_lt hj]
      rw [e1, e2, he]; exact hpj

theorem frz_rel (hpos : 0 < sz) (hsz : ∀ e ∈ es, e.length = sz) {pl : Place} (hp : φ r = some pl) {vals : Nat → Value}
    (h1 : ∀ i, i < es.flatten.length → Z pl.b (pl.o + i) = some (vals i)) (h2 : ∀ (i : Nat) (p : PV), es.flatten[i]? = some p → Cz Z p (vals i)) :
    ∀ {v v' : AV}, FrzR r sz es v v' → ∀ x, Cv Z φ v x → Cv Z φ v' x := by
  intro v v' h
  refine FrzR.rec (motive_1 := fun v v' _ => ∀ x, Cv Z φ v x → Cv Z φ v' x)
    (motive_2 := fun vs vs' _ => vs'.length = vs.length ∧ ∀ (i : Nat) (v v' : AV) (x : Value), vs[i]? = some v → vs'[i]? = some v' → Cv Z φ v x → Cv Z φ v' x) ?_ ?_ ?_ ?_ ?_ ?_ h
  · intro x c; exact frz_here hpos hsz hp h1 h2 c
  · intro v x c; exact c
  · intro vs vs' _ ih x c
    cases c with
    | agg _ xs hs hh =>
      refine .agg vs' xs (hs.trans ih.1.symm) ?_
      intro i av y hi hy
      have hl : i < vs.length := by rw [← ih.1]; exact (List.getElem?_eq_some_iff.1 hi).1
      exact ih.2 i _ av y (List.getElem?_eq_getElem hl) hi (hh i _ y (List.getElem?_eq_getElem hl) hy)
  · intro vs vs' _ ih x c
    cases c with
    | tup _ xs hs hh =>
      refine .tup vs' xs (hs.trans ih.1.symm) ?_
      intro i av y hi hy
      have hl : i < vs.length := by rw [← ih.1]; exact (List.getElem?_eq_some_iff.1 hi).1
      exact ih.2 i _ av y (List.getElem?_eq_getElem hl) hi (hh i _ y (List.getElem?_eq_getElem hl) hy)
  · exact ⟨rfl, fun i v v' x h => by simp at h⟩
  · intro v v' vs vs' _ _ ih1 ih2
    refine ⟨by simp [ih2.1], ?_⟩
    intro i u u' x hu hu' c
    cases i with
    | zero => simp at hu hu'; subst hu; subst hu'; exact ih1 x c
    | succ i => simp at hu hu'; exact ih2.2 i u u' x hu hu' c
theorem frz_relL (hpos : 0 < sz) (hsz : ∀ e ∈ es, e.length = sz) {pl : Place} (hp : φ r = some pl) {vals : Nat → Value}
    (h1 : ∀ i, i < es.flatten.length → Z pl.b (pl.o + i) = some (vals i)) (h2 : ∀ (i : Nat) (p : PV), es.flatten[i]? = some p → Cz Z p (vals i)) :
    ∀ {vs vs' : List AV}, FrzL r sz es vs vs' → vs'.length = vs.length ∧ ∀ (i : Nat) (v v' : AV) (x : Value), vs[i]? = some v → vs'[i]? = some v' → Cv Z φ v x → Cv Z φ v' x := by
  intro vs vs' h
  refine FrzL.rec (motive_1 := fun v v' _ => ∀ x, Cv Z φ v x → Cv Z φ v' x)
    (motive_2 := fun vs vs' _ => vs'.length = vs.length ∧ ∀ (i : Nat) (v v' : AV) (x : Value), vs[i]? = some v → vs'[i]? = some v' → Cv Z φ v x → Cv Z φ v' x) ?_ ?_ ?_ ?_ ?_ ?_ h
  · intro x c; exact frz_here hpos hsz hp h1 h2 c
  · intro v x c; exact c
  · intro vs vs' _ ih x c
    cases c with
    | agg _ xs hs hh =>
      refine .agg vs' xs (hs.trans ih.1.symm) ?_
      intro i av y hi hy
      have hl : i < vs.length := by rw [← ih.1]; exact (List.getElem?_eq_some_iff.1 hi).1
      exact ih.2 i _ av y (List.getElem?_eq_getElem hl) hi (hh i _ y (List.getElem?_eq_getElem hl) hy)
  · intro vs vs' _ ih x c
    cases c with
    | tup _ xs hs hh =>
      refine .tup vs' xs (hs.trans ih.1.symm) ?_
      intro i av y hi hy
      have hl : i < vs.length := by rw [← ih.1]; exact (List.getElem?_eq_some_iff.1 hi).1
      exact ih.2 i _ av y (List.getElem?_eq_getElem hl) hi (hh i _ y (List.getElem?_eq_getElem hl) hy)
  · exact ⟨rfl, fun i v v' x h => by simp at h⟩
  · intro v v' vs vs' _ _ ih1 ih2
    refine ⟨by simp [ih2.1], ?_⟩
    intro i u u' x hu hu' c
    cases i with
    | zero => simp at hu hu'; subst hu; subst hu'; exact ih1 x c
    | succ i => simp at hu hu'; exact ih2.2 i u u' x hu hu' c
end

theorem Wk.frz {v v' : AV} {H : Heap} {r sz : Nat} {es : List (List PV)} (hpos : 0 < sz) (hr : H r = some (es.flatten.map .p)) (hsz : ∀ e ∈ es, e.length = sz) (hv : FrzR r sz es v v') : Wk v H v' (H.del r) :=
  .freeze hr fun _ _ _ _ hp _ h1 h2 x c => frz_rel hpos hsz hp h1 h2 hv x c

/-- The same where one block holds the row. -/
theorem Wk.frzAt {v v' : AV} {H : Heap} {r s sz : Nat} {es : List (List PV)} {cs cs' : List AV} (hpos : 0 < sz) (hr : H r = some (es.flatten.map .p)) (hsz : ∀ e ∈ es, e.length = sz) (hs : H s = some cs) (hrs : s ≠ r)
    (hc : FrzL r sz es cs cs') (hv : FrzR r sz es v v') (hl : cs'.length = cs.length) : Wk v H v' ((H.del r).set s cs') :=
  .frzIn hr hs hrs hl (fun _ _ _ _ hp _ h1 h2 x c => frz_rel hpos hsz hp h1 h2 hv x c) fun _ _ _ _ hp _ h1 h2 i a a' x a1 a2 a3 => (frz_relL hpos hsz hp h1 h2 hc).2 i a a' x a1 a2 a3

/-- What holds of a value and a heap, once one has told less of them. -/
def wkK (K : AV → Heap → Prop) (v : AV) (H : Heap) : Prop := ∃ v' H', Wk v H v' H' ∧ K v' H'
theorem wkK.keep {K : AV → Heap → Prop} {v : AV} {H : Heap} (h : K v H) : wkK K v H := ⟨v, H, .refl v H, h⟩
theorem wkK.mono {K K' : AV → Heap → Prop} (k : ∀ v H, K v H → K' v H) {v : AV} {H : Heap} (h : wkK K v H) : wkK K' v H := by
  obtain ⟨v', H', h1, h2⟩ := h; exact ⟨v', H', h1, k _ _ h2⟩
theorem UpV.ofWk {B0 : Nat} {w0 : World} {F : Heap} {Z : Fro} {φ : Pm} {K : AV → Heap → Prop} {x : Value} {w : World} (h : UpV B0 w0 F Z φ (wkK K) x w) : UpV B0 w0 F Z φ K x w := by
  obtain ⟨v, H1, Z1, φ1, ⟨v', H', hw, hk⟩, h1, h2, h3, h4, h5⟩ := h
  obtain ⟨Z2, φ2, b1, b2, b3, b4, b5⟩ := UpV.wk hw h3 h4 h5
  exact ⟨v', H', Z2, φ2, hk, Fro.le_trans h1 b1, Pm.le_trans h2 b2, b3, b4, b5⟩

end Go.Sep
