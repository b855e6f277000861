/- Sep, part 23: lists that grow, and literals. -/
import Derived.Test.YthlbkcgnacemgaaSep22
namespace Go.Sep
open Go Go.RowKit

/-- A slice that owns its row. -/
abbrev own (r sz : Nat) (es : List (List PV)) : AV := .sl r sz 0 es.length
/-- The cells of a row. -/
def cells (es : List (List PV)) : List AV := es.flatten.map .p
def Sized (sz : Nat) (es : List (List PV)) : Prop := ∀ e ∈ es, e.length = sz
theorem cells_len {sz : Nat} {es : List (List PV)} (h : Sized sz es) : (cells es).length = es.length * sz := by
  rw [cells, List.length_map, flatten_len es h]
theorem cells_app (a b : List (List PV)) : cells (a ++ b) = cells a ++ cells b := by simp [cells]
theorem cells_take {sz : Nat} {es : List (List PV)} (h : Sized sz es) : ((cells es).drop 0).take (es.length * sz) = cells es := by
  rw [List.drop_zero, ← cells_len h, List.take_length]
theorem cells_cell (es : List (List PV)) : (cells es).all AV.isCell = true := by
  simp only [cells, List.all_eq_true, List.mem_map, forall_exists_index, and_imp]
  rintro _ p _ rfl; rfl
theorem Sized.app {sz : Nat} {a b : List (List PV)} (ha : Sized sz a) (hb : Sized sz b) : Sized sz (a ++ b) := by
  intro e he; rcases List.mem_append.1 he with h | h
  · exact ha e h
  · exact hb e h
theorem Sized.nil (sz : Nat) : Sized sz [] := by intro e he; cases he
theorem Sized.cons {sz : Nat} {e : List PV} {es : List (List PV)} (h : e.length = sz) (t : Sized sz es) : Sized sz (e :: es) := by
  intro x hx; rcases List.mem_cons.1 hx with rfl | hx
  · exact h
  · exact t x hx

theorem Wk.own {q sz : Nat} {es : List (List PV)} {H : Heap} (hpos : 0 < sz) (hs : Sized sz es) (hr : H q = some (cells es)) : Wk (own q sz es) H (.p (.sl es)) (H.del q) :=
  Wk.frz hpos hr hs .here

/-- A literal of one element is one by value. -/
theorem lit1 {tab : Tab} {t e : Nat} {d ed : TD} {v : PV} {H : Heap} {K : AV → Heap → Prop} (h1 : tab t = some d) (h2 : d.k = .slice e) (h3 : tab e = some ed) (h4 : ed.size = 1 ∧ ed.zero.length = 1)
    (h : K (.p (.sl [[v]])) H) : buildSliceV tab t 1 [(0, .p v)] H (wkK K) := by
  obtain ⟨z, hz⟩ : ∃ z, ed.zero = [z] := by
    match ed.zero, h4.2 with
    | [z], _ => exact ⟨z, rfl⟩
  simp only [buildSliceV, h1, h2, h3, h4.1]
  refine ⟨by omega, ?_⟩
  simp only [fillV, zerosA, hz, List.replicate, List.flatten, AV.cells, splice]
  intro r hr
  refine ⟨_, _, Wk.trans (Wk.frz (r := r) (sz := 1) (es := [[v]]) (v := .sl r 1 0 1) (v' := .p (.sl [[v]])) (by omega) ?_ (by simp) .here) (.forget ?_), h⟩
  · rw [Heap.set_same]; rfl
  · rw [Heap.del_set hr]; exact Heap.le_refl _

/-- Elements by value behind a list that owns its row. -/
theorem app_own {tab : Tab} {t0 t1 e e1 sz : Nat} {d d1 ed : TD} {r : Nat} {es fs : List (List PV)} {x : AV} {H : Heap} {K : AV → Heap → Prop} (h1 : tab t0 = some d) (h2 : d.k = .slice e) (h3 : tab e = some ed) (h4 : tab t1 = some d1) (h5 : d1.k = .slice e1) (h6 : ed.size = sz) {bz : Nat} (h7 : ed.bytes = bz)
    (hx : x = .p (.sl fs) ∨ (x = .p .nil ∧ fs = [])) (hr : H r = some (cells es)) (hs : Sized sz es) (hf : Sized sz fs) (hl : (es.length + fs.length) * bz ≤ 140737488355328) (hl2 : es.length + fs.length ≤ 9223372036854775807)
    (h : ∀ r', H r' = none → K (own r' sz (es ++ fs)) ((H.del r).set r' (cells (es ++ fs)))) : appendV tab t0 t1 (own r sz es) x H (wkK K) := by
  subst h6
  subst h7
  have hsrc : ∀ (K' : List AV → Nat → Prop), K' (cells fs) fs.length → srcV H ed.size x K' := by
    intro K' hk
    rcases hx with rfl | ⟨rfl, rfl⟩
    · exact ⟨hf, hk⟩
    · exact hk
  simp only [appendV, h1, h2, h3, h4, h5]
  refine hsrc _ ?_
  simp only [baseV, hr, cells_take hs]
  refine ⟨trivial, by rw [cells_len hs]; omega, hl, hl2, cells_cell fs, fun r' hr' => wkK.keep ?_⟩
  have := h r' hr'
  simpa only [own, List.length_append, cells_app] using this

/-- A list out of nothing and elements by value: it owns its row. -/
theorem app_nil {tab : Tab} {t0 t1 e e1 sz : Nat} {d d1 ed : TD} {fs : List (List PV)} {s x : AV} {H : Heap} {K : AV → Heap → Prop} (h1 : tab t0 = some d) (h2 : d.k = .slice e) (h3 : tab e = some ed) (h4 : tab t1 = some d1) (h5 : d1.k = .slice e1) (h6 : ed.size = sz) {bz : Nat} (h7 : ed.bytes = bz)
    (hb : s = .p .nil ∨ s = .esl) (hx : x = .p (.sl fs) ∨ (x = .p .nil ∧ fs = [])) (hf : Sized sz fs) (hl : fs.length * bz ≤ 140737488355328) (hl2 : fs.length ≤ 9223372036854775807)
    (h : ∀ r', H r' = none → K (own r' sz fs) (H.set r' (cells fs))) : appendV tab t0 t1 s x H (wkK K) := by
  subst h6
  subst h7
  have hsrc : ∀ (K' : List AV → Nat → Prop), K' (cells fs) fs.length → srcV H ed.size x K' := by
    intro K' hk
    rcases hx with rfl | ⟨rfl, rfl⟩
    · exact ⟨hf, hk⟩
    · exact hk
  simp only [appendV, h1, h2, h3, h4, h5]
  refine hsrc _ ?_
  have key : (0 + fs.length) * ed.bytes ≤ 140737488355328 ∧ 0 + fs.length ≤ 9223372036854775807 ∧ (cells fs).all AV.isCell = true ∧ ∀ r, H r = none → wkK K (.sl r ed.size 0 (0 + fs.length)) (H.set r ([] ++ cells fs)) := by
    refine ⟨by simpa using hl, by omega, cells_cell fs, fun r hr => wkK.keep ?_⟩
    simpa using h r hr
  rcases hb with rfl | rfl <;> exact key

/-- An empty list is taken to own an empty row. -/
theorem CX.acc {P : Program} {x : XC} {Q : Post} {env : List AV} {H : Heap} (d sz : Nat) (h0 : env.getD d .any = .p .nil) (h : ∀ r, H r = none → CX P x Q (env.set d (own r sz [])) (H.set r (cells []))) : CX P x Q env H := by
  intro c hc B0 w0 F Z φ a w rel
  obtain ⟨r, φ', q1, q2, q3, q4, q5⟩ := rel.sim.ghost
  have hHr : H r = none := by
    cases hh : H r with
    | none => rfl
    | some b => rw [Heap.or_left hh] at q1; cases q1
  have hFr : F r = none := by
    cases hh : F r with
    | none => rfl
    | some b => simp [Heap.or, hHr, hh] at q1
  rw [← Heap.or_set] at q5
  have hd : Disj (H.set r []) F := by
    intro y hy
    by_cases e : y = r
    · subst e; exact hFr
    · rw [Heap.set_other e] at hy; exact rel.disj y hy
  have he : EnvRel Z φ' (env.set d (own r sz [])) a.tmps := by
    refine ⟨by rw [List.length_set]; exact rel.env.1, ?_⟩
    intro i av v hi hv
    rw [List.getElem?_set] at hi
    split at hi
    · rename_i e; subst e
      split at hi
      · rename_i hl
        cases hi
        have hg : env[d]? = some (.p .nil) := by
          rw [List.getElem?_eq_getElem hl]; simp only [List.getD, List.getElem?_eq_getElem hl, Option.getD_some] at h0; rw [h0]
        have := rel.env.2 d _ v hg hv
        cases this with | p hz => cases hz; exact .slz _ _ _ _
      · cases hi
    · exact (rel.env.2 i av v hi hv).mono (Fro.le_refl _) q3
  refine wp_mono (h r hHr c hc B0 w0 F Z φ' a w ⟨hd, q5, he, rel.defers⟩) ?_
  rintro e2 a2 w2 ⟨env2, H2, Z2, φ2, t2, hz2, hp2, r2⟩
  exact ⟨env2, H2, Z2, φ2, t2, hz2, Pm.le_trans q3 hp2, r2⟩
end Go.Sep
