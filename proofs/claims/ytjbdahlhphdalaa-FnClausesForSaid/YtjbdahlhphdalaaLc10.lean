/- Specs: circuits that are drawn. -/
import Derived.Test.YtjbdahlhphdalaaLc9
namespace Go.Proofs.Ytjbdahlhphdalaa
open Go Go.Sep Go.Pc
set_option linter.unusedSimpArgs false
set_option linter.unusedVariables false
attribute [local irreducible] CallT

/-- A list of gates: none yet, or a row of one's own. -/
def B3 (x : AV) (gs : List Gt) (G : Heap) : Prop := (x = .p .nil ∧ gs = []) ∨ ∃ q, x = .sl q 3 0 gs.length ∧ G q = some (cells (gs.map eG))
def B1 (y : AV) (outs : List Int) (G : Heap) : Prop := (y = .p .nil ∧ outs = []) ∨ ∃ q, y = rowP q outs ∧ G q = some (cP fI outs)

theorem len3 {x : AV} {gs : List Gt} {G : Heap} (b : B3 x gs G) {K : AV → Prop} : lenV tab 35 x K = K (I gs.length) := by
  rcases b with ⟨rfl, rfl⟩ | ⟨q, rfl, _⟩
  · rw [len_p]; simp only [tab_35]; rfl
  · rw [len_sl]; simp only [tab_35]

theorem litG {g : Gt} {H : Heap} {K : AV → Heap → Prop} (h : K (.p (.sl [eG g])) H) : buildSliceV tab 35 1 [(0, aG g)] H (wkK K) := by
  simp only [buildSliceV, tab_35, tab_106]
  refine ⟨by omega, ?_⟩
  simp only [fillV, zerosA, List.replicate_succ, List.replicate_zero, List.flatten_cons, List.flatten_nil, List.append_nil, AV.cells, splice]
  simp only [List.length_cons, List.length_nil, Nat.reduceAdd, Nat.zero_mul, Nat.zero_add, Nat.le_refl, and_self, if_true, List.take_zero, List.nil_append, List.drop_succ_cons, List.drop_zero, List.append_nil]
  intro r hr
  refine ⟨_, _, Wk.trans (Wk.frz (r := r) (sz := 3) (es := [eG g]) (v := .sl r 3 0 1) (v' := .p (.sl [eG g])) (by omega) ?_ (by simp) .here) (.forget ?_), h⟩
  · rw [Heap.set_same]; rfl
  · rw [Heap.del_set hr]; exact Heap.le_refl _

theorem push_gate {x : AV} {gs : List Gt} {g : Gt} {G : Heap} {K : AV → Heap → Prop} (b : B3 x gs G) (hl : gs.length ≤ 1000000)
    (h : ∀ q' m G1, G q' = none → G1 q' = some (cells ((gs ++ [g]).map eG)) → m = (gs ++ [g]).length → (∀ y, y ≠ q' → (∀ q, x = .sl q 3 0 gs.length → y ≠ q) → G1 y = G y) → K (.sl q' 3 0 m) G1) :
    buildSliceV tab 35 1 [(0, aG g)] G (wkK fun v H1 => appendV tab 35 35 x v H1 (wkK K)) := by
  refine litG ?_
  rcases b with ⟨rfl, rfl⟩ | ⟨q, rfl, hq⟩
  · simp only [appendV, tab_35, tab_106, srcV, baseV]
    refine ⟨by simp, by simp, by simp, by simp [AV.isCell], fun r' hr' => wkK.keep ?_⟩
    have := h r' _ (G.set r' (cells ([g].map eG))) hr' (Heap.set_same _ _ _) rfl (fun y hy _ => Heap.set_other hy)
    simpa [cells] using this
  · have := app_own (x := .p (.sl [eG g])) (r := q) (es := gs.map eG) (fs := [eG g]) (H := G) (K := K) tab_35 rfl tab_106 tab_35 rfl (sz := 3) rfl (bz := 24) rfl (.inl rfl) hq (szG gs) (by intro e he; simp at he; subst he; rfl)
      (by simp only [List.length_map, List.length_cons, List.length_nil]; omega) (by simp only [List.length_map, List.length_cons, List.length_nil]; omega) fun r' hr' => by
        have hne : r' ≠ q := by rintro rfl; rw [hq] at hr'; cases hr'
        have := h r' _ ((G.del q).set r' (cells ((gs ++ [g]).map eG))) hr' (Heap.set_same _ _ _) rfl (fun y hy hy2 => by rw [Heap.set_other hy, Heap.del_other (hy2 q rfl)])
        simpa only [own, List.length_map, List.map_append, List.length_append, List.map_cons, List.map_nil, List.length_cons, List.length_nil] using this
    simpa only [own, List.length_map] using this
end Go.Proofs.Ytjbdahlhphdalaa
