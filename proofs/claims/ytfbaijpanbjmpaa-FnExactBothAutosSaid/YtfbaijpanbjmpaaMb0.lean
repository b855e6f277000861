/- Rows that grow in a heap of things: nothing yet (a lent row), or a row of one's own. -/
import Derived.Test.YtfbaijpanbjmpaaMa5
import Derived.Test.YtfbaijpanbjmpaaMt0
namespace Go.Proofs.Ytfbaijpanbjmpaa
open Go Go.Sep Go.Pt
set_option linter.unusedSimpArgs false
set_option linter.unusedVariables false
attribute [local irreducible] CallT

def RZ {α : Type} (L : Lay α) (sz z : Nat) (x : AV) (xs : List α) (G : Heap) (D : List Nat) : Prop := (x = .p .nil ∧ xs = [] ∧ D = [z] ∧ G z = some []) ∨ LRow L sz xs x G D
theorem RZ.local {α : Type} {L : Lay α} {sz z : Nat} (hL : L.Local) {x : AV} {xs : List α} {G G' : Heap} {D : List Nat} (h : RZ L sz z x xs G D) (hf : ∀ y ∈ D, ∀ b, G y = some b → G' y = some b) : RZ L sz z x xs G' D := by
  rcases h with ⟨h1, h2, rfl, h3⟩ | h
  · exact .inl ⟨h1, h2, rfl, hf z (by simp) _ h3⟩
  · exact .inr (h.local hL hf)
theorem RZ.has {α : Type} {L : Lay α} {sz z : Nat} (hL : L.Has) {x : AV} {xs : List α} {G : Heap} {D : List Nat} (h : RZ L sz z x xs G D) : ∀ y ∈ D, G y ≠ none := by
  rcases h with ⟨h1, h2, rfl, h3⟩ | h
  · intro y hy; rw [List.mem_singleton.1 hy, h3]; simp
  · exact h.has hL
theorem RZ.row {α : Type} {L : Lay α} {sz z : Nat} {x : AV} {xs : List α} {G : Heap} {D : List Nat} (h : RZ L sz z x xs G D) : ∃ x', AV.wk x x' ∧ LRow L sz xs x' G D := by
  rcases h with ⟨rfl, rfl, rfl, h3⟩ | h
  · exact ⟨.sl z sz 0 0, .nilo _ _ _, z, [], [], rfl, h3, ⟨rfl, rfl⟩, rfl⟩
  · exact ⟨x, .refl _, h⟩
theorem RZ.sl {α : Type} {L : Lay α} {sz z : Nat} {x : AV} {xs : List α} {G : Heap} {D : List Nat} (h : RZ L sz z x xs G D) : x = .p .nil ∨ ∃ q, x = .sl q sz 0 xs.length := by
  rcases h with ⟨h1, _⟩ | ⟨q, cs, D', h1, _⟩
  · exact .inl h1
  · exact .inr ⟨q, h1⟩
def rzT {α : Type} {L : Lay α} (hL : L.Local) (hh : L.Has) (sz z : Nat) (x : AV) (xs : List α) (D : List Nat) : Th := ⟨D, fun G => RZ L sz z x xs G D, fun h f => h.local hL f, fun h => h.has hh⟩
abbrev riT (z : Nat) (x : AV) (xs : List Int) (D : List Nat) : Th := rzT (LPl.local eI) (LPl.has eI) 1 z x xs D
abbrev reT (z : Nat) (x : AV) (xs : List Ed) (D : List Nat) : Th := rzT (LPl.local eE) (LPl.has eE) 3 z x xs D
abbrev rgT (z : Nat) (x : AV) (xs : List (List Int)) (D : List Nat) : Th := rzT LIc.local LIc.has 1 z x xs D
theorem lent {α : Type} {L : Lay α} (hL : L.Local) (hh : L.Has) (sz : Nat) {H G : Heap} {Ts : List Th} {z : Nat} (s : St H Ts G) (i : Nat) (h : Ts[i]? = some (cellT z [])) : St H (Ts.set i (rzT hL hh sz z (.p .nil) [] [z])) G :=
  s.repl i h _ (by simp [rzT]) (fun y hy => .inl hy) (fun y b hb _ => hb) (.inl ⟨rfl, rfl, rfl, s.get i h⟩)
theorem owned_i {H G : Heap} {Ts : List Th} {q : Nat} {l : List Int} (s : St H Ts G) (i : Nat) (h : Ts[i]? = some (cellT q (cP fI l))) : St H (Ts.set i (riT 0 (rowP q l) l [q])) G :=
  s.repl i h _ (by simp [rzT]) (fun y hy => .inl hy) (fun y b hb _ => hb) (.inr (LI_mk' (s.get i h)))
theorem owned_e {H G : Heap} {Ts : List Th} {q : Nat} {l : List Ed} (s : St H Ts G) (i : Nat) (h : Ts[i]? = some (cellT q (cE l))) : St H (Ts.set i (reT 0 (rowE q l) l [q])) G :=
  s.repl i h _ (by simp [rzT]) (fun y hy => .inl hy) (fun y b hb _ => hb) (.inr (LE_mk (s.get i h)))
/-- What is appended is told by value. -/
theorem RZ.app {tab : Tab} {t0 t1 e0 e1 sz z : Nat} {d d1 ed : TD} {α : Type} {e : α → List PV} (h1 : tab t0 = some d) (h2 : d.k = .slice e0) (h3 : tab e0 = some ed) (h4 : tab t1 = some d1) (h5 : d1.k = .slice e1) (h6 : ed.size = sz) {bz : Nat} (h7 : ed.bytes = bz)
    (hsz : ∀ a, (e a).length = sz) {H G : Heap} {Ts : List Th} {x y : AV} {xs ys : List α} {D : List Nat} {hL : (LPl e).Local} {hh : (LPl e).Has} (s : St H Ts G) (i : Nat) (hi : Ts[i]? = some (rzT hL hh sz z x xs D)) (hy : y = .p (.sl (ys.map e)))
    (hl : (xs.length + ys.length) * bz ≤ 140737488355328) (hl2 : xs.length + ys.length ≤ 9223372036854775807) {K : AV → Heap → Prop}
    (h : ∀ q' G', G q' = none → St H (Ts.set i (rzT hL hh sz z (.sl q' sz 0 (xs ++ ys).length) (xs ++ ys) [q'])) G' → K (.sl q' sz 0 (xs ++ ys).length) G') : appendV tab t0 t1 x y G (wkK K) := by
  subst hy
  have hrz : RZ (LPl e) sz z x xs G D := s.get i hi
  rcases hrz with ⟨rfl, rfl, rfl, hz⟩ | ⟨q, cs, D', rfl, hq, hll, rfl⟩
  · refine app_nil h1 h2 h3 h4 h5 h6 h7 (.inl rfl) (.inl rfl) (sized_map hsz ys) (by simpa using hl) (by simpa using hl2) fun q' hq' => ?_
    have := h q' _ hq' (s.repl i hi (rzT hL hh sz z (.sl q' sz 0 ([] ++ ys).length) ([] ++ ys) [q']) (by simp [rzT]) (fun y hy => by
      simp only [rzT, List.mem_singleton] at hy; subst hy; exact .inr hq') (G' := G.set q' (cells (ys.map e))) (fun y b hb _ => Heap.le_set hq' y b hb) (.inr ⟨q', _, [], rfl, Heap.set_same _ _ _, LL.plain _, rfl⟩))
    simpa [Go.Sep.own] using this
  · have hq0 : cs = cells (xs.map e) ∧ D' = [] := by
      have key : ∀ (xs : List α) (cs : List AV) (D : List Nat), LL (LPl e) xs cs G D → cs = cells (xs.map e) ∧ D = [] := by
        intro xs
        induction xs with
        | nil => rintro cs D ⟨rfl, rfl⟩; exact ⟨rfl, rfl⟩
        | cons a xs ih =>
          rintro cs D ⟨c1, c2, D1, D2, rfl, rfl, ⟨rfl, rfl⟩, h2⟩
          obtain ⟨rfl, rfl⟩ := ih _ _ h2
          exact ⟨by simp [cells], rfl⟩
      exact key _ _ _ hll
    obtain ⟨rfl, rfl⟩ := hq0
    have := app_own (x := .p (.sl (ys.map e))) (r := q) (es := xs.map e) (fs := ys.map e) (H := G) (K := K) h1 h2 h3 h4 h5 h6 h7 (.inl rfl) hq (sized_map hsz xs) (sized_map hsz ys)
      (by simpa using hl) (by simpa using hl2) fun q' hq' => by
        have := h q' ((G.del q).set q' (cells ((xs ++ ys).map e))) hq' (s.repl i hi (rzT hL hh sz z (.sl q' sz 0 (xs ++ ys).length) (xs ++ ys) [q']) (by simp [rzT]) (fun y hy => by
          simp only [rzT, List.mem_singleton] at hy; subst hy; exact .inr hq') (fun y b hb hy => by
            simp only [rzT, List.mem_singleton] at hy
            rw [Heap.set_other (fun e => by rw [e, hq'] at hb; cases hb), Heap.del_other hy]; exact hb) (.inr ⟨q', _, [], rfl, Heap.set_same _ _ _, LL.plain _, rfl⟩))
        simpa only [Go.Sep.own, List.length_map, List.map_append, List.length_append] using this
    simpa only [Go.Sep.own, List.length_map] using this
theorem rz_appE {H G : Heap} {Ts : List Th} {z : Nat} {x : AV} {xs ys : List Ed} {D : List Nat} (s : St H Ts G) (i : Nat) (hi : Ts[i]? = some (reT z x xs D)) (hl : xs.length + ys.length ≤ 1000000) {K : AV → Heap → Prop}
    (h : ∀ q' G', G q' = none → St H (Ts.set i (reT z (rowE q' (xs ++ ys)) (xs ++ ys) [q'])) G' → K (rowE q' (xs ++ ys)) G') : appendV tab 28 28 x (Es ys) G (wkK K) :=
  RZ.app (bz := 24) tab_28 rfl tab_61 tab_28 rfl rfl rfl (fun _ => rfl) s i hi rfl (by omega) (by omega) h
theorem rz_appI {H G : Heap} {Ts : List Th} {z : Nat} {x : AV} {xs ys : List Int} {D : List Nat} (s : St H Ts G) (i : Nat) (hi : Ts[i]? = some (riT z x xs D)) (hl : xs.length + ys.length ≤ 1000000) {K : AV → Heap → Prop}
    (h : ∀ q' G', G q' = none → St H (Ts.set i (riT z (rowP q' (xs ++ ys)) (xs ++ ys) [q'])) G' → K (rowP q' (xs ++ ys)) G') : appendV tab 22 22 x (Is ys) G (wkK K) :=
  RZ.app (bz := 8) tab_22 rfl tab_3 tab_22 rfl rfl rfl (fun _ => rfl) s i hi rfl (by omega) (by omega) h
/-- A row of rows takes one more row, which lies in a list of its own. -/
theorem rz_pushL {H G : Heap} {Ts : List Th} {z qn ql : Nat} {x : AV} {gs : List (List Int)} {l : List Int} {D : List Nat} (s : St H (cellT ql [rowP qn l] :: cellT qn (cP fI l) :: Ts) G) (i : Nat) (hi : Ts[i]? = some (rgT z x gs D)) (hlen : gs.length ≤ 100000) {K : AV → Heap → Prop}
    (h : ∀ q' D' G', G q' = none → St H (Ts.set i (rgT z (.sl q' 1 0 (gs.length + 1)) (gs ++ [l]) D')) G' → K (.sl q' 1 0 (gs.length + 1)) G') : appendV tab 24 24 x (.sl ql 1 0 1) G (wkK K) := by
  have s1 := (s.pick (i + 2) hi).perm (Us := [rgT z x gs D, cellT ql [rowP qn l], cellT qn (cP fI l)] ++ Ts.eraseIdx i) (List.Perm.refl _)
  have hrz : RZ LIc 1 z x gs G D := s1.get 0 rfl
  have hql : G ql = some [rowP qn l] := s1.get 1 rfl
  have hqn : G qn = some (cP fI l) := s1.get 2 rfl
  have fin : ∀ q' D' G', G q' = none → LRow LIc 1 (gs ++ [l]) (.sl q' 1 0 (gs.length + 1)) G' D' → D'.Nodup → (∀ y ∈ D', y ∈ D ∨ y = qn ∨ y = q') → (∀ y b, G y = some b → y ∉ D → y ≠ ql → y ≠ qn → G' y = some b) → K (.sl q' 1 0 (gs.length + 1)) G' := by
    intro q' D' G' hq' hrow hnd hsub hfr
    refine h q' D' G' hq' ?_
    have s2 := s1.step [rgT z (.sl q' 1 0 (gs.length + 1)) (gs ++ [l]) D'] (by simpa [rzT] using hnd) (fun t ht y hy => by
      rw [List.mem_singleton] at ht; subst ht
      rcases hsub y hy with h1 | h1 | h1
      · exact .inl ⟨rgT z x gs D, by simp, h1⟩
      · exact .inl ⟨cellT qn (cP fI l), by simp, by rw [h1]; simp [cellT]⟩
      · exact .inr (by rw [h1]; exact hq')) (fun y b hb hy => hfr y b hb (hy (rgT z x gs D) (by simp)) (fun e => hy (cellT ql [rowP qn l]) (by simp) (by rw [e]; simp [cellT])) (fun e => hy (cellT qn (cP fI l)) (by simp) (by rw [e]; simp [cellT]))) (fun t ht => by
      rw [List.mem_singleton] at ht; subst ht; exact .inr hrow)
    obtain ⟨hi', -⟩ := List.getElem?_eq_some_iff.1 hi
    exact s2.perm (perm_set Ts i hi' _).symm
  have nqn : ∀ {q'}, G q' = none → q' ≠ qn := fun hq' e => by rw [e, hqn] at hq'; cases hq'
  have nql : ∀ {q'}, G q' = none → q' ≠ ql := fun hq' e => by rw [e, hql] at hq'; cases hq'
  have dq : qn ∉ D := fun hm => (s1.disjI 0 2 rfl rfl (by decide)) qn hm (by simp [cellT])
  have nnl : qn ≠ ql := fun e => by
    have := (s1.disjI 1 2 rfl rfl (by decide)) ql (by simp [cellT])
    exact this (by simp [cellT, e])
  have nd := s1.ndT 0 rfl
  simp only [appendV, tab_24, tab_22, srcV, hql]
  rcases hrz with ⟨rfl, rfl, rfl, hz⟩ | ⟨q, cs, D', rfl, hq, hll, rfl⟩
  · simp only [baseV]
    refine ⟨trivial, by simp, by omega, by omega, rfl, fun q' hq' => wkK.keep ?_⟩
    refine fin q' [q', qn] _ hq' ⟨q', [rowP qn l], [qn], rfl, Heap.set_same _ _ _, ⟨[rowP qn l], [], [qn], [], rfl, by simp, ⟨_, rfl, LI_mk' (by rw [Heap.set_other (Ne.symm (nqn hq'))]; exact hqn)⟩, ⟨rfl, rfl⟩⟩, rfl⟩ (by simp [nqn hq']) (fun y hy => ?_) (fun y b hb _ _ _ => Heap.le_set hq' y b hb)
    simp only [List.mem_cons, List.not_mem_nil, or_false] at hy
    rcases hy with rfl | rfl <;> simp
  · have hcl : cs.length = gs.length := by rw [LL.size LIc.size hll, Nat.mul_one]
    simp only [baseV, hq]
    have e1 : List.take (gs.length * 1) (List.drop 0 cs) = cs := by rw [List.drop_zero, Nat.mul_one, ← hcl, List.take_length]
    have e2 : List.take (1 * 1) (List.drop 0 [rowP qn l]) = [rowP qn l] := rfl
    refine ⟨trivial, by simp, trivial, by omega, by omega, by omega, rfl, fun q' hq' => wkK.keep ?_⟩
    rw [e1, e2]
    have nq : q' ≠ q := fun e => by rw [e, hq] at hq'; cases hq'
    have old : ∀ y b, G y = some b → y ≠ q → ((G.del q).set q' (cs ++ [rowP qn l])) y = some b := fun y b hb hy => by
      rw [Heap.set_other (fun e => by rw [e, hq'] at hb; cases hb), Heap.del_other hy]; exact hb
    simp only [rzT, List.nodup_cons] at nd
    simp only [List.mem_cons, not_or] at dq
    have hq'D : q' ∉ D' := fun hm => LL.has LIc.has hll q' hm hq'
    refine fin q' (q' :: (D' ++ [qn])) _ hq' ⟨q', cs ++ [rowP qn l], D' ++ [qn], by simp, Heap.set_same _ _ _, LL.snoc ⟨_, rfl, LI_mk' (old _ _ hqn dq.1)⟩ (LL.local LIc.local hll fun y hy b hb => old y b hb (fun e => nd.1 (e ▸ hy))), rfl⟩ ?_ (fun y hy => ?_) (fun y b hb hy h5 h6 => ?_)
    · rw [List.nodup_cons, List.nodup_append]
      refine ⟨by simp only [List.mem_append, List.mem_singleton, not_or]; exact ⟨hq'D, nqn hq'⟩, nd.2, by simp, fun a ha b hb e => ?_⟩
      rw [List.mem_singleton] at hb
      exact dq.2 (by rw [← hb, ← e]; exact ha)
    · simp only [List.mem_cons, List.mem_append, List.not_mem_nil, or_false] at hy ⊢
      rcases hy with rfl | hy | rfl
      · exact .inr (.inr rfl)
      · exact .inl (.inr hy)
      · exact .inr (.inl rfl)
    · rw [List.mem_cons, not_or] at hy
      exact old y b hb hy.1
/-- Rows that make an automaton. -/
theorem rz_auto {H G : Heap} {Ts : List Th} {z1 z2 z3 : Nat} {x y w : AV} {l : List Int} {es : List Ed} {gs : List (List Int)} {D1 D2 D3 : List Nat} (n : Int) (s : St H Ts G) (i j k : Nat) (hi : Ts[i]? = some (riT z1 x l D1)) (hj : Ts[j]? = some (reT z2 y es D2)) (hk : Ts[k]? = some (rgT z3 w gs D3)) (hij : i ≠ j) (hik : i ≠ k) (hjk : j ≠ k) :
    ∃ x' y' w', AV.wk (.agg [I n, x, y, w]) (.agg [I n, x', y', w']) ∧ LAu ⟨n, l, es, gs⟩ (.agg [I n, x', y', w']) G (D1 ++ (D2 ++ D3)) ∧ New H G (D1 ++ (D2 ++ D3)) := by
  obtain ⟨x', hx, lx⟩ := (s.get i hi : RZ (LPl eI) 1 z1 x l G D1).row
  obtain ⟨y', hy, ly⟩ := (s.get j hj : RZ (LPl eE) 3 z2 y es G D2).row
  obtain ⟨w', hw, lw⟩ := (s.get k hk : RZ LIc 1 z3 w gs G D3).row
  refine ⟨x', y', w', wk_agg ⟨.refl _, hx, hy, hw, trivial⟩, ⟨x', y', w', D1, D2, D3, rfl, rfl, lx, ly, lw⟩, ?_, fun u hu => ?_, s.le⟩
  · have d12 := s.disjI i j hi hj hij
    have d13 := s.disjI i k hi hk hik
    have d23 := s.disjI j k hj hk hjk
    rw [List.nodup_append, List.nodup_append]
    refine ⟨s.ndT i hi, ⟨s.ndT j hj, s.ndT k hk, fun a ha b hb e => d23 a ha (e ▸ hb)⟩, fun a ha b hb e => ?_⟩
    rcases List.mem_append.1 hb with hb | hb
    · exact d12 a ha (e ▸ hb)
    · exact d13 a ha (e ▸ hb)
  · simp only [List.mem_append] at hu
    rcases hu with hu | hu | hu
    · exact s.fr _ (List.mem_of_getElem? hi) u hu
    · exact s.fr _ (List.mem_of_getElem? hj) u hu
    · exact s.fr _ (List.mem_of_getElem? hk) u hu
def auT (a : Au) (v : AV) (D : List Nat) : Th := ⟨D, fun G => LAu a v G D, fun h f => h.local f, fun h => h.has⟩
/-- An automaton's rows, each by itself. -/
theorem au_split {H G : Heap} {Ts : List Th} {a : Au} {v : AV} {D : List Nat} (s : St H (auT a v D :: Ts) G) : ∃ q1 q2 q3 D1 D2 D3, v = .agg [I a.states, .sl q1 1 0 a.first.length, .sl q2 3 0 a.edges.length, .sl q3 1 0 a.goals.length] ∧
    St H (riT 0 (.sl q1 1 0 a.first.length) a.first D1 :: reT 0 (.sl q2 3 0 a.edges.length) a.edges D2 :: rgT 0 (.sl q3 1 0 a.goals.length) a.goals D3 :: Ts) G := by
  obtain ⟨x, y, z, D1, D2, D3, rfl, hD, h1, h2, h3⟩ := (s.get 0 rfl : LAu a v G D)
  obtain ⟨q1, rfl⟩ := LRow.sl h1
  obtain ⟨q2, rfl⟩ := LRow.sl h2
  obtain ⟨q3, rfl⟩ := LRow.sl h3
  have hnd := s.ndT 0 rfl
  simp only [auT] at hnd
  refine ⟨q1, q2, q3, D1, D2, D3, rfl, ?_⟩
  refine St.step (old := [auT a _ D]) s [riT 0 _ a.first D1, reT 0 _ a.edges D2, rgT 0 _ a.goals D3] ?_ ?_ (fun y b hb _ => hb) ?_
  · simp only [rzT, List.flatMap_cons, List.flatMap_nil, List.append_nil]; rw [← hD]; exact hnd
  · intro t ht y hy
    refine .inl ⟨_, List.mem_singleton.2 rfl, ?_⟩
    show y ∈ D
    rw [hD]
    simp only [List.mem_cons, List.not_mem_nil, or_false] at ht
    rcases ht with rfl | rfl | rfl <;> simp only [rzT] at hy <;> simp [hy]
  · intro t ht
    simp only [List.mem_cons, List.not_mem_nil, or_false] at ht
    rcases ht with rfl | rfl | rfl
    · exact .inr h1
    · exact .inr h2
    · exact .inr h3
/-- A list of one row. -/
theorem rg_lit {H G : Heap} {Ts : List Th} {ql qn : Nat} {l : List Int} (s : St H (cellT ql [rowP qn l] :: cellT qn (cP fI l) :: Ts) G) : St H (rgT 0 (.sl ql 1 0 1) [l] [ql, qn] :: Ts) G := by
  have hql : G ql = some [rowP qn l] := s.get 0 rfl
  have hqn : G qn = some (cP fI l) := s.get 1 rfl
  have hne : ql ≠ qn := fun e => s.disjI 0 1 rfl rfl (by decide) ql (by simp [cellT]) (by simp [cellT, e])
  refine St.step (old := [cellT ql [rowP qn l], cellT qn (cP fI l)]) s [rgT 0 (.sl ql 1 0 1) [l] [ql, qn]] (by simp [rzT, hne]) (fun t ht y hy => ?_) (fun y b hb _ => hb) (fun t ht => ?_)
  · rw [List.mem_singleton] at ht; subst ht
    simp only [rzT, List.mem_cons, List.not_mem_nil, or_false] at hy
    rcases hy with rfl | rfl
    · exact .inl ⟨cellT y [rowP qn l], by simp, by simp [cellT]⟩
    · exact .inl ⟨cellT y (cP fI l), by simp, by simp [cellT]⟩
  · rw [List.mem_singleton] at ht; subst ht
    exact .inr ⟨ql, [rowP qn l], [qn], rfl, hql, ⟨[rowP qn l], [], [qn], [], rfl, by simp, ⟨_, rfl, LI_mk' hqn⟩, ⟨rfl, rfl⟩⟩, rfl⟩
theorem mul_bd {a b A B : Int} (h1 : 0 ≤ a ∧ a ≤ A) (h2 : 0 ≤ b ∧ b ≤ B) : 0 ≤ a * b ∧ a * b ≤ A * B := ⟨Int.mul_nonneg h1.1 h2.1, Int.mul_le_mul h1.2 h2.2 h2.1 (by omega)⟩
end Go.Proofs.Ytfbaijpanbjmpaa
