/- Specs: an automaton with one goal: what it is, by the program and by the reference. -/
import Derived.Test.YtfbaijpanbjmpaaMb0
import Derived.Test.YtfbaijpanbjmpaaMa6
namespace Go.Proofs.Ytfbaijpanbjmpaa
open Go Go.Sep Go.Pt
set_option linter.unusedSimpArgs false
set_option linter.unusedVariables false
attribute [local irreducible] CallT

/-- Where an edge leads in the automaton of one goal, from copy j on. -/
def onTo (a : Au) (j : Nat) (e : Ed) : Int := if e.src ∈ a.goals.getD j default then ((j + 1 : Nat) : Int) % a.goals.length else j
def onE (a : Au) (j : Nat) (e : Ed) : Ed := ⟨e.src + j * a.states, e.lt, e.dst + onTo a j e * a.states⟩
def onF (a : Au) (j : Nat) : List Ed := ((List.range j).map fun j => a.edges.map (onE a j)).flatten
def onP (a : Au) (j i : Nat) : List Ed := onF a j ++ (a.edges.take i).map (onE a j)
theorem onP_zero (a : Au) (j : Nat) : onP a j 0 = onF a j := by simp [onP]
theorem onP_succ (a : Au) (j : Nat) {i : Nat} (h : i < a.edges.length) : onP a j (i + 1) = onP a j i ++ [onE a j (a.edges.getD i default)] := by
  rw [onP, take_succ_snoc h, List.map_append, ← List.append_assoc]; rfl
theorem onP_all (a : Au) (j : Nat) : onP a j a.edges.length = onF a (j + 1) := by
  rw [onP, List.take_length, onF, onF, List.range_succ, List.map_append, List.flatten_append]; simp
theorem onF_len (a : Au) (j : Nat) : (onF a j).length = j * a.edges.length := by
  induction j with
  | zero => simp [onF]
  | succ j ih =>
    rw [← onP_all, onP, List.length_append, ih, List.length_map, List.take_length, Nat.add_mul, Nat.one_mul]
theorem onP_len (a : Au) (j i : Nat) (hi : i ≤ a.edges.length) : (onP a j i).length = j * a.edges.length + i := by
  rw [onP, List.length_append, onF_len, List.length_map, List.length_take, Nat.min_eq_left hi]
def onT (a : Au) : Au := ⟨a.goals.length * a.states, a.first, onF a a.goals.length, [a.goals.getD 0 default]⟩
def onZ (a : Au) : Au := ⟨a.states, a.first, a.edges, [goalAt a 0]⟩
def onR (a : Au) : Au × Bool := if goodA a then (if a.goals.length < 2 then (onZ a, true) else if goodA (onT a) then (onT a, true) else (zeroA, false)) else (zeroA, false)
theorem goalAt0 {a : Au} (h : ¬ a.goals.length < 2) : goalAt a 0 = a.goals.getD 0 default := by
  unfold goalAt; rw [if_pos (by omega)]; rfl
theorem onT_sm {a : Au} (ha : GoodF a) : smAu (onT a) := by
  have h1 := ha.fi.2
  have h2 := ha.ed
  have h3 := ha.gl
  have hm : a.goals.length * a.edges.length ≤ 6 * 2400 := Nat.mul_le_mul (by omega) (by omega)
  refine ⟨by show a.first.length ≤ _; have := ha.fi.1.1; omega, by show (onF a _).length ≤ _; rw [onF_len]; omega, by simp [onT], fun c hc => ?_⟩
  simp only [onT, List.mem_singleton] at hc
  subst hc
  by_cases h0 : 0 < a.goals.length
  · have := getD_all (p := fun x => smI x ∧ x.length ≤ 96) (d := default) ha.gi h0
    have := this.1.1
    omega
  · have : a.goals = [] := List.eq_nil_of_length_eq_zero (by omega)
    rw [this]; exact Nat.zero_le _
/-- The zero automaton, in rows that were lent. -/
theorem zero_st {H G : Heap} {Ts : List Th} {z1 z2 z3 : Nat} (s : St H Ts G) (i j k : Nat) (hi : Ts[i]? = some (riT z1 (.p .nil) [] [z1])) (hj : Ts[j]? = some (reT z2 (.p .nil) [] [z2])) (hk : Ts[k]? = some (rgT z3 (.p .nil) [] [z3])) (hij : i ≠ j) (hik : i ≠ k) (hjk : j ≠ k) {K : AV → Heap → Prop}
    (h : ∀ v G D, LAu zeroA v G D → New H G D → K (.tup [v, B false]) G) : wkK K (.tup [zA, B false]) G := by
  obtain ⟨x', y', w', hw, hl, hn⟩ := rz_auto 0 s i j k hi hj hk hij hik hjk
  exact ⟨_, _, .val (v' := .tup [.agg [I 0, x', y', w'], B false]) (wk_tup ⟨hw, .refl _, trivial⟩), h _ _ _ hl hn⟩
theorem lend3 {H G : Heap} {Ts : List Th} (s : St H Ts G) {K : AV → Heap → Prop} {P : Program} {f : Nat} {args : List AV} (hb : HasBody P f) (h : ∀ z1 z2 z3 G, St H (riT z1 (.p .nil) [] [z1] :: reT z2 (.p .nil) [] [z2] :: rgT z3 (.p .nil) [] [z3] :: Ts) G → CallT P f args G K) : CallT P f args G K := by
  refine CallT.ghost hb fun z1 hz1 => ?_
  refine CallT.ghost hb fun z2 hz2 => ?_
  refine CallT.ghost hb fun z3 hz3 => ?_
  have s := ((s.cell hz1 []).cell hz2 []).cell hz3 []
  exact h _ _ _ _ (lent LIc.local LIc.has 1 (lent (LPl.local eE) (LPl.has eE) 3 (lent (LPl.local eI) (LPl.has eI) 1 s 0 rfl) 1 rfl) 2 rfl)
/-- Rows that make an automaton. -/
theorem rz_au {H G : Heap} {Ts : List Th} {z1 z2 z3 : Nat} {x y w : AV} {l : List Int} {es : List Ed} {gs : List (List Int)} {D1 D2 D3 : List Nat} (n : Int) (s : St H (rgT z3 w gs D3 :: reT z2 y es D2 :: riT z1 x l D1 :: Ts) G) :
    ∃ q1 q2 q3, AV.wk (.agg [I n, x, y, w]) (.agg [I n, .sl q1 1 0 l.length, .sl q2 3 0 es.length, .sl q3 1 0 gs.length]) ∧ St H (auT ⟨n, l, es, gs⟩ (.agg [I n, .sl q1 1 0 l.length, .sl q2 3 0 es.length, .sl q3 1 0 gs.length]) (D1 ++ (D2 ++ D3)) :: Ts) G := by
  obtain ⟨x', y', w', hw, hl, hn⟩ := rz_auto n s 2 1 0 rfl rfl rfl (by decide) (by decide) (by decide)
  obtain ⟨a, b, c, D1', D2', D3', e, hD, h1, h2, h3⟩ := id hl
  obtain ⟨q1, rfl⟩ := LRow.sl h1
  obtain ⟨q2, rfl⟩ := LRow.sl h2
  obtain ⟨q3, rfl⟩ := LRow.sl h3
  injection e with e
  simp only [List.cons.injEq, and_true, true_and] at e
  obtain ⟨rfl, rfl, rfl⟩ := e
  refine ⟨q1, q2, q3, hw, ?_⟩
  refine St.step (old := [rgT z3 w gs D3, reT z2 y es D2, riT z1 x l D1]) s [auT _ _ (D1 ++ (D2 ++ D3))] ?_ (fun t ht u hu => ?_) (fun y b hb _ => hb) (fun t ht => ?_)
  · simpa [auT] using hn.nd
  · rw [List.mem_singleton] at ht; subst ht
    simp only [auT, List.mem_append] at hu
    refine .inl ?_
    rcases hu with hu | hu | hu
    · exact ⟨_, List.mem_cons_of_mem _ (List.mem_cons_of_mem _ (List.mem_cons_self ..)), hu⟩
    · exact ⟨_, List.mem_cons_of_mem _ (List.mem_cons_self ..), hu⟩
    · exact ⟨_, List.mem_cons_self .., hu⟩
  · rw [List.mem_singleton] at ht; subst ht
    exact hl
theorem au_new {H G : Heap} {Ts : List Th} {a : Au} {v : AV} {D : List Nat} (s : St H Ts G) (i : Nat) (h : Ts[i]? = some (auT a v D)) : LAu a v G D ∧ New H G D :=
  ⟨s.get i h, s.ndT i h, s.fr _ (List.mem_of_getElem? h), s.le⟩

end Go.Proofs.Ytfbaijpanbjmpaa
