/- The law on the union of two automata. -/
import Derived.Test.YtfbaijpanbjmpaaMa6
import Derived.Test.YtfbaijpanbjmpaaMa7
import Derived.Test.YtfbaijpanbjmpaaMb0
namespace Go.Proofs.Ytfbaijpanbjmpaa
open Go Go.Sep Go.Pt
set_option linter.unusedSimpArgs false
set_option linter.unusedVariables false
attribute [local irreducible] CallT

theorem eI_gd : Lay.Gd (LPl eI) := LPl.gd fun a x hx => by
  simp only [List.mem_singleton] at hx; subst hx; exact .int _ _
theorem eE_gd : Lay.Gd (LPl eE) := LPl.gd fun a x hx => by
  simp only [List.mem_cons, List.not_mem_nil, or_false] at hx
  rcases hx with rfl | rfl | rfl <;> exact .int _ _
theorem LIc.gd : Lay.Gd LIc := by
  rintro a cs G D ⟨x, rfl, h⟩
  obtain ⟨h1, h2⟩ := LRow.gd eI_gd h
  exact ⟨fun c hc => by rw [List.mem_singleton] at hc; subst hc; exact h1, h2⟩
theorem LIc.sh : Lay.Sh LIc := by
  rintro a cs G D n G0 h0 ⟨x, rfl, h⟩
  exact ⟨shC n x, rfl, LRow.sh (LPl.sh eI) h0 h⟩
theorem LAu.gd {a : Au} {v : AV} {G : Heap} {D : List Nat} (h : LAu a v G D) : Gd1 v ∧ ∀ y ∈ D, ∀ bs, G y = some bs → ∀ c ∈ bs, GdC c := by
  obtain ⟨x, y, z, D1, D2, D3, rfl, rfl, h1, h2, h3⟩ := h
  have a1 := LRow.gd eI_gd h1
  have a2 := LRow.gd eE_gd h2
  have a3 := LRow.gd LIc.gd h3
  refine ⟨.inl ⟨_, rfl, fun c hc => ?_⟩, fun u hu => ?_⟩
  · simp only [List.mem_cons, List.not_mem_nil, or_false] at hc
    rcases hc with rfl | rfl | rfl | rfl
    · exact .p (.int _ _)
    · exact a1.1
    · exact a2.1
    · exact a3.1
  · simp only [List.mem_append] at hu
    rcases hu with hu | hu | hu
    · exact a1.2 u hu
    · exact a2.2 u hu
    · exact a3.2 u hu
theorem LAu.sh {a : Au} {v : AV} {G : Heap} {D : List Nat} {n : Nat} {G0 : Heap} (h0 : ∀ q, n ≤ q → G0 q = none) (h : LAu a v G D) : LAu a (sh1 n v) (Heap.or G0 (shH n G)) (D.map (· + n)) := by
  obtain ⟨x, y, z, D1, D2, D3, rfl, rfl, h1, h2, h3⟩ := h
  exact ⟨shC n x, shC n y, shC n z, _, _, _, rfl, by rw [List.map_append, List.map_append], LRow.sh (LPl.sh eI) h0 h1, LRow.sh (LPl.sh eE) h0 h2, LRow.sh LIc.sh h0 h3⟩

/-- A function whose answer is an automaton of its own and a word: called with what is live. -/
theorem thawAu {P : Program} {f : Nat} {args args' : List AV} {G G1 : Heap} {o : Au} {ok : Bool} {K : AV → Heap → Prop}
    (hf : ∀ {K : AV → Heap → Prop}, (∀ v G D, LAu o v G D → New (fun _ => none) G D → K (.tup [v, B ok]) G) → CallT P f args' (fun _ => none) K)
    (hw : Wk (.tup args) G (.tup args') G1) (h : ∀ v G' D, LAu o v G' D → New G G' D → K (.tup [v, B ok]) G') : CallT P f args G K := by
  refine CallT.thawX (Q' := fun r H' => ∃ v D, LAu o v H' D ∧ D.Nodup ∧ r = .tup [v, B ok] ∧ ∀ y, y ∉ D → H' y = none) ?_ ?_ hw ?_
  · refine CallT.fin (hf fun v G D hl hn => ⟨_, only D G, .forget (only_le D G), v, D, hl.local fun y hy b hb => by rw [only_in hy]; exact hb, hn.nd, rfl, fun y hy => only_out hy⟩)
  · rintro r H' ⟨v, D, hl, _, rfl, hout⟩
    have gb : Gd1 (B ok) := .inr ⟨.p (.bool ok), fun _ => rfl⟩
    refine ⟨.inl ⟨_, rfl, fun u hu => ?_⟩, fun q cs hq => ?_⟩
    · rcases List.mem_cons.1 hu with rfl | hu
      · exact hl.gd.1
      · rw [List.mem_singleton] at hu; rw [hu]; exact gb
    · by_cases hD : q ∈ D
      · exact hl.gd.2 q hD cs hq
      · rw [hout q hD] at hq; cases hq
  · rintro r H' n ⟨v, D, hl, hnd, rfl, hout⟩ hn
    have e : sh2 n (.tup [v, B ok]) = .tup [sh1 n v, B ok] := rfl
    rw [e]
    refine h _ _ (D.map (· + n)) (hl.sh hn) ⟨?_, fun y hy => ?_, fun y b hb => by simp only [Heap.or, hb]⟩
    · exact List.pairwise_map.2 (hnd.imp fun h e => h (Nat.add_right_cancel e))
    · obtain ⟨z, _, rfl⟩ := List.mem_map.1 hy
      exact hn _ (by omega)
theorem LAu.eq {a : Au} {v : AV} {G : Heap} {D : List Nat} (g : LAu a v G D) (hD : D.Nodup) (hs : smAu a) {K : AV → Heap → Prop} (h : K (B true) G) : CallT Try.prog 13 [v, aAu a] G K := by
  obtain ⟨G1, w1, _⟩ := g.wk hD (fun v => .tup [v, aAu a]) (fun h => .tup (.cons h (.cons (.same _) .nil)))
  exact Pu.thaw (eqAuto_spec a hs) (.bool _) w1 h
theorem LAu.held {a : Au} {v : AV} {G : Heap} {D : List Nat} (g : LAu (mkAu 1 a) v G D) (hD : D.Nodup) (hs : totAu a ≤ 1048576) {K : AV → Heap → Prop} (h : K (I (1 + totM a)) G) : CallT Try.prog 15 [v, I 1] G K := by
  obtain ⟨G1, w1, _⟩ := g.wk hD (fun v => .tup [v, I 1]) (fun h => .tup (.cons h (.cons (.same _) .nil)))
  exact Pu.thaw (heldAuto_spec a hs (by omega) (by omega)) (.int _ _) w1 h

theorem eiR_sm {a b : Au} (ha : smAu a) : smAu (eiR a b).1 ∧ totAu (eiR a b).1 ≤ 10000 := by
  unfold eiR
  split
  · rename_i h
    simp only [Bool.and_eq_true] at h
    have fa := good_facts h.1.1
    have fb := good_facts h.1.2
    refine ⟨eiT_sm fa fb, ?_⟩
    have f := good_facts h.2
    have h1 := f.fi.2
    have h2 := f.ed
    have h3 := f.gl
    have h4 : psum totL (eiT a b).goals (eiT a b).goals.length ≤ 96 * (eiT a b).goals.length := by
      have key : ∀ i, i ≤ (eiT a b).goals.length → psum totL (eiT a b).goals i ≤ 96 * i := by
        intro i
        induction i with
        | zero => intro _; simp [psum]
        | succ i ih =>
          intro hi
          rw [psum_succ (by omega)]
          have := ih (by omega)
          have hm := getD_all (p := fun x => smI x ∧ x.length ≤ 96) (d := default) f.gi (i := i) (by omega)
          have e : totL ((eiT a b).goals.getD i default) = ((eiT a b).goals.getD i default).length := rfl
          omega
      exact key _ (Nat.le_refl _)
    show totAu (eiT a b) ≤ 10000
    unfold totAu totLs
    omega
  · refine ⟨⟨by simp [zeroA], by simp [zeroA], by simp [zeroA], fun c hc => by cases hc⟩, ?_⟩
    simp [totAu, totLs, zeroA, psum]

theorem aAu_cells {a : Au} {v : AV} {G : Heap} {D : List Nat} (h : LAu a v G D) : ∃ q1 q2 q3, v = .agg [I a.states, .sl q1 1 0 a.first.length, .sl q2 3 0 a.edges.length, .sl q3 1 0 a.goals.length] := by
  obtain ⟨x, y, z, D1, D2, D3, rfl, e, h1, h2, h3⟩ := h
  obtain ⟨q1, rfl⟩ := LRow.sl h1
  obtain ⟨q2, rfl⟩ := LRow.sl h2
  obtain ⟨q3, rfl⟩ := LRow.sl h3
  exact ⟨q1, q2, q3, rfl⟩

theorem wk2 {a b : Au} {va vb : AV} {Da Db : List Nat} {H G : Heap} {Ts : List Th} (s : St H Ts G) (i j : Nat) (hi : Ts[i]? = some (auT a va Da)) (hj : Ts[j]? = some (auT b vb Db)) (hij : i ≠ j) : ∃ G', Wk (.tup [va, vb]) G (.tup [aAu a, aAu b]) G' := by
  obtain ⟨G1, w1, f1⟩ := (s.get i hi : LAu a va G Da).wk (s.ndT i hi) (fun v => .tup [v, vb]) (fun h => .tup (.cons h (.cons (.same _) .nil)))
  have hb : LAu b vb G1 Db := (s.get j hj : LAu b vb G Db).local fun y hy bb hbb => by rw [f1 y (s.disjI j i hj hi (Ne.symm hij) y hy)]; exact hbb
  obtain ⟨G2, w2, f2⟩ := hb.wk (s.ndT j hj) (fun v => .tup [aAu a, v]) (fun h => .tup (.cons (.same _) (.cons h .nil)))
  exact ⟨G2, .trans w1 w2⟩
theorem sm_mk {a : Au} {k : Int} (h : smAu a) : smAu (mkAu k a) := by
  refine ⟨by rw [mkAu, marked_len]; exact h.1, by rw [mkAu, markE_len]; exact h.2.1, by rw [mkAu, mkLs_len]; exact h.2.2.1, fun c hc => ?_⟩
  obtain ⟨i, hi, rfl⟩ := List.mem_map.1 hc
  rw [mkL, marked_len]
  exact getD_all (p := fun c => c.length ≤ 1048576) (d := default) h.2.2.2 (List.mem_range.1 hi)

theorem psumL_le {gs : List (List Int)} {m : Nat} (h : ∀ g ∈ gs, g.length ≤ m) : psum totL gs gs.length ≤ m * gs.length := by
  have key : ∀ i, i ≤ gs.length → psum totL gs i ≤ m * i := by
    intro i
    induction i with
    | zero => intro _; simp [psum]
    | succ i ih =>
      intro hi
      rw [psum_succ (by omega)]
      have h1 := ih (by omega)
      have h2 := getD_all (p := fun x : List Int => x.length ≤ m) (d := default) h (i := i) (by omega)
      have e : totL (gs.getD i default) = (gs.getD i default).length := rfl
      rw [Nat.mul_add, Nat.mul_one]
      omega
  exact key _ (Nat.le_refl _)
theorem good_tot {a : Au} (f : GoodF a) : smAu a ∧ totAu a ≤ 10000 := by
  have h1 := f.fi.2
  have h2 := f.ed
  have h3 := f.gl
  have h4 := psumL_le (m := 96) fun g hg => (f.gi g hg).2
  refine ⟨⟨by omega, by omega, by omega, fun g hg => by have := (f.gi g hg).2; omega⟩, ?_⟩
  unfold totAu totLs
  omega
theorem zeroA_tot : smAu zeroA ∧ totAu zeroA ≤ 10000 := by
  refine ⟨⟨by simp [zeroA], by simp [zeroA], by simp [zeroA], fun c hc => by cases hc⟩, ?_⟩
  simp [totAu, totLs, zeroA, psum]
end Go.Proofs.Ytfbaijpanbjmpaa
