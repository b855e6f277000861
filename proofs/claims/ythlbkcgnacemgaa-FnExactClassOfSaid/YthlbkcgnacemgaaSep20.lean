/- Sep, part 20: any order that a region may draw goes as the canonical one. -/
import Derived.Test.YthlbkcgnacemgaaSep19
namespace Go.Sep
open Go Go.RowKit

/-- An order of the operations in which each comes behind those that it must come behind. -/
inductive VOrd (l : DOps) : List Nat → List Nat → Prop where
  | nil (D : List Nat) : VOrd l D []
  | cons {D is : List Nat} {j : Nat} (h1 : j ∉ D) (h2 : ∀ e ∈ edg l j, e ∈ D) (t : VOrd l (j :: D) is) : VOrd l D (j :: is)

/-- The given lists of ancestors are no greater than they should be. -/
def okA (l : DOps) (A : List (List Nat)) : Bool :=
  (List.range l.length).all fun i => (edg l i).all (fun e => decide (e < i)) && (A.getD i []).all fun k => (edg l i).contains k || (edg l i).any fun e => (A.getD e []).contains k

theorem anc_done {l : DOps} {A : List (List Nat)} (hA : okA l A = true) {D : List Nat} (hD : ∀ d ∈ D, ∀ e ∈ edg l d, e ∈ D) : ∀ (n i : Nat), i < n → i < l.length → (∀ e ∈ edg l i, e ∈ D) → ∀ k ∈ A.getD i [], k ∈ D := by
  intro n
  induction n with
  | zero => intro i h; omega
  | succ n ih =>
    intro i hi hl he k hk
    have h := List.all_eq_true.1 hA i (List.mem_range.2 hl)
    simp only [Bool.and_eq_true, List.all_eq_true, decide_eq_true_eq, Bool.or_eq_true, List.contains_eq_mem, List.any_eq_true] at h
    rcases h.2 k hk with h1 | ⟨e, he1, he2⟩
    · exact he k h1
    · have hlt := h.1 e he1
      exact ih e (by omega) (by omega) (hD e (he e he1)) k he2

theorem st_ok {P : Program} {tab : Tab} (hT : tab.Ok P) {B0 : Nat} {w0 : World} {F : Heap} {Z : Fro} {φ : Pm} {H : Heap} {env : List AV} {a : Act} {w : World} (r : Rel B0 w0 F Z φ H env a w)
    {ops : Array Oper} {o : Oper} {K : AV → Heap → Prop} (h : stV P tab (xop ops o) env H K) {next : Act → World → Prop} {Q : Exit → Act → World → Prop} (cont : ∀ x w', UpV B0 w0 F Z φ K x w' → next (a.put o.dst x) w') :
    if Region.wanted o (yielded ops a.tmps) then o.wp P a w next Q ∨ (o.asks P a w ∧ LetsOut Q) else next (a.put o.dst undef) w := by
  unfold xop at h
  split at h
  · rename_i hg
    have hw : Region.wanted o (yielded ops a.tmps) = true := by simp [Region.wanted, hg]
    rw [if_pos hw]
    exact .inl (op_ok hT r h cont)
  · rename_i j want hg
    split at h
    · rename_i g hs
      simp only [stV] at h
      split at h
      case h_3 => exact h.elim
      case h_2 =>
        rename_i hv
        have hy := yielded_und r.env hs hv
        have hw : Region.wanted o (yielded ops a.tmps) = false := by simp [Region.wanted, hg, hy]
        rw [if_neg (by simp [hw])]
        exact cont undef w ⟨.und, H, Z, φ, h, Fro.le_refl _, Pm.le_refl _, r.disj, r.sim, und_ok Z φ⟩
      rename_i b hv
      obtain ⟨hy, _, _⟩ := yielded_ok r.env hs hv
      by_cases hb : b = want
      · have hw : Region.wanted o (yielded ops a.tmps) = true := by simp [Region.wanted, hg, hy, hb]
        rw [if_pos hw]
        exact .inl (op_ok hT r (h.1 hb) cont)
      · have hw : Region.wanted o (yielded ops a.tmps) = false := by simp [Region.wanted, hg, hy, hb]
        rw [if_neg (by simp [hw])]
        have hb' : b = (!want) := by cases b <;> cases want <;> simp_all
        exact cont undef w ⟨.und, H, Z, φ, h.2 hb', Fro.le_refl _, Pm.le_refl _, r.disj, r.sim, und_ok Z φ⟩
    · exact h.elim

theorem xop_d (ops : Array Oper) (o : Oper) (hb : xop ops o ≠ .bad) : (xop ops o).d = o.dst := by
  unfold xop at *
  split at *
  · rfl
  · split at *
    · rfl
    · exact absurd rfl hb

theorem split_mem {c : Canon} {j : Nat} (h : j ∈ c.map (·.1)) : ∃ pre ps post, c = pre ++ (j, ps) :: post ∧ j ∉ pre.map (·.1) := by
  induction c with
  | nil => simp at h
  | cons a c ih =>
    obtain ⟨i, pi⟩ := a
    by_cases e : i = j
    · subst e; exact ⟨[], pi, c, rfl, by simp⟩
    · have : j ∈ c.map (·.1) := by
        simp only [List.map_cons, List.mem_cons] at h
        rcases h with h | h
        · exact absurd h.symm e
        · exact h
      obtain ⟨pre, ps, post, rfl, hn⟩ := ih this
      exact ⟨(i, pi) :: pre, ps, post, rfl, by simp only [List.map_cons, List.mem_cons, not_or]; exact ⟨fun h => e h.symm, hn⟩⟩

theorem draw_run {P : Program} {tab : Tab} (hT : tab.Ok P) {B0 : Nat} {w0 : World} {F : Heap} {ops : Array Oper} {l : DOps} (hl : (ops.toList.map fun o => (xop ops o, edgesOf o)) = l) {A : List (List Nat)} (hA : okA l A = true)
    {Q : List AV → Heap → Prop} {N : Nat} (hN : ∀ k, k < l.length → inRange N (opAt l k).d = true) :
    ∀ (is D : List Nat) (c : Canon), VOrd l D is → is.Perm (c.map (·.1)) → (c.map (·.1)).Nodup → (∀ i ∈ c.map (·.1), i ∉ D ∧ i < l.length) → (∀ d ∈ D, ∀ e ∈ edg l d, e ∈ D) → good tab l A c = true →
      ∀ {Z : Fro} {φ : Pm} {H : Heap} {env : List AV} {a : Act} {w : World}, Rel B0 w0 F Z φ H env a w → env.length = N → vcS P tab l Q c env H →
      wpOps P ops (fun e a' w' => Up B0 w0 F Z φ (fun env' H' => e = .normal ∧ Q env' H') a' w') is a w := by
  intro is
  induction is with
  | nil =>
    intro D c _ hp _ _ _ _ Z φ H env a w r _ h
    have : c = [] := by
      have := hp.length_eq
      simp only [List.length_nil, List.length_map] at this
      exact List.eq_nil_of_length_eq_zero this.symm
    subst this
    exact ⟨env, H, Z, φ, ⟨rfl, h⟩, Fro.le_refl _, Pm.le_refl _, r⟩
  | cons j is ih =>
    intro D c hv hp hnd hin hD hg Z φ H env a w r hlen h
    cases hv with
    | cons hjD hje hv =>
    have hjc : j ∈ c.map (·.1) := hp.subset (by simp)
    obtain ⟨pre, ps, post, rfl, hjp⟩ := split_mem hjc
    have hjl := (hin j hjc).2
    have hanc := anc_done hA hD (j + 1) j (by omega) hjl hje
    -- what stands before j does not come ahead of j by need
    have hnot : ∀ i ∈ pre.map (·.1), (A.getD j []).contains i = false := by
      intro i hi
      have h1 := (hin i (by simp only [List.map_append, List.mem_append]; exact .inl hi)).1
      cases hc : (A.getD j []).contains i with
      | false => rfl
      | true => exact absurd (hanc i (by simpa using hc)) h1
    have hat : ∀ (p : Canon) (i : Nat) (pi : List Nat) (q : Canon), pre = p ++ (i, pi) :: q →
        pass1 tab l i pi j ps (q.map (·.1)) = true ∧ ((opAt l i).nh = true → pi = []) := by
      intro p i pi q e
      subst e
      exact good_at p i pi q hg (hnot i (by simp))
    have hstep : stV P tab (opAt l j) env H fun v H' => vcS P tab l Q (pre ++ post) (setD env (opAt l j).d v) H' := by
      by_cases hal : isAl tab (opAt l j) = true
      · refine bubbleA pre env H (fun i pi hi => ?_) h hal
        obtain ⟨p, q, e⟩ := List.append_of_mem hi
        have := (hat p i pi q e).1
        unfold pass1 at this
        rwa [if_pos hal] at this
      have hat : ∀ (p : Canon) (i : Nat) (pi : List Nat) (q : Canon), pre = p ++ (i, pi) :: q →
          (if (opAt l j).nh then passesN l i j else passes l i j ps (q.map (·.1))) = true ∧ ((opAt l i).nh = true → pi = []) := by
        intro p i pi q e
        obtain ⟨h1, h2⟩ := hat p i pi q e
        unfold pass1 at h1
        rw [if_neg hal] at h1
        exact ⟨h1, h2⟩
      have hnh : ∀ (p : Canon) (i : Nat) (pi : List Nat) (q : Canon), pre = p ++ (i, pi) :: q → pi = [] := by
        intro p i pi q e
        obtain ⟨h1, h2⟩ := hat p i pi q e
        apply h2
        split at h1
        · simp only [passesN, Bool.and_eq_true] at h1; exact h1.1
        · simp only [passes, Bool.and_eq_true] at h1; exact h1.1.1
      have hpre : pre = (pre.map (·.1)).map (fun i => (i, ([] : List Nat))) := by
        have : ∀ (pre' : Canon), (∀ p i pi q, pre' = p ++ (i, pi) :: q → pi = []) → pre' = (pre'.map (·.1)).map (fun i => (i, ([] : List Nat))) := by
          intro pre'
          induction pre' with
          | nil => intro _; rfl
          | cons b pre' ihp =>
            intro hh
            obtain ⟨i, pi⟩ := b
            have e1 := hh [] i pi pre' rfl
            subst e1
            simp only [List.map_cons, List.cons.injEq, true_and]
            exact ihp fun p i' pi' q e => hh ((i, []) :: p) i' pi' q (by rw [e]; rfl)
        exact this pre hnh
      generalize hpi : pre.map (·.1) = pi at *
      rw [hpre] at h ⊢
      by_cases hj : (opAt l j).nh = true
      · have hps : ps = [] := by
          have := good_sub (c' := [(j, ps)]) (List.Sublist.trans (List.singleton_sublist.2 (by simp)) (List.Sublist.refl _)) hg
          simp only [good, goodH, hj, Bool.not_true, Bool.false_or, Bool.and_eq_true, List.isEmpty_iff, Bool.true_and, and_true] at this
          exact this
        subst hps
        refine bubbleN hj pi env H ?_ h
        intro i hi
        rw [← hpi] at hi
        obtain ⟨⟨i', pi'⟩, hm, rfl⟩ := List.mem_map.1 hi
        obtain ⟨p, q, e⟩ := List.append_of_mem hm
        have := (hat p i' pi' q e).1
        rwa [if_pos hj] at this
      · obtain ⟨E, _, hst⟩ := bubble (post := post) pi env H (by
          intro k hk
          rw [hlen]
          rw [← hpi] at hk
          exact hN k (hin k (by simp only [List.map_append, List.mem_append]; exact .inl hk)).2) (by
          intro p q e i q' e'
          subst e'
          rw [← hpi] at e
          obtain ⟨p1, q1, rfl, hp1, hq1⟩ := List.map_eq_append_iff.1 e
          obtain ⟨⟨i1, pi1⟩, q2, rfl, hi1, hq2⟩ := List.map_eq_cons_iff.1 hq1
          have := (hat p1 i1 pi1 q2 rfl).1
          rw [if_neg hj] at this
          simp only at hi1
          rw [← hi1, ← hq2]; exact this) h
        exact stV_mono (fun v H' hh => hh.2) hst
    -- the operation itself
    have hoj : ∃ o, ops[j]? = some o ∧ opAt l j = xop ops o := by
      have h1 : j < ops.size := by rw [← hl] at hjl; simpa using hjl
      refine ⟨ops[j], Array.getElem?_eq_getElem h1, ?_⟩
      unfold opAt
      rw [← hl]
      simp [List.getD, h1]
    obtain ⟨o, ho, hox⟩ := hoj
    rw [hox] at hstep
    have hbad : xop ops o ≠ .bad := by
      intro e; rw [e] at hstep; exact hstep
    have hd := xop_d ops o hbad
    simp only [wpOps, ho]
    have hsub : (pre ++ post).Sublist (pre ++ (j, ps) :: post) := List.Sublist.append (List.Sublist.refl _) (List.sublist_cons_self _ _)
    have lift : ∀ {Z' : Fro} {φ' : Pm} {e : Exit} {a' : Act} {w' : World}, Fro.le Z Z' → Pm.le φ φ' → Up B0 w0 F Z' φ' (fun env' H' => e = .normal ∧ Q env' H') a' w' → Up B0 w0 F Z φ (fun env' H' => e = .normal ∧ Q env' H') a' w' := by
      rintro Z' φ' e a' w' hz hp ⟨env2, H2, Z2, φ2, t, hz2, hp2, r2⟩
      exact ⟨env2, H2, Z2, φ2, t, Fro.le_trans hz hz2, Pm.le_trans hp hp2, r2⟩
    refine st_ok hT r hstep ?_
    rintro x w' ⟨v, H', Z', φ', hK, hz, hpm, hdj, hs, hc⟩
    rw [hd] at hK
    refine wpOps_mono' (fun e a w => lift hz hpm) is _ w' (ih (j :: D) (pre ++ post) hv ?_ ?_ ?_ ?_ (good_sub hsub hg) ((r.call hz hpm hdj hs).put o.dst hc) (by rw [setD_len]; exact hlen) hK)
    · have h1 : (j :: is).Perm (j :: (pre ++ post).map (·.1)) := by
        refine hp.trans ?_
        simp only [List.map_append, List.map_cons]
        exact List.perm_middle
      exact h1.cons_inv
    · exact (hsub.map _).nodup hnd
    · intro i hi
      have h1 := hin i ((hsub.map _).subset hi)
      refine ⟨?_, h1.2⟩
      simp only [List.mem_cons, not_or]
      refine ⟨?_, h1.1⟩
      intro e
      subst e
      have h2 : ((i :: (pre ++ post).map (·.1))).Nodup := by
        refine List.Perm.nodup ?_ hnd
        simp only [List.map_append, List.map_cons]
        exact List.perm_middle
      exact (List.nodup_cons.1 h2).1 hi
    · intro d hd' e he
      simp only [List.mem_cons] at hd' ⊢
      rcases hd' with rfl | hd'
      · exact .inr (hje e he)
      · exact .inr (hD d hd' e he)

end Go.Sep
