/- Sep, part 21: the rule for a region that draws its order. -/
import Derived.Test.YthlbkcgnacemgaaSep20
namespace Go.Sep
open Go Go.RowKit

theorem go_ok {ops : Array Oper} {l : DOps} (hl : (ops.toList.map fun o => (xop ops o, edgesOf o)) = l) (hlt : ∀ i, i < ops.size → ∀ e ∈ edg l i, e < i) :
    ∀ (fuel t : Nat) (listed : Array Bool) (acc D : List Nat), listed.size = ops.size → (∀ i, i < ops.size → (i ∈ D ↔ listed.getD i true = true)) →
      ((List.range ops.size).filter (fun i => !listed.getD i true)).length = fuel →
      ∃ is, Region.linearise.go .any ops fuel t listed acc = acc.reverse ++ is ∧ VOrd l D is ∧ is.Perm ((List.range ops.size).filter (fun i => !listed.getD i true)) := by
  have hedg : ∀ i o, ops[i]? = some o → edg l i = edgesOf o := by
    intro i o ho
    have hi : i < ops.size := (Array.getElem?_eq_some_iff.1 ho).1
    have he : ops[i] = o := (Array.getElem?_eq_some_iff.1 ho).2
    unfold edg
    rw [← hl]
    simp [List.getD, hi, he]
  have hready : ∀ (i : Nat) (o : Oper) (listed : Array Bool), ops[i]? = some o → ((o.after.all fun e => !Region.binds .any e || listed.getD e.on false) = true ↔ ∀ e ∈ edg l i, listed.getD e false = true) := by
    intro i o listed ho
    rw [hedg i o ho]
    unfold edgesOf
    rw [← Array.all_toList]
    simp only [List.all_eq_true, Bool.or_eq_true, Bool.not_eq_true', List.mem_map, List.mem_filter, forall_exists_index, and_imp]
    constructor
    · intro h e x hx hb he
      subst he
      rcases h x hx with h1 | h1
      · rw [hb] at h1; cases h1
      · exact h1
    · intro h x hx
      cases hb : Region.binds .any x with
      | false => exact .inl rfl
      | true => exact .inr (h x.on x hx hb rfl)
  intro fuel
  induction fuel with
  | zero =>
    intro t listed acc D hs hD hf
    refine ⟨[], by simp [Region.linearise.go], .nil D, ?_⟩
    rw [List.eq_nil_of_length_eq_zero hf]
  | succ fuel ih =>
    intro t listed acc D hs hD hf
    -- the least that is not listed is ready
    have hne : ∃ i, i < ops.size ∧ listed.getD i true = false ∧ ∀ k, k < i → listed.getD k true = true := by
      have hex : ∃ i, i < ops.size ∧ listed.getD i true = false := by
        have : ((List.range ops.size).filter (fun i => !listed.getD i true)) ≠ [] := by
          intro e; rw [e] at hf; simp at hf
        obtain ⟨i, hi⟩ := List.exists_mem_of_ne_nil _ this
        simp only [List.mem_filter, List.mem_range, Bool.not_eq_true'] at hi
        exact ⟨i, hi.1, hi.2⟩
      obtain ⟨i0, h1, h2⟩ := hex
      have : ∀ n, ∀ i, i < n → i < ops.size → listed.getD i true = false → ∃ i, i < ops.size ∧ listed.getD i true = false ∧ ∀ k, k < i → listed.getD k true = true := by
        intro n
        induction n with
        | zero => intro i hi; omega
        | succ n ihn =>
          intro i hi hl2 hf2
          by_cases hall : ∀ k, k < i → listed.getD k true = true
          · exact ⟨i, hl2, hf2, hall⟩
          · obtain ⟨k, hk⟩ := Classical.not_forall.1 hall
            obtain ⟨hk1, hk2⟩ := Classical.not_imp.1 hk
            exact ihn k (by omega) (by omega) (by simpa using hk2)
      exact this (i0 + 1) i0 (by omega) h1 h2
    obtain ⟨i0, hi0, hu0, hall⟩ := hne
    have conv : ∀ e, e < ops.size → listed.getD e false = listed.getD e true := by
      intro e he
      simp [Array.getD_eq_getD_getElem?, show e < listed.size by omega]
    simp only [Region.linearise.go]
    generalize hrs : ((List.range ops.size).filter fun i => !listed.getD i true && ((ops[i]?).map (·.after.all fun e => !Region.binds .any e || listed.getD e.on false)).getD false) = rs
    have hmem : ∀ i, i ∈ rs ↔ i < ops.size ∧ listed.getD i true = false ∧ ∀ e ∈ edg l i, listed.getD e false = true := by
      intro i
      rw [← hrs]
      simp only [List.mem_filter, List.mem_range, Bool.and_eq_true, Bool.not_eq_true']
      constructor
      · rintro ⟨h1, h2, h3⟩
        refine ⟨h1, h2, ?_⟩
        rw [Array.getElem?_eq_getElem h1] at h3
        simp only [Option.map_some, Option.getD_some] at h3
        exact (hready i ops[i] listed (Array.getElem?_eq_getElem h1)).1 h3
      · rintro ⟨h1, h2, h3⟩
        refine ⟨h1, h2, ?_⟩
        rw [Array.getElem?_eq_getElem h1]
        simp only [Option.map_some, Option.getD_some]
        exact (hready i ops[i] listed (Array.getElem?_eq_getElem h1)).2 h3
    have hin0 : i0 ∈ rs := (hmem i0).2 ⟨hi0, hu0, fun e he => by
      have hel := hlt i0 hi0 e he
      rw [conv e (by omega)]; exact hall e hel⟩
    have hpos : 0 < rs.length := List.length_pos_of_mem hin0
    have hidx : t % rs.length < rs.length := Nat.mod_lt _ hpos
    rw [List.getElem?_eq_getElem hidx]
    dsimp only
    have hj := (hmem _).1 (List.getElem_mem hidx)
    generalize rs[t % rs.length] = j at hj
    obtain ⟨hj1, hj2, hj3⟩ := hj
    have hset : ∀ k, k < ops.size → (listed.setIfInBounds j true).getD k true = (if k = j then true else listed.getD k true) := by
      intro k hk
      simp only [Array.getD_eq_getD_getElem?, Array.getElem?_setIfInBounds]
      by_cases e : k = j
      · subst e; simp [show k < listed.size by omega]
      · simp [e, Ne.symm e]
    have hfil : ((List.range ops.size).filter (fun i => !listed.getD i true)).Perm (j :: (List.range ops.size).filter (fun i => !(listed.setIfInBounds j true).getD i true)) := by
      have h1 : (List.range ops.size).filter (fun i => !(listed.setIfInBounds j true).getD i true) = ((List.range ops.size).filter (fun i => !listed.getD i true)).filter (fun i => i != j) := by
        rw [List.filter_filter]
        apply List.filter_congr
        intro k hk
        rw [hset k (List.mem_range.1 hk)]
        by_cases e : k = j <;> simp [e]
      rw [h1]
      have hnd : ((List.range ops.size).filter (fun i => !listed.getD i true)).Nodup := List.filter_sublist.nodup List.nodup_range
      have hmj : j ∈ (List.range ops.size).filter (fun i => !listed.getD i true) := List.mem_filter.2 ⟨List.mem_range.2 hj1, by rw [hj2]; rfl⟩
      rw [← List.Nodup.erase_eq_filter hnd]
      exact List.perm_cons_erase hmj
    obtain ⟨is, h1, h2, h3⟩ := ih (t / rs.length) (listed.setIfInBounds j true) (j :: acc) (j :: D) (by simpa using hs)
      (by
        intro k hk
        rw [hset k hk]
        by_cases e : k = j
        · subst e; simp
        · simp only [List.mem_cons, e, false_or, if_false]; exact hD k hk)
      (by
        have := hfil.length_eq
        simp only [List.length_cons] at this
        omega)
    refine ⟨j :: is, ?_, .cons ?_ ?_ h2, ?_⟩
    · rw [h1]; simp
    · intro hm
      rw [(hD j hj1).1 hm] at hj2; cases hj2
    · intro e he
      have hel := hlt j hj1 e he
      have := hj3 e he
      rw [conv e (by omega)] at this
      exact (hD e (by omega)).2 this
    · exact (List.Perm.cons j h3).trans hfil.symm

def rangeOk (l : DOps) (N : Nat) : Bool := (List.range l.length).all fun k => inRange N (opAt l k).d
def permOk (n : Nat) (c : Canon) : Bool := (List.range n).isPerm (c.map (·.1))

theorem perm_of {n : Nat} {c : Canon} (h : permOk n c = true) : (List.range n).Perm (c.map (·.1)) := List.isPerm_iff.1 h

/-- The region's order is drawn: one canonical order tells all. 'A': the ancestors; 'c': the canonical order. -/
theorem CX.draw {P : Program} {tab : Tab} (hT : tab.Ok P) (hm : P.follows .mixedOrders = true) {l : DOps} {Q : Post} {env : List AV} {H : Heap} (A : List (List Nat)) (c : Canon) (N : Nat) (hN : env.length = N)
    (hchk : (okA l A && rangeOk l N && permOk l.length c && good tab l A c) = true) (h : vcS P tab l (Q .normal) c env H) : CX P (.draw l) Q env H := by
  subst hN
  intro code hcode
  obtain ⟨id, ops, rfl, hl⟩ := compile_draw hcode
  simp only [Bool.and_eq_true] at hchk
  obtain ⟨⟨⟨hA, hR⟩, hp⟩, hg⟩ := hchk
  have hn : ops.size = l.length := by rw [← hl]; simp
  have hlt : ∀ i, i < ops.size → ∀ e ∈ edg l i, e < i := by
    intro i hi e he
    have := List.all_eq_true.1 hA i (List.mem_range.2 (by omega))
    simp only [Bool.and_eq_true, List.all_eq_true, decide_eq_true_eq] at this
    exact this.1 e he
  have hperm := perm_of hp
  intro B0 w0 F Z φ a w r
  refine wp_region_draw fun t => ?_
  have hsch : Region.schedule (P.follows .mixedOrders) ops t = Region.linearise.go .any ops ops.size t (Array.replicate ops.size false) [] := by
    unfold Region.schedule
    rw [hm]
    simp [Region.linearise]
  rw [hsch]
  obtain ⟨is, h1, h2, h3⟩ := go_ok hl hlt ops.size t (Array.replicate ops.size false) [] [] (by simp) (by
    intro i hi; simp [Array.getD_eq_getD_getElem?, hi]) (by
    rw [List.filter_eq_self.2]
    · simp
    · intro i hi
      have := List.mem_range.1 hi
      simp [Array.getD_eq_getD_getElem?, this])
  have h4 : ((List.range ops.size).filter (fun i => !(Array.replicate ops.size false).getD i true)) = List.range ops.size := by
    rw [List.filter_eq_self.2]
    intro i hi
    have := List.mem_range.1 hi
    simp [Array.getD_eq_getD_getElem?, this]
  rw [h4, hn] at h3
  rw [h1]
  simp only [List.reverse_nil, List.nil_append]
  refine wpOps_mono' ?_ is a w.drew (draw_run hT hl hA (N := env.length) (fun k hk => List.all_eq_true.1 hR k (List.mem_range.2 hk)) is [] c h2 (h3.trans hperm) (hperm.nodup List.nodup_range) (fun i hi => ⟨by simp, ?_⟩) (by simp) hg
    ⟨r.disj, r.sim.drew, r.env, r.defers⟩ rfl h)
  · rintro e a' w' ⟨env', H', Z', φ', ⟨rfl, hq⟩, rest⟩
    exact ⟨env', H', Z', φ', hq, rest⟩
  · exact List.mem_range.1 (hperm.symm.subset hi)

end Go.Sep
