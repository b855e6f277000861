/- Specs: the union of two automata. -/
import Derived.Test.YtfbaijpanbjmpaaMa5
namespace Go.Proofs.Ytfbaijpanbjmpaa
open Go Go.Sep Go.Pt
set_option linter.unusedSimpArgs false
set_option linter.unusedVariables false
attribute [local irreducible] CallT

/-! ### Plain facts -/
theorem rising_at {l : List Int} {n : Int} (h : rising l n = true) : ∀ i, i < l.length → (i : Int) ≤ l.getD i default ∧ l.getD i default < n := by
  intro i
  induction i with
  | zero =>
    intro hi
    have := riseAt_iff.1 (List.all_eq_true.1 h 0 (List.mem_range.2 hi))
    omega
  | succ i ih =>
    intro hi
    have h1 := ih (by omega)
    have := riseAt_iff.1 (List.all_eq_true.1 h (i + 1) (List.mem_range.2 hi))
    simp only [Nat.add_sub_cancel] at this
    omega
theorem rising_sm {l : List Int} {n : Int} (h : rising l n = true) (hn : n ≤ 10000) : smI l ∧ l.length ≤ n.toNat := by
  have hl : l.length ≤ n.toNat := by
    by_cases h0 : l.length = 0
    · omega
    · have := rising_at h (l.length - 1) (by omega)
      omega
  refine ⟨⟨by omega, fun x hx => ?_⟩, hl⟩
  obtain ⟨i, hi, rfl⟩ := List.mem_iff_getElem.1 hx
  have := rising_at h i hi
  rw [getD_lt hi] at this
  omega
structure GoodF (a : Au) : Prop where
  st : 1 ≤ a.states ∧ a.states ≤ 96
  fi : smI a.first ∧ a.first.length ≤ 96
  ed : a.edges.length ≤ 2400
  ei : ∀ e ∈ a.edges, edIn a.states e = true
  gl : a.goals.length ≤ 6
  gi : ∀ g ∈ a.goals, smI g ∧ g.length ≤ 96
theorem good_facts {a : Au} (h : goodA a = true) : GoodF a := by
  rw [goodA_def] at h
  simp only [goalsOk, Bool.and_eq_true, decide_eq_true_eq, List.all_eq_true] at h
  obtain ⟨h1, h2, h3, ⟨h4, h5⟩, h6⟩ := h
  have f := rising_sm h2 (by omega)
  refine ⟨h1, ⟨f.1, by omega⟩, h3, fun e he => ?_, h4, fun g hg => ?_⟩
  · obtain ⟨i, hi, rfl⟩ := List.mem_iff_getElem.1 he
    have := (edAt_iff.1 (List.all_eq_true.1 h6 i (List.mem_range.2 hi))).1
    rwa [getD_lt hi] at this
  · have := rising_sm (h5 g hg) (by omega)
    exact ⟨this.1, by omega⟩
def mvE (l : List Ed) (n : Int) : List Ed := l.map fun e => ⟨e.src + n, e.lt, e.dst + n⟩
theorem mvE_len (l : List Ed) (n : Int) : (mvE l n).length = l.length := by simp [mvE]
theorem mv_len (l : List Int) (n : Int) : (mv l n).length = l.length := by simp [mv]
def eiF (a b : Au) : List Int := a.first ++ mv b.first a.states
def eiE (a b : Au) (i : Nat) : List Ed := a.edges ++ mvE (b.edges.take i) a.states
theorem eiE_zero (a b : Au) : eiE a b 0 = a.edges := by simp [eiE, mvE]
theorem eiE_succ (a b : Au) {i : Nat} (h : i < b.edges.length) : eiE a b (i + 1) = eiE a b i ++ [⟨(b.edges.getD i default).src + a.states, (b.edges.getD i default).lt, (b.edges.getD i default).dst + a.states⟩] := by
  simp only [eiE]; rw [take_succ_snoc h]; simp [mvE]
def eiG (a b : Au) (k : Nat) : List Int := goalAt a k ++ mv (goalAt b k) a.states
def eiGs (a b : Au) (m : Nat) : List (List Int) := (List.range m).map (eiG a b)
theorem eiGs_succ (a b : Au) (m : Nat) : eiGs a b (m + 1) = eiGs a b m ++ [eiG a b m] := by simp [eiGs, List.range_succ]
theorem eiGs_len (a b : Au) (m : Nat) : (eiGs a b m).length = m := by simp [eiGs]
def eiT (a b : Au) : Au := ⟨a.states + b.states, eiF a b, eiE a b b.edges.length, eiGs a b (max a.goals.length b.goals.length)⟩
def zeroA : Au := ⟨0, [], [], []⟩
def eiR (a b : Au) : Au × Bool := if goodA a && goodA b && goodA (eiT a b) then (eiT a b, true) else (zeroA, false)
theorem goalAt_sm {a : Au} (h : GoodF a) (k : Nat) : smI (goalAt a k) ∧ (goalAt a k).length ≤ 96 := by
  have hs := h.st
  unfold goalAt
  split
  · have hm : a.goals.getD (k : Int).toNat default ∈ a.goals := getD_all (p := fun x => x ∈ a.goals) (fun _ h => h) (by omega)
    exact h.gi _ hm
  · refine ⟨⟨by rw [below_len]; omega, fun x hx => ?_⟩, by rw [below_len]; omega⟩
    simp only [below, List.mem_map, List.mem_range] at hx
    obtain ⟨i, hi, rfl⟩ := hx
    omega
theorem eiT_sm {a b : Au} (ha : GoodF a) (hb : GoodF b) : smAu (eiT a b) := by
  have h1 := ha.fi.2
  have h2 := hb.fi.2
  have h3 := ha.ed
  have h4 := hb.ed
  have h5 := ha.gl
  have h6 := hb.gl
  refine ⟨by simp only [eiT, eiF, List.length_append, mv_len]; omega, by simp only [eiT, eiE, List.length_append, mvE_len, List.length_take]; omega, by simp only [eiT, eiGs_len]; omega, fun c hc => ?_⟩
  simp only [eiT, eiGs, List.mem_map, List.mem_range] at hc
  obtain ⟨k, _, rfl⟩ := hc
  have e1 := (goalAt_sm ha k).2
  have e2 := (goalAt_sm hb k).2
  simp only [eiG, List.length_append, mv_len]; omega

/-- The zero automaton, in rows that were lent. -/
theorem zero_live {H : Heap} {z1 z2 z3 : Nat} (h1 : H z1 = none) (h2 : H z2 = none) (h3 : H z3 = none) (n21 : z2 ≠ z1) (n31 : z3 ≠ z1) (n32 : z3 ≠ z2) {K : AV → Heap → Prop} {G : Heap} (hle : Heap.le (((H.set z1 []).set z2 []).set z3 []) G)
    (h : ∀ v G D, LAu zeroA v G D → New H G D → K (.tup [v, B false]) G) : wkK K (.tup [zA, B false]) G := by
  have n12 := Ne.symm n21
  have n13 := Ne.symm n31
  have n23 := Ne.symm n32
  have e1 : (((H.set z1 []).set z2 []).set z3 []) z1 = some [] := by rw [Heap.set_other n13, Heap.set_other n12, Heap.set_same]
  have e2 : (((H.set z1 []).set z2 []).set z3 []) z2 = some [] := by rw [Heap.set_other n23, Heap.set_same]
  have e3 : (((H.set z1 []).set z2 []).set z3 []) z3 = some [] := Heap.set_same _ _ _
  refine ⟨_, _, .trans (.val (v' := .tup [.agg [I 0, .sl z1 1 0 0, .sl z2 3 0 0, .sl z3 1 0 0], B false]) (wk_tup ⟨wk_agg ⟨.refl _, .nilo _ _ _, .nilo _ _ _, .nilo _ _ _, trivial⟩, .refl _, trivial⟩)) (.forget hle), ?_⟩
  refine h _ _ ([z1] ++ ([z2] ++ [z3])) ⟨_, _, _, [z1], [z2], [z3], rfl, rfl, ⟨z1, [], [], rfl, e1, ⟨rfl, rfl⟩, rfl⟩, ⟨z2, [], [], rfl, e2, ⟨rfl, rfl⟩, rfl⟩, ⟨z3, [], [], rfl, e3, ⟨rfl, rfl⟩, rfl⟩⟩ ⟨by simp [n12, n13, n23], fun y hy => ?_, ?_⟩
  · simp at hy
    rcases hy with rfl | rfl | rfl <;> assumption
  · (intro y b hy; simp only [Heap.set, Heap.del] at hy ⊢; (repeat' split at hy) <;> (repeat' split) <;> simp_all [cells])

theorem or2 {A B P R : Prop} (h1 : A ∨ B) (h : P) : (A → P) ∧ (¬ A → (B → P) ∧ (¬ B → R)) := ⟨fun _ => h, fun na => ⟨fun _ => h, fun nb => absurd h1 (by simp [na, nb])⟩⟩
end Go.Proofs.Ytfbaijpanbjmpaa
