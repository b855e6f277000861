/- Plain facts: circuits and their clauses. -/
namespace Go.Pc
structure Gt where
  k : Int
  a : Int
  b : Int
deriving Inhabited, DecidableEq

def evalG (g : Gt) (v : List Bool) : Bool :=
  if g.k = 2 then !(v.getD g.a.toNat false)
  else if g.k = 3 then v.getD g.a.toNat false && v.getD g.b.toNat false
  else if g.k = 4 then v.getD g.a.toNat false || v.getD g.b.toNat false
  else if g.k = 5 then v.getD g.a.toNat false != v.getD g.b.toNat false
  else decide (g.a = 1)

def clausesG (g : Gt) (w : Int) : List (List Int) :=
  if g.k = 1 then (if g.a = 1 then [[w]] else [[-w]])
  else if g.k = 2 then [[w, g.a + 1], [-w, -(g.a + 1)]]
  else if g.k = 3 then [[-w, g.a + 1], [-w, g.b + 1], [w, -(g.a + 1), -(g.b + 1)]]
  else if g.k = 4 then [[w, -(g.a + 1)], [w, -(g.b + 1)], [-w, g.a + 1, g.b + 1]]
  else [[-w, g.a + 1, g.b + 1], [-w, -(g.a + 1), -(g.b + 1)], [w, -(g.a + 1), g.b + 1], [w, g.a + 1, -(g.b + 1)]]

def wiresN (ins : List Bool) (gs : List Gt) : Nat → List Bool
  | 0 => ins
  | n + 1 => wiresN ins gs n ++ [evalG (gs.getD n default) (wiresN ins gs n)]

def gateCl (ins : Nat) (gs : List Gt) (n : Nat) : List (List Int) := (List.range n).flatMap fun k => clausesG (gs.getD k default) ((ins + k + 1 : Nat) : Int)
def outLit (outs : List Int) (want : List Bool) (i : Nat) : Int := if want.getD i false then outs.getD i 0 + 1 else -(outs.getD i 0) - 1
def outCl (outs : List Int) (want : List Bool) (n : Nat) : List (List Int) := (List.range n).map fun i => [outLit outs want i]
def allCl (ins : Nat) (gs : List Gt) (outs : List Int) (want : List Bool) : List (List Int) := gateCl ins gs gs.length ++ outCl outs want outs.length

def inR (n lo hi : Int) : Bool := decide (lo ≤ n) && decide (n ≤ hi)
def goodG (g : Gt) (own : Int) : Bool :=
  if g.k = 1 then inR g.a 0 1 && decide (g.b = 0)
  else if g.k = 2 then inR g.a 0 (own - 1) && decide (g.b = 0)
  else if g.k = 3 ∨ g.k = 4 ∨ g.k = 5 then inR g.a 0 (own - 1) && inR g.b 0 (own - 1)
  else false
def goodC (ins : Int) (gs : List Gt) (outs : List Int) : Bool :=
  inR ins 0 16 && decide (gs.length ≤ 300) && decide (outs.length ≤ 16) && ((List.range gs.length).all fun k => goodG (gs.getD k default) (ins + k)) && (outs.all fun w => inR w 0 (ins + gs.length - 1))

def goodL (names : Int) (l : List Int) : Bool := decide (l.length ≤ 8) && l.all fun x => decide (x ≠ 0) && inR x (-names) names
def goodF (names : Int) (cs : List (List Int)) : Bool := inR names 0 400 && decide (cs.length ≤ 1400) && cs.all (goodL names)

def litT (v : List Bool) (n : Int) : Bool := v.getD (n.natAbs - 1) false == decide (0 < n)
def meets (cs : List (List Int)) (v : List Bool) : Bool := cs.all fun l => l.any (litT v)

theorem wiresN_len (ins : List Bool) (gs : List Gt) (n : Nat) : (wiresN ins gs n).length = ins.length + n := by
  induction n with
  | zero => rfl
  | succ n ih => simp [wiresN, ih]; omega

theorem wiresN_get (ins : List Bool) (gs : List Gt) {j n : Nat} (hj : j < ins.length + n) (m : Nat) : (wiresN ins gs (n + m)).getD j false = (wiresN ins gs n).getD j false := by
  induction m with
  | zero => rfl
  | succ m ih =>
    rw [← ih, ← Nat.add_assoc]
    simp only [wiresN, List.getD]
    rw [List.getElem?_append_left (by rw [wiresN_len]; omega)]

theorem wiresN_at (ins : List Bool) (gs : List Gt) {n m : Nat} (h : n < m) : (wiresN ins gs m).getD (ins.length + n) false = evalG (gs.getD n default) (wiresN ins gs n) := by
  obtain ⟨d, rfl⟩ : ∃ d, m = n + 1 + d := ⟨m - (n + 1), by omega⟩
  rw [wiresN_get ins gs (by omega)]
  simp only [wiresN]
  generalize evalG (gs.getD n default) (wiresN ins gs n) = x
  simp only [List.getD, List.getElem?_append_right (show (wiresN ins gs n).length ≤ ins.length + n by rw [wiresN_len]; omega), wiresN_len, Nat.sub_self]
  rfl

theorem inR_iff {n lo hi : Int} : inR n lo hi = true ↔ lo ≤ n ∧ n ≤ hi := by simp [inR]

theorem evalG_congr {g : Gt} {own : Nat} (hg : goodG g own = true) {v v' : List Bool} (h : ∀ j, j < own → v.getD j false = v'.getD j false) : evalG g v = evalG g v' := by
  unfold goodG at hg
  unfold evalG
  split at hg
  · rename_i h1; simp [h1]
  · split at hg
    · rename_i h1 h2
      simp only [Bool.and_eq_true, inR_iff, decide_eq_true_eq] at hg
      rw [h _ (by omega)]; simp [h2]
    · split at hg
      · simp only [Bool.and_eq_true, inR_iff] at hg
        rw [h g.a.toNat (by omega), h g.b.toNat (by omega)]
      · cases hg

theorem litT_pos {v : List Bool} {n : Nat} : litT v ((n : Int) + 1) = v.getD n false := by
  have : ((n : Int) + 1).natAbs - 1 = n := by omega
  have h2 : (0 : Int) < (n : Int) + 1 := by omega
  simp [litT, this, h2]
theorem litT_neg {v : List Bool} {n : Nat} : litT v (-((n : Int) + 1)) = !v.getD n false := by
  have : (-((n : Int) + 1)).natAbs - 1 = n := by omega
  have h2 : ¬ (0 : Int) < -((n : Int) + 1) := by omega
  simp only [litT, this, h2, decide_false]
  cases v.getD n false <;> rfl

theorem gate_meets {g : Gt} {own : Nat} (hg : goodG g own = true) {v : List Bool} {w : Nat} : ((clausesG g ((w + 1 : Nat) : Int)).all fun l => l.any (litT v)) = true ↔ v.getD w false = evalG g v := by
  unfold goodG at hg
  unfold clausesG evalG
  have e : ((w + 1 : Nat) : Int) = (w : Int) + 1 := by omega
  rw [e]
  split at hg
  · rename_i h1
    simp only [h1, Bool.and_eq_true, inR_iff, decide_eq_true_eq] at hg ⊢
    by_cases ha : g.a = 1
    · simp [ha, litT_pos]
    · simp [ha, litT_neg]
  · split at hg
    · rename_i h1 h2
      simp only [Bool.and_eq_true, inR_iff, decide_eq_true_eq] at hg
      obtain ⟨x, hx⟩ : ∃ x : Nat, g.a = x := ⟨g.a.toNat, by omega⟩
      simp only [h2, hx, Int.toNat_natCast, show ¬ (2 : Int) = 1 by decide, if_true, if_false, List.all_cons, List.all_nil, List.any_cons, List.any_nil, litT_pos, litT_neg]
      generalize v.getD w false = p; generalize v.getD x false = q
      cases p <;> cases q <;> decide
    · split at hg
      · rename_i h1 h2 h3
        simp only [Bool.and_eq_true, inR_iff] at hg
        obtain ⟨x, hx⟩ : ∃ x : Nat, g.a = x := ⟨g.a.toNat, by omega⟩
        obtain ⟨y, hy⟩ : ∃ x : Nat, g.b = x := ⟨g.b.toNat, by omega⟩
        rcases h3 with h3 | h3 | h3
        all_goals
          simp only [h3, hx, hy, Int.toNat_natCast]
          simp only [show ¬ (3 : Int) = 1 by decide, show ¬ (3 : Int) = 2 by decide, show ¬ (4 : Int) = 1 by decide, show ¬ (4 : Int) = 2 by decide, show ¬ (4 : Int) = 3 by decide, show ¬ (5 : Int) = 1 by decide, show ¬ (5 : Int) = 2 by decide, show ¬ (5 : Int) = 3 by decide, show ¬ (5 : Int) = 4 by decide, if_true, if_false]
          simp only [List.all_cons, List.all_nil, List.any_cons, List.any_nil, litT_pos, litT_neg]
          generalize v.getD w false = p; generalize v.getD x false = q; generalize v.getD y false = r
          cases p <;> cases q <;> cases r <;> decide
      · cases hg

theorem goodC_pos {ins : Int} {gs : List Gt} {outs : List Int} (h : goodC ins gs outs = true) :
    (0 ≤ ins ∧ ins ≤ 16) ∧ gs.length ≤ 300 ∧ outs.length ≤ 16 ∧ (∀ k, k < gs.length → goodG (gs.getD k default) (ins + k) = true) ∧ ∀ w ∈ outs, 0 ≤ w ∧ w < ins + gs.length := by
  simp only [goodC, Bool.and_eq_true, inR_iff, decide_eq_true_eq, List.all_eq_true, List.mem_range] at h
  exact ⟨h.1.1.1.1, h.1.1.1.2, h.1.1.2, h.1.2, fun w hw => by have := h.2 w hw; omega⟩

theorem outLit_meets {outs : List Int} {want : List Bool} {v : List Bool} {i : Nat} (h : 0 ≤ outs.getD i 0) : litT v (outLit outs want i) = (v.getD (outs.getD i 0).toNat false == want.getD i false) := by
  obtain ⟨x, hx⟩ : ∃ x : Nat, outs.getD i 0 = x := ⟨(outs.getD i 0).toNat, by omega⟩
  simp only [outLit, hx, Int.toNat_natCast]
  cases want.getD i false
  · simp only [if_false, Bool.false_eq_true, show -(x : Int) - 1 = -((x : Int) + 1) by omega, litT_neg]
    cases v.getD x false <;> rfl
  · simp only [if_true, litT_pos]
    cases v.getD x false <;> rfl

theorem meets_iff {ins : Nat} {gs : List Gt} {outs : List Int} {want v : List Bool} (hg : goodC ins gs outs = true) :
    meets (allCl ins gs outs want) v = true ↔ (∀ k, k < gs.length → v.getD (ins + k) false = evalG (gs.getD k default) v) ∧ ∀ i, i < outs.length → v.getD (outs.getD i 0).toNat false = want.getD i false := by
  obtain ⟨h1, h2, h3, h4, h5⟩ := goodC_pos hg
  have ho : ∀ i, i < outs.length → 0 ≤ outs.getD i 0 := by
    intro i hi
    have : outs.getD i 0 ∈ outs := by simp only [List.getD, List.getElem?_eq_getElem hi, Option.getD_some]; exact List.getElem_mem hi
    exact (h5 _ this).1
  unfold meets allCl
  rw [List.all_append, Bool.and_eq_true]
  refine and_congr ?_ ?_
  · unfold gateCl
    rw [List.all_flatMap, List.all_eq_true]
    simp only [List.mem_range]
    refine forall_congr' fun k => forall_congr' fun hk => ?_
    have hgk := h4 k hk
    rw [show (ins : Int) + (k : Int) = ((ins + k : Nat) : Int) by omega] at hgk
    exact gate_meets hgk
  · unfold outCl
    rw [List.all_map, List.all_eq_true]
    simp only [List.mem_range, Function.comp, List.any_cons, List.any_nil, Bool.or_false]
    refine forall_congr' fun i => forall_congr' fun hi => ?_
    rw [outLit_meets (ho i hi), beq_iff_eq]

/-- What the outputs carry. -/
def outsV (outs : List Int) (v : List Bool) (n : Nat) : List Bool := (List.range n).map fun i => v.getD (outs.getD i 0).toNat false

theorem outsV_eq {outs : List Int} {v want : List Bool} (hw : want.length = outs.length) : outsV outs v outs.length = want ↔ ∀ i, i < outs.length → v.getD (outs.getD i 0).toNat false = want.getD i false := by
  constructor
  · intro h i hi
    rw [← h]
    simp [outsV, List.getD, hi]
  · intro h
    apply List.ext_getElem (by simp [outsV, hw])
    intro i h1 h2
    have hi : i < outs.length := by simpa [outsV] using h1
    have := h i hi
    simp only [outsV, List.getElem_map, List.getElem_range]
    rw [this]; simp [List.getD, h2]

theorem meets_wires {ins : List Bool} {gs : List Gt} {outs : List Int} {want : List Bool} (hg : goodC ins.length gs outs = true) (hw : want.length = outs.length) :
    meets (allCl ins.length gs outs want) (wiresN ins gs gs.length) = decide (outsV outs (wiresN ins gs gs.length) outs.length = want) := by
  rw [Bool.eq_iff_iff, meets_iff hg, decide_eq_true_eq, outsV_eq hw]
  refine and_iff_right fun k hk => ?_
  obtain ⟨h1, h2, h3, h4, h5⟩ := goodC_pos hg
  rw [wiresN_at ins gs hk]
  have hgk := h4 k hk
  rw [show (ins.length : Int) + (k : Int) = ((ins.length + k : Nat) : Int) by omega] at hgk
  refine evalG_congr hgk fun j hj => ?_
  obtain ⟨d, hd⟩ : ∃ d, gs.length = k + d := ⟨gs.length - k, by omega⟩
  rw [hd, wiresN_get ins gs hj]

theorem meets_flip {ins : List Bool} {gs : List Gt} {outs : List Int} {want : List Bool} (hg : goodC ins.length gs outs = true) {k : Nat} (hk : ins.length ≤ k) (hk2 : k < ins.length + gs.length) :
    meets (allCl ins.length gs outs want) ((wiresN ins gs gs.length).set k (!(wiresN ins gs gs.length).getD k false)) = false := by
  rw [Bool.eq_false_iff]
  intro h
  rw [meets_iff hg] at h
  obtain ⟨h1, h2, h3, h4, h5⟩ := goodC_pos hg
  obtain ⟨j, rfl⟩ : ∃ j, k = ins.length + j := ⟨k - ins.length, by omega⟩
  have hj : j < gs.length := by omega
  have e := h.1 j hj
  have hgk := h4 j hj
  rw [show (ins.length : Int) + (j : Int) = ((ins.length + j : Nat) : Int) by omega] at hgk
  have hl : (wiresN ins gs gs.length).length = ins.length + gs.length := wiresN_len ..
  have hc : evalG (gs.getD j default) ((wiresN ins gs gs.length).set (ins.length + j) (!(wiresN ins gs gs.length).getD (ins.length + j) false)) = evalG (gs.getD j default) (wiresN ins gs j) := by
    refine evalG_congr hgk fun i hi => ?_
    have : ins.length + j ≠ i := by omega
    simp only [List.getD, List.getElem?_set_ne this]
    obtain ⟨d, hd⟩ : ∃ d, gs.length = j + d := ⟨gs.length - j, by omega⟩
    have := wiresN_get ins gs (j := i) (n := j) hi d
    simp only [List.getD] at this
    rw [hd, this]
  rw [wiresN_at ins gs hj] at hc e
  rw [hc] at e
  simp only [List.getD, List.getElem?_set_self (show ins.length + j < (wiresN ins gs gs.length).length by rw [hl]; omega), Option.getD_some] at e
  revert e
  cases evalG (gs[j]?.getD default) (wiresN ins gs j) <;> decide
end Go.Pc
