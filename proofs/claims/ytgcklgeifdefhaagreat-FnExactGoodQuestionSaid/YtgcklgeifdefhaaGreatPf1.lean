/- Plain facts on formulas: nodes behind their operands, what is good, where a tree begins. -/
namespace Go.Pt
set_option linter.unusedVariables false

structure Sd where
  op : Int
  n : Int
instance : Inhabited Sd := ⟨⟨0, 0⟩⟩

/-- How many operands. -/
def need (op : Int) : Int := if op = 1 ∨ op = 2 then 0 else if op = 3 ∨ op = 4 then 1 else if op = 5 ∨ op = 6 ∨ op = 7 ∨ op = 8 then 2 else -1
def sdOk (x : Sd) : Bool := if x.op = 1 then decide (0 ≤ x.n) && decide (x.n < 3) else if x.op = 2 then decide (x.n = 0) || decide (x.n = 1) else decide (0 < need x.op) && decide (x.n = 0)
theorem need_cases (op : Int) : (need op = 0 ∧ (op = 1 ∨ op = 2)) ∨ (need op = 1 ∧ (op = 3 ∨ op = 4)) ∨ (need op = 2 ∧ (op = 5 ∨ op = 6 ∨ op = 7 ∨ op = 8)) ∨ need op = -1 := by
  unfold need
  by_cases h1 : op = 1 ∨ op = 2
  · rw [if_pos h1]; exact .inl ⟨rfl, h1⟩
  rw [if_neg h1]
  by_cases h2 : op = 3 ∨ op = 4
  · rw [if_pos h2]; exact .inr (.inl ⟨rfl, h2⟩)
  rw [if_neg h2]
  by_cases h3 : op = 5 ∨ op = 6 ∨ op = 7 ∨ op = 8
  · rw [if_pos h3]; exact .inr (.inr (.inl ⟨rfl, h3⟩))
  rw [if_neg h3]; exact .inr (.inr (.inr rfl))
theorem sdOk_need {x : Sd} (h : sdOk x = true) : 0 ≤ need x.op ∧ need x.op ≤ 2 := by
  unfold sdOk at h
  split at h
  · rename_i e; rw [e]; decide
  · split at h
    · rename_i e; rw [e]; decide
    · rw [Bool.and_eq_true, decide_eq_true_eq] at h
      rcases need_cases x.op with h1 | h1 | h1 | h1 <;> omega
/-- How many values lie there before a node. -/
def vals (f : List Sd) : Nat → Int
  | 0 => 0
  | i + 1 => vals f i + (1 - need (f.getD i default).op)
def sdAt (f : List Sd) (i : Nat) : Bool := sdOk (f.getD i default) && decide (need (f.getD i default).op ≤ vals f i)
def goodF (f : List Sd) : Bool := decide (1 ≤ f.length) && decide (f.length ≤ 16) && (List.range f.length).all (sdAt f) && decide (vals f f.length = 1)

/-- Trees not taken yet, the last first: where each begins, its root. -/
def stk (f : List Sd) : Nat → List (Nat × Nat)
  | 0 => []
  | i + 1 =>
    if need (f.getD i default).op = 0 then (i, i) :: stk f i
    else if need (f.getD i default).op = 1 then (((stk f i).headD (0, 0)).1, i) :: (stk f i).tail
    else (((stk f i).tail.headD (0, 0)).1, i) :: (stk f i).tail.tail
/-- Where the tree of a node begins. -/
def tst (f : List Sd) (k : Nat) : Nat := ((stk f (k + 1)).headD (0, 0)).1
def Cont : Nat → List (Nat × Nat) → Prop
  | i, [] => i = 0
  | i, (s, k) :: r => k + 1 = i ∧ s ≤ k ∧ Cont s r
structure GoodFm (f : List Sd) : Prop where
  l0 : 1 ≤ f.length
  l1 : f.length ≤ 16
  ok : ∀ i, i < f.length → sdOk (f.getD i default) = true ∧ need (f.getD i default).op ≤ vals f i
  one : vals f f.length = 1
theorem goodF_iff {f : List Sd} : goodF f = true ↔ GoodFm f := by
  unfold goodF
  simp only [Bool.and_eq_true, decide_eq_true_eq, List.all_eq_true, List.mem_range, sdAt]
  exact ⟨fun h => ⟨h.1.1.1, h.1.1.2, h.1.2, h.2⟩, fun h => ⟨⟨⟨h.l0, h.l1⟩, h.ok⟩, h.one⟩⟩
theorem stk_len {f : List Sd} (g : GoodFm f) : ∀ i, i ≤ f.length → ((stk f i).length : Int) = vals f i := by
  intro i
  induction i with
  | zero => intro _; rfl
  | succ i ih =>
    intro hi
    have h1 := ih (by omega)
    have h2 := g.ok i (by omega)
    have h3 := sdOk_need h2.1
    have h4 := h2.2
    simp only [stk, vals]
    split
    · rename_i e; rw [List.length_cons]; omega
    · split
      · rename_i e; rw [List.length_cons, List.length_tail]; omega
      · rw [List.length_cons, List.length_tail, List.length_tail]; omega
theorem stk_cont {f : List Sd} (g : GoodFm f) : ∀ i, i ≤ f.length → Cont i (stk f i) := by
  intro i
  induction i with
  | zero => intro _; rfl
  | succ i ih =>
    intro hi
    have h1 := ih (by omega)
    have h2 := g.ok i (by omega)
    have h3 := sdOk_need h2.1
    have h4 := h2.2
    have h5 := stk_len g i (by omega)
    simp only [stk]
    split
    · exact ⟨rfl, Nat.le_refl _, h1⟩
    · split
      · cases hs : stk f i with
        | nil => rw [hs] at h5; simp at h5; omega
        | cons a r =>
          obtain ⟨s, k⟩ := a
          rw [hs] at h1
          obtain ⟨c1, c2, c3⟩ := h1
          exact ⟨rfl, by simp only [List.headD_cons]; omega, by simpa using c3⟩
      · cases hs : stk f i with
        | nil => rw [hs] at h5; simp at h5; omega
        | cons a r =>
          obtain ⟨s, k⟩ := a
          rw [hs] at h1 h5
          obtain ⟨c1, c2, c3⟩ := h1
          cases r with
          | nil => simp at h5; omega
          | cons b r =>
            obtain ⟨s2, k2⟩ := b
            obtain ⟨d1, d2, d3⟩ := c3
            exact ⟨rfl, by simp only [List.tail_cons, List.headD_cons]; omega, by simpa using d3⟩
/-- Below a tree lies what lay there where it begins. -/
theorem stk_below {f : List Sd} (g : GoodFm f) : ∀ n i, i ≤ n → i ≤ f.length → ∀ s k r, stk f i = (s, k) :: r → stk f s = r := by
  intro n
  induction n with
  | zero => intro i hi _ s k r h; have : i = 0 := by omega
            subst this; cases h
  | succ n ih =>
    intro i hi hl s k r h
    cases i with
    | zero => cases h
    | succ i =>
      have h2 := g.ok i (by omega)
      have h3 := sdOk_need h2.1
      have h4 := h2.2
      have h5 := stk_len g i (by omega)
      have hc := stk_cont g i (by omega)
      simp only [stk] at h
      split at h
      · injection h with e1 e2
        injection e1 with e3 e4
        rw [← e3]; exact e2
      · split at h
        · cases hs : stk f i with
          | nil => rw [hs] at h5; simp at h5; omega
          | cons a r' =>
            obtain ⟨s', k'⟩ := a
            rw [hs] at h
            simp only [List.headD_cons, List.tail_cons] at h
            injection h with e1 e2
            injection e1 with e3 e4
            rw [← e3, ← e2]
            exact ih i (by omega) (by omega) s' k' r' hs
        · cases hs : stk f i with
          | nil => rw [hs] at h5; simp at h5; omega
          | cons a r' =>
            obtain ⟨s', k'⟩ := a
            have hb := ih i (by omega) (by omega) s' k' r' hs
            rw [hs] at h h5 hc
            cases r' with
            | nil => simp at h5; omega
            | cons b r'' =>
              obtain ⟨s2, k2⟩ := b
              simp only [List.headD_cons, List.tail_cons] at h
              injection h with e1 e2
              injection e1 with e3 e4
              obtain ⟨c1, c2, c3⟩ := hc
              rw [← e3, ← e2]
              exact ih s' (by omega) (by omega) s2 k2 r'' hb
theorem tst0 {f : List Sd} {k : Nat} (h : need (f.getD k default).op = 0) : tst f k = k := by rw [tst, stk, if_pos h]; rfl
/-- What lies on top before a node: the node before it, with its tree. -/
theorem stk_top {f : List Sd} (g : GoodFm f) {k : Nat} (hk : k ≤ f.length) (h0 : 0 < k) : ∃ r, stk f k = (tst f (k - 1), k - 1) :: r ∧ tst f (k - 1) ≤ k - 1 ∧ stk f (tst f (k - 1)) = r := by
  have hc := stk_cont g k hk
  cases hs : stk f k with
  | nil => rw [hs] at hc; have : k = 0 := hc; omega
  | cons a r =>
    obtain ⟨s, j⟩ := a
    rw [hs] at hc
    obtain ⟨c1, c2, c3⟩ := hc
    have e : tst f (k - 1) = s := by
      unfold tst
      rw [show k - 1 + 1 = k by omega, hs]; rfl
    have hb := stk_below g k k (Nat.le_refl _) hk s j r hs
    refine ⟨r, ?_, ?_, ?_⟩
    · rw [e, show j = k - 1 by omega]
    · rw [e]; omega
    · rw [e]; exact hb
theorem tst1 {f : List Sd} (g : GoodFm f) {k : Nat} (hk : k < f.length) (h : need (f.getD k default).op = 1) : 1 ≤ k ∧ tst f k = tst f (k - 1) := by
  have h2 := g.ok k hk
  have h5 := stk_len g k (by omega)
  have h0 : 0 < k := by
    cases k with
    | zero => simp [stk] at h5; omega
    | succ k => omega
  obtain ⟨r, e, _, _⟩ := stk_top g (by omega : k ≤ f.length) h0
  refine ⟨h0, ?_⟩
  rw [tst, stk, if_neg (by omega), if_pos h, e]; rfl
theorem tst2 {f : List Sd} (g : GoodFm f) {k : Nat} (hk : k < f.length) (h : need (f.getD k default).op = 2) : 1 ≤ k ∧ 1 ≤ tst f (k - 1) ∧ tst f (k - 1) ≤ k - 1 ∧ tst f k = tst f (tst f (k - 1) - 1) ∧ ∃ r, stk f k = (tst f (k - 1), k - 1) :: (tst f (tst f (k - 1) - 1), tst f (k - 1) - 1) :: r := by
  have h2 := g.ok k hk
  have h5 := stk_len g k (by omega)
  have h0 : 0 < k := by
    cases k with
    | zero => simp [stk] at h5; omega
    | succ k => omega
  obtain ⟨r, e, e1, e2⟩ := stk_top g (by omega : k ≤ f.length) h0
  have h6 : 0 < tst f (k - 1) := by
    rcases Nat.eq_zero_or_pos (tst f (k - 1)) with hz | hz
    · rw [hz] at e2
      have : r = [] := e2.symm
      rw [e, this] at h5
      simp at h5; omega
    · exact hz
  obtain ⟨r2, f1, f2, f3⟩ := stk_top g (by omega : tst f (k - 1) ≤ f.length) h6
  rw [e2] at f1
  refine ⟨h0, h6, e1, ?_, r2, by rw [e, f1]⟩
  rw [tst, stk, if_neg (by omega), if_neg (by omega), e, f1]; rfl
/-- The operands of a node. -/
def opsF (f : List Sd) (i : Nat) : List Int :=
  if need (f.getD i default).op = 0 then [] else if need (f.getD i default).op = 1 then [(i : Int) - 1] else [(tst f (i - 1) : Int) - 1, (i : Int) - 1]
/-- The roots of the trees not taken yet, in order. -/
def roots (f : List Sd) (i : Nat) : List Int := ((stk f i).reverse.map fun x => (x.2 : Int))
theorem roots_succ {f : List Sd} (g : GoodFm f) {i : Nat} (hi : i < f.length) : ∃ r, roots f i = r ++ opsF f i ∧ roots f (i + 1) = r ++ [(i : Int)] ∧ ((opsF f i).length : Int) = need (f.getD i default).op := by
  have h2 := g.ok i hi
  have h3 := sdOk_need h2.1
  rcases (by omega : need (f.getD i default).op = 0 ∨ need (f.getD i default).op = 1 ∨ need (f.getD i default).op = 2) with h | h | h
  · refine ⟨roots f i, ?_, ?_, ?_⟩
    · rw [opsF, if_pos h]; simp
    · rw [roots, stk, if_pos h]; simp [roots]
    · rw [opsF, if_pos h, h]; rfl
  · obtain ⟨r, e, _, _⟩ := stk_top g (by omega : i ≤ f.length) (tst1 g hi h).1
    have h0 := (tst1 g hi h).1
    refine ⟨r.reverse.map fun x => (x.2 : Int), ?_, ?_, ?_⟩
    · rw [opsF, if_neg (by omega), if_pos h, roots, e]
      simp only [List.reverse_cons, List.map_append, List.map_cons, List.map_nil]
      congr 2; omega
    · rw [roots, stk, if_neg (by omega), if_pos h, e]; simp
    · rw [opsF, if_neg (by omega), if_pos h, h]; rfl
  · obtain ⟨h0, h1, h4, _, r, e⟩ := tst2 g hi h
    refine ⟨r.reverse.map fun x => (x.2 : Int), ?_, ?_, ?_⟩
    · rw [opsF, if_neg (by omega), if_neg (by omega), roots, e]
      simp only [List.reverse_cons, List.map_append, List.map_cons, List.map_nil, List.append_assoc, List.cons_append, List.nil_append]
      congr 3
      · omega
      · congr 1; omega
    · rw [roots, stk, if_neg (by omega), if_neg (by omega), e]; simp
    · rw [opsF, if_neg (by omega), if_neg (by omega), h]; rfl
/-- The tracked nodes, as they are found. -/
def trAt (f : List Sd) (i : Nat) : List Int := if (f.getD i default).op = 7 ∨ (f.getD i default).op = 8 then [(i : Int), (i : Int) - 1] else if (f.getD i default).op = 4 then [(i : Int) - 1] else []
def trL (f : List Sd) (i : Nat) : List Int := ((f.length : Int) - 1) :: ((List.range i).map (trAt f)).flatten
theorem trL_succ (f : List Sd) (i : Nat) : trL f (i + 1) = trL f i ++ trAt f i := by simp [trL, List.range_succ]
theorem trAt_len (f : List Sd) (i : Nat) : (trAt f i).length ≤ 2 := by
  unfold trAt; split
  · simp
  · split <;> simp
theorem trL_len (f : List Sd) (i : Nat) : (trL f i).length ≤ 2 * i + 1 := by
  induction i with
  | zero => simp [trL]
  | succ i ih => rw [trL_succ, List.length_append]; have := trAt_len f i; omega
end Go.Pt
