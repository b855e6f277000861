/- Plain facts: terms and their kinds; classes of states. -/
namespace Go.Pt
structure Nd where
  op : Int
  n : Int
deriving Inhabited, DecidableEq
structure Ch where
  var : Int
  by_ : List Nd
deriving Inhabited, DecidableEq
structure Cm where
  when_ : List Nd
  chs : List Ch
deriving Inhabited, DecidableEq
structure Pg where
  wide : Int
  vars : Int
  start : List Nd
  cmds : List Cm
deriving Inhabited, DecidableEq

def inB (n lo hi : Int) : Bool := decide (lo ≤ n) && decide (n ≤ hi)
theorem inB_iff {n lo hi : Int} : inB n lo hi = true ↔ lo ≤ n ∧ n ≤ hi := by simp [inB]
theorem inB_f {n lo hi : Int} (h : ¬ (lo ≤ n ∧ n ≤ hi)) : inB n lo hi = false := by rw [Bool.eq_false_iff]; intro h2; exact h (inB_iff.1 h2)

def own (op : Int) : Int :=
  if op = 1 ∨ op = 2 ∨ op = 13 ∨ (3 ≤ op ∧ op ≤ 12) then 1
  else if op = 20 ∨ op = 19 ∨ (14 ≤ op ∧ op ≤ 16) ∨ op = 17 ∨ op = 18 then 2 else 0
def many (op : Int) : Nat :=
  if op = 13 ∨ op = 19 then 1 else if (3 ≤ op ∧ op ≤ 12) ∨ (14 ≤ op ∧ op ≤ 16) ∨ op = 17 ∨ op = 18 then 2 else 0
def part (op : Int) : Int :=
  if op = 13 ∨ (3 ≤ op ∧ op ≤ 12) ∨ (14 ≤ op ∧ op ≤ 16) then 1 else 2
def leafOk (wide vars : Int) (x : Nd) : Bool :=
  if x.op = 1 then inB wide 1 64 && decide (x.n < 2 ^ wide.toNat)
  else if x.op = 2 then decide (x.n < vars)
  else if x.op = 20 then decide (x.n ≤ 1)
  else decide (x.n = 0)

def step (w v : Int) (p : List Int) (x : Nd) : Option (List Int) :=
  if own x.op = 0 ∨ leafOk w v x = false ∨ p.length < many x.op then none
  else if (p.drop (p.length - many x.op)).any (fun k => decide (k ≠ part x.op)) then none
  else some (p.take (p.length - many x.op) ++ [own x.op])
def run (w v : Int) : List Int → List Nd → Option (List Int)
  | p, [] => some p
  | p, x :: xs => (step w v p x).bind fun p' => run w v p' xs
theorem run_app (w v : Int) : ∀ (p : List Int) (xs ys : List Nd), run w v p (xs ++ ys) = (run w v p xs).bind fun p' => run w v p' ys
  | p, [], ys => rfl
  | p, x :: xs, ys => by
    simp only [List.cons_append, run]
    cases step w v p x with
    | none => rfl
    | some p' => simp only [Option.bind_some]; exact run_app w v p' xs ys
theorem run_snoc (w v : Int) (p : List Int) (xs : List Nd) (x : Nd) : run w v p (xs ++ [x]) = (run w v p xs).bind fun p' => step w v p' x := by
  rw [run_app]
  cases run w v p xs with
  | none => rfl
  | some p' =>
    simp only [Option.bind_some, run]
    cases step w v p' x <;> rfl

def frame (w v : Int) (t : List Nd) : Bool := inB w 1 64 && inB v 1 4 && (decide (1 ≤ t.length) && decide (t.length ≤ 48))
def kind (w v : Int) (t : List Nd) : Int :=
  if frame w v t then (match run w v [] t with
    | some [k] => k
    | _ => 0) else 0

theorem take_succ_snoc {α : Type} [Inhabited α] {xs : List α} {i : Nat} (h : i < xs.length) : xs.take (i + 1) = xs.take i ++ [xs.getD i default] := by
  rw [List.take_succ_eq_append_getElem h]; simp [List.getD, h]
theorem run_none (w v : Int) {t : List Nd} {i : Nat} (hi : i < t.length) {p : List Int} (h : run w v [] (t.take i) = some p) (hs : step w v p (t.getD i default) = none) : run w v [] t = none := by
  have e : t = t.take (i + 1) ++ t.drop (i + 1) := (List.take_append_drop _ _).symm
  rw [e, run_app, take_succ_snoc hi, run_snoc, h]
  simp only [Option.bind_some]
  rw [hs]; rfl

theorem own_pos (op : Int) (h : own op ≠ 0) : own op = 1 ∨ own op = 2 := by
  unfold own at *
  repeat' split at h
  all_goals simp_all
theorem step_last {w v : Int} {p p' : List Int} {x : Nd} (h : step w v p x = some p') : ∃ q, p' = q ++ [own x.op] ∧ own x.op ≠ 0 := by
  unfold step at h
  split at h
  · cases h
  · rename_i h1
    split at h
    · cases h
    · injection h with h
      exact ⟨_, h.symm, fun e => h1 (.inl e)⟩
/-- The last of the pile is the kind of the last node. -/
theorem run_last {w v : Int} {t : List Nd} (ht : t ≠ []) {p : List Int} (h : run w v [] t = some p) : ∃ q, p = q ++ [own (t.getD (t.length - 1) default).op] ∧ own (t.getD (t.length - 1) default).op ≠ 0 := by
  have hpos : 0 < t.length := List.length_pos_iff.2 ht
  have e : t = t.take (t.length - 1) ++ [t.getD (t.length - 1) default] := by
    have := take_succ_snoc (xs := t) (i := t.length - 1) (by omega)
    rw [show t.length - 1 + 1 = t.length by omega, List.take_length] at this
    exact this
  generalize t.getD (t.length - 1) default = x at e ⊢
  rw [e, run_snoc] at h
  cases h1 : run w v [] (t.take (t.length - 1)) with
  | none => rw [h1] at h; cases h
  | some p1 => rw [h1] at h; exact step_last h

/-- A term is good, and of a kind. -/
theorem kind_eq {w v : Int} {t : List Nd} (hf : frame w v t = true) (k : Int) (hk : k ≠ 0) :
    decide (kind w v t = k) = (match run w v [] t with
      | some p => decide (p.length = 1) && decide (own (t.getD (t.length - 1) default).op = k)
      | none => false) := by
  have ht : t ≠ [] := by
    intro e; subst e
    simp [frame] at hf
  unfold kind
  rw [if_pos hf]
  cases h : run w v [] t with
  | none => simp [Ne.symm hk]
  | some p =>
    obtain ⟨q, e, _⟩ := run_last ht h
    dsimp only
    generalize own (t.getD (t.length - 1) default).op = o at e ⊢
    subst e
    cases q with
    | nil => simp
    | cons a q => 
      cases q with
      | nil => simp [Ne.symm hk]
      | cons b q => simp [Ne.symm hk]
theorem kind_f {w v : Int} {t : List Nd} (hf : frame w v t = false) : kind w v t = 0 := by simp [kind, hf]

/-! ### Programs -/
def goodCh (w v : Int) (prev : Option Int) (c : Ch) : Bool := inB c.var 0 (v - 1) && (match prev with
  | some p => decide (p < c.var)
  | none => true) && decide (kind w v c.by_ = 1)
def goodCm (w v : Int) (c : Cm) : Bool := decide (kind w v c.when_ = 2) && ((List.range c.chs.length).all fun i => goodCh w v (if i = 0 then none else some (c.chs.getD (i - 1) default).var) (c.chs.getD i default))
def goodP (p : Pg) : Bool := decide (kind p.wide p.vars p.start = 2) && (decide (1 ≤ p.cmds.length) && decide (p.cmds.length ≤ 6)) && p.cmds.all (goodCm p.wide p.vars)
def smallP (p : Pg) : Bool := goodP p && decide (p.wide * p.vars ≤ 5)
def statesP (p : Pg) : Int := 2 ^ (p.wide * p.vars).toNat

theorem kind2_frame {w v : Int} {t : List Nd} (h : kind w v t = 2) : (1 ≤ w ∧ w ≤ 64) ∧ (1 ≤ v ∧ v ≤ 4) := by
  unfold kind at h
  split at h
  · rename_i hf
    simp only [frame, Bool.and_eq_true, inB_iff] at hf
    exact hf.1
  · cases h
theorem goodP_rng {p : Pg} (h : goodP p = true) : (1 ≤ p.wide ∧ p.wide ≤ 64) ∧ (1 ≤ p.vars ∧ p.vars ≤ 4) := by
  simp only [goodP, Bool.and_eq_true, decide_eq_true_eq] at h
  exact kind2_frame h.1.1

/-- The changes of a command are at rising variables: there are no more of them than variables. -/
theorem goodCm_len {w v : Int} {c : Cm} (h : goodCm w v c = true) : (c.chs.length : Int) ≤ v ∨ c.chs.length = 0 := by
  simp only [goodCm, Bool.and_eq_true, List.all_eq_true, List.mem_range] at h
  have key : ∀ i, i < c.chs.length → (i : Int) ≤ (c.chs.getD i default).var := by
    intro i
    induction i with
    | zero =>
      intro hi
      have := h.2 0 hi
      simp only [goodCh, Bool.and_eq_true, inB_iff] at this
      omega
    | succ i ih =>
      intro hi
      have h1 := ih (by omega)
      have := h.2 (i + 1) hi
      simp only [goodCh, Bool.and_eq_true, inB_iff, Nat.succ_ne_zero, if_false, Nat.add_sub_cancel, decide_eq_true_eq] at this
      omega
  by_cases h0 : c.chs.length = 0
  · exact .inr h0
  · left
    have h1 := key (c.chs.length - 1) (by omega)
    have := h.2 (c.chs.length - 1) (by omega)
    simp only [goodCh, Bool.and_eq_true, inB_iff] at this
    omega

/-! ### Classes -/
def runS : Int → List Int → Option Int
  | c, [] => some c
  | c, k :: ks => if k < 0 ∨ c < k then none else runS (if k = c then c + 1 else c) ks
theorem runS_app : ∀ (c : Int) (xs ys : List Int), runS c (xs ++ ys) = (runS c xs).bind fun c' => runS c' ys
  | c, [], ys => rfl
  | c, k :: xs, ys => by
    simp only [List.cons_append, runS]
    split
    · rfl
    · exact runS_app _ xs ys
theorem runS_snoc (c : Int) (xs : List Int) (k : Int) : runS c (xs ++ [k]) = (runS c xs).bind fun c' => if k < 0 ∨ c' < k then none else some (if k = c' then c' + 1 else c') := by
  rw [runS_app]
  cases runS c xs with
  | none => rfl
  | some c' => simp only [Option.bind_some, runS]
theorem runS_none {xs : List Int} {i : Nat} (hi : i < xs.length) {c : Int} (h : runS 0 (xs.take i) = some c) (hb : xs.getD i default < 0 ∨ c < xs.getD i default) : runS 0 xs = none := by
  have e : xs = xs.take (i + 1) ++ xs.drop (i + 1) := (List.take_append_drop _ _).symm
  rw [e, runS_app, take_succ_snoc hi, runS_snoc, h]
  simp only [Option.bind_some]
  rw [if_pos hb]; rfl
theorem runS_rng : ∀ (xs : List Int) (c c' : Int), 0 ≤ c → runS c xs = some c' → c ≤ c' ∧ c' ≤ c + xs.length
  | [], c, c', _, h => by simp [runS] at h; simp; omega
  | k :: xs, c, c', h0, h => by
    simp only [runS] at h
    split at h
    · cases h
    · have := runS_rng xs _ c' (by split <;> omega) h
      simp only [List.length_cons]
      split at this <;> omega
def goodSt (p : Pg) (of : List Int) : Bool := smallP p && (decide ((of.length : Int) = statesP p) && (runS 0 of).isSome)
end Go.Pt
