/- Texts laid together: Lb0 Lb1a Lb3 Pt1 Le1 Le2 Pt2 Le3 Lb2 Lf1 Le4. -/
import Derived.Test.YtgcklgeifdefhaaGreatLp5
/- General rules for specs: numbers, weakenings, literals, functions of values at a heap. -/
namespace Go.Proofs.YtgcklgeifdefhaaGreat
open Go Go.Sep
set_option linter.unusedSimpArgs false
set_option linter.unusedVariables false
attribute [local irreducible] CallT
theorem i64_id {n : Int} (h0 : -9223372036854775808 ≤ n) (h1 : n ≤ 9223372036854775807) : IntKind.i64.wrap n = n := wrap64_id h0 h1
theorem wk_int {k : IntKind} {a b : Int} : AV.wk (.p (.int k a)) (.p (.int k b)) = (a = b) := by
  apply propext; constructor
  · intro h; cases h; rfl
  · rintro rfl; exact .refl _
theorem take_all_succ {α : Type} {p : α → Bool} {xs : List α} {i : Nat} (h : i < xs.length) : (xs.take (i + 1)).all p = ((xs.take i).all p && p xs[i]) := by
  rw [List.take_succ_eq_append_getElem h, List.all_append]; simp
theorem getD_lt {α : Type} {xs : List α} {i : Nat} {d : α} (h : i < xs.length) : xs.getD i d = xs[i] := by simp [List.getD, h]
theorem getD_def {α : Type} {xs : List α} {i : Nat} (d e : α) (h : i < xs.length) : xs.getD i d = xs.getD i e := by rw [getD_lt h, getD_lt h]
theorem getD_all {α : Type} {p : α → Prop} {l : List α} {d : α} (h : ∀ b ∈ l, p b) {i : Nat} (hi : i < l.length) : p (l.getD i d) := by
  simp only [List.getD, List.getElem?_eq_getElem hi, Option.getD_some]; exact h _ (List.getElem_mem hi)
theorem take_succ_eq {α : Type} {a b : List α} {i : Nat} (ha : i < a.length) (hb : i < b.length) (h : a.take i = b.take i) (he : a[i] = b[i]) : a.take (i + 1) = b.take (i + 1) := by
  rw [List.take_succ_eq_append_getElem ha, List.take_succ_eq_append_getElem hb, h, he]
theorem range_all_succ {p : Nat → Bool} {n : Nat} : (List.range (n + 1)).all p = ((List.range n).all p && p n) := by
  rw [List.range_succ, List.all_append]; simp
theorem range_all_false {p : Nat → Bool} {n i : Nat} (hi : i < n) (h : p i = false) : (List.range n).all p = false := by
  rw [List.all_eq_false]; exact ⟨i, List.mem_range.2 hi, by simp [h]⟩

theorem Wk.own_le {q sz : Nat} {es : List (List PV)} {H H' : Heap} (hpos : 0 < sz) (hs : Sized sz es) (hq : H q = none) (hle : Heap.le (H.set q (cells es)) H') : Wk (own q sz es) H' (.p (.sl es)) H := by
  have h1 : H' q = some (cells es) := hle q _ (Heap.set_same _ _ _)
  refine .trans (.own hpos hs h1) (.forget (Heap.le_del (fun x b hx => hle x b ?_) hq))
  rw [Heap.set_other (fun e => by rw [e, hq] at hx; cases hx)]; exact hx
/-- What is asked may be told of less. -/
theorem CallT.fin {P : Program} {f : Nat} {args : List AV} {H : Heap} {K : AV → Heap → Prop} (h : CallT P f args H (wkK K)) : CallT P f args H K :=
  h.wk fun v H1 ⟨v', H2, hw, hk⟩ => ⟨v', H2, hw, hk⟩
theorem szI (xs : List Int) : Sized 1 (xs.map eI) := sized_map (f := eI) (fun _ => rfl) xs
theorem cells_I (xs : List Int) : cells (xs.map eI) = xs.map fun n => I n := by
  induction xs with
  | nil => rfl
  | cons x xs ih => simp only [cells, List.map_cons, List.flatten_cons, List.map_append] at ih ⊢; rw [ih]; rfl

/-- A list of lists, a list of booleans. -/
abbrev eL (l : List Int) : List PV := [.sl (l.map eI)]
abbrev Ls (cs : List (List Int)) : AV := .p (.sl (cs.map eL))
abbrev Bs (bs : List Bool) : AV := .p (.sl (bs.map eB))
theorem szL (xs : List (List Int)) : Sized 1 (xs.map eL) := sized_map (f := eL) (fun _ => rfl) xs
theorem szB (xs : List Bool) : Sized 1 (xs.map eB) := sized_map (f := eB) (fun _ => rfl) xs

/-- A row that is told by value at the end. -/
theorem fin_own {q sz : Nat} {es : List (List PV)} {H H' : Heap} {K : AV → Heap → Prop} (hpos : 0 < sz) (hs : Sized sz es) (hq : H q = none) (hle : Heap.le (H.set q (cells es)) H') (h : K (.p (.sl es)) H) : wkK K (own q sz es) H' :=
  ⟨_, _, Wk.own_le hpos hs hq hle, h⟩
theorem fin_le {v : AV} {H H' : Heap} {K : AV → Heap → Prop} (hle : Heap.le H H') (h : K v H) : wkK K v H' := ⟨_, _, .forget hle, h⟩

/-- A function of values alone at one heap. -/
def PuAt (P : Program) (f : Nat) (args : List AV) (H : Heap) (v : AV) : Prop := ∀ K : AV → Heap → Prop, K v H → CallT P f args H K
theorem Pu.at {P : Program} {f : Nat} {args : List AV} {v : AV} (h : Pu P f args v) (H : Heap) : PuAt P f args H v := fun K hk => h.use hk
theorem PuAt.use {P : Program} {f : Nat} {args : List AV} {v : AV} {H : Heap} (h : PuAt P f args H v) {K : AV → Heap → Prop} (k : K v H) : CallT P f args H K := h K k

/-! ### Literals of plain elements -/
def enumP : Nat → List PV → List (Nat × AV)
  | _, [] => []
  | k, v :: vs => (k, .p v) :: enumP (k + 1) vs
theorem fill_enum : ∀ (vs : List PV) (k : Nat) (a : List AV) (b : List AV), a.length = k → vs.length ≤ b.length →
    fillV (fun i => some (i * 1, 1)) (a ++ b) (enumP k vs) = some (a ++ vs.map .p ++ b.drop vs.length)
  | [], k, a, b, h1, h2 => by simp [enumP, fillV]
  | v :: vs, k, a, b, h1, h2 => by
    match b, h2 with
    | x :: b, h2 =>
      have hb : vs.length ≤ b.length := by simpa using h2
      have ih := fill_enum vs (k + 1) (a ++ [.p v]) b (by simp [h1]) hb
      simp only [enumP, fillV, AV.cells, List.length_cons, List.length_nil, Nat.zero_add, Nat.mul_one]
      rw [if_pos ⟨trivial, by simp [h1]⟩]
      have hs : splice (a ++ x :: b) k [AV.p v] = (a ++ [AV.p v]) ++ b := by
        subst h1
        simp [splice, List.append_assoc, List.drop_append]
      rw [hs]
      simp only [Nat.mul_one] at ih
      rw [ih]
      simp
theorem lit_gen {tab : Tab} {t e : Nat} {d ed : TD} {H : Heap} {K : AV → Heap → Prop} (h1 : tab t = some d) (h2 : d.k = .slice e) (h3 : tab e = some ed) (h4 : ed.size = 1 ∧ ed.zero.length = 1) (vs : List PV)
    (hsm : vs.length ≤ 1000)
    (h : K (.p (.sl (vs.map fun v => [v]))) H) : buildSliceV tab t vs.length (enumP 0 vs) H (wkK K) := by
  obtain ⟨z, hz⟩ : ∃ z, ed.zero = [z] := by
    match ed.zero, h4.2 with
    | [z], _ => exact ⟨z, rfl⟩
  simp only [buildSliceV, h1, h2, h3, h4.1]
  refine ⟨by omega, ?_⟩
  have hzl : (zerosA vs.length ed.zero).length = vs.length := by rw [zerosA_len, hz]; simp
  have := fill_enum vs 0 [] (zerosA vs.length ed.zero) rfl (by omega)
  rw [List.nil_append, List.nil_append, List.drop_of_length_le (by omega), List.append_nil] at this
  rw [this]
  intro r hr
  have hf : ∀ vs : List PV, (vs.map fun v => [v]).flatten = vs := by
    intro vs
    induction vs with
    | nil => rfl
    | cons v vs ih => simp only [List.map_cons, List.flatten_cons, ih, List.singleton_append]
  refine ⟨_, _, Wk.trans (Wk.frz (r := r) (sz := 1) (es := vs.map fun v => [v]) (v := .sl r 1 0 vs.length) (v' := .p (.sl (vs.map fun v => [v]))) (by omega) ?_ ?_ ?_) (.forget ?_), h⟩
  · rw [Heap.set_same, hf vs]
  · intro e he; obtain ⟨v, _, rfl⟩ := List.mem_map.1 he; rfl
  · have : FrzR r 1 (vs.map fun v => [v]) (.sl r 1 0 (vs.map fun v => [v]).length) (.p (.sl (vs.map fun v => [v]))) := .here
    rwa [List.length_map] at this
  · rw [Heap.del_set hr]; exact Heap.le_refl _
theorem lit2 {tab : Tab} {t e : Nat} {d ed : TD} {a b : PV} {H : Heap} {K : AV → Heap → Prop} (h1 : tab t = some d) (h2 : d.k = .slice e) (h3 : tab e = some ed) (h4 : ed.size = 1 ∧ ed.zero.length = 1)
    (h : K (.p (.sl [[a], [b]])) H) : buildSliceV tab t 2 [(0, .p a), (1, .p b)] H (wkK K) := lit_gen h1 h2 h3 h4 [a, b] (by simp) h
theorem lit3 {tab : Tab} {t e : Nat} {d ed : TD} {a b c : PV} {H : Heap} {K : AV → Heap → Prop} (h1 : tab t = some d) (h2 : d.k = .slice e) (h3 : tab e = some ed) (h4 : ed.size = 1 ∧ ed.zero.length = 1)
    (h : K (.p (.sl [[a], [b], [c]])) H) : buildSliceV tab t 3 [(0, .p a), (1, .p b), (2, .p c)] H (wkK K) := lit_gen h1 h2 h3 h4 [a, b, c] (by simp) h
theorem lit4 {tab : Tab} {t e : Nat} {d ed : TD} {a b c f : PV} {H : Heap} {K : AV → Heap → Prop} (h1 : tab t = some d) (h2 : d.k = .slice e) (h3 : tab e = some ed) (h4 : ed.size = 1 ∧ ed.zero.length = 1)
    (h : K (.p (.sl [[a], [b], [c], [f]])) H) : buildSliceV tab t 4 [(0, .p a), (1, .p b), (2, .p c), (3, .p f)] H (wkK K) := lit_gen h1 h2 h3 h4 [a, b, c, f] (by simp) h
end Go.Proofs.YtgcklgeifdefhaaGreat
/- Spec: numbers in ranges. -/
namespace Go.Proofs.YtgcklgeifdefhaaGreat
open Go Go.Sep
set_option linter.unusedSimpArgs false
set_option linter.unusedVariables false
attribute [local irreducible] CallT
theorem l1In_spec (a lo hi : Int) : Pu Tryz.prog 52 [I a, I lo, I hi] (B (decide (lo ≤ a) && decide (a ≤ hi))) := by
  refine Pu.of fun H => ?_
  refine W52_ok ?_; simp (maxSteps := 1000000) (disch := (first | assumption | (apply Ne.symm; assumption))) only [W52, vw0, vw1, vw2, vw3, vw4, vu0, vu1, ↓condV_t, ↓condV_f, cap_nil, allocV, splice, partV, buildV, eqFieldsV, eqS, tabs, TK.agg, reduceCtorEq, Array.toList, List.map_cons, List.map_nil, ↓reduceIte, List.length_map, Nat.reduceAdd, Nat.reduceLeDiff, Nat.reduceLT, Nat.reduceMul, Nat.reduceSub, Option.bind_some, Option.map_some, bndV, numV, eI, eU, e8, eB, AV.isCell, Int.reduceToNat, Int.reduceSub, Int.reduceAdd, Int.reduceNeg]
  exact ⟨fun h => by simp [h], fun h => by simp [h]⟩

end Go.Proofs.YtgcklgeifdefhaaGreat
/- Rules for rows that are filled one element after the other. -/
namespace Go.Proofs.YtgcklgeifdefhaaGreat
open Go Go.Sep
set_option linter.unusedSimpArgs false
set_option linter.unusedVariables false

/-- The cells of a row whose first i elements are told. -/
def rowZ {α : Type} (e : α → List PV) (zero : List AV) (xs : List α) (i : Nat) : List AV := cells ((xs.take i).map e) ++ zerosA (xs.length - i) zero
theorem rowZ_zero {α : Type} {e : α → List PV} {zero : List AV} {xs : List α} : rowZ e zero xs 0 = zerosA xs.length zero := by simp [rowZ, cells]
theorem rowZ_end {α : Type} {e : α → List PV} {zero : List AV} {xs : List α} : rowZ e zero xs xs.length = cells (xs.map e) := by
  simp [rowZ, zerosA]
theorem cells_map_len {α : Type} {e : α → List PV} {sz : Nat} (h : ∀ a, (e a).length = sz) (xs : List α) : (cells (xs.map e)).length = xs.length * sz := by
  rw [cells_len (sized_map h xs), List.length_map]
theorem rowZ_len {α : Type} {e : α → List PV} {zero : List AV} {xs : List α} {i sz : Nat} (h : ∀ a, (e a).length = sz) (hz : zero.length = sz) (hi : i ≤ xs.length) : (rowZ e zero xs i).length = xs.length * sz := by
  rw [rowZ, List.length_append, cells_map_len h, zerosA_len, hz, List.length_take, Nat.min_eq_left hi, ← Nat.add_mul]
  congr 1; omega
theorem zerosA_succ (n : Nat) (z : List AV) : zerosA (n + 1) z = z ++ zerosA n z := by simp [zerosA, List.replicate_succ]
theorem rowZ_put {α : Type} [Inhabited α] {e : α → List PV} {zero : List AV} {xs : List α} {i sz : Nat} (h : ∀ a, (e a).length = sz) (hz : zero.length = sz) (hi : i < xs.length) {off : Nat} (ho : off = i * sz) {n : Nat} (hn : n = sz) :
    List.take off (rowZ e zero xs i) ++ (e (xs.getD i default)).map .p ++ List.drop (off + n) (rowZ e zero xs i) = rowZ e zero xs (i + 1) := by
  subst ho; subst hn
  have hl : (cells ((xs.take i).map e)).length = i * n := by rw [cells_map_len h, List.length_take, Nat.min_eq_left (Nat.le_of_lt hi)]
  have e1 : List.take (i * n) (rowZ e zero xs i) = cells ((xs.take i).map e) := by
    rw [rowZ, List.take_append_of_le_length (by omega), List.take_of_length_le (by omega)]
  have e2 : List.drop (i * n + n) (rowZ e zero xs i) = zerosA (xs.length - (i + 1)) zero := by
    rw [rowZ, List.drop_append, List.drop_of_length_le (by omega), List.nil_append, hl, Nat.add_sub_cancel_left]
    obtain ⟨m, hm⟩ : ∃ m, xs.length - i = m + 1 := ⟨xs.length - i - 1, by omega⟩
    rw [hm, zerosA_succ, List.drop_append_of_le_length (by omega), List.drop_of_length_le (by omega), List.nil_append]
    congr 1; omega
  rw [e1, e2, rowZ]
  congr 1
  rw [List.take_succ_eq_append_getElem hi, List.map_append, cells_app]
  congr 1
  simp [cells, List.getD, hi]
end Go.Proofs.YtgcklgeifdefhaaGreat
/- Plain facts: terms and their kinds; classes of states. -/
namespace Go.Pt
structure Nd where
  op : Int
  n : Int
deriving Inhabited, DecidableEq
structure Ch where
  var : Int
  by_ : List Nd
deriving Inhabited, DecidableEq
structure Cm where
  when_ : List Nd
  chs : List Ch
deriving Inhabited, DecidableEq
structure Pg where
  wide : Int
  vars : Int
  start : List Nd
  cmds : List Cm
deriving Inhabited, DecidableEq

def inB (n lo hi : Int) : Bool := decide (lo ≤ n) && decide (n ≤ hi)
theorem inB_iff {n lo hi : Int} : inB n lo hi = true ↔ lo ≤ n ∧ n ≤ hi := by simp [inB]
theorem inB_f {n lo hi : Int} (h : ¬ (lo ≤ n ∧ n ≤ hi)) : inB n lo hi = false := by rw [Bool.eq_false_iff]; intro h2; exact h (inB_iff.1 h2)

def own (op : Int) : Int :=
  if op = 1 ∨ op = 2 ∨ op = 13 ∨ (3 ≤ op ∧ op ≤ 12) then 1
  else if op = 20 ∨ op = 19 ∨ (14 ≤ op ∧ op ≤ 16) ∨ op = 17 ∨ op = 18 then 2 else 0
def many (op : Int) : Nat :=
  if op = 13 ∨ op = 19 then 1 else if (3 ≤ op ∧ op ≤ 12) ∨ (14 ≤ op ∧ op ≤ 16) ∨ op = 17 ∨ op = 18 then 2 else 0
def part (op : Int) : Int :=
  if op = 13 ∨ (3 ≤ op ∧ op ≤ 12) ∨ (14 ≤ op ∧ op ≤ 16) then 1 else 2
def leafOk (wide vars : Int) (x : Nd) : Bool :=
  if x.op = 1 then inB wide 1 64 && decide (x.n < 2 ^ wide.toNat)
  else if x.op = 2 then decide (x.n < vars)
  else if x.op = 20 then decide (x.n ≤ 1)
  else decide (x.n = 0)

def step (w v : Int) (p : List Int) (x : Nd) : Option (List Int) :=
  if own x.op = 0 ∨ leafOk w v x = false ∨ p.length < many x.op then none
  else if (p.drop (p.length - many x.op)).any (fun k => decide (k ≠ part x.op)) then none
  else some (p.take (p.length - many x.op) ++ [own x.op])
def run (w v : Int) : List Int → List Nd → Option (List Int)
  | p, [] => some p
  | p, x :: xs => (step w v p x).bind fun p' => run w v p' xs
theorem run_app (w v : Int) : ∀ (p : List Int) (xs ys : List Nd), run w v p (xs ++ ys) = (run w v p xs).bind fun p' => run w v p' ys
  | p, [], ys => rfl
  | p, x :: xs, ys => by
    simp only [List.cons_append, run]
    cases step w v p x with
    | none => rfl
    | some p' => simp only [Option.bind_some]; exact run_app w v p' xs ys
theorem run_snoc (w v : Int) (p : List Int) (xs : List Nd) (x : Nd) : run w v p (xs ++ [x]) = (run w v p xs).bind fun p' => step w v p' x := by
  rw [run_app]
  cases run w v p xs with
  | none => rfl
  | some p' =>
    simp only [Option.bind_some, run]
    cases step w v p' x <;> rfl

def frame (w v : Int) (t : List Nd) : Bool := inB w 1 64 && inB v 1 4 && (decide (1 ≤ t.length) && decide (t.length ≤ 48))
def kind (w v : Int) (t : List Nd) : Int :=
  if frame w v t then (match run w v [] t with
    | some [k] => k
    | _ => 0) else 0

theorem take_succ_snoc {α : Type} [Inhabited α] {xs : List α} {i : Nat} (h : i < xs.length) : xs.take (i + 1) = xs.take i ++ [xs.getD i default] := by
  rw [List.take_succ_eq_append_getElem h]; simp [List.getD, h]
theorem run_none (w v : Int) {t : List Nd} {i : Nat} (hi : i < t.length) {p : List Int} (h : run w v [] (t.take i) = some p) (hs : step w v p (t.getD i default) = none) : run w v [] t = none := by
  have e : t = t.take (i + 1) ++ t.drop (i + 1) := (List.take_append_drop _ _).symm
  rw [e, run_app, take_succ_snoc hi, run_snoc, h]
  simp only [Option.bind_some]
  rw [hs]; rfl

theorem own_pos (op : Int) (h : own op ≠ 0) : own op = 1 ∨ own op = 2 := by
  unfold own at *
  repeat' split at h
  all_goals simp_all
theorem step_last {w v : Int} {p p' : List Int} {x : Nd} (h : step w v p x = some p') : ∃ q, p' = q ++ [own x.op] ∧ own x.op ≠ 0 := by
  unfold step at h
  split at h
  · cases h
  · rename_i h1
    split at h
    · cases h
    · injection h with h
      exact ⟨_, h.symm, fun e => h1 (.inl e)⟩
/-- The last of the pile is the kind of the last node. -/
theorem run_last {w v : Int} {t : List Nd} (ht : t ≠ []) {p : List Int} (h : run w v [] t = some p) : ∃ q, p = q ++ [own (t.getD (t.length - 1) default).op] ∧ own (t.getD (t.length - 1) default).op ≠ 0 := by
  have hpos : 0 < t.length := List.length_pos_iff.2 ht
  have e : t = t.take (t.length - 1) ++ [t.getD (t.length - 1) default] := by
    have := take_succ_snoc (xs := t) (i := t.length - 1) (by omega)
    rw [show t.length - 1 + 1 = t.length by omega, List.take_length] at this
    exact this
  generalize t.getD (t.length - 1) default = x at e ⊢
  rw [e, run_snoc] at h
  cases h1 : run w v [] (t.take (t.length - 1)) with
  | none => rw [h1] at h; cases h
  | some p1 => rw [h1] at h; exact step_last h

/-- A term is good, and of a kind. -/
theorem kind_eq {w v : Int} {t : List Nd} (hf : frame w v t = true) (k : Int) (hk : k ≠ 0) :
    decide (kind w v t = k) = (match run w v [] t with
      | some p => decide (p.length = 1) && decide (own (t.getD (t.length - 1) default).op = k)
      | none => false) := by
  have ht : t ≠ [] := by
    intro e; subst e
    simp [frame] at hf
  unfold kind
  rw [if_pos hf]
  cases h : run w v [] t with
  | none => simp [Ne.symm hk]
  | some p =>
    obtain ⟨q, e, _⟩ := run_last ht h
    dsimp only
    generalize own (t.getD (t.length - 1) default).op = o at e ⊢
    subst e
    cases q with
    | nil => simp
    | cons a q => 
      cases q with
      | nil => simp [Ne.symm hk]
      | cons b q => simp [Ne.symm hk]
theorem kind_f {w v : Int} {t : List Nd} (hf : frame w v t = false) : kind w v t = 0 := by simp [kind, hf]

/-! ### Programs -/
def goodCh (w v : Int) (prev : Option Int) (c : Ch) : Bool := inB c.var 0 (v - 1) && (match prev with
  | some p => decide (p < c.var)
  | none => true) && decide (kind w v c.by_ = 1)
def goodCm (w v : Int) (c : Cm) : Bool := decide (kind w v c.when_ = 2) && ((List.range c.chs.length).all fun i => goodCh w v (if i = 0 then none else some (c.chs.getD (i - 1) default).var) (c.chs.getD i default))
def goodP (p : Pg) : Bool := decide (kind p.wide p.vars p.start = 2) && (decide (1 ≤ p.cmds.length) && decide (p.cmds.length ≤ 6)) && p.cmds.all (goodCm p.wide p.vars)
def smallP (p : Pg) : Bool := goodP p && decide (p.wide * p.vars ≤ 5)
def statesP (p : Pg) : Int := 2 ^ (p.wide * p.vars).toNat

theorem kind2_frame {w v : Int} {t : List Nd} (h : kind w v t = 2) : (1 ≤ w ∧ w ≤ 64) ∧ (1 ≤ v ∧ v ≤ 4) := by
  unfold kind at h
  split at h
  · rename_i hf
    simp only [frame, Bool.and_eq_true, inB_iff] at hf
    exact hf.1
  · cases h
theorem goodP_rng {p : Pg} (h : goodP p = true) : (1 ≤ p.wide ∧ p.wide ≤ 64) ∧ (1 ≤ p.vars ∧ p.vars ≤ 4) := by
  simp only [goodP, Bool.and_eq_true, decide_eq_true_eq] at h
  exact kind2_frame h.1.1

/-- The changes of a command are at rising variables: there are no more of them than variables. -/
theorem goodCm_len {w v : Int} {c : Cm} (h : goodCm w v c = true) : (c.chs.length : Int) ≤ v ∨ c.chs.length = 0 := by
  simp only [goodCm, Bool.and_eq_true, List.all_eq_true, List.mem_range] at h
  have key : ∀ i, i < c.chs.length → (i : Int) ≤ (c.chs.getD i default).var := by
    intro i
    induction i with
    | zero =>
      intro hi
      have := h.2 0 hi
      simp only [goodCh, Bool.and_eq_true, inB_iff] at this
      omega
    | succ i ih =>
      intro hi
      have h1 := ih (by omega)
      have := h.2 (i + 1) hi
      simp only [goodCh, Bool.and_eq_true, inB_iff, Nat.succ_ne_zero, if_false, Nat.add_sub_cancel, decide_eq_true_eq] at this
      omega
  by_cases h0 : c.chs.length = 0
  · exact .inr h0
  · left
    have h1 := key (c.chs.length - 1) (by omega)
    have := h.2 (c.chs.length - 1) (by omega)
    simp only [goodCh, Bool.and_eq_true, inB_iff] at this
    omega

/-! ### Classes -/
def runS : Int → List Int → Option Int
  | c, [] => some c
  | c, k :: ks => if k < 0 ∨ c < k then none else runS (if k = c then c + 1 else c) ks
theorem runS_app : ∀ (c : Int) (xs ys : List Int), runS c (xs ++ ys) = (runS c xs).bind fun c' => runS c' ys
  | c, [], ys => rfl
  | c, k :: xs, ys => by
    simp only [List.cons_append, runS]
    split
    · rfl
    · exact runS_app _ xs ys
theorem runS_snoc (c : Int) (xs : List Int) (k : Int) : runS c (xs ++ [k]) = (runS c xs).bind fun c' => if k < 0 ∨ c' < k then none else some (if k = c' then c' + 1 else c') := by
  rw [runS_app]
  cases runS c xs with
  | none => rfl
  | some c' => simp only [Option.bind_some, runS]
theorem runS_none {xs : List Int} {i : Nat} (hi : i < xs.length) {c : Int} (h : runS 0 (xs.take i) = some c) (hb : xs.getD i default < 0 ∨ c < xs.getD i default) : runS 0 xs = none := by
  have e : xs = xs.take (i + 1) ++ xs.drop (i + 1) := (List.take_append_drop _ _).symm
  rw [e, runS_app, take_succ_snoc hi, runS_snoc, h]
  simp only [Option.bind_some]
  rw [if_pos hb]; rfl
theorem runS_rng : ∀ (xs : List Int) (c c' : Int), 0 ≤ c → runS c xs = some c' → c ≤ c' ∧ c' ≤ c + xs.length
  | [], c, c', _, h => by simp [runS] at h; simp; omega
  | k :: xs, c, c', h0, h => by
    simp only [runS] at h
    split at h
    · cases h
    · have := runS_rng xs _ c' (by split <;> omega) h
      simp only [List.length_cons]
      split at this <;> omega
def goodSt (p : Pg) (of : List Int) : Bool := smallP p && (decide ((of.length : Int) = statesP p) && (runS 0 of).isSome)
end Go.Pt
/- Specs: sizes, copies and comparisons of programs and of lists of classes. -/
namespace Go.Proofs.YtgcklgeifdefhaaGreat
open Go Go.Sep Go.Pt
set_option linter.unusedSimpArgs false
set_option linter.unusedVariables false
attribute [local irreducible] CallT

abbrev eN (x : Nd) : List PV := [.int .i64 x.op, .int .u64 x.n]
abbrev aN (x : Nd) : AV := .agg [I x.op, U x.n]
abbrev Ns (xs : List Nd) : AV := .p (.sl (xs.map eN))
abbrev eCh (c : Ch) : List PV := [.int .i64 c.var, .sl (c.by_.map eN)]
abbrev aCh (c : Ch) : AV := .agg [I c.var, Ns c.by_]
abbrev Chs (cs : List Ch) : AV := .p (.sl (cs.map eCh))
abbrev eCm (c : Cm) : List PV := [.sl (c.when_.map eN), .sl (c.chs.map eCh)]
abbrev aCm (c : Cm) : AV := .agg [Ns c.when_, Chs c.chs]
abbrev Cms (cs : List Cm) : AV := .p (.sl (cs.map eCm))
abbrev aPg (p : Pg) : AV := .agg [I p.wide, I p.vars, Ns p.start, Cms p.cmds]
abbrev aS (of : List Int) : AV := .agg [Is of]

/-- As long as a list can be. -/
def ok (n : Nat) : Prop := n ≤ 9223372036854775807
def okCh (c : Ch) : Prop := ok c.by_.length
def okChs (cs : List Ch) : Prop := ok cs.length ∧ ∀ c ∈ cs, okCh c
def okCm (c : Cm) : Prop := ok c.when_.length ∧ okChs c.chs
def okCms (cs : List Cm) : Prop := ok cs.length ∧ ∀ c ∈ cs, okCm c
def okPg (p : Pg) : Prop := ok p.start.length ∧ okCms p.cmds
def psum {α : Type} (f : α → Nat) (xs : List α) (i : Nat) : Nat := ((xs.take i).map f).sum
theorem psum_succ {α : Type} [Inhabited α] {f : α → Nat} {xs : List α} {i : Nat} (h : i < xs.length) : psum f xs (i + 1) = psum f xs i + f (xs.getD i default) := by
  rw [psum, take_succ_snoc h, List.map_append, List.sum_append]; simp [psum]
theorem psum_le {α : Type} {f : α → Nat} {xs : List α} (i : Nat) : psum f xs i ≤ psum f xs xs.length := by
  rw [psum, psum, List.take_length]
  conv => rhs; rw [← List.take_append_drop i xs]
  rw [List.map_append, List.sum_append]; omega
def totCh (c : Ch) : Nat := c.by_.length
def totChs (cs : List Ch) : Nat := cs.length + psum totCh cs cs.length
def totCm (c : Cm) : Nat := c.when_.length + totChs c.chs
def totCms (cs : List Cm) : Nat := cs.length + psum totCm cs cs.length
def totPg (p : Pg) : Nat := p.start.length + totCms p.cmds
/-- What is left of a size. -/
def szR (left : Int) (n : Nat) : Int := if (n : Int) ≤ left then left - n else -1
theorem szR_neg {left : Int} {n : Nat} (h : left < n) : szR left n = -1 := by rw [szR, if_neg (by omega)]
theorem szR_pos {left : Int} {n : Nat} (h : (n : Int) ≤ left) : szR left n = left - n := by rw [szR, if_pos h]

theorem szNodeS_spec (t : List Nd) (left : Int) (h0 : 0 ≤ left) (h1 : left ≤ 1048576) (hl : ok t.length) : Pu Tryz.prog 74 [Ns t, I left] (I (szR left t.length)) := by
  refine Pu.of fun H => ?_
  unfold ok at hl
  have e : IntKind.i64.wrap (left - t.length) = left - t.length := i64_id (by omega) (by omega)
  refine W74_ok ?_; simp (maxSteps := 1000000) (disch := (first | assumption | (apply Ne.symm; assumption))) only [W74, vw0, vw1, vw2, vw3, vw4, vu0, vu1, ↓condV_t, ↓condV_f, cap_nil, allocV, splice, partV, buildV, eqFieldsV, eqS, tabs, TK.agg, reduceCtorEq, Array.toList, List.map_cons, List.map_nil, ↓reduceIte, List.length_map, Nat.reduceAdd, Nat.reduceLeDiff, Nat.reduceLT, Nat.reduceMul, Nat.reduceSub, Option.bind_some, Option.map_some, bndV, numV, eI, eU, e8, eB, AV.isCell, Int.reduceToNat, Int.reduceSub, Int.reduceAdd, Int.reduceNeg, e]
  refine ⟨fun h => by rw [szR_neg (by omega)], fun h => by rw [szR_pos (by omega)]⟩
theorem szChange_spec (c : Ch) (left : Int) (h0 : 0 ≤ left) (h1 : left ≤ 1048576) (hl : okCh c) : Pu Tryz.prog 183 [aCh c, I left] (I (szR left (totCh c))) := by
  refine Pu.of fun H => ?_
  refine W183_ok ?_; simp (maxSteps := 1000000) (disch := (first | assumption | (apply Ne.symm; assumption))) only [W183, vw0, vw1, vw2, vw3, vw4, vu0, vu1, ↓condV_t, ↓condV_f, cap_nil, allocV, splice, partV, buildV, eqFieldsV, eqS, tabs, TK.agg, reduceCtorEq, Array.toList, List.map_cons, List.map_nil, ↓reduceIte, List.length_map, Nat.reduceAdd, Nat.reduceLeDiff, Nat.reduceLT, Nat.reduceMul, Nat.reduceSub, Option.bind_some, Option.map_some, bndV, numV, eI, eU, e8, eB, AV.isCell, Int.reduceToNat, Int.reduceSub, Int.reduceAdd, Int.reduceNeg]
  intro r hr
  refine Pu.use (szNodeS_spec c.by_ left h0 h1 hl) ?_
  (try simp (maxSteps := 1000000) (disch := (first | assumption | (apply Ne.symm; assumption))) only [vw0, vw1, vw2, vw3, vw4, vu0, vu1, ↓condV_t, ↓condV_f, cap_nil, allocV, splice, partV, buildV, eqFieldsV, eqS, tabs, TK.agg, reduceCtorEq, Array.toList, List.map_cons, List.map_nil, ↓reduceIte, List.length_map, Nat.reduceAdd, Nat.reduceLeDiff, Nat.reduceLT, Nat.reduceMul, Nat.reduceSub, Option.bind_some, Option.map_some, bndV, numV, eI, eU, e8, eB, AV.isCell, Int.reduceToNat, Int.reduceSub, Int.reduceAdd, Int.reduceNeg])
  refine ⟨fun h => ⟨?_, Heap.le_set hr⟩, fun h => ⟨rfl, Heap.le_set hr⟩⟩
  unfold totCh szR at *
  split at h
  · omega
  · rename_i h2; rw [if_neg h2]

theorem szChangeS_spec (cs : List Ch) (left : Int) (h0 : 0 ≤ left) (h1 : left ≤ 1048576) (hl : okChs cs) : Pu Tryz.prog 165 [Chs cs, I left] (I (szR left (totChs cs))) := by
  refine Pu.of fun H => ?_
  have hl1 := hl.1
  unfold ok at hl1
  have e : IntKind.i64.wrap (left - cs.length) = left - cs.length := i64_id (by omega) (by omega)
  refine W165_ok ?_; simp (maxSteps := 1000000) (disch := (first | assumption | (apply Ne.symm; assumption))) only [W165, vw0, vw1, vw2, vw3, vw4, vu0, vu1, ↓condV_t, ↓condV_f, cap_nil, allocV, splice, partV, buildV, eqFieldsV, eqS, tabs, TK.agg, reduceCtorEq, Array.toList, List.map_cons, List.map_nil, ↓reduceIte, List.length_map, Nat.reduceAdd, Nat.reduceLeDiff, Nat.reduceLT, Nat.reduceMul, Nat.reduceSub, Option.bind_some, Option.map_some, bndV, numV, eI, eU, e8, eB, AV.isCell, Int.reduceToNat, Int.reduceSub, Int.reduceAdd, Int.reduceNeg, e]
  refine ⟨fun h => by rw [szR_neg (by unfold totChs; omega)], fun h => ?_⟩
  refine L165_0_rule (0 : Nat) (fun i => I (left - cs.length - psum totCh cs i)) (fun i => I i) (fun _ => H) (fun i => i ≤ cs.length ∧ (cs.length : Int) + psum totCh cs i ≤ left) (fun i => cs.length - i) ⟨⟨by omega, by simp [psum]; omega⟩, ?_, .refl _, Heap.le_refl _⟩ ?_
  · rw [wk_int]; simp [psum]
  rintro i ⟨hi, hs⟩
  (try simp (maxSteps := 1000000) (disch := (first | assumption | (apply Ne.symm; assumption))) only [vw0, vw1, vw2, vw3, vw4, vu0, vu1, ↓condV_t, ↓condV_f, cap_nil, allocV, splice, partV, buildV, eqFieldsV, eqS, tabs, TK.agg, reduceCtorEq, Array.toList, List.map_cons, List.map_nil, ↓reduceIte, List.length_map, Nat.reduceAdd, Nat.reduceLeDiff, Nat.reduceLT, Nat.reduceMul, Nat.reduceSub, Option.bind_some, Option.map_some, bndV, numV, eI, eU, e8, eB, AV.isCell, Int.reduceToNat, Int.reduceSub, Int.reduceAdd, Int.reduceNeg, B165_0])
  refine ⟨fun h2 => ⟨by omega, h2, ?_⟩, fun h2 => ?_⟩
  · have hlt : i < cs.length := by omega
    have hm : cs.getD i default ∈ cs := getD_all (p := fun x => x ∈ cs) (fun _ h => h) hlt
    refine Pu.use (szChange_spec (cs.getD i default) _ (by omega) (by omega) (hl.2 _ hm)) ?_
    have hsucc := psum_succ (f := totCh) hlt
    have hle := psum_le (f := totCh) (xs := cs) (i + 1)
    (try simp (maxSteps := 1000000) (disch := (first | assumption | (apply Ne.symm; assumption))) only [vw0, vw1, vw2, vw3, vw4, vu0, vu1, ↓condV_t, ↓condV_f, cap_nil, allocV, splice, partV, buildV, eqFieldsV, eqS, tabs, TK.agg, reduceCtorEq, Array.toList, List.map_cons, List.map_nil, ↓reduceIte, List.length_map, Nat.reduceAdd, Nat.reduceLeDiff, Nat.reduceLT, Nat.reduceMul, Nat.reduceSub, Option.bind_some, Option.map_some, bndV, numV, eI, eU, e8, eB, AV.isCell, Int.reduceToNat, Int.reduceSub, Int.reduceAdd, Int.reduceNeg])
    refine ⟨fun h3 => ?_, fun h3 => ⟨i + 1, ⟨by omega, ?_⟩, by omega, ?_, ?_⟩⟩
    · rw [szR_neg]
      unfold szR at h3
      unfold totChs
      split at h3 <;> omega
    · unfold szR at h3
      split at h3 <;> omega
    · rw [wk_int]
      unfold szR at h3 ⊢
      split at h3
      · rename_i h4; rw [if_pos h4]; omega
      · omega
    · rw [wk_int, i64_id (by omega) (by omega)]; simp
  · have : i = cs.length := by omega
    subst this
    rw [szR_pos (by unfold totChs; omega)]
    unfold totChs
    exact congrArg (fun n : Int => I n) (by omega)

theorem szCommand_spec (c : Cm) (left : Int) (h0 : 0 ≤ left) (h1 : left ≤ 1048576) (hl : okCm c) : Pu Tryz.prog 119 [aCm c, I left] (I (szR left (totCm c))) := by
  refine Pu.of fun H => ?_
  refine W119_ok ?_; simp (maxSteps := 1000000) (disch := (first | assumption | (apply Ne.symm; assumption))) only [W119, vw0, vw1, vw2, vw3, vw4, vu0, vu1, ↓condV_t, ↓condV_f, cap_nil, allocV, splice, partV, buildV, eqFieldsV, eqS, tabs, TK.agg, reduceCtorEq, Array.toList, List.map_cons, List.map_nil, ↓reduceIte, List.length_map, Nat.reduceAdd, Nat.reduceLeDiff, Nat.reduceLT, Nat.reduceMul, Nat.reduceSub, Option.bind_some, Option.map_some, bndV, numV, eI, eU, e8, eB, AV.isCell, Int.reduceToNat, Int.reduceSub, Int.reduceAdd, Int.reduceNeg]
  intro r hr
  refine Pu.use (szNodeS_spec c.when_ left h0 h1 hl.1) ?_
  (try simp (maxSteps := 1000000) (disch := (first | assumption | (apply Ne.symm; assumption))) only [vw0, vw1, vw2, vw3, vw4, vu0, vu1, ↓condV_t, ↓condV_f, cap_nil, allocV, splice, partV, buildV, eqFieldsV, eqS, tabs, TK.agg, reduceCtorEq, Array.toList, List.map_cons, List.map_nil, ↓reduceIte, List.length_map, Nat.reduceAdd, Nat.reduceLeDiff, Nat.reduceLT, Nat.reduceMul, Nat.reduceSub, Option.bind_some, Option.map_some, bndV, numV, eI, eU, e8, eB, AV.isCell, Int.reduceToNat, Int.reduceSub, Int.reduceAdd, Int.reduceNeg])
  refine ⟨fun h => ⟨?_, Heap.le_set hr⟩, fun h => ?_⟩
  · unfold szR at h
    rw [szR_neg]
    unfold totCm
    split at h <;> omega
  · have h4 : (c.when_.length : Int) ≤ left := by
      unfold szR at h
      split at h <;> omega
    rw [szR_pos h4]
    refine Pu.use (szChangeS_spec c.chs _ (by omega) (by omega) hl.2) ?_
    (try simp (maxSteps := 1000000) (disch := (first | assumption | (apply Ne.symm; assumption))) only [vw0, vw1, vw2, vw3, vw4, vu0, vu1, ↓condV_t, ↓condV_f, cap_nil, allocV, splice, partV, buildV, eqFieldsV, eqS, tabs, TK.agg, reduceCtorEq, Array.toList, List.map_cons, List.map_nil, ↓reduceIte, List.length_map, Nat.reduceAdd, Nat.reduceLeDiff, Nat.reduceLT, Nat.reduceMul, Nat.reduceSub, Option.bind_some, Option.map_some, bndV, numV, eI, eU, e8, eB, AV.isCell, Int.reduceToNat, Int.reduceSub, Int.reduceAdd, Int.reduceNeg])
    refine ⟨fun h => ⟨?_, Heap.le_set hr⟩, fun h => ⟨?_, Heap.le_set hr⟩⟩
    · unfold szR at h
      rw [szR_neg]
      unfold totCm
      split at h <;> omega
    · unfold szR at h
      split at h
      · rename_i h5
        rw [szR_pos h5, szR_pos (by unfold totCm; omega)]
        unfold totCm
        exact congrArg (fun n : Int => I n) (by omega)
      · omega

theorem szCommandS_spec (cs : List Cm) (left : Int) (h0 : 0 ≤ left) (h1 : left ≤ 1048576) (hl : okCms cs) : Pu Tryz.prog 75 [Cms cs, I left] (I (szR left (totCms cs))) := by
  refine Pu.of fun H => ?_
  have hl1 := hl.1
  unfold ok at hl1
  have e : IntKind.i64.wrap (left - cs.length) = left - cs.length := i64_id (by omega) (by omega)
  refine W75_ok ?_; simp (maxSteps := 1000000) (disch := (first | assumption | (apply Ne.symm; assumption))) only [W75, vw0, vw1, vw2, vw3, vw4, vu0, vu1, ↓condV_t, ↓condV_f, cap_nil, allocV, splice, partV, buildV, eqFieldsV, eqS, tabs, TK.agg, reduceCtorEq, Array.toList, List.map_cons, List.map_nil, ↓reduceIte, List.length_map, Nat.reduceAdd, Nat.reduceLeDiff, Nat.reduceLT, Nat.reduceMul, Nat.reduceSub, Option.bind_some, Option.map_some, bndV, numV, eI, eU, e8, eB, AV.isCell, Int.reduceToNat, Int.reduceSub, Int.reduceAdd, Int.reduceNeg, e]
  refine ⟨fun h => by rw [szR_neg (by unfold totCms; omega)], fun h => ?_⟩
  refine L75_0_rule (0 : Nat) (fun i => I (left - cs.length - psum totCm cs i)) (fun i => I i) (fun _ => H) (fun i => i ≤ cs.length ∧ (cs.length : Int) + psum totCm cs i ≤ left) (fun i => cs.length - i) ⟨⟨by omega, by simp [psum]; omega⟩, ?_, .refl _, Heap.le_refl _⟩ ?_
  · rw [wk_int]; simp [psum]
  rintro i ⟨hi, hs⟩
  (try simp (maxSteps := 1000000) (disch := (first | assumption | (apply Ne.symm; assumption))) only [vw0, vw1, vw2, vw3, vw4, vu0, vu1, ↓condV_t, ↓condV_f, cap_nil, allocV, splice, partV, buildV, eqFieldsV, eqS, tabs, TK.agg, reduceCtorEq, Array.toList, List.map_cons, List.map_nil, ↓reduceIte, List.length_map, Nat.reduceAdd, Nat.reduceLeDiff, Nat.reduceLT, Nat.reduceMul, Nat.reduceSub, Option.bind_some, Option.map_some, bndV, numV, eI, eU, e8, eB, AV.isCell, Int.reduceToNat, Int.reduceSub, Int.reduceAdd, Int.reduceNeg, B75_0])
  refine ⟨fun h2 => ⟨by omega, h2, ?_⟩, fun h2 => ?_⟩
  · have hlt : i < cs.length := by omega
    have hm : cs.getD i default ∈ cs := getD_all (p := fun x => x ∈ cs) (fun _ h => h) hlt
    refine Pu.use (szCommand_spec (cs.getD i default) _ (by omega) (by omega) (hl.2 _ hm)) ?_
    have hsucc := psum_succ (f := totCm) hlt
    have hle := psum_le (f := totCm) (xs := cs) (i + 1)
    (try simp (maxSteps := 1000000) (disch := (first | assumption | (apply Ne.symm; assumption))) only [vw0, vw1, vw2, vw3, vw4, vu0, vu1, ↓condV_t, ↓condV_f, cap_nil, allocV, splice, partV, buildV, eqFieldsV, eqS, tabs, TK.agg, reduceCtorEq, Array.toList, List.map_cons, List.map_nil, ↓reduceIte, List.length_map, Nat.reduceAdd, Nat.reduceLeDiff, Nat.reduceLT, Nat.reduceMul, Nat.reduceSub, Option.bind_some, Option.map_some, bndV, numV, eI, eU, e8, eB, AV.isCell, Int.reduceToNat, Int.reduceSub, Int.reduceAdd, Int.reduceNeg])
    refine ⟨fun h3 => ?_, fun h3 => ⟨i + 1, ⟨by omega, ?_⟩, by omega, ?_, ?_⟩⟩
    · rw [szR_neg]
      unfold szR at h3
      unfold totCms
      split at h3 <;> omega
    · unfold szR at h3
      split at h3 <;> omega
    · rw [wk_int]
      unfold szR at h3 ⊢
      split at h3
      · rename_i h4; rw [if_pos h4]; omega
      · omega
    · rw [wk_int, i64_id (by omega) (by omega)]; simp
  · have : i = cs.length := by omega
    subst this
    rw [szR_pos (by unfold totCms; omega)]
    unfold totCms
    exact congrArg (fun n : Int => I n) (by omega)

theorem szProgram_spec (c : Pg) (left : Int) (h0 : 0 ≤ left) (h1 : left ≤ 1048576) (hl : okPg c) : Pu Tryz.prog 35 [aPg c, I left] (I (szR left (totPg c))) := by
  refine Pu.of fun H => ?_
  refine W35_ok ?_; simp (maxSteps := 1000000) (disch := (first | assumption | (apply Ne.symm; assumption))) only [W35, vw0, vw1, vw2, vw3, vw4, vu0, vu1, ↓condV_t, ↓condV_f, cap_nil, allocV, splice, partV, buildV, eqFieldsV, eqS, tabs, TK.agg, reduceCtorEq, Array.toList, List.map_cons, List.map_nil, ↓reduceIte, List.length_map, Nat.reduceAdd, Nat.reduceLeDiff, Nat.reduceLT, Nat.reduceMul, Nat.reduceSub, Option.bind_some, Option.map_some, bndV, numV, eI, eU, e8, eB, AV.isCell, Int.reduceToNat, Int.reduceSub, Int.reduceAdd, Int.reduceNeg]
  intro r hr
  refine Pu.use (szNodeS_spec c.start left h0 h1 hl.1) ?_
  (try simp (maxSteps := 1000000) (disch := (first | assumption | (apply Ne.symm; assumption))) only [vw0, vw1, vw2, vw3, vw4, vu0, vu1, ↓condV_t, ↓condV_f, cap_nil, allocV, splice, partV, buildV, eqFieldsV, eqS, tabs, TK.agg, reduceCtorEq, Array.toList, List.map_cons, List.map_nil, ↓reduceIte, List.length_map, Nat.reduceAdd, Nat.reduceLeDiff, Nat.reduceLT, Nat.reduceMul, Nat.reduceSub, Option.bind_some, Option.map_some, bndV, numV, eI, eU, e8, eB, AV.isCell, Int.reduceToNat, Int.reduceSub, Int.reduceAdd, Int.reduceNeg])
  refine ⟨fun h => ⟨?_, Heap.le_set hr⟩, fun h => ?_⟩
  · unfold szR at h
    rw [szR_neg]
    unfold totPg
    split at h <;> omega
  · have h4 : (c.start.length : Int) ≤ left := by
      unfold szR at h
      split at h <;> omega
    rw [szR_pos h4]
    refine Pu.use (szCommandS_spec c.cmds _ (by omega) (by omega) hl.2) ?_
    (try simp (maxSteps := 1000000) (disch := (first | assumption | (apply Ne.symm; assumption))) only [vw0, vw1, vw2, vw3, vw4, vu0, vu1, ↓condV_t, ↓condV_f, cap_nil, allocV, splice, partV, buildV, eqFieldsV, eqS, tabs, TK.agg, reduceCtorEq, Array.toList, List.map_cons, List.map_nil, ↓reduceIte, List.length_map, Nat.reduceAdd, Nat.reduceLeDiff, Nat.reduceLT, Nat.reduceMul, Nat.reduceSub, Option.bind_some, Option.map_some, bndV, numV, eI, eU, e8, eB, AV.isCell, Int.reduceToNat, Int.reduceSub, Int.reduceAdd, Int.reduceNeg])
    refine ⟨fun h => ⟨?_, Heap.le_set hr⟩, fun h => ⟨?_, Heap.le_set hr⟩⟩
    · unfold szR at h
      rw [szR_neg]
      unfold totPg
      split at h <;> omega
    · unfold szR at h
      split at h
      · rename_i h5
        rw [szR_pos h5, szR_pos (by unfold totPg; omega)]
        unfold totPg
        exact congrArg (fun n : Int => I n) (by omega)
      · omega

end Go.Proofs.YtgcklgeifdefhaaGreat
/- Specs: copies and comparisons of programs. -/
namespace Go.Proofs.YtgcklgeifdefhaaGreat
open Go Go.Sep Go.Pt
set_option linter.unusedSimpArgs false
set_option linter.unusedVariables false
attribute [local irreducible] CallT
/-- Lists short enough to be copied. -/
def smCh (c : Ch) : Prop := c.by_.length ≤ 1048576
def smCm (c : Cm) : Prop := c.when_.length ≤ 1048576 ∧ c.chs.length ≤ 1048576 ∧ ∀ x ∈ c.chs, smCh x
def smPg (p : Pg) : Prop := p.start.length ≤ 1048576 ∧ p.cmds.length ≤ 1048576 ∧ ∀ x ∈ p.cmds, smCm x
theorem psum_mem {α : Type} {f : α → Nat} {xs : List α} {x : α} (h : x ∈ xs) : f x ≤ psum f xs xs.length := by
  rw [psum, List.take_length]
  induction xs with
  | nil => cases h
  | cons y ys ih =>
    simp only [List.map_cons, List.sum_cons]
    rcases List.mem_cons.1 h with rfl | h
    · omega
    · have := ih h; omega
theorem sm_of_tot {p : Pg} (h : (totPg p : Int) ≤ 1048576) : smPg p := by
  have h0 : totPg p ≤ 1048576 := by omega
  unfold totPg totCms at h0
  refine ⟨by omega, by omega, fun c hc => ?_⟩
  have h1 := psum_mem (f := totCm) hc
  have e1 : totCm c = c.when_.length + (c.chs.length + psum totCh c.chs c.chs.length) := rfl
  refine ⟨by omega, by omega, fun x hx => ?_⟩
  have h2 := psum_mem (f := totCh) hx
  have e2 : totCh x = x.by_.length := rfl
  unfold smCh
  omega

theorem toNode_spec (c : Nd) : Pu Tryz.prog 127 [aN c] (aN c) := by
  refine Pu.of fun H => ?_
  refine W127_ok ?_; simp (maxSteps := 1000000) (disch := (first | assumption | (apply Ne.symm; assumption))) only [W127, vw0, vw1, vw2, vw3, vw4, vu0, vu1, ↓condV_t, ↓condV_f, cap_nil, allocV, splice, partV, buildV, eqFieldsV, eqS, tabs, TK.agg, reduceCtorEq, Array.toList, List.map_cons, List.map_nil, ↓reduceIte, List.length_map, Nat.reduceAdd, Nat.reduceLeDiff, Nat.reduceLT, Nat.reduceMul, Nat.reduceSub, Option.bind_some, Option.map_some, bndV, numV, eI, eU, e8, eB, AV.isCell, Int.reduceToNat, Int.reduceSub, Int.reduceAdd, Int.reduceNeg]
  intro r hr r2 n1 h2 r3 n2 n3 h3
  (try simp (maxSteps := 1000000) (disch := (first | assumption | (apply Ne.symm; assumption))) only [vw0, vw1, vw2, vw3, vw4, vu0, vu1, ↓condV_t, ↓condV_f, cap_nil, allocV, splice, partV, buildV, eqFieldsV, eqS, tabs, TK.agg, reduceCtorEq, Array.toList, List.map_cons, List.map_nil, ↓reduceIte, List.length_map, Nat.reduceAdd, Nat.reduceLeDiff, Nat.reduceLT, Nat.reduceMul, Nat.reduceSub, Option.bind_some, Option.map_some, bndV, numV, eI, eU, e8, eB, AV.isCell, Int.reduceToNat, Int.reduceSub, Int.reduceAdd, Int.reduceNeg])
  (repeat first | exact Heap.le_refl _ | refine Heap.le_setN ?_ (by assumption))

theorem toNodeS_spec (xs : List Nd) (hl : xs.length ≤ 1048576) : Pu Tryz.prog 80 [Ns xs] (Ns xs) := by
  refine ⟨fun H => CallT.fin ?_⟩
  refine W80_ok ?_; simp (maxSteps := 1000000) (disch := (first | assumption | (apply Ne.symm; assumption))) only [W80, vw0, vw1, vw2, vw3, vw4, vu0, vu1, ↓condV_t, ↓condV_f, cap_nil, allocV, splice, partV, buildV, eqFieldsV, eqS, tabs, TK.agg, reduceCtorEq, Array.toList, List.map_cons, List.map_nil, ↓reduceIte, List.length_map, Nat.reduceAdd, Nat.reduceLeDiff, Nat.reduceLT, Nat.reduceMul, Nat.reduceSub, Option.bind_some, Option.map_some, bndV, numV, eI, eU, e8, eB, AV.isCell, Int.reduceToNat, Int.reduceSub, Int.reduceAdd, Int.reduceNeg, makeSliceV]
  refine ⟨by omega, by omega, by omega, by omega, fun q hq => ?_⟩
  have z0 : rowZ eN [I 0, U 0] xs 0 = zerosA xs.length [I 0, U 0] := rowZ_zero
  rw [← z0]
  refine L80_0_rule (0 : Nat) (fun i => I i) (fun i => H.set q (rowZ eN [I 0, U 0] xs i)) (fun i => i ≤ xs.length) (fun i => xs.length - i) ⟨by omega, .refl _, Heap.le_refl _⟩ ?_
  intro i hi
  have hrl := rowZ_len (e := eN) (zero := [I 0, U 0]) (xs := xs) (i := i) (sz := 2) (fun _ => rfl) rfl hi
  (try simp (maxSteps := 1000000) (disch := (first | assumption | (apply Ne.symm; assumption))) only [vw0, vw1, vw2, vw3, vw4, vu0, vu1, ↓condV_t, ↓condV_f, cap_nil, allocV, splice, partV, buildV, eqFieldsV, eqS, tabs, TK.agg, reduceCtorEq, Array.toList, List.map_cons, List.map_nil, ↓reduceIte, List.length_map, Nat.reduceAdd, Nat.reduceLeDiff, Nat.reduceLT, Nat.reduceMul, Nat.reduceSub, Option.bind_some, Option.map_some, bndV, numV, eI, eU, e8, eB, AV.isCell, Int.reduceToNat, Int.reduceSub, Int.reduceAdd, Int.reduceNeg, B80_0])
  refine ⟨fun h => ⟨by omega, h, ?_⟩, fun h => ?_⟩
  · have hlt : i < xs.length := by omega
    have hput := rowZ_put (e := eN) (zero := [I 0, U 0]) (xs := xs) (i := i) (sz := 2) (fun _ => rfl) rfl hlt rfl rfl
    refine Pu.use (toNode_spec (xs.getD i default)) ?_
    (try simp (maxSteps := 1000000) (disch := (first | assumption | (apply Ne.symm; assumption))) only [vw0, vw1, vw2, vw3, vw4, vu0, vu1, ↓condV_t, ↓condV_f, cap_nil, allocV, splice, partV, buildV, eqFieldsV, eqS, tabs, TK.agg, reduceCtorEq, Array.toList, List.map_cons, List.map_nil, ↓reduceIte, List.length_map, Nat.reduceAdd, Nat.reduceLeDiff, Nat.reduceLT, Nat.reduceMul, Nat.reduceSub, Option.bind_some, Option.map_some, bndV, numV, eI, eU, e8, eB, AV.isCell, Int.reduceToNat, Int.reduceSub, Int.reduceAdd, Int.reduceNeg])
    refine ⟨by omega, h, by omega, i + 1, by omega, by omega, ?_, ?_⟩
    · rw [wk_int, i64_id (by omega) (by omega)]; simp
    · rw [← hput]; exact Heap.le_refl _
  · have : i = xs.length := by omega
    subst this
    have := fin_own (sz := 2) (es := xs.map eN) (q := q) (H := H) (H' := H.set q (rowZ eN [I 0, U 0] xs xs.length)) (K := fun r H' => r = Ns xs ∧ H' = H) (by omega) (sized_map (f := eN) (fun _ => rfl) xs) hq (by rw [rowZ_end]; exact Heap.le_refl _) ⟨rfl, rfl⟩
    simpa only [Go.Sep.own, List.length_map] using this

theorem toChange_spec (c : Ch) (h : smCh c) : Pu Tryz.prog 184 [aCh c] (aCh c) := by
  refine Pu.of fun H => ?_
  refine W184_ok ?_; simp (maxSteps := 1000000) (disch := (first | assumption | (apply Ne.symm; assumption))) only [W184, vw0, vw1, vw2, vw3, vw4, vu0, vu1, ↓condV_t, ↓condV_f, cap_nil, allocV, splice, partV, buildV, eqFieldsV, eqS, tabs, TK.agg, reduceCtorEq, Array.toList, List.map_cons, List.map_nil, ↓reduceIte, List.length_map, Nat.reduceAdd, Nat.reduceLeDiff, Nat.reduceLT, Nat.reduceMul, Nat.reduceSub, Option.bind_some, Option.map_some, bndV, numV, eI, eU, e8, eB, AV.isCell, Int.reduceToNat, Int.reduceSub, Int.reduceAdd, Int.reduceNeg]
  intro r hr r2 n1 h2 r3 n2 n3 h3
  (try simp (maxSteps := 1000000) (disch := (first | assumption | (apply Ne.symm; assumption))) only [vw0, vw1, vw2, vw3, vw4, vu0, vu1, ↓condV_t, ↓condV_f, cap_nil, allocV, splice, partV, buildV, eqFieldsV, eqS, tabs, TK.agg, reduceCtorEq, Array.toList, List.map_cons, List.map_nil, ↓reduceIte, List.length_map, Nat.reduceAdd, Nat.reduceLeDiff, Nat.reduceLT, Nat.reduceMul, Nat.reduceSub, Option.bind_some, Option.map_some, bndV, numV, eI, eU, e8, eB, AV.isCell, Int.reduceToNat, Int.reduceSub, Int.reduceAdd, Int.reduceNeg])
  refine Pu.use (toNodeS_spec c.by_ h) ?_
  (try simp (maxSteps := 1000000) (disch := (first | assumption | (apply Ne.symm; assumption))) only [vw0, vw1, vw2, vw3, vw4, vu0, vu1, ↓condV_t, ↓condV_f, cap_nil, allocV, splice, partV, buildV, eqFieldsV, eqS, tabs, TK.agg, reduceCtorEq, Array.toList, List.map_cons, List.map_nil, ↓reduceIte, List.length_map, Nat.reduceAdd, Nat.reduceLeDiff, Nat.reduceLT, Nat.reduceMul, Nat.reduceSub, Option.bind_some, Option.map_some, bndV, numV, eI, eU, e8, eB, AV.isCell, Int.reduceToNat, Int.reduceSub, Int.reduceAdd, Int.reduceNeg])
  (repeat first | exact Heap.le_refl _ | refine Heap.le_setN ?_ (by assumption))

theorem toChangeS_spec (xs : List Ch) (hl : xs.length ≤ 1048576) (hs : ∀ x ∈ xs, smCh x) : Pu Tryz.prog 167 [Chs xs] (Chs xs) := by
  refine ⟨fun H => CallT.fin ?_⟩
  refine W167_ok ?_; simp (maxSteps := 1000000) (disch := (first | assumption | (apply Ne.symm; assumption))) only [W167, vw0, vw1, vw2, vw3, vw4, vu0, vu1, ↓condV_t, ↓condV_f, cap_nil, allocV, splice, partV, buildV, eqFieldsV, eqS, tabs, TK.agg, reduceCtorEq, Array.toList, List.map_cons, List.map_nil, ↓reduceIte, List.length_map, Nat.reduceAdd, Nat.reduceLeDiff, Nat.reduceLT, Nat.reduceMul, Nat.reduceSub, Option.bind_some, Option.map_some, bndV, numV, eI, eU, e8, eB, AV.isCell, Int.reduceToNat, Int.reduceSub, Int.reduceAdd, Int.reduceNeg, makeSliceV]
  refine ⟨by omega, by omega, by omega, by omega, fun q hq => ?_⟩
  have z0 : rowZ eCh [I 0, .p .nil] xs 0 = zerosA xs.length [I 0, .p .nil] := rowZ_zero
  rw [← z0]
  refine L167_0_rule (0 : Nat) (fun i => I i) (fun i => H.set q (rowZ eCh [I 0, .p .nil] xs i)) (fun i => i ≤ xs.length) (fun i => xs.length - i) ⟨by omega, .refl _, Heap.le_refl _⟩ ?_
  intro i hi
  have hrl := rowZ_len (e := eCh) (zero := [I 0, .p .nil]) (xs := xs) (i := i) (sz := 2) (fun _ => rfl) rfl hi
  (try simp (maxSteps := 1000000) (disch := (first | assumption | (apply Ne.symm; assumption))) only [vw0, vw1, vw2, vw3, vw4, vu0, vu1, ↓condV_t, ↓condV_f, cap_nil, allocV, splice, partV, buildV, eqFieldsV, eqS, tabs, TK.agg, reduceCtorEq, Array.toList, List.map_cons, List.map_nil, ↓reduceIte, List.length_map, Nat.reduceAdd, Nat.reduceLeDiff, Nat.reduceLT, Nat.reduceMul, Nat.reduceSub, Option.bind_some, Option.map_some, bndV, numV, eI, eU, e8, eB, AV.isCell, Int.reduceToNat, Int.reduceSub, Int.reduceAdd, Int.reduceNeg, B167_0])
  refine ⟨fun h => ⟨by omega, h, ?_⟩, fun h => ?_⟩
  · have hlt : i < xs.length := by omega
    have hput := rowZ_put (e := eCh) (zero := [I 0, .p .nil]) (xs := xs) (i := i) (sz := 2) (fun _ => rfl) rfl hlt rfl rfl
    have hm : xs.getD i default ∈ xs := getD_all (p := fun x => x ∈ xs) (fun _ h => h) hlt
    refine Pu.use (toChange_spec (xs.getD i default) (hs _ hm)) ?_
    (try simp (maxSteps := 1000000) (disch := (first | assumption | (apply Ne.symm; assumption))) only [vw0, vw1, vw2, vw3, vw4, vu0, vu1, ↓condV_t, ↓condV_f, cap_nil, allocV, splice, partV, buildV, eqFieldsV, eqS, tabs, TK.agg, reduceCtorEq, Array.toList, List.map_cons, List.map_nil, ↓reduceIte, List.length_map, Nat.reduceAdd, Nat.reduceLeDiff, Nat.reduceLT, Nat.reduceMul, Nat.reduceSub, Option.bind_some, Option.map_some, bndV, numV, eI, eU, e8, eB, AV.isCell, Int.reduceToNat, Int.reduceSub, Int.reduceAdd, Int.reduceNeg])
    refine ⟨by omega, h, by omega, i + 1, by omega, by omega, ?_, ?_⟩
    · rw [wk_int, i64_id (by omega) (by omega)]; simp
    · rw [← hput]; exact Heap.le_refl _
  · have : i = xs.length := by omega
    subst this
    have := fin_own (sz := 2) (es := xs.map eCh) (q := q) (H := H) (H' := H.set q (rowZ eCh [I 0, .p .nil] xs xs.length)) (K := fun r H' => r = Chs xs ∧ H' = H) (by omega) (sized_map (f := eCh) (fun _ => rfl) xs) hq (by rw [rowZ_end]; exact Heap.le_refl _) ⟨rfl, rfl⟩
    simpa only [Go.Sep.own, List.length_map] using this

theorem toCommand_spec (c : Cm) (h : smCm c) : Pu Tryz.prog 128 [aCm c] (aCm c) := by
  refine Pu.of fun H => ?_
  refine W128_ok ?_; simp (maxSteps := 1000000) (disch := (first | assumption | (apply Ne.symm; assumption))) only [W128, vw0, vw1, vw2, vw3, vw4, vu0, vu1, ↓condV_t, ↓condV_f, cap_nil, allocV, splice, partV, buildV, eqFieldsV, eqS, tabs, TK.agg, reduceCtorEq, Array.toList, List.map_cons, List.map_nil, ↓reduceIte, List.length_map, Nat.reduceAdd, Nat.reduceLeDiff, Nat.reduceLT, Nat.reduceMul, Nat.reduceSub, Option.bind_some, Option.map_some, bndV, numV, eI, eU, e8, eB, AV.isCell, Int.reduceToNat, Int.reduceSub, Int.reduceAdd, Int.reduceNeg]
  intro r hr r2 n1 h2 r3 n2 n3 h3
  (try simp (maxSteps := 1000000) (disch := (first | assumption | (apply Ne.symm; assumption))) only [vw0, vw1, vw2, vw3, vw4, vu0, vu1, ↓condV_t, ↓condV_f, cap_nil, allocV, splice, partV, buildV, eqFieldsV, eqS, tabs, TK.agg, reduceCtorEq, Array.toList, List.map_cons, List.map_nil, ↓reduceIte, List.length_map, Nat.reduceAdd, Nat.reduceLeDiff, Nat.reduceLT, Nat.reduceMul, Nat.reduceSub, Option.bind_some, Option.map_some, bndV, numV, eI, eU, e8, eB, AV.isCell, Int.reduceToNat, Int.reduceSub, Int.reduceAdd, Int.reduceNeg])
  refine Pu.use (toNodeS_spec c.when_ h.1) ?_
  (try simp (maxSteps := 1000000) (disch := (first | assumption | (apply Ne.symm; assumption))) only [vw0, vw1, vw2, vw3, vw4, vu0, vu1, ↓condV_t, ↓condV_f, cap_nil, allocV, splice, partV, buildV, eqFieldsV, eqS, tabs, TK.agg, reduceCtorEq, Array.toList, List.map_cons, List.map_nil, ↓reduceIte, List.length_map, Nat.reduceAdd, Nat.reduceLeDiff, Nat.reduceLT, Nat.reduceMul, Nat.reduceSub, Option.bind_some, Option.map_some, bndV, numV, eI, eU, e8, eB, AV.isCell, Int.reduceToNat, Int.reduceSub, Int.reduceAdd, Int.reduceNeg])
  refine Pu.use (toChangeS_spec c.chs h.2.1 h.2.2) ?_
  (try simp (maxSteps := 1000000) (disch := (first | assumption | (apply Ne.symm; assumption))) only [vw0, vw1, vw2, vw3, vw4, vu0, vu1, ↓condV_t, ↓condV_f, cap_nil, allocV, splice, partV, buildV, eqFieldsV, eqS, tabs, TK.agg, reduceCtorEq, Array.toList, List.map_cons, List.map_nil, ↓reduceIte, List.length_map, Nat.reduceAdd, Nat.reduceLeDiff, Nat.reduceLT, Nat.reduceMul, Nat.reduceSub, Option.bind_some, Option.map_some, bndV, numV, eI, eU, e8, eB, AV.isCell, Int.reduceToNat, Int.reduceSub, Int.reduceAdd, Int.reduceNeg])
  (repeat first | exact Heap.le_refl _ | refine Heap.le_setN ?_ (by assumption))

theorem toCommandS_spec (xs : List Cm) (hl : xs.length ≤ 1048576) (hs : ∀ x ∈ xs, smCm x) : Pu Tryz.prog 81 [Cms xs] (Cms xs) := by
  refine ⟨fun H => CallT.fin ?_⟩
  refine W81_ok ?_; simp (maxSteps := 1000000) (disch := (first | assumption | (apply Ne.symm; assumption))) only [W81, vw0, vw1, vw2, vw3, vw4, vu0, vu1, ↓condV_t, ↓condV_f, cap_nil, allocV, splice, partV, buildV, eqFieldsV, eqS, tabs, TK.agg, reduceCtorEq, Array.toList, List.map_cons, List.map_nil, ↓reduceIte, List.length_map, Nat.reduceAdd, Nat.reduceLeDiff, Nat.reduceLT, Nat.reduceMul, Nat.reduceSub, Option.bind_some, Option.map_some, bndV, numV, eI, eU, e8, eB, AV.isCell, Int.reduceToNat, Int.reduceSub, Int.reduceAdd, Int.reduceNeg, makeSliceV]
  refine ⟨by omega, by omega, by omega, by omega, fun q hq => ?_⟩
  have z0 : rowZ eCm [.p .nil, .p .nil] xs 0 = zerosA xs.length [.p .nil, .p .nil] := rowZ_zero
  rw [← z0]
  refine L81_0_rule (0 : Nat) (fun i => I i) (fun i => H.set q (rowZ eCm [.p .nil, .p .nil] xs i)) (fun i => i ≤ xs.length) (fun i => xs.length - i) ⟨by omega, .refl _, Heap.le_refl _⟩ ?_
  intro i hi
  have hrl := rowZ_len (e := eCm) (zero := [.p .nil, .p .nil]) (xs := xs) (i := i) (sz := 2) (fun _ => rfl) rfl hi
  (try simp (maxSteps := 1000000) (disch := (first | assumption | (apply Ne.symm; assumption))) only [vw0, vw1, vw2, vw3, vw4, vu0, vu1, ↓condV_t, ↓condV_f, cap_nil, allocV, splice, partV, buildV, eqFieldsV, eqS, tabs, TK.agg, reduceCtorEq, Array.toList, List.map_cons, List.map_nil, ↓reduceIte, List.length_map, Nat.reduceAdd, Nat.reduceLeDiff, Nat.reduceLT, Nat.reduceMul, Nat.reduceSub, Option.bind_some, Option.map_some, bndV, numV, eI, eU, e8, eB, AV.isCell, Int.reduceToNat, Int.reduceSub, Int.reduceAdd, Int.reduceNeg, B81_0])
  refine ⟨fun h => ⟨by omega, h, ?_⟩, fun h => ?_⟩
  · have hlt : i < xs.length := by omega
    have hput := rowZ_put (e := eCm) (zero := [.p .nil, .p .nil]) (xs := xs) (i := i) (sz := 2) (fun _ => rfl) rfl hlt rfl rfl
    have hm : xs.getD i default ∈ xs := getD_all (p := fun x => x ∈ xs) (fun _ h => h) hlt
    refine Pu.use (toCommand_spec (xs.getD i default) (hs _ hm)) ?_
    (try simp (maxSteps := 1000000) (disch := (first | assumption | (apply Ne.symm; assumption))) only [vw0, vw1, vw2, vw3, vw4, vu0, vu1, ↓condV_t, ↓condV_f, cap_nil, allocV, splice, partV, buildV, eqFieldsV, eqS, tabs, TK.agg, reduceCtorEq, Array.toList, List.map_cons, List.map_nil, ↓reduceIte, List.length_map, Nat.reduceAdd, Nat.reduceLeDiff, Nat.reduceLT, Nat.reduceMul, Nat.reduceSub, Option.bind_some, Option.map_some, bndV, numV, eI, eU, e8, eB, AV.isCell, Int.reduceToNat, Int.reduceSub, Int.reduceAdd, Int.reduceNeg])
    refine ⟨by omega, h, by omega, i + 1, by omega, by omega, ?_, ?_⟩
    · rw [wk_int, i64_id (by omega) (by omega)]; simp
    · rw [← hput]; exact Heap.le_refl _
  · have : i = xs.length := by omega
    subst this
    have := fin_own (sz := 2) (es := xs.map eCm) (q := q) (H := H) (H' := H.set q (rowZ eCm [.p .nil, .p .nil] xs xs.length)) (K := fun r H' => r = Cms xs ∧ H' = H) (by omega) (sized_map (f := eCm) (fun _ => rfl) xs) hq (by rw [rowZ_end]; exact Heap.le_refl _) ⟨rfl, rfl⟩
    simpa only [Go.Sep.own, List.length_map] using this

theorem toProgram_spec (c : Pg) (h : smPg c) : Pu Tryz.prog 41 [aPg c] (aPg c) := by
  refine Pu.of fun H => ?_
  refine W41_ok ?_; simp (maxSteps := 1000000) (disch := (first | assumption | (apply Ne.symm; assumption))) only [W41, vw0, vw1, vw2, vw3, vw4, vu0, vu1, ↓condV_t, ↓condV_f, cap_nil, allocV, splice, partV, buildV, eqFieldsV, eqS, tabs, TK.agg, reduceCtorEq, Array.toList, List.map_cons, List.map_nil, ↓reduceIte, List.length_map, Nat.reduceAdd, Nat.reduceLeDiff, Nat.reduceLT, Nat.reduceMul, Nat.reduceSub, Option.bind_some, Option.map_some, bndV, numV, eI, eU, e8, eB, AV.isCell, Int.reduceToNat, Int.reduceSub, Int.reduceAdd, Int.reduceNeg]
  intro r hr r2 n1 h2 r3 n2 n3 h3
  (try simp (maxSteps := 1000000) (disch := (first | assumption | (apply Ne.symm; assumption))) only [vw0, vw1, vw2, vw3, vw4, vu0, vu1, ↓condV_t, ↓condV_f, cap_nil, allocV, splice, partV, buildV, eqFieldsV, eqS, tabs, TK.agg, reduceCtorEq, Array.toList, List.map_cons, List.map_nil, ↓reduceIte, List.length_map, Nat.reduceAdd, Nat.reduceLeDiff, Nat.reduceLT, Nat.reduceMul, Nat.reduceSub, Option.bind_some, Option.map_some, bndV, numV, eI, eU, e8, eB, AV.isCell, Int.reduceToNat, Int.reduceSub, Int.reduceAdd, Int.reduceNeg])
  refine Pu.use (toNodeS_spec c.start h.1) ?_
  (try simp (maxSteps := 1000000) (disch := (first | assumption | (apply Ne.symm; assumption))) only [vw0, vw1, vw2, vw3, vw4, vu0, vu1, ↓condV_t, ↓condV_f, cap_nil, allocV, splice, partV, buildV, eqFieldsV, eqS, tabs, TK.agg, reduceCtorEq, Array.toList, List.map_cons, List.map_nil, ↓reduceIte, List.length_map, Nat.reduceAdd, Nat.reduceLeDiff, Nat.reduceLT, Nat.reduceMul, Nat.reduceSub, Option.bind_some, Option.map_some, bndV, numV, eI, eU, e8, eB, AV.isCell, Int.reduceToNat, Int.reduceSub, Int.reduceAdd, Int.reduceNeg])
  refine Pu.use (toCommandS_spec c.cmds h.2.1 h.2.2) ?_
  (try simp (maxSteps := 1000000) (disch := (first | assumption | (apply Ne.symm; assumption))) only [vw0, vw1, vw2, vw3, vw4, vu0, vu1, ↓condV_t, ↓condV_f, cap_nil, allocV, splice, partV, buildV, eqFieldsV, eqS, tabs, TK.agg, reduceCtorEq, Array.toList, List.map_cons, List.map_nil, ↓reduceIte, List.length_map, Nat.reduceAdd, Nat.reduceLeDiff, Nat.reduceLT, Nat.reduceMul, Nat.reduceSub, Option.bind_some, Option.map_some, bndV, numV, eI, eU, e8, eB, AV.isCell, Int.reduceToNat, Int.reduceSub, Int.reduceAdd, Int.reduceNeg])
  (repeat first | exact Heap.le_refl _ | refine Heap.le_setN ?_ (by assumption))

theorem eqNode_spec (c : Nd) : Pu Tryz.prog 141 [aN c, aN c] (B true) := by
  refine Pu.of fun H => ?_
  refine W141_ok ?_; simp (maxSteps := 1000000) (disch := (first | assumption | (apply Ne.symm; assumption))) only [W141, vw0, vw1, vw2, vw3, vw4, vu0, vu1, ↓condV_t, ↓condV_f, cap_nil, allocV, splice, partV, buildV, eqFieldsV, eqS, tabs, TK.agg, reduceCtorEq, Array.toList, List.map_cons, List.map_nil, ↓reduceIte, List.length_map, Nat.reduceAdd, Nat.reduceLeDiff, Nat.reduceLT, Nat.reduceMul, Nat.reduceSub, Option.bind_some, Option.map_some, bndV, numV, eI, eU, e8, eB, AV.isCell, Int.reduceToNat, Int.reduceSub, Int.reduceAdd, Int.reduceNeg]
  intro r hr r2 n1 h2
  (try simp (maxSteps := 1000000) (disch := (first | assumption | (apply Ne.symm; assumption))) only [vw0, vw1, vw2, vw3, vw4, vu0, vu1, ↓condV_t, ↓condV_f, cap_nil, allocV, splice, partV, buildV, eqFieldsV, eqS, tabs, TK.agg, reduceCtorEq, Array.toList, List.map_cons, List.map_nil, ↓reduceIte, List.length_map, Nat.reduceAdd, Nat.reduceLeDiff, Nat.reduceLT, Nat.reduceMul, Nat.reduceSub, Option.bind_some, Option.map_some, bndV, numV, eI, eU, e8, eB, AV.isCell, Int.reduceToNat, Int.reduceSub, Int.reduceAdd, Int.reduceNeg])
  (repeat first | exact Heap.le_refl _ | refine Heap.le_setN ?_ (by assumption))

theorem eqNodeS_spec (xs : List Nd) (hl : xs.length ≤ 1048576) : Pu Tryz.prog 88 [Ns xs, Ns xs] (B true) := by
  refine Pu.of fun H => ?_
  refine W88_ok ?_; simp (maxSteps := 1000000) (disch := (first | assumption | (apply Ne.symm; assumption))) only [W88, vw0, vw1, vw2, vw3, vw4, vu0, vu1, ↓condV_t, ↓condV_f, cap_nil, allocV, splice, partV, buildV, eqFieldsV, eqS, tabs, TK.agg, reduceCtorEq, Array.toList, List.map_cons, List.map_nil, ↓reduceIte, List.length_map, Nat.reduceAdd, Nat.reduceLeDiff, Nat.reduceLT, Nat.reduceMul, Nat.reduceSub, Option.bind_some, Option.map_some, bndV, numV, eI, eU, e8, eB, AV.isCell, Int.reduceToNat, Int.reduceSub, Int.reduceAdd, Int.reduceNeg]
  refine L88_0_rule (0 : Nat) (fun i => I i) (fun _ => H) (fun i => i ≤ xs.length) (fun i => xs.length - i) ⟨by omega, .refl _, Heap.le_refl _⟩ ?_
  intro i hi
  (try simp (maxSteps := 1000000) (disch := (first | assumption | (apply Ne.symm; assumption))) only [vw0, vw1, vw2, vw3, vw4, vu0, vu1, ↓condV_t, ↓condV_f, cap_nil, allocV, splice, partV, buildV, eqFieldsV, eqS, tabs, TK.agg, reduceCtorEq, Array.toList, List.map_cons, List.map_nil, ↓reduceIte, List.length_map, Nat.reduceAdd, Nat.reduceLeDiff, Nat.reduceLT, Nat.reduceMul, Nat.reduceSub, Option.bind_some, Option.map_some, bndV, numV, eI, eU, e8, eB, AV.isCell, Int.reduceToNat, Int.reduceSub, Int.reduceAdd, Int.reduceNeg, B88_0])
  intro h
  have hlt : i < xs.length := by omega
  refine ⟨by omega, h, by omega, h, ?_⟩
  refine Pu.use (eqNode_spec (xs.getD i default)) ?_
  (try simp (maxSteps := 1000000) (disch := (first | assumption | (apply Ne.symm; assumption))) only [vw0, vw1, vw2, vw3, vw4, vu0, vu1, ↓condV_t, ↓condV_f, cap_nil, allocV, splice, partV, buildV, eqFieldsV, eqS, tabs, TK.agg, reduceCtorEq, Array.toList, List.map_cons, List.map_nil, ↓reduceIte, List.length_map, Nat.reduceAdd, Nat.reduceLeDiff, Nat.reduceLT, Nat.reduceMul, Nat.reduceSub, Option.bind_some, Option.map_some, bndV, numV, eI, eU, e8, eB, AV.isCell, Int.reduceToNat, Int.reduceSub, Int.reduceAdd, Int.reduceNeg])
  refine ⟨i + 1, by omega, by omega, ?_⟩
  rw [wk_int, i64_id (by omega) (by omega)]; simp

theorem eqChange_spec (c : Ch) (h : smCh c) : Pu Tryz.prog 197 [aCh c, aCh c] (B true) := by
  refine Pu.of fun H => ?_
  refine W197_ok ?_; simp (maxSteps := 1000000) (disch := (first | assumption | (apply Ne.symm; assumption))) only [W197, vw0, vw1, vw2, vw3, vw4, vu0, vu1, ↓condV_t, ↓condV_f, cap_nil, allocV, splice, partV, buildV, eqFieldsV, eqS, tabs, TK.agg, reduceCtorEq, Array.toList, List.map_cons, List.map_nil, ↓reduceIte, List.length_map, Nat.reduceAdd, Nat.reduceLeDiff, Nat.reduceLT, Nat.reduceMul, Nat.reduceSub, Option.bind_some, Option.map_some, bndV, numV, eI, eU, e8, eB, AV.isCell, Int.reduceToNat, Int.reduceSub, Int.reduceAdd, Int.reduceNeg]
  intro r hr r2 n1 h2
  (try simp (maxSteps := 1000000) (disch := (first | assumption | (apply Ne.symm; assumption))) only [vw0, vw1, vw2, vw3, vw4, vu0, vu1, ↓condV_t, ↓condV_f, cap_nil, allocV, splice, partV, buildV, eqFieldsV, eqS, tabs, TK.agg, reduceCtorEq, Array.toList, List.map_cons, List.map_nil, ↓reduceIte, List.length_map, Nat.reduceAdd, Nat.reduceLeDiff, Nat.reduceLT, Nat.reduceMul, Nat.reduceSub, Option.bind_some, Option.map_some, bndV, numV, eI, eU, e8, eB, AV.isCell, Int.reduceToNat, Int.reduceSub, Int.reduceAdd, Int.reduceNeg])
  refine Pu.use (eqNodeS_spec c.by_ h) ?_
  (try simp (maxSteps := 1000000) (disch := (first | assumption | (apply Ne.symm; assumption))) only [vw0, vw1, vw2, vw3, vw4, vu0, vu1, ↓condV_t, ↓condV_f, cap_nil, allocV, splice, partV, buildV, eqFieldsV, eqS, tabs, TK.agg, reduceCtorEq, Array.toList, List.map_cons, List.map_nil, ↓reduceIte, List.length_map, Nat.reduceAdd, Nat.reduceLeDiff, Nat.reduceLT, Nat.reduceMul, Nat.reduceSub, Option.bind_some, Option.map_some, bndV, numV, eI, eU, e8, eB, AV.isCell, Int.reduceToNat, Int.reduceSub, Int.reduceAdd, Int.reduceNeg])
  (repeat first | exact Heap.le_refl _ | refine Heap.le_setN ?_ (by assumption))

theorem eqChangeS_spec (xs : List Ch) (hl : xs.length ≤ 1048576) (hs : ∀ x ∈ xs, smCh x) : Pu Tryz.prog 175 [Chs xs, Chs xs] (B true) := by
  refine Pu.of fun H => ?_
  refine W175_ok ?_; simp (maxSteps := 1000000) (disch := (first | assumption | (apply Ne.symm; assumption))) only [W175, vw0, vw1, vw2, vw3, vw4, vu0, vu1, ↓condV_t, ↓condV_f, cap_nil, allocV, splice, partV, buildV, eqFieldsV, eqS, tabs, TK.agg, reduceCtorEq, Array.toList, List.map_cons, List.map_nil, ↓reduceIte, List.length_map, Nat.reduceAdd, Nat.reduceLeDiff, Nat.reduceLT, Nat.reduceMul, Nat.reduceSub, Option.bind_some, Option.map_some, bndV, numV, eI, eU, e8, eB, AV.isCell, Int.reduceToNat, Int.reduceSub, Int.reduceAdd, Int.reduceNeg]
  refine L175_0_rule (0 : Nat) (fun i => I i) (fun _ => H) (fun i => i ≤ xs.length) (fun i => xs.length - i) ⟨by omega, .refl _, Heap.le_refl _⟩ ?_
  intro i hi
  (try simp (maxSteps := 1000000) (disch := (first | assumption | (apply Ne.symm; assumption))) only [vw0, vw1, vw2, vw3, vw4, vu0, vu1, ↓condV_t, ↓condV_f, cap_nil, allocV, splice, partV, buildV, eqFieldsV, eqS, tabs, TK.agg, reduceCtorEq, Array.toList, List.map_cons, List.map_nil, ↓reduceIte, List.length_map, Nat.reduceAdd, Nat.reduceLeDiff, Nat.reduceLT, Nat.reduceMul, Nat.reduceSub, Option.bind_some, Option.map_some, bndV, numV, eI, eU, e8, eB, AV.isCell, Int.reduceToNat, Int.reduceSub, Int.reduceAdd, Int.reduceNeg, B175_0])
  intro h
  have hlt : i < xs.length := by omega
  refine ⟨by omega, h, by omega, h, ?_⟩
  have hm : xs.getD i default ∈ xs := getD_all (p := fun x => x ∈ xs) (fun _ h => h) hlt
  refine Pu.use (eqChange_spec (xs.getD i default) (hs _ hm)) ?_
  (try simp (maxSteps := 1000000) (disch := (first | assumption | (apply Ne.symm; assumption))) only [vw0, vw1, vw2, vw3, vw4, vu0, vu1, ↓condV_t, ↓condV_f, cap_nil, allocV, splice, partV, buildV, eqFieldsV, eqS, tabs, TK.agg, reduceCtorEq, Array.toList, List.map_cons, List.map_nil, ↓reduceIte, List.length_map, Nat.reduceAdd, Nat.reduceLeDiff, Nat.reduceLT, Nat.reduceMul, Nat.reduceSub, Option.bind_some, Option.map_some, bndV, numV, eI, eU, e8, eB, AV.isCell, Int.reduceToNat, Int.reduceSub, Int.reduceAdd, Int.reduceNeg])
  refine ⟨i + 1, by omega, by omega, ?_⟩
  rw [wk_int, i64_id (by omega) (by omega)]; simp

theorem eqCommand_spec (c : Cm) (h : smCm c) : Pu Tryz.prog 142 [aCm c, aCm c] (B true) := by
  refine Pu.of fun H => ?_
  refine W142_ok ?_; simp (maxSteps := 1000000) (disch := (first | assumption | (apply Ne.symm; assumption))) only [W142, vw0, vw1, vw2, vw3, vw4, vu0, vu1, ↓condV_t, ↓condV_f, cap_nil, allocV, splice, partV, buildV, eqFieldsV, eqS, tabs, TK.agg, reduceCtorEq, Array.toList, List.map_cons, List.map_nil, ↓reduceIte, List.length_map, Nat.reduceAdd, Nat.reduceLeDiff, Nat.reduceLT, Nat.reduceMul, Nat.reduceSub, Option.bind_some, Option.map_some, bndV, numV, eI, eU, e8, eB, AV.isCell, Int.reduceToNat, Int.reduceSub, Int.reduceAdd, Int.reduceNeg]
  intro r hr r2 n1 h2
  (try simp (maxSteps := 1000000) (disch := (first | assumption | (apply Ne.symm; assumption))) only [vw0, vw1, vw2, vw3, vw4, vu0, vu1, ↓condV_t, ↓condV_f, cap_nil, allocV, splice, partV, buildV, eqFieldsV, eqS, tabs, TK.agg, reduceCtorEq, Array.toList, List.map_cons, List.map_nil, ↓reduceIte, List.length_map, Nat.reduceAdd, Nat.reduceLeDiff, Nat.reduceLT, Nat.reduceMul, Nat.reduceSub, Option.bind_some, Option.map_some, bndV, numV, eI, eU, e8, eB, AV.isCell, Int.reduceToNat, Int.reduceSub, Int.reduceAdd, Int.reduceNeg])
  refine Pu.use (eqNodeS_spec c.when_ h.1) ?_
  (try simp (maxSteps := 1000000) (disch := (first | assumption | (apply Ne.symm; assumption))) only [vw0, vw1, vw2, vw3, vw4, vu0, vu1, ↓condV_t, ↓condV_f, cap_nil, allocV, splice, partV, buildV, eqFieldsV, eqS, tabs, TK.agg, reduceCtorEq, Array.toList, List.map_cons, List.map_nil, ↓reduceIte, List.length_map, Nat.reduceAdd, Nat.reduceLeDiff, Nat.reduceLT, Nat.reduceMul, Nat.reduceSub, Option.bind_some, Option.map_some, bndV, numV, eI, eU, e8, eB, AV.isCell, Int.reduceToNat, Int.reduceSub, Int.reduceAdd, Int.reduceNeg])
  refine Pu.use (eqChangeS_spec c.chs h.2.1 h.2.2) ?_
  (try simp (maxSteps := 1000000) (disch := (first | assumption | (apply Ne.symm; assumption))) only [vw0, vw1, vw2, vw3, vw4, vu0, vu1, ↓condV_t, ↓condV_f, cap_nil, allocV, splice, partV, buildV, eqFieldsV, eqS, tabs, TK.agg, reduceCtorEq, Array.toList, List.map_cons, List.map_nil, ↓reduceIte, List.length_map, Nat.reduceAdd, Nat.reduceLeDiff, Nat.reduceLT, Nat.reduceMul, Nat.reduceSub, Option.bind_some, Option.map_some, bndV, numV, eI, eU, e8, eB, AV.isCell, Int.reduceToNat, Int.reduceSub, Int.reduceAdd, Int.reduceNeg])
  (repeat first | exact Heap.le_refl _ | refine Heap.le_setN ?_ (by assumption))

theorem eqCommandS_spec (xs : List Cm) (hl : xs.length ≤ 1048576) (hs : ∀ x ∈ xs, smCm x) : Pu Tryz.prog 89 [Cms xs, Cms xs] (B true) := by
  refine Pu.of fun H => ?_
  refine W89_ok ?_; simp (maxSteps := 1000000) (disch := (first | assumption | (apply Ne.symm; assumption))) only [W89, vw0, vw1, vw2, vw3, vw4, vu0, vu1, ↓condV_t, ↓condV_f, cap_nil, allocV, splice, partV, buildV, eqFieldsV, eqS, tabs, TK.agg, reduceCtorEq, Array.toList, List.map_cons, List.map_nil, ↓reduceIte, List.length_map, Nat.reduceAdd, Nat.reduceLeDiff, Nat.reduceLT, Nat.reduceMul, Nat.reduceSub, Option.bind_some, Option.map_some, bndV, numV, eI, eU, e8, eB, AV.isCell, Int.reduceToNat, Int.reduceSub, Int.reduceAdd, Int.reduceNeg]
  refine L89_0_rule (0 : Nat) (fun i => I i) (fun _ => H) (fun i => i ≤ xs.length) (fun i => xs.length - i) ⟨by omega, .refl _, Heap.le_refl _⟩ ?_
  intro i hi
  (try simp (maxSteps := 1000000) (disch := (first | assumption | (apply Ne.symm; assumption))) only [vw0, vw1, vw2, vw3, vw4, vu0, vu1, ↓condV_t, ↓condV_f, cap_nil, allocV, splice, partV, buildV, eqFieldsV, eqS, tabs, TK.agg, reduceCtorEq, Array.toList, List.map_cons, List.map_nil, ↓reduceIte, List.length_map, Nat.reduceAdd, Nat.reduceLeDiff, Nat.reduceLT, Nat.reduceMul, Nat.reduceSub, Option.bind_some, Option.map_some, bndV, numV, eI, eU, e8, eB, AV.isCell, Int.reduceToNat, Int.reduceSub, Int.reduceAdd, Int.reduceNeg, B89_0])
  intro h
  have hlt : i < xs.length := by omega
  refine ⟨by omega, h, by omega, h, ?_⟩
  have hm : xs.getD i default ∈ xs := getD_all (p := fun x => x ∈ xs) (fun _ h => h) hlt
  refine Pu.use (eqCommand_spec (xs.getD i default) (hs _ hm)) ?_
  (try simp (maxSteps := 1000000) (disch := (first | assumption | (apply Ne.symm; assumption))) only [vw0, vw1, vw2, vw3, vw4, vu0, vu1, ↓condV_t, ↓condV_f, cap_nil, allocV, splice, partV, buildV, eqFieldsV, eqS, tabs, TK.agg, reduceCtorEq, Array.toList, List.map_cons, List.map_nil, ↓reduceIte, List.length_map, Nat.reduceAdd, Nat.reduceLeDiff, Nat.reduceLT, Nat.reduceMul, Nat.reduceSub, Option.bind_some, Option.map_some, bndV, numV, eI, eU, e8, eB, AV.isCell, Int.reduceToNat, Int.reduceSub, Int.reduceAdd, Int.reduceNeg])
  refine ⟨i + 1, by omega, by omega, ?_⟩
  rw [wk_int, i64_id (by omega) (by omega)]; simp

theorem eqProgram_spec (c : Pg) (h : smPg c) : Pu Tryz.prog 49 [aPg c, aPg c] (B true) := by
  refine Pu.of fun H => ?_
  refine W49_ok ?_; simp (maxSteps := 1000000) (disch := (first | assumption | (apply Ne.symm; assumption))) only [W49, vw0, vw1, vw2, vw3, vw4, vu0, vu1, ↓condV_t, ↓condV_f, cap_nil, allocV, splice, partV, buildV, eqFieldsV, eqS, tabs, TK.agg, reduceCtorEq, Array.toList, List.map_cons, List.map_nil, ↓reduceIte, List.length_map, Nat.reduceAdd, Nat.reduceLeDiff, Nat.reduceLT, Nat.reduceMul, Nat.reduceSub, Option.bind_some, Option.map_some, bndV, numV, eI, eU, e8, eB, AV.isCell, Int.reduceToNat, Int.reduceSub, Int.reduceAdd, Int.reduceNeg]
  intro r hr r2 n1 h2
  (try simp (maxSteps := 1000000) (disch := (first | assumption | (apply Ne.symm; assumption))) only [vw0, vw1, vw2, vw3, vw4, vu0, vu1, ↓condV_t, ↓condV_f, cap_nil, allocV, splice, partV, buildV, eqFieldsV, eqS, tabs, TK.agg, reduceCtorEq, Array.toList, List.map_cons, List.map_nil, ↓reduceIte, List.length_map, Nat.reduceAdd, Nat.reduceLeDiff, Nat.reduceLT, Nat.reduceMul, Nat.reduceSub, Option.bind_some, Option.map_some, bndV, numV, eI, eU, e8, eB, AV.isCell, Int.reduceToNat, Int.reduceSub, Int.reduceAdd, Int.reduceNeg])
  refine Pu.use (eqNodeS_spec c.start h.1) ?_
  (try simp (maxSteps := 1000000) (disch := (first | assumption | (apply Ne.symm; assumption))) only [vw0, vw1, vw2, vw3, vw4, vu0, vu1, ↓condV_t, ↓condV_f, cap_nil, allocV, splice, partV, buildV, eqFieldsV, eqS, tabs, TK.agg, reduceCtorEq, Array.toList, List.map_cons, List.map_nil, ↓reduceIte, List.length_map, Nat.reduceAdd, Nat.reduceLeDiff, Nat.reduceLT, Nat.reduceMul, Nat.reduceSub, Option.bind_some, Option.map_some, bndV, numV, eI, eU, e8, eB, AV.isCell, Int.reduceToNat, Int.reduceSub, Int.reduceAdd, Int.reduceNeg])
  refine Pu.use (eqCommandS_spec c.cmds h.2.1 h.2.2) ?_
  (try simp (maxSteps := 1000000) (disch := (first | assumption | (apply Ne.symm; assumption))) only [vw0, vw1, vw2, vw3, vw4, vu0, vu1, ↓condV_t, ↓condV_f, cap_nil, allocV, splice, partV, buildV, eqFieldsV, eqS, tabs, TK.agg, reduceCtorEq, Array.toList, List.map_cons, List.map_nil, ↓reduceIte, List.length_map, Nat.reduceAdd, Nat.reduceLeDiff, Nat.reduceLT, Nat.reduceMul, Nat.reduceSub, Option.bind_some, Option.map_some, bndV, numV, eI, eU, e8, eB, AV.isCell, Int.reduceToNat, Int.reduceSub, Int.reduceAdd, Int.reduceNeg])
  (repeat first | exact Heap.le_refl _ | refine Heap.le_setN ?_ (by assumption))

end Go.Proofs.YtgcklgeifdefhaaGreat
/- Plain facts: words and their lower bits. -/
namespace Go.Pt
open Go Go.Sep
theorem mask_eq : ∀ w : Nat, w ≤ 64 → (2 ^ 64 - 1) / 2 ^ (64 - w) = 2 ^ w - 1 := by decide +kernel

theorem or_step (a k : Nat) : (a % 2 ^ k) ||| (a &&& 2 ^ k) = a % 2 ^ (k + 1) := by
  apply Nat.eq_of_testBit_eq
  intro i
  rw [Nat.testBit_or, Nat.testBit_and, Nat.testBit_mod_two_pow, Nat.testBit_mod_two_pow, Nat.testBit_two_pow]
  cases a.testBit i
  · simp
  · simp only [Bool.and_true, Bool.true_and]
    rw [Bool.eq_iff_iff]
    simp only [Bool.or_eq_true, decide_eq_true_eq]
    omega

theorem bitsU (a b : Nat) (ha : a < 2 ^ 64) (hb : b < 2 ^ 64) :
    bitsI .and .u64 a b = ((a &&& b : Nat) : Int) ∧ bitsI .or .u64 a b = ((a ||| b : Nat) : Int) := by
  have e : ∀ x : Nat, x < 2 ^ 64 → (BitVec.ofInt IntKind.u64.bits (x : Int)).toNat = x := by
    intro x hx
    have : BitVec.ofInt IntKind.u64.bits (x : Int) = BitVec.ofNat 64 x := by
      apply BitVec.eq_of_toNat_eq; simp [IntKind.bits]
    rw [this]
    show (BitVec.ofNat 64 x).toNat = x
    rw [BitVec.toNat_ofNat, Nat.mod_eq_of_lt hx]
  constructor
  · simp only [bitsI]
    rw [BitVec.toNat_and, e a ha, e b hb, IntKind.wrap_u64]
    have := Nat.and_lt_two_pow a hb
    omega
  · simp only [bitsI]
    rw [BitVec.toNat_or, e a ha, e b hb, IntKind.wrap_u64]
    have := Nat.or_lt_two_pow ha hb
    omega
end Go.Pt
/- Specs: words, operators, leaves. -/
namespace Go.Proofs.YtgcklgeifdefhaaGreat
open Go Go.Sep Go.Pt
set_option linter.unusedSimpArgs false
set_option linter.unusedVariables false
attribute [local irreducible] CallT

theorem l1In_B (a lo hi : Int) : Pu Tryz.prog 52 [I a, I lo, I hi] (B (inB a lo hi)) := l1In_spec a lo hi
theorem isWide_spec (n : Int) : Pu Tryz.prog 129 [I n] (B (inB n 1 64)) := by
  refine Pu.of fun H => ?_
  refine W129_ok ?_; simp (maxSteps := 1000000) (disch := (first | assumption | (apply Ne.symm; assumption))) only [W129, vw0, vw1, vw2, vw3, vw4, vu0, vu1, ↓condV_t, ↓condV_f, cap_nil, allocV, splice, partV, buildV, eqFieldsV, eqS, tabs, TK.agg, reduceCtorEq, Array.toList, List.map_cons, List.map_nil, ↓reduceIte, List.length_map, Nat.reduceAdd, Nat.reduceLeDiff, Nat.reduceLT, Nat.reduceMul, Nat.reduceSub, Option.bind_some, Option.map_some, bndV, numV, eI, eU, e8, eB, AV.isCell, Int.reduceToNat, Int.reduceSub, Int.reduceAdd, Int.reduceNeg]
  refine ⟨fun h => ?_, fun h => ?_⟩
  · simp [inB, h]
  · simp [inB, h]
theorem isVars_spec (n : Int) : Pu Tryz.prog 130 [I n] (B (inB n 1 4)) := by
  refine Pu.of fun H => ?_
  refine W130_ok ?_; simp (maxSteps := 1000000) (disch := (first | assumption | (apply Ne.symm; assumption))) only [W130, vw0, vw1, vw2, vw3, vw4, vu0, vu1, ↓condV_t, ↓condV_f, cap_nil, allocV, splice, partV, buildV, eqFieldsV, eqS, tabs, TK.agg, reduceCtorEq, Array.toList, List.map_cons, List.map_nil, ↓reduceIte, List.length_map, Nat.reduceAdd, Nat.reduceLeDiff, Nat.reduceLT, Nat.reduceMul, Nat.reduceSub, Option.bind_some, Option.map_some, bndV, numV, eI, eU, e8, eB, AV.isCell, Int.reduceToNat, Int.reduceSub, Int.reduceAdd, Int.reduceNeg]
  refine ⟨fun h => ?_, fun h => ?_⟩
  · simp [inB, h]
  · simp [inB, h]
theorem l1Wide_spec (n : Int) : Pu Tryz.prog 124 [I n] (B (inB n 1 64)) := by
  refine Pu.of fun H => ?_
  refine W124_ok ?_; simp (maxSteps := 1000000) (disch := (first | assumption | (apply Ne.symm; assumption))) only [W124, vw0, vw1, vw2, vw3, vw4, vu0, vu1, ↓condV_t, ↓condV_f, cap_nil, allocV, splice, partV, buildV, eqFieldsV, eqS, tabs, TK.agg, reduceCtorEq, Array.toList, List.map_cons, List.map_nil, ↓reduceIte, List.length_map, Nat.reduceAdd, Nat.reduceLeDiff, Nat.reduceLT, Nat.reduceMul, Nat.reduceSub, Option.bind_some, Option.map_some, bndV, numV, eI, eU, e8, eB, AV.isCell, Int.reduceToNat, Int.reduceSub, Int.reduceAdd, Int.reduceNeg]
  exact Pu.use (l1In_B ..) ⟨rfl, Heap.le_refl _⟩

theorem mask_spec (w : Int) (h1 : 1 ≤ w) (h2 : w ≤ 64) : Pu Tryz.prog 144 [I w] (U (2 ^ w.toNat - 1)) := by
  refine Pu.of fun H => ?_
  obtain ⟨n, rfl⟩ : ∃ n : Nat, w = n := ⟨w.toNat, by omega⟩
  have e : IntKind.i64.wrap (64 - (n : Int)) = ((64 - n : Nat) : Int) := by rw [i64_id (by omega) (by omega)]; omega
  refine W144_ok ?_; simp (maxSteps := 1000000) (disch := (first | assumption | (apply Ne.symm; assumption))) only [W144, vw0, vw1, vw2, vw3, vw4, vu0, vu1, ↓condV_t, ↓condV_f, cap_nil, allocV, splice, partV, buildV, eqFieldsV, eqS, tabs, TK.agg, reduceCtorEq, Array.toList, List.map_cons, List.map_nil, ↓reduceIte, List.length_map, Nat.reduceAdd, Nat.reduceLeDiff, Nat.reduceLT, Nat.reduceMul, Nat.reduceSub, Option.bind_some, Option.map_some, bndV, numV, eI, eU, e8, eB, AV.isCell, Int.reduceToNat, Int.reduceSub, Int.reduceAdd, Int.reduceNeg, e]
  refine ⟨by omega, ?_⟩
  have e2 : min (64 - n) IntKind.u64.bits = 64 - n := by
    have : IntKind.u64.bits = 64 := rfl
    omega
  rw [e2]
  have e3 := mask_eq n (by omega)
  have hp := Nat.two_pow_pos n
  congr 2
  rw [Int.fdiv_eq_ediv_of_nonneg _ (by exact Int.le_of_lt (Int.pow_pos (by decide)))]
  have e4 : (18446744073709551615 : Int) / 2 ^ (64 - n) = ((((2 : Nat) ^ 64 - 1) / 2 ^ (64 - n) : Nat) : Int) := by
    rw [Int.natCast_ediv]; simp
  rw [e4, e3]
  simp only [Int.natCast_sub hp]
  simp

theorem lt_pow {a : Nat} {n : Nat} : decide ((a : Int) ≤ 2 ^ n - 1) = decide ((a : Int) < 2 ^ n) := by
  apply decide_eq_decide.2; omega

theorem GoodWord_impl (w : Int) (a : Nat) : Pu Tryz.prog 196 [I w, U a] (B (inB w 1 64 && decide ((a : Int) < 2 ^ w.toNat))) := by
  refine Pu.of fun H => ?_
  refine W196_ok ?_; simp (maxSteps := 1000000) (disch := (first | assumption | (apply Ne.symm; assumption))) only [W196, vw0, vw1, vw2, vw3, vw4, vu0, vu1, ↓condV_t, ↓condV_f, cap_nil, allocV, splice, partV, buildV, eqFieldsV, eqS, tabs, TK.agg, reduceCtorEq, Array.toList, List.map_cons, List.map_nil, ↓reduceIte, List.length_map, Nat.reduceAdd, Nat.reduceLeDiff, Nat.reduceLT, Nat.reduceMul, Nat.reduceSub, Option.bind_some, Option.map_some, bndV, numV, eI, eU, e8, eB, AV.isCell, Int.reduceToNat, Int.reduceSub, Int.reduceAdd, Int.reduceNeg]
  refine Pu.use (isWide_spec w) ?_
  cases h : inB w 1 64
  · (try simp (maxSteps := 1000000) (disch := (first | assumption | (apply Ne.symm; assumption))) only [vw0, vw1, vw2, vw3, vw4, vu0, vu1, ↓condV_t, ↓condV_f, cap_nil, allocV, splice, partV, buildV, eqFieldsV, eqS, tabs, TK.agg, reduceCtorEq, Array.toList, List.map_cons, List.map_nil, ↓reduceIte, List.length_map, Nat.reduceAdd, Nat.reduceLeDiff, Nat.reduceLT, Nat.reduceMul, Nat.reduceSub, Option.bind_some, Option.map_some, bndV, numV, eI, eU, e8, eB, AV.isCell, Int.reduceToNat, Int.reduceSub, Int.reduceAdd, Int.reduceNeg])
  · (try simp (maxSteps := 1000000) (disch := (first | assumption | (apply Ne.symm; assumption))) only [vw0, vw1, vw2, vw3, vw4, vu0, vu1, ↓condV_t, ↓condV_f, cap_nil, allocV, splice, partV, buildV, eqFieldsV, eqS, tabs, TK.agg, reduceCtorEq, Array.toList, List.map_cons, List.map_nil, ↓reduceIte, List.length_map, Nat.reduceAdd, Nat.reduceLeDiff, Nat.reduceLT, Nat.reduceMul, Nat.reduceSub, Option.bind_some, Option.map_some, bndV, numV, eI, eU, e8, eB, AV.isCell, Int.reduceToNat, Int.reduceSub, Int.reduceAdd, Int.reduceNeg])
    rw [inB_iff] at h
    refine Pu.use (mask_spec w h.1 h.2) ?_
    (try simp (maxSteps := 1000000) (disch := (first | assumption | (apply Ne.symm; assumption))) only [vw0, vw1, vw2, vw3, vw4, vu0, vu1, ↓condV_t, ↓condV_f, cap_nil, allocV, splice, partV, buildV, eqFieldsV, eqS, tabs, TK.agg, reduceCtorEq, Array.toList, List.map_cons, List.map_nil, ↓reduceIte, List.length_map, Nat.reduceAdd, Nat.reduceLeDiff, Nat.reduceLT, Nat.reduceMul, Nat.reduceSub, Option.bind_some, Option.map_some, bndV, numV, eI, eU, e8, eB, AV.isCell, Int.reduceToNat, Int.reduceSub, Int.reduceAdd, Int.reduceNeg])
    rw [lt_pow]

theorem l1Cut_spec (n : Nat) (a : Nat) (hn : n ≤ 64) (ha : a < 2 ^ 64) : Pu Tryz.prog 176 [I n, U a] (U ((a % 2 ^ n : Nat) : Int)) := by
  refine Pu.of fun H => ?_
  refine W176_ok ?_; simp (maxSteps := 1000000) (disch := (first | assumption | (apply Ne.symm; assumption))) only [W176, vw0, vw1, vw2, vw3, vw4, vu0, vu1, ↓condV_t, ↓condV_f, cap_nil, allocV, splice, partV, buildV, eqFieldsV, eqS, tabs, TK.agg, reduceCtorEq, Array.toList, List.map_cons, List.map_nil, ↓reduceIte, List.length_map, Nat.reduceAdd, Nat.reduceLeDiff, Nat.reduceLT, Nat.reduceMul, Nat.reduceSub, Option.bind_some, Option.map_some, bndV, numV, eI, eU, e8, eB, AV.isCell, Int.reduceToNat, Int.reduceSub, Int.reduceAdd, Int.reduceNeg]
  refine L176_0_rule (0 : Nat) (fun k => U ((a % 2 ^ k : Nat) : Int)) (fun k => I k) (fun _ => H) (fun k => k ≤ n) (fun k => n - k) ⟨by omega, ?_, .refl _, Heap.le_refl _⟩ ?_
  · simp [Nat.mod_one]; exact .refl _
  intro k hk
  (try simp (maxSteps := 1000000) (disch := (first | assumption | (apply Ne.symm; assumption))) only [vw0, vw1, vw2, vw3, vw4, vu0, vu1, ↓condV_t, ↓condV_f, cap_nil, allocV, splice, partV, buildV, eqFieldsV, eqS, tabs, TK.agg, reduceCtorEq, Array.toList, List.map_cons, List.map_nil, ↓reduceIte, List.length_map, Nat.reduceAdd, Nat.reduceLeDiff, Nat.reduceLT, Nat.reduceMul, Nat.reduceSub, Option.bind_some, Option.map_some, bndV, numV, eI, eU, e8, eB, AV.isCell, Int.reduceToNat, Int.reduceSub, Int.reduceAdd, Int.reduceNeg, B176_0])
  refine ⟨fun h => ⟨?_, k + 1, by omega, by omega, ?_, ?_⟩, fun h => ?_⟩
  · rw [IntKind.wrap_u64]; omega
  · have e1 : IntKind.u64.wrap (k : Int) = k := by rw [IntKind.wrap_u64]; omega
    have e2 : min k IntKind.u64.bits = k := by
      have : IntKind.u64.bits = 64 := rfl
      omega
    have hk2 : 2 ^ k < 2 ^ 64 := Nat.pow_lt_pow_right (by decide) (by omega)
    have e3 : IntKind.u64.wrap (1 * 2 ^ k) = ((2 ^ k : Nat) : Int) := by
      rw [IntKind.wrap_u64, Int.one_mul]
      have : (2 : Int) ^ k = ((2 ^ k : Nat) : Int) := by simp
      rw [this]
      generalize 2 ^ k = g at hk2 ⊢
      omega
    rw [e1, Int.toNat_natCast, e2, e3, (bitsU a (2 ^ k) ha hk2).1]
    have h1 : a % 2 ^ k < 2 ^ 64 := Nat.lt_of_le_of_lt (Nat.mod_le _ _) ha
    have h2 : a &&& 2 ^ k < 2 ^ 64 := Nat.and_lt_two_pow a hk2
    rw [(bitsU _ _ h1 h2).2, or_step, wk_int]
  · rw [wk_int, i64_id (by omega) (by omega)]; simp
  · have : k = n := by omega
    subst this; rfl

theorem GoodWord_spec (w : Int) (a : Nat) (ha : a < 2 ^ 64) : Pu Tryz.prog 166 [I w, U a] (B (inB w 1 64 && decide ((a : Int) < 2 ^ w.toNat))) := by
  refine Pu.of fun H => ?_
  refine W166_ok ?_; simp (maxSteps := 1000000) (disch := (first | assumption | (apply Ne.symm; assumption))) only [W166, vw0, vw1, vw2, vw3, vw4, vu0, vu1, ↓condV_t, ↓condV_f, cap_nil, allocV, splice, partV, buildV, eqFieldsV, eqS, tabs, TK.agg, reduceCtorEq, Array.toList, List.map_cons, List.map_nil, ↓reduceIte, List.length_map, Nat.reduceAdd, Nat.reduceLeDiff, Nat.reduceLT, Nat.reduceMul, Nat.reduceSub, Option.bind_some, Option.map_some, bndV, numV, eI, eU, e8, eB, AV.isCell, Int.reduceToNat, Int.reduceSub, Int.reduceAdd, Int.reduceNeg]
  refine Pu.use (l1Wide_spec w) ?_
  cases h : inB w 1 64
  · (try simp (maxSteps := 1000000) (disch := (first | assumption | (apply Ne.symm; assumption))) only [vw0, vw1, vw2, vw3, vw4, vu0, vu1, ↓condV_t, ↓condV_f, cap_nil, allocV, splice, partV, buildV, eqFieldsV, eqS, tabs, TK.agg, reduceCtorEq, Array.toList, List.map_cons, List.map_nil, ↓reduceIte, List.length_map, Nat.reduceAdd, Nat.reduceLeDiff, Nat.reduceLT, Nat.reduceMul, Nat.reduceSub, Option.bind_some, Option.map_some, bndV, numV, eI, eU, e8, eB, AV.isCell, Int.reduceToNat, Int.reduceSub, Int.reduceAdd, Int.reduceNeg])
  · (try simp (maxSteps := 1000000) (disch := (first | assumption | (apply Ne.symm; assumption))) only [vw0, vw1, vw2, vw3, vw4, vu0, vu1, ↓condV_t, ↓condV_f, cap_nil, allocV, splice, partV, buildV, eqFieldsV, eqS, tabs, TK.agg, reduceCtorEq, Array.toList, List.map_cons, List.map_nil, ↓reduceIte, List.length_map, Nat.reduceAdd, Nat.reduceLeDiff, Nat.reduceLT, Nat.reduceMul, Nat.reduceSub, Option.bind_some, Option.map_some, bndV, numV, eI, eU, e8, eB, AV.isCell, Int.reduceToNat, Int.reduceSub, Int.reduceAdd, Int.reduceNeg])
    rw [inB_iff] at h
    obtain ⟨n, rfl⟩ : ∃ n : Nat, w = n := ⟨w.toNat, by omega⟩
    refine Pu.use (l1Cut_spec n a (by omega) ha) ?_
    (try simp (maxSteps := 1000000) (disch := (first | assumption | (apply Ne.symm; assumption))) only [vw0, vw1, vw2, vw3, vw4, vu0, vu1, ↓condV_t, ↓condV_f, cap_nil, allocV, splice, partV, buildV, eqFieldsV, eqS, tabs, TK.agg, reduceCtorEq, Array.toList, List.map_cons, List.map_nil, ↓reduceIte, List.length_map, Nat.reduceAdd, Nat.reduceLeDiff, Nat.reduceLT, Nat.reduceMul, Nat.reduceSub, Option.bind_some, Option.map_some, bndV, numV, eI, eU, e8, eB, AV.isCell, Int.reduceToNat, Int.reduceSub, Int.reduceAdd, Int.reduceNeg])
    congr 2
    apply decide_eq_decide.2
    have e : ((2 ^ n : Nat) : Int) = (2 : Int) ^ n := by simp
    rw [← e]
    constructor
    · intro h2
      have h3 : a % 2 ^ n = a := by omega
      have := Nat.mod_lt a (Nat.two_pow_pos n)
      omega
    · intro h2
      rw [Nat.mod_eq_of_lt (by omega)]

/-! ### Operators -/
theorem operandsOf_spec (op : Int) {H : Heap} {K : AV → Heap → Prop} (h : ∀ p, many op = 0 ∨ p = Pt.part op → K (.tup [I (many op), I p, I (Pt.own op)]) H) : CallT Tryz.prog 172 [I op] H K := by
  have fin : ∀ m p o : Int, (many op : Int) = m → Pt.own op = o → (many op = 0 ∨ p = Pt.part op) → K (.tup [I m, I p, I o]) H := by
    intro m p o h1 h2 h3
    rw [← h1, ← h2]; exact h p h3
  refine W172_ok ?_; simp (maxSteps := 1000000) (disch := (first | assumption | (apply Ne.symm; assumption))) only [W172, vw0, vw1, vw2, vw3, vw4, vu0, vu1, ↓condV_t, ↓condV_f, cap_nil, allocV, splice, partV, buildV, eqFieldsV, eqS, tabs, TK.agg, reduceCtorEq, Array.toList, List.map_cons, List.map_nil, ↓reduceIte, List.length_map, Nat.reduceAdd, Nat.reduceLeDiff, Nat.reduceLT, Nat.reduceMul, Nat.reduceSub, Option.bind_some, Option.map_some, bndV, numV, eI, eU, e8, eB, AV.isCell, Int.reduceToNat, Int.reduceSub, Int.reduceAdd, Int.reduceNeg, J172_0, J172_1, J172_2]
  repeat' (first | refine ⟨fun h => ?_, fun h => ?_⟩ | intro h)
  all_goals
    refine fin _ _ _ ?_ ?_ ?_
    · (unfold many; repeat' split) <;> omega
    · (unfold Pt.own; repeat' split) <;> omega
    · (unfold many Pt.part; repeat' split) <;> omega
theorem l2Need_spec (op : Int) {H : Heap} {K : AV → Heap → Prop} (h : ∀ p, many op = 0 ∨ p = Pt.part op → K (.tup [I (many op), I p, I (Pt.own op)]) H) : CallT Tryz.prog 125 [I op] H K := by
  have fin : ∀ m p o : Int, (many op : Int) = m → Pt.own op = o → (many op = 0 ∨ p = Pt.part op) → K (.tup [I m, I p, I o]) H := by
    intro m p o h1 h2 h3
    rw [← h1, ← h2]; exact h p h3
  refine W125_ok ?_; simp (maxSteps := 1000000) (disch := (first | assumption | (apply Ne.symm; assumption))) only [W125, vw0, vw1, vw2, vw3, vw4, vu0, vu1, ↓condV_t, ↓condV_f, cap_nil, allocV, splice, partV, buildV, eqFieldsV, eqS, tabs, TK.agg, reduceCtorEq, Array.toList, List.map_cons, List.map_nil, ↓reduceIte, List.length_map, Nat.reduceAdd, Nat.reduceLeDiff, Nat.reduceLT, Nat.reduceMul, Nat.reduceSub, Option.bind_some, Option.map_some, bndV, numV, eI, eU, e8, eB, AV.isCell, Int.reduceToNat, Int.reduceSub, Int.reduceAdd, Int.reduceNeg]
  refine ⟨fun h1 => ?_, fun h1 => ⟨fun h2 => ?_, fun h2 => ⟨fun h3 => ?_, fun h3 => ⟨fun h4 => ?_, fun h4 => ⟨fun h5 => ?_, fun h5 => ?_⟩⟩⟩⟩⟩
  rotate_right
  · refine Pu.use (l1In_B ..) ?_
    cases h6 : inB op 3 12
    · have h6' : ¬ (3 ≤ op ∧ op ≤ 12) := fun hh => by rw [inB_iff.2 hh] at h6; cases h6
      (try simp (maxSteps := 1000000) (disch := (first | assumption | (apply Ne.symm; assumption))) only [vw0, vw1, vw2, vw3, vw4, vu0, vu1, ↓condV_t, ↓condV_f, cap_nil, allocV, splice, partV, buildV, eqFieldsV, eqS, tabs, TK.agg, reduceCtorEq, Array.toList, List.map_cons, List.map_nil, ↓reduceIte, List.length_map, Nat.reduceAdd, Nat.reduceLeDiff, Nat.reduceLT, Nat.reduceMul, Nat.reduceSub, Option.bind_some, Option.map_some, bndV, numV, eI, eU, e8, eB, AV.isCell, Int.reduceToNat, Int.reduceSub, Int.reduceAdd, Int.reduceNeg])
      refine Pu.use (l1In_B ..) ?_
      cases h7 : inB op 14 16
      · have h7' : ¬ (14 ≤ op ∧ op ≤ 16) := fun hh => by rw [inB_iff.2 hh] at h7; cases h7
        (try simp (maxSteps := 1000000) (disch := (first | assumption | (apply Ne.symm; assumption))) only [vw0, vw1, vw2, vw3, vw4, vu0, vu1, ↓condV_t, ↓condV_f, cap_nil, allocV, splice, partV, buildV, eqFieldsV, eqS, tabs, TK.agg, reduceCtorEq, Array.toList, List.map_cons, List.map_nil, ↓reduceIte, List.length_map, Nat.reduceAdd, Nat.reduceLeDiff, Nat.reduceLT, Nat.reduceMul, Nat.reduceSub, Option.bind_some, Option.map_some, bndV, numV, eI, eU, e8, eB, AV.isCell, Int.reduceToNat, Int.reduceSub, Int.reduceAdd, Int.reduceNeg])
        refine ⟨fun h8 => ?_, fun h8 => ⟨fun h9 => ?_, fun h9 => ?_⟩⟩
        all_goals
          refine fin _ _ _ ?_ ?_ ?_
          · (unfold many; repeat' split) <;> omega
          · (unfold Pt.own; repeat' split) <;> omega
          · (unfold many Pt.part; repeat' split) <;> omega
      · rw [inB_iff] at h7
        (try simp (maxSteps := 1000000) (disch := (first | assumption | (apply Ne.symm; assumption))) only [vw0, vw1, vw2, vw3, vw4, vu0, vu1, ↓condV_t, ↓condV_f, cap_nil, allocV, splice, partV, buildV, eqFieldsV, eqS, tabs, TK.agg, reduceCtorEq, Array.toList, List.map_cons, List.map_nil, ↓reduceIte, List.length_map, Nat.reduceAdd, Nat.reduceLeDiff, Nat.reduceLT, Nat.reduceMul, Nat.reduceSub, Option.bind_some, Option.map_some, bndV, numV, eI, eU, e8, eB, AV.isCell, Int.reduceToNat, Int.reduceSub, Int.reduceAdd, Int.reduceNeg])
        refine fin _ _ _ ?_ ?_ ?_
        · (unfold many; repeat' split) <;> omega
        · (unfold Pt.own; repeat' split) <;> omega
        · (unfold many Pt.part; repeat' split) <;> omega
    · rw [inB_iff] at h6
      (try simp (maxSteps := 1000000) (disch := (first | assumption | (apply Ne.symm; assumption))) only [vw0, vw1, vw2, vw3, vw4, vu0, vu1, ↓condV_t, ↓condV_f, cap_nil, allocV, splice, partV, buildV, eqFieldsV, eqS, tabs, TK.agg, reduceCtorEq, Array.toList, List.map_cons, List.map_nil, ↓reduceIte, List.length_map, Nat.reduceAdd, Nat.reduceLeDiff, Nat.reduceLT, Nat.reduceMul, Nat.reduceSub, Option.bind_some, Option.map_some, bndV, numV, eI, eU, e8, eB, AV.isCell, Int.reduceToNat, Int.reduceSub, Int.reduceAdd, Int.reduceNeg])
      refine fin _ _ _ ?_ ?_ ?_
      · (unfold many; repeat' split) <;> omega
      · (unfold Pt.own; repeat' split) <;> omega
      · (unfold many Pt.part; repeat' split) <;> omega
  all_goals
    refine fin _ _ _ ?_ ?_ ?_
    · (unfold many; repeat' split) <;> omega
    · (unfold Pt.own; repeat' split) <;> omega
    · (unfold many Pt.part; repeat' split) <;> omega

/-- A node's number is one. -/
def okN (x : Nd) : Prop := 0 ≤ x.n ∧ x.n < 2 ^ 64

theorem isLeafRight_spec (w v : Int) (x : Nd) (hv : 1 ≤ v ∧ v ≤ 4) (hx : okN x) : Pu Tryz.prog 173 [I w, I v, aN x] (B (leafOk w v x)) := by
  refine Pu.of fun H => ?_
  obtain ⟨a, ha⟩ : ∃ a : Nat, x.n = a := ⟨x.n.toNat, by unfold okN at hx; omega⟩
  have e : IntKind.u64.wrap v = v := by rw [IntKind.wrap_u64]; omega
  refine W173_ok ?_; simp (maxSteps := 1000000) (disch := (first | assumption | (apply Ne.symm; assumption))) only [W173, vw0, vw1, vw2, vw3, vw4, vu0, vu1, ↓condV_t, ↓condV_f, cap_nil, allocV, splice, partV, buildV, eqFieldsV, eqS, tabs, TK.agg, reduceCtorEq, Array.toList, List.map_cons, List.map_nil, ↓reduceIte, List.length_map, Nat.reduceAdd, Nat.reduceLeDiff, Nat.reduceLT, Nat.reduceMul, Nat.reduceSub, Option.bind_some, Option.map_some, bndV, numV, eI, eU, e8, eB, AV.isCell, Int.reduceToNat, Int.reduceSub, Int.reduceAdd, Int.reduceNeg, e, ha]
  intro r hr
  have hle : Heap.le H (H.set r [I x.op, U a]) := Heap.le_set hr
  refine ⟨fun h1 => ?_, fun h1 => ⟨fun h2 => ⟨?_, hle⟩, fun h2 => ⟨fun h3 => ⟨?_, hle⟩, fun h3 => ⟨?_, hle⟩⟩⟩⟩
  · refine Pu.use (GoodWord_impl w a) ⟨?_, hle⟩
    simp only [leafOk, h1, if_true, ha]
  · simp only [leafOk, h1, h2, if_true, if_false, ha, show ¬ (2 : Int) = 1 by decide]
  · simp only [leafOk, h1, h2, h3, if_true, if_false, ha, show ¬ (20 : Int) = 1 by decide, show ¬ (20 : Int) = 2 by decide]
  · simp only [leafOk, h1, h2, h3, if_false, ha]
theorem l2N_spec (w v : Int) (x : Nd) (hv : 1 ≤ v ∧ v ≤ 4) (hx : okN x) : Pu Tryz.prog 126 [I w, I v, aN x] (B (leafOk w v x)) := by
  refine Pu.of fun H => ?_
  obtain ⟨a, ha⟩ : ∃ a : Nat, x.n = a := ⟨x.n.toNat, by unfold okN at hx; omega⟩
  have ha2 : a < 2 ^ 64 := by unfold okN at hx; omega
  have e : IntKind.u64.wrap v = v := by rw [IntKind.wrap_u64]; omega
  refine W126_ok ?_; simp (maxSteps := 1000000) (disch := (first | assumption | (apply Ne.symm; assumption))) only [W126, vw0, vw1, vw2, vw3, vw4, vu0, vu1, ↓condV_t, ↓condV_f, cap_nil, allocV, splice, partV, buildV, eqFieldsV, eqS, tabs, TK.agg, reduceCtorEq, Array.toList, List.map_cons, List.map_nil, ↓reduceIte, List.length_map, Nat.reduceAdd, Nat.reduceLeDiff, Nat.reduceLT, Nat.reduceMul, Nat.reduceSub, Option.bind_some, Option.map_some, bndV, numV, eI, eU, e8, eB, AV.isCell, Int.reduceToNat, Int.reduceSub, Int.reduceAdd, Int.reduceNeg, e, ha]
  intro r hr
  have hle : Heap.le H (H.set r [I x.op, U a]) := Heap.le_set hr
  refine ⟨fun h1 => ?_, fun h1 => ⟨fun h2 => ⟨?_, hle⟩, fun h2 => ⟨fun h3 => ⟨?_, hle⟩, fun h3 => ⟨?_, hle⟩⟩⟩⟩
  · refine Pu.use (GoodWord_spec w a ha2) ⟨?_, hle⟩
    simp only [leafOk, h1, if_true, ha]
  · simp only [leafOk, h1, h2, if_true, if_false, ha, show ¬ (2 : Int) = 1 by decide]
  · simp only [leafOk, h1, h2, h3, if_true, if_false, ha, show ¬ (20 : Int) = 1 by decide, show ¬ (20 : Int) = 2 by decide]
    congr 2
    apply decide_eq_decide.2; omega
  · simp only [leafOk, h1, h2, h3, if_false, ha]
end Go.Proofs.YtgcklgeifdefhaaGreat
/- Rules for rows that grow, held by a slot or by a block. -/
namespace Go.Proofs.YtgcklgeifdefhaaGreat
open Go Go.Sep
set_option linter.unusedSimpArgs false
set_option linter.unusedVariables false
attribute [local irreducible] CallT

abbrev fI (n : Int) : PV := .int .i64 n
abbrev rowP {α : Type} (q : Nat) (xs : List α) : AV := .sl q 1 0 xs.length
abbrev cP {α : Type} (f : α → PV) (xs : List α) : List AV := xs.map fun x => AV.p (f x)
abbrev vP {α : Type} (f : α → PV) (xs : List α) : AV := .p (.sl (xs.map fun x => [f x]))
theorem cells_P {α : Type} (f : α → PV) (xs : List α) : cells (xs.map fun x => [f x]) = cP f xs := by
  induction xs with
  | nil => rfl
  | cons x xs ih => simp only [cells, List.map_cons, List.flatten_cons, List.map_append] at ih ⊢; rw [ih]; rfl
theorem flat_P {α : Type} (f : α → PV) (xs : List α) : (xs.map fun x => [f x]).flatten.map AV.p = cP f xs := cells_P f xs
theorem szP {α : Type} (f : α → PV) (xs : List α) : Sized 1 (xs.map fun x => [f x]) := sized_map (f := fun x => [f x]) (fun _ => rfl) xs
theorem cP_cell {α : Type} (f : α → PV) (xs : List α) : (cP f xs).all AV.isCell = true := by
  rw [← cells_P]; exact cells_cell _

theorem read_row {α : Type} {f : α → PV} {xs : List α} {k : Nat} (d : α) (h : k < xs.length) : ((((cP f xs).drop k).take 1).headD .any) = .p (f (xs.getD k d)) := by
  rw [List.drop_eq_getElem_cons (by simpa using h)]
  simp [List.getD, h]

/-- What may stand in front of an append: nothing yet, or a row of one's own. -/
def Base {α : Type} (f : α → PV) (x : AV) (xs : List α) (G : Heap) : Prop := (x = .p .nil ∧ xs = []) ∨ ∃ q, x = rowP q xs ∧ G q = some (cP f xs)

/-- Elements behind a row. -/
theorem app_row {α : Type} {f : α → PV} {tab : Tab} {t e : Nat} {d ed : TD} {q : Nat} {xs ys : List α} {G : Heap} {K : AV → Heap → Prop} (h1 : tab t = some d) (h2 : d.k = .slice e) (h3 : tab e = some ed) (h6 : ed.size = 1) (h7 : ed.bytes ≤ 64)
    (hq : G q = some (cP f xs)) (hl : xs.length + ys.length ≤ 1000000000)
    (h : ∀ q', G q' = none → K (rowP q' (xs ++ ys)) ((G.del q).set q' (cP f (xs ++ ys)))) : appendV tab t t (rowP q xs) (vP f ys) G (wkK K) := by
  have := app_own (x := vP f ys) (r := q) (es := xs.map fun x => [f x]) (fs := ys.map fun x => [f x]) (H := G) (K := K) h1 h2 h3 h1 h2 h6 (bz := ed.bytes) rfl (.inl rfl) (by rw [cells_P]; exact hq) (szP f xs) (szP f ys)
    (by simp only [List.length_map]; exact Nat.le_trans (Nat.mul_le_mul hl h7) (by omega)) (by simp only [List.length_map]; omega) fun r' hr' => by
      have := h r' hr'
      rw [← List.map_append, cells_P]
      simpa only [own, List.length_map] using this
  simpa only [own, List.length_map] using this

/-- Elements behind a row, or behind none. -/
theorem app_base {α : Type} {f : α → PV} {tab : Tab} {t e : Nat} {d ed : TD} {x : AV} {xs ys : List α} {G : Heap} {K : AV → Heap → Prop} (h1 : tab t = some d) (h2 : d.k = .slice e) (h3 : tab e = some ed) (h6 : ed.size = 1) (h7 : ed.bytes ≤ 64)
    (hb : Base f x xs G) (hl : xs.length + ys.length ≤ 1000000000)
    (h : ∀ q' G1, G q' = none → G1 q' = some (cP f (xs ++ ys)) → (∀ y, y ≠ q' → (∀ q, x = rowP q xs → y ≠ q) → G1 y = G y) → K (rowP q' (xs ++ ys)) G1) : appendV tab t t x (vP f ys) G (wkK K) := by
  rcases hb with ⟨rfl, rfl⟩ | ⟨q, rfl, hq⟩
  · simp only [appendV, h1, h2, h3, h6, srcV, baseV]
    refine ⟨szP f ys, ?_, ?_, ?_, fun r' hr' => wkK.keep ?_⟩
    · have hl2 : 0 + (ys.map fun x => [f x]).length ≤ 1000000000 := by simpa using hl
      exact Nat.le_trans (Nat.mul_le_mul hl2 h7) (by omega)
    · simp only [List.length_map]; simp at hl; omega
    · exact cells_cell _
    · have := h r' (G.set r' (cP f ys)) hr' (by rw [Heap.set_same]; rfl) (fun y hy _ => Heap.set_other hy)
      rw [flat_P]
      simpa using this
  · refine app_row h1 h2 h3 h6 h7 hq hl fun q' hq' => ?_
    have hne : q' ≠ q := by rintro rfl; rw [hq] at hq'; cases hq'
    refine h q' _ hq' (Heap.set_same _ _ _) fun y hy hy2 => ?_
    rw [Heap.set_other hy, Heap.del_other (hy2 q rfl)]

/-- A block r of one's own, the last of whose cells holds a list that grows. -/
structure Own1 {α : Type} (f : α → PV) (H0 G : Heap) (r : Nat) (pre : List AV) (x : AV) (xs : List α) : Prop where
  hr : G r = some (pre ++ [x])
  base : (x = .p .nil ∧ xs = []) ∨ ∃ q, x = rowP q xs ∧ G q = some (cP f xs) ∧ H0 q = none ∧ q ≠ r
  le : Heap.le H0 G
  nr : H0 r = none

theorem Own1.alloc {α : Type} {f : α → PV} {H0 G : Heap} {r : Nat} {pre : List AV} {x : AV} {xs : List α} (o : Own1 f H0 G r pre x xs) {q : Nat} (hq : G q = none) (b : List AV) : Own1 f H0 (G.set q b) r pre x xs := by
  have ne : ∀ {y c}, G y = some c → y ≠ q := fun h e => by rw [e, hq] at h; cases h
  refine ⟨by rw [Heap.set_other (ne o.hr)]; exact o.hr, ?_, Heap.le_setN o.le ?_, o.nr⟩
  · rcases o.base with h | ⟨q1, h1, h2, h3, h4⟩
    · exact .inl h
    · exact .inr ⟨q1, h1, by rw [Heap.set_other (ne h2)]; exact h2, h3, h4⟩
  · cases hh : H0 q with
    | none => rfl
    | some c => rw [o.le q c hh] at hq; cases hq

/-- Elements are put behind the list, and it is stored again. -/
theorem Own1.app {α : Type} {f : α → PV} {H0 G : Heap} {r : Nat} {pre : List AV} {x : AV} {xs : List α} (o : Own1 f H0 G r pre x xs) {tab : Tab} {t e : Nat} {d ed : TD} {ys : List α} {K : AV → Heap → Prop} (h1 : tab t = some d) (h2 : d.k = .slice e) (h3 : tab e = some ed) (h6 : ed.size = 1) (h7 : ed.bytes ≤ 64)
    (hl : xs.length + ys.length ≤ 1000000000)
    (h : ∀ q' m G1, G1 r = some (pre ++ [x]) → Own1 f H0 (G1.set r (pre ++ [.sl q' 1 0 m])) r pre (.sl q' 1 0 m) (xs ++ ys) → (∀ y b, y ≠ r → H0 y = some b → G1 y = some b) → K (.sl q' 1 0 m) G1) : appendV tab t t x (vP f ys) G (wkK K) := by
  refine app_base (f := f) h1 h2 h3 h6 h7 (xs := xs) ?_ hl fun q' G1 hq' hG1 hfr => ?_
  · rcases o.base with h | ⟨q1, h1, h2, h3, h4⟩
    · exact .inl h
    · exact .inr ⟨q1, h1, h2⟩
  · have hrq : r ≠ q' := fun e => by rw [← e, o.hr] at hq'; cases hq'
    have hxr : ∀ q, x = rowP q xs → H0 q = none ∧ q ≠ r := by
      intro q hx
      rcases o.base with ⟨h, _⟩ | ⟨q1, h1, h2, h3, h4⟩
      · rw [h] at hx; cases hx
      · rw [h1] at hx; cases hx; exact ⟨h3, h4⟩
    have hle1 : ∀ y b, H0 y = some b → G1 y = some b := by
      intro y b hy
      rw [hfr y (fun e => by rw [← e, o.le y b hy] at hq'; cases hq') (fun q hx e => by rw [e, (hxr q hx).1] at hy; cases hy)]
      exact o.le y b hy
    have hnq : H0 q' = none := by
      cases hh : H0 q' with
      | none => rfl
      | some c => rw [o.le q' c hh] at hq'; cases hq'
    refine h q' _ G1 ?_ ⟨Heap.set_same _ _ _, .inr ⟨q', rfl, by rw [Heap.set_other hrq.symm]; exact hG1, hnq, hrq.symm⟩, ?_, o.nr⟩ fun y b _ hy => hle1 y b hy
    · rw [hfr r hrq (fun q hx e => (hxr q hx).2 e.symm)]; exact o.hr
    · refine Heap.le_setN (fun y b hy => hle1 y b hy) o.nr

/-- The list, and the block, told by value. -/
theorem Own1.wk {α : Type} {f : α → PV} {H0 G : Heap} {r : Nat} {pre : List AV} {x : AV} {xs : List α} (o : Own1 f H0 G r pre x xs) {v v' : AV}
    (hn : x = .p .nil → xs = [] → AV.wk v v') (hf : ∀ q, x = rowP q xs → FrzR q 1 (xs.map fun x => [f x]) v v') (hp : ∀ q, q ≠ r → FrzL q 1 (xs.map fun x => [f x]) (pre ++ [rowP q xs]) (pre ++ [vP f xs])) :
    ∃ G', Wk v G v' G' ∧ G' r = some (pre ++ [vP f xs]) ∧ Heap.le H0 G' := by
  rcases o.base with ⟨rfl, rfl⟩ | ⟨q, rfl, hq, hq0, hqr⟩
  · refine ⟨G.set r (pre ++ [vP f []]), .trans (.val (hn rfl rfl)) (.cell o.hr (by simp) fun i a a' ha ha' => ?_), Heap.set_same _ _ _, Heap.le_setN o.le o.nr⟩
    by_cases hi : i < pre.length
    · rw [List.getElem?_append_left hi] at ha ha'
      rw [ha] at ha'; cases ha'; exact .refl _
    · rw [List.getElem?_append_right (by omega)] at ha ha'
      cases hj : i - pre.length with
      | zero =>
        rw [hj] at ha ha'
        simp at ha ha'
        subst ha; subst ha'; exact .nil
      | succ j => rw [hj] at ha; simp at ha
  · refine ⟨(G.del q).set r (pre ++ [vP f xs]), Wk.frzAt (r := q) (s := r) (sz := 1) (es := xs.map fun x => [f x]) (by omega) (by rw [flat_P]; exact hq) (szP f xs) o.hr hqr.symm (hp q hqr) (hf q rfl) (by simp), Heap.set_same _ _ _, ?_⟩
    exact Heap.le_setN (Heap.le_del o.le hq0) o.nr

theorem FrzL.refl {r sz : Nat} {es : List (List PV)} : ∀ vs, FrzL r sz es vs vs
  | [] => .nil
  | v :: vs => .cons (.same v) (FrzL.refl vs)
theorem FrzL.app {r sz : Nat} {es : List (List PV)} : ∀ {vs ws ws' : List AV}, FrzL r sz es ws ws' → FrzL r sz es (vs ++ ws) (vs ++ ws')
  | [], _, _, h => h
  | v :: vs, _, _, h => .cons (.same v) (FrzL.app (vs := vs) h)
theorem frz_row {α : Type} {f : α → PV} {q : Nat} {xs : List α} : FrzR q 1 (xs.map fun x => [f x]) (rowP q xs) (vP f xs) := by
  have : FrzR q 1 (xs.map fun x => [f x]) (.sl q 1 0 (xs.map fun x => [f x]).length) (.p (.sl (xs.map fun x => [f x]))) := .here
  rwa [List.length_map] at this
end Go.Proofs.YtgcklgeifdefhaaGreat
/- Specs: function values over lists of numbers. -/
namespace Go.Proofs.YtgcklgeifdefhaaGreat
open Go Go.Sep
set_option linter.unusedSimpArgs false
set_option linter.unusedVariables false
attribute [local irreducible] CallT

theorem IndexFunc_at (xs : List Int) (g : Nat) (caps : List AV) (p : Int → Bool) {H : Heap} (hl : xs.length ≤ 1000000000) (hp : ∀ x ∈ xs, PuAt Tryz.prog g (I x :: caps) H (B (p x))) :
    PuAt Tryz.prog 150 [Is xs, .fn g caps] H (I (if xs.any p then (xs.findIdx p : Int) else -1)) := by
  intro K hK
  refine CallT.fin ?_
  refine W150_ok ?_; simp (maxSteps := 1000000) (disch := (first | assumption | (apply Ne.symm; assumption))) only [W150, vw0, vw1, vw2, vw3, vw4, vu0, vu1, ↓condV_t, ↓condV_f, cap_nil, allocV, splice, partV, buildV, eqFieldsV, eqS, tabs, TK.agg, reduceCtorEq, Array.toList, List.map_cons, List.map_nil, ↓reduceIte, List.length_map, Nat.reduceAdd, Nat.reduceLeDiff, Nat.reduceLT, Nat.reduceMul, Nat.reduceSub, Option.bind_some, Option.map_some, bndV, numV, eI, eU, e8, eB, AV.isCell, Int.reduceToNat, Int.reduceSub, Int.reduceAdd, Int.reduceNeg]
  refine L150_0_rule (0 : Nat) (fun i => I i) (fun _ => H) (fun i => i ≤ xs.length ∧ ∀ j (hj : j < xs.length), j < i → p xs[j] = false) (fun i => xs.length - i) ⟨⟨by omega, by intros; omega⟩, .refl _, Heap.le_refl _⟩ ?_
  rintro i ⟨hi1, ha⟩
  (try simp (maxSteps := 1000000) (disch := (first | assumption | (apply Ne.symm; assumption))) only [vw0, vw1, vw2, vw3, vw4, vu0, vu1, ↓condV_t, ↓condV_f, cap_nil, allocV, splice, partV, buildV, eqFieldsV, eqS, tabs, TK.agg, reduceCtorEq, Array.toList, List.map_cons, List.map_nil, ↓reduceIte, List.length_map, Nat.reduceAdd, Nat.reduceLeDiff, Nat.reduceLT, Nat.reduceMul, Nat.reduceSub, Option.bind_some, Option.map_some, bndV, numV, eI, eU, e8, eB, AV.isCell, Int.reduceToNat, Int.reduceSub, Int.reduceAdd, Int.reduceNeg, B150_0])
  refine ⟨fun h => ⟨by omega, h, ?_⟩, fun h => ?_⟩
  · have hlt : i < xs.length := by omega
    rw [getD_lt hlt]
    refine PuAt.use (hp _ (List.getElem_mem hlt)) ?_
    (try simp (maxSteps := 1000000) (disch := (first | assumption | (apply Ne.symm; assumption))) only [vw0, vw1, vw2, vw3, vw4, vu0, vu1, ↓condV_t, ↓condV_f, cap_nil, allocV, splice, partV, buildV, eqFieldsV, eqS, tabs, TK.agg, reduceCtorEq, Array.toList, List.map_cons, List.map_nil, ↓reduceIte, List.length_map, Nat.reduceAdd, Nat.reduceLeDiff, Nat.reduceLT, Nat.reduceMul, Nat.reduceSub, Option.bind_some, Option.map_some, bndV, numV, eI, eU, e8, eB, AV.isCell, Int.reduceToNat, Int.reduceSub, Int.reduceAdd, Int.reduceNeg])
    refine ⟨fun h1 => ?_, fun h1 => ⟨i + 1, ⟨by omega, fun j hj hji => ?_⟩, by omega, ?_⟩⟩
    · have h2 : xs.any p = true := List.any_eq_true.2 ⟨xs[i], List.getElem_mem hlt, h1⟩
      have h3 : xs.findIdx p = i := by
        rw [List.findIdx_eq hlt]; exact ⟨h1, fun j hj => ha j (by omega) hj⟩
      rw [h2, h3] at hK; exact wkK.keep (by simpa using hK)
    · rcases Nat.lt_succ_iff_lt_or_eq.1 hji with h2 | rfl
      · exact ha j hj h2
      · exact h1
    · rw [wk_int, i64_id (by omega) (by omega)]; simp
  · have hi : i = xs.length := by omega
    have h2 : xs.any p = false := by
      rw [List.any_eq_false]
      intro x hx
      obtain ⟨j, hj, rfl⟩ := List.mem_iff_getElem.1 hx
      rw [ha j hj (by omega)]; simp
    rw [h2] at hK; exact wkK.keep (by simpa using hK)

theorem ContainsFunc_at (xs : List Int) (g : Nat) (caps : List AV) (p : Int → Bool) {H : Heap} (hl : xs.length ≤ 1000000000) (hp : ∀ x ∈ xs, PuAt Tryz.prog g (I x :: caps) H (B (p x))) :
    PuAt Tryz.prog 100 [Is xs, .fn g caps] H (B (xs.any p)) := by
  intro K hK
  refine W100_ok ?_; simp (maxSteps := 1000000) (disch := (first | assumption | (apply Ne.symm; assumption))) only [W100, vw0, vw1, vw2, vw3, vw4, vu0, vu1, ↓condV_t, ↓condV_f, cap_nil, allocV, splice, partV, buildV, eqFieldsV, eqS, tabs, TK.agg, reduceCtorEq, Array.toList, List.map_cons, List.map_nil, ↓reduceIte, List.length_map, Nat.reduceAdd, Nat.reduceLeDiff, Nat.reduceLT, Nat.reduceMul, Nat.reduceSub, Option.bind_some, Option.map_some, bndV, numV, eI, eU, e8, eB, AV.isCell, Int.reduceToNat, Int.reduceSub, Int.reduceAdd, Int.reduceNeg]
  refine PuAt.use (IndexFunc_at xs g caps p hl hp) ?_
  (try simp (maxSteps := 1000000) (disch := (first | assumption | (apply Ne.symm; assumption))) only [vw0, vw1, vw2, vw3, vw4, vu0, vu1, ↓condV_t, ↓condV_f, cap_nil, allocV, splice, partV, buildV, eqFieldsV, eqS, tabs, TK.agg, reduceCtorEq, Array.toList, List.map_cons, List.map_nil, ↓reduceIte, List.length_map, Nat.reduceAdd, Nat.reduceLeDiff, Nat.reduceLT, Nat.reduceMul, Nat.reduceSub, Option.bind_some, Option.map_some, bndV, numV, eI, eU, e8, eB, AV.isCell, Int.reduceToNat, Int.reduceSub, Int.reduceAdd, Int.reduceNeg])
  cases h : xs.any p <;> simp [h] at hK ⊢ <;> exact hK

/-- Elements behind the first m of a row. -/
theorem app_prefix {α : Type} {f : α → PV} {tab : Tab} {t e : Nat} {d ed : TD} {q m : Nat} {xs ys : List α} {G : Heap} {K : AV → Heap → Prop} (h1 : tab t = some d) (h2 : d.k = .slice e) (h3 : tab e = some ed) (h6 : ed.size = 1) (h7 : ed.bytes ≤ 64)
    (hq : G q = some (cP f xs)) (hm : m ≤ xs.length) (hl : m + ys.length ≤ 1000000000)
    (h : ∀ q', G q' = none → q' ≠ q → K (rowP q' (xs.take m ++ ys)) ((G.del q).set q' (cP f (xs.take m ++ ys)))) : appendV tab t t (.sl q 1 0 m) (vP f ys) G (wkK K) := by
  simp only [appendV, h1, h2, h3, h6, srcV, baseV, hq]
  refine ⟨szP f ys, trivial, by simp; omega, ?_, ?_, ?_, fun r' hr' => wkK.keep ?_⟩
  · have hl2 : m + (ys.map fun x => [f x]).length ≤ 1000000000 := by simpa using hl
    exact Nat.le_trans (Nat.mul_le_mul hl2 h7) (by omega)
  · simp only [List.length_map]; omega
  · exact cells_cell _
  · have := h r' hr' (fun e => by rw [e, hq] at hr'; cases hr')
    rw [flat_P]
    have e1 : (List.drop 0 (cP f xs)).take (m * 1) = cP f (xs.take m) := by simp [cP, List.map_take]
    have e2 : (xs.take m).length = m := by simp; omega
    rw [e1]
    have e3 : (xs.take m ++ ys).length = m + ys.length := by rw [List.length_append, e2]
    have h0 : cP f (xs.take m ++ ys) = cP f (xs.take m) ++ cP f ys := List.map_append
    simp only [rowP, e3, h0] at this
    rw [List.length_map]
    exact this
end Go.Proofs.YtgcklgeifdefhaaGreat
/- Specs: terms and their kinds. -/
namespace Go.Proofs.YtgcklgeifdefhaaGreat
open Go Go.Sep Go.Pt
set_option linter.unusedSimpArgs false
set_option linter.unusedVariables false
attribute [local irreducible] CallT

theorem GoodTerm1_at (x k : Int) {H : Heap} : PuAt Tryz.prog 174 [I x, .fp [.int .i64 k]] H (B (decide (x ≠ k))) := by
  intro K hK
  refine W174_ok ?_; simp (maxSteps := 1000000) (disch := (first | assumption | (apply Ne.symm; assumption))) only [W174, vw0, vw1, vw2, vw3, vw4, vu0, vu1, ↓condV_t, ↓condV_f, cap_nil, allocV, splice, partV, buildV, eqFieldsV, eqS, tabs, TK.agg, reduceCtorEq, Array.toList, List.map_cons, List.map_nil, ↓reduceIte, List.length_map, Nat.reduceAdd, Nat.reduceLeDiff, Nat.reduceLT, Nat.reduceMul, Nat.reduceSub, Option.bind_some, Option.map_some, bndV, numV, eI, eU, e8, eB, AV.isCell, Int.reduceToNat, Int.reduceSub, Int.reduceAdd, Int.reduceNeg, load_fp]
  simpa using hK

/-- Whether one of the last elements of a row of one's own is another one. -/
theorem Contains_row {q r m o : Nat} {p : List Int} {k : Int} {G : Heap} (hq : G q = some (cP fI p)) (hr : G r = some [I k]) (hqr : q ≠ r) (ho : o + m = p.length) {K : AV → Heap → Prop} (h : K (B ((p.drop o).any fun x => decide (x ≠ k))) G) (hl : p.length ≤ 1000) :
    CallT Tryz.prog 100 [.sl q 1 o m, .fn 174 [.ptr r 0]] G K := by
  refine CallT.thaw (args' := [Is (p.drop o), .fn 174 [.fp [.int .i64 k]]]) (v := B ((p.drop o).any fun x => decide (x ≠ k))) (H1 := (G.del q).del r) ?_ (.bool _) ?_ h
  · exact (ContainsFunc_at (p.drop o) _ _ (fun x => decide (x ≠ k)) (by simp; omega) fun x _ => GoodTerm1_at x k) _ rfl
  · refine .trans (Wk.frzS (r := q) (es := p.map fI) (v' := .tup [Is (p.drop o), .fn 174 [.ptr r 0]]) ?_ ?_) (Wk.frzS (r := r) (es := [.int .i64 k]) ?_ ?_)
    · rw [hq]; simp [cP]
    · have := FrzS.part (r := q) (es := p.map fI) o m (by simp; omega)
      have e : ((List.drop o (p.map fI)).take m).map (fun v => [v]) = (p.drop o).map eI := by
        rw [List.take_of_length_le (by simp; omega), ← List.map_drop, List.map_map]; rfl
      rw [e] at this
      exact .tup (.cons this (.cons (.same _) .nil))
    · rw [Heap.del_other hqr.symm]; exact hr
    · exact .tup (.cons (.same _) (.cons (.fn _ (.cons (.ptr 0) .nil)) .nil))

/-- Whether a term is good. -/
def gtI (w v : Int) (t : List Nd) : Bool := frame w v t && (match run w v [] t with
  | some p => decide (p.length = 1)
  | none => false)
theorem gtI_none {w v : Int} {t : List Nd} (h : run w v [] t = none) : gtI w v t = false := by simp [gtI, h]

theorem step_some {w v : Int} {p : List Int} {x : Nd} (h1 : Pt.own x.op ≠ 0) (h2 : leafOk w v x = true) (h3 : many x.op ≤ p.length) (h4 : ((p.drop (p.length - many x.op)).any fun k => decide (k ≠ Pt.part x.op)) = false) : Pt.step w v p x = some (p.take (p.length - many x.op) ++ [Pt.own x.op]) := by
  unfold Pt.step
  rw [if_neg (by rintro (h | h | h); exact h1 h; rw [h2] at h; cases h; omega), if_neg (by rw [h4]; simp)]
theorem step_none {w v : Int} {p : List Int} {x : Nd} (h : Pt.own x.op = 0 ∨ leafOk w v x = false ∨ p.length < many x.op) : Pt.step w v p x = none := by unfold Pt.step; rw [if_pos h]
theorem step_any {w v : Int} {p : List Int} {x : Nd} (h : ((p.drop (p.length - many x.op)).any fun k => decide (k ≠ Pt.part x.op)) = true) : Pt.step w v p x = none := by
  unfold Pt.step
  split
  · rfl
  · first | rfl | rw [if_pos h]
theorem many_le (op : Int) : many op ≤ 2 := by unfold many; split <;> (try split) <;> omega

theorem GoodTerm_spec (w v : Int) (t : List Nd) (hl : t.length ≤ 1048576) (ht : ∀ x ∈ t, okN x) : Pu Tryz.prog 139 [I w, I v, Ns t] (B (gtI w v t)) := by
  refine Pu.of fun H => ?_
  have bad : frame w v t = false → B false = B (gtI w v t) := fun h => by simp only [gtI, h, Bool.false_and]
  refine W139_ok ?_; simp (maxSteps := 1000000) (disch := (first | assumption | (apply Ne.symm; assumption))) only [W139, vw0, vw1, vw2, vw3, vw4, vu0, vu1, ↓condV_t, ↓condV_f, cap_nil, allocV, splice, partV, buildV, eqFieldsV, eqS, tabs, TK.agg, reduceCtorEq, Array.toList, List.map_cons, List.map_nil, ↓reduceIte, List.length_map, Nat.reduceAdd, Nat.reduceLeDiff, Nat.reduceLT, Nat.reduceMul, Nat.reduceSub, Option.bind_some, Option.map_some, bndV, numV, eI, eU, e8, eB, AV.isCell, Int.reduceToNat, Int.reduceSub, Int.reduceAdd, Int.reduceNeg, buildSliceV, zerosA, List.replicate_zero, List.flatten_nil]
  refine Pu.use (isWide_spec w) ?_
  cases hw : inB w 1 64
  · (try simp (maxSteps := 1000000) (disch := (first | assumption | (apply Ne.symm; assumption))) only [vw0, vw1, vw2, vw3, vw4, vu0, vu1, ↓condV_t, ↓condV_f, cap_nil, allocV, splice, partV, buildV, eqFieldsV, eqS, tabs, TK.agg, reduceCtorEq, Array.toList, List.map_cons, List.map_nil, ↓reduceIte, List.length_map, Nat.reduceAdd, Nat.reduceLeDiff, Nat.reduceLT, Nat.reduceMul, Nat.reduceSub, Option.bind_some, Option.map_some, bndV, numV, eI, eU, e8, eB, AV.isCell, Int.reduceToNat, Int.reduceSub, Int.reduceAdd, Int.reduceNeg])
    exact bad (by simp only [frame, hw, Bool.false_and])
  (try simp (maxSteps := 1000000) (disch := (first | assumption | (apply Ne.symm; assumption))) only [vw0, vw1, vw2, vw3, vw4, vu0, vu1, ↓condV_t, ↓condV_f, cap_nil, allocV, splice, partV, buildV, eqFieldsV, eqS, tabs, TK.agg, reduceCtorEq, Array.toList, List.map_cons, List.map_nil, ↓reduceIte, List.length_map, Nat.reduceAdd, Nat.reduceLeDiff, Nat.reduceLT, Nat.reduceMul, Nat.reduceSub, Option.bind_some, Option.map_some, bndV, numV, eI, eU, e8, eB, AV.isCell, Int.reduceToNat, Int.reduceSub, Int.reduceAdd, Int.reduceNeg])
  refine Pu.use (isVars_spec v) ?_
  cases hv : inB v 1 4
  · (try simp (maxSteps := 1000000) (disch := (first | assumption | (apply Ne.symm; assumption))) only [vw0, vw1, vw2, vw3, vw4, vu0, vu1, ↓condV_t, ↓condV_f, cap_nil, allocV, splice, partV, buildV, eqFieldsV, eqS, tabs, TK.agg, reduceCtorEq, Array.toList, List.map_cons, List.map_nil, ↓reduceIte, List.length_map, Nat.reduceAdd, Nat.reduceLeDiff, Nat.reduceLT, Nat.reduceMul, Nat.reduceSub, Option.bind_some, Option.map_some, bndV, numV, eI, eU, e8, eB, AV.isCell, Int.reduceToNat, Int.reduceSub, Int.reduceAdd, Int.reduceNeg])
    exact bad (by simp only [frame, hw, hv, Bool.false_and, Bool.and_false])
  (try simp (maxSteps := 1000000) (disch := (first | assumption | (apply Ne.symm; assumption))) only [vw0, vw1, vw2, vw3, vw4, vu0, vu1, ↓condV_t, ↓condV_f, cap_nil, allocV, splice, partV, buildV, eqFieldsV, eqS, tabs, TK.agg, reduceCtorEq, Array.toList, List.map_cons, List.map_nil, ↓reduceIte, List.length_map, Nat.reduceAdd, Nat.reduceLeDiff, Nat.reduceLT, Nat.reduceMul, Nat.reduceSub, Option.bind_some, Option.map_some, bndV, numV, eI, eU, e8, eB, AV.isCell, Int.reduceToNat, Int.reduceSub, Int.reduceAdd, Int.reduceNeg])
  refine ⟨fun h1 => ?_, fun h1 => ⟨fun h2 => ?_, fun h2 => ?_⟩⟩
  · have : ¬ 1 ≤ t.length := by omega
    exact bad (by simp only [frame, this, decide_false, Bool.false_and, Bool.and_false])
  · have : ¬ t.length ≤ 48 := by omega
    exact bad (by simp only [frame, this, decide_false, Bool.and_false])
  have hf : frame w v t = true := by
    have a1 : 1 ≤ t.length := by omega
    have a2 : t.length ≤ 48 := by omega
    simp only [frame, hw, hv, a1, a2, decide_true, Bool.and_true]
  rw [inB_iff] at hw hv
  intro q0 hq0
  refine wkK.keep ?_
  (try simp (maxSteps := 1000000) (disch := (first | assumption | (apply Ne.symm; assumption))) only [vw0, vw1, vw2, vw3, vw4, vu0, vu1, ↓condV_t, ↓condV_f, cap_nil, allocV, splice, partV, buildV, eqFieldsV, eqS, tabs, TK.agg, reduceCtorEq, Array.toList, List.map_cons, List.map_nil, ↓reduceIte, List.length_map, Nat.reduceAdd, Nat.reduceLeDiff, Nat.reduceLT, Nat.reduceMul, Nat.reduceSub, Option.bind_some, Option.map_some, bndV, numV, eI, eU, e8, eB, AV.isCell, Int.reduceToNat, Int.reduceSub, Int.reduceAdd, Int.reduceNeg])
  refine L139_0_rule ((0 : Nat), q0, ([] : List Int)) (fun s => rowP s.2.1 s.2.2) (fun s => I s.1) (fun s => H.set s.2.1 (cP fI s.2.2)) (fun s => s.1 ≤ t.length ∧ run w v [] (t.take s.1) = some s.2.2 ∧ H s.2.1 = none ∧ s.2.2.length ≤ s.1) (fun s => t.length - s.1)
    ⟨⟨by simp, by simp [run], hq0, by simp⟩, .refl _, .refl _, Heap.le_refl _⟩ ?_
  rintro ⟨i, q, p⟩ ⟨hi, hrun, hq, hpl⟩
  dsimp only at hi hrun hq hpl
  (try simp (maxSteps := 1000000) (disch := (first | assumption | (apply Ne.symm; assumption))) only [vw0, vw1, vw2, vw3, vw4, vu0, vu1, ↓condV_t, ↓condV_f, cap_nil, allocV, splice, partV, buildV, eqFieldsV, eqS, tabs, TK.agg, reduceCtorEq, Array.toList, List.map_cons, List.map_nil, ↓reduceIte, List.length_map, Nat.reduceAdd, Nat.reduceLeDiff, Nat.reduceLT, Nat.reduceMul, Nat.reduceSub, Option.bind_some, Option.map_some, bndV, numV, eI, eU, e8, eB, AV.isCell, Int.reduceToNat, Int.reduceSub, Int.reduceAdd, Int.reduceNeg, B139_0])
  refine ⟨fun h => ⟨by omega, h, ?_⟩, fun h => ?_⟩
  · have hlt : i < t.length := by omega
    have hm : t.getD i default ∈ t := getD_all (p := fun x => x ∈ t) (fun _ h => h) hlt
    have hx := ht _ hm
    have hnone := fun hs => run_none w v hlt hrun hs
    have hsnoc : ∀ p', Pt.step w v p (t.getD i default) = some p' → run w v [] (t.take (i + 1)) = some p' := fun p' hs => by
      rw [take_succ_snoc hlt, run_snoc, hrun]; exact hs
    generalize t.getD i default = x at hx hnone hsnoc ⊢
    intro r9 n9 hr9
    (try simp (maxSteps := 1000000) (disch := (first | assumption | (apply Ne.symm; assumption))) only [vw0, vw1, vw2, vw3, vw4, vu0, vu1, ↓condV_t, ↓condV_f, cap_nil, allocV, splice, partV, buildV, eqFieldsV, eqS, tabs, TK.agg, reduceCtorEq, Array.toList, List.map_cons, List.map_nil, ↓reduceIte, List.length_map, Nat.reduceAdd, Nat.reduceLeDiff, Nat.reduceLT, Nat.reduceMul, Nat.reduceSub, Option.bind_some, Option.map_some, bndV, numV, eI, eU, e8, eB, AV.isCell, Int.reduceToNat, Int.reduceSub, Int.reduceAdd, Int.reduceNeg])
    have hle9 : Heap.le H ((H.set q (cP fI p)).set r9 [I x.op, U x.n]) := Heap.le_setN (Heap.le_set hq) hr9
    refine operandsOf_spec x.op fun pp hpp => ?_
    (try simp (maxSteps := 1000000) (disch := (first | assumption | (apply Ne.symm; assumption))) only [vw0, vw1, vw2, vw3, vw4, vu0, vu1, ↓condV_t, ↓condV_f, cap_nil, allocV, splice, partV, buildV, eqFieldsV, eqS, tabs, TK.agg, reduceCtorEq, Array.toList, List.map_cons, List.map_nil, ↓reduceIte, List.length_map, Nat.reduceAdd, Nat.reduceLeDiff, Nat.reduceLT, Nat.reduceMul, Nat.reduceSub, Option.bind_some, Option.map_some, bndV, numV, eI, eU, e8, eB, AV.isCell, Int.reduceToNat, Int.reduceSub, Int.reduceAdd, Int.reduceNeg])
    intro r11 n119 n11q hr11
    have hml := many_le x.op
    have e : IntKind.i64.wrap (↑p.length - ↑(many x.op)) = (p.length : Int) - many x.op := i64_id (by omega) (by omega)
    have hle11 : Heap.le H (((H.set q (cP fI p)).set r9 [I x.op, U x.n]).set r11 [I pp]) := Heap.le_setN hle9 hr11
    have nn : r9 ≠ r11 := Ne.symm n119
    (try simp (maxSteps := 1000000) (disch := (first | assumption | (apply Ne.symm; assumption))) only [vw0, vw1, vw2, vw3, vw4, vu0, vu1, ↓condV_t, ↓condV_f, cap_nil, allocV, splice, partV, buildV, eqFieldsV, eqS, tabs, TK.agg, reduceCtorEq, Array.toList, List.map_cons, List.map_nil, ↓reduceIte, List.length_map, Nat.reduceAdd, Nat.reduceLeDiff, Nat.reduceLT, Nat.reduceMul, Nat.reduceSub, Option.bind_some, Option.map_some, bndV, numV, eI, eU, e8, eB, AV.isCell, Int.reduceToNat, Int.reduceSub, Int.reduceAdd, Int.reduceNeg, e])
    refine ⟨fun h0 => ⟨by rw [gtI_none (hnone (step_none (.inl h0)))], hle11⟩, fun h0 => ?_⟩
    refine Pu.use (isLeafRight_spec w v x hv hx) ?_
    cases hlf : leafOk w v x
    · (try simp (maxSteps := 1000000) (disch := (first | assumption | (apply Ne.symm; assumption))) only [vw0, vw1, vw2, vw3, vw4, vu0, vu1, ↓condV_t, ↓condV_f, cap_nil, allocV, splice, partV, buildV, eqFieldsV, eqS, tabs, TK.agg, reduceCtorEq, Array.toList, List.map_cons, List.map_nil, ↓reduceIte, List.length_map, Nat.reduceAdd, Nat.reduceLeDiff, Nat.reduceLT, Nat.reduceMul, Nat.reduceSub, Option.bind_some, Option.map_some, bndV, numV, eI, eU, e8, eB, AV.isCell, Int.reduceToNat, Int.reduceSub, Int.reduceAdd, Int.reduceNeg])
      exact ⟨by rw [gtI_none (hnone (step_none (.inr (.inl hlf))))], hle11⟩
    (try simp (maxSteps := 1000000) (disch := (first | assumption | (apply Ne.symm; assumption))) only [vw0, vw1, vw2, vw3, vw4, vu0, vu1, ↓condV_t, ↓condV_f, cap_nil, allocV, splice, partV, buildV, eqFieldsV, eqS, tabs, TK.agg, reduceCtorEq, Array.toList, List.map_cons, List.map_nil, ↓reduceIte, List.length_map, Nat.reduceAdd, Nat.reduceLeDiff, Nat.reduceLT, Nat.reduceMul, Nat.reduceSub, Option.bind_some, Option.map_some, bndV, numV, eI, eU, e8, eB, AV.isCell, Int.reduceToNat, Int.reduceSub, Int.reduceAdd, Int.reduceNeg])
    refine ⟨fun h3 => ⟨by rw [gtI_none (hnone (step_none (.inr (.inr (by omega)))))], hle11⟩, fun h3 => ⟨by omega, by omega, by omega, ?_⟩⟩
    have e2 : ((p.length : Int) - many x.op).toNat = p.length - many x.op := by omega
    have e3 : ((p.length : Int) - ((p.length : Int) - many x.op)).toNat = many x.op := by omega
    rw [e2, e3]
    have hqG : ∀ z1 z2, (((H.set q (cP fI p)).set r9 z1).set r11 z2) q = some (cP fI p) := fun z1 z2 => by rw [Heap.set_other (Ne.symm n11q), Heap.set_other (Ne.symm n9), Heap.set_same]
    refine Contains_row (p := p) (k := pp) (o := (p.length - many x.op) * 1) (m := many x.op) (hqG _ _) (Heap.set_same _ _ _) (Ne.symm n11q) (by omega) ?_ (by omega)
    have hany : ((p.drop ((p.length - many x.op) * 1)).any fun k => decide (k ≠ pp)) = ((p.drop (p.length - many x.op)).any fun k => decide (k ≠ Pt.part x.op)) := by
      rw [Nat.mul_one]
      rcases hpp with h0 | rfl
      · rw [h0, Nat.sub_zero, List.drop_length]; rfl
      · rfl
    rw [hany]
    cases ha : ((p.drop (p.length - many x.op)).any fun k => decide (k ≠ Pt.part x.op))
    · (try simp (maxSteps := 1000000) (disch := (first | assumption | (apply Ne.symm; assumption))) only [vw0, vw1, vw2, vw3, vw4, vu0, vu1, ↓condV_t, ↓condV_f, cap_nil, allocV, splice, partV, buildV, eqFieldsV, eqS, tabs, TK.agg, reduceCtorEq, Array.toList, List.map_cons, List.map_nil, ↓reduceIte, List.length_map, Nat.reduceAdd, Nat.reduceLeDiff, Nat.reduceLT, Nat.reduceMul, Nat.reduceSub, Option.bind_some, Option.map_some, bndV, numV, eI, eU, e8, eB, AV.isCell, Int.reduceToNat, Int.reduceSub, Int.reduceAdd, Int.reduceNeg])
      refine ⟨by omega, by omega, by omega, ?_⟩
      refine lit1 tab_46 rfl tab_3 ⟨rfl, rfl⟩ ?_
      try rw [show ((p.length : Int) - many x.op).toNat = p.length - many x.op by omega]
      refine app_prefix (f := fI) (xs := p) (ys := [Pt.own x.op]) tab_46 rfl tab_3 rfl (by decide) (hqG _ _) (by omega) (by simp; omega) fun q' hq' hne => ?_
      simp only [Heap.set_none] at hq'
      obtain ⟨p1, p2, p3, p4⟩ := hq'
      (try simp (maxSteps := 1000000) (disch := (first | assumption | (apply Ne.symm; assumption))) only [vw0, vw1, vw2, vw3, vw4, vu0, vu1, ↓condV_t, ↓condV_f, cap_nil, allocV, splice, partV, buildV, eqFieldsV, eqS, tabs, TK.agg, reduceCtorEq, Array.toList, List.map_cons, List.map_nil, ↓reduceIte, List.length_map, Nat.reduceAdd, Nat.reduceLeDiff, Nat.reduceLT, Nat.reduceMul, Nat.reduceSub, Option.bind_some, Option.map_some, bndV, numV, eI, eU, e8, eB, AV.isCell, Int.reduceToNat, Int.reduceSub, Int.reduceAdd, Int.reduceNeg])
      refine ⟨(i + 1, q', p.take (p.length - many x.op) ++ [Pt.own x.op]), ⟨by simp only; omega, hsnoc _ (step_some h0 hlf (by omega) ha), p4, by simp; omega⟩, by simp only; omega, ?_, ?_, ?_⟩
      · simp only [List.length_append, List.length_cons, List.length_nil]; exact .refl _
      · rw [wk_int, i64_id (by omega) (by omega)]; simp
      · generalize cP fI (p.take (p.length - many x.op) ++ [Pt.own x.op]) = z
        (intro y b hy; simp only [Heap.set, Heap.del] at hy ⊢; (repeat' split at hy) <;> (repeat' split) <;> simp_all [cells])
    · (try simp (maxSteps := 1000000) (disch := (first | assumption | (apply Ne.symm; assumption))) only [vw0, vw1, vw2, vw3, vw4, vu0, vu1, ↓condV_t, ↓condV_f, cap_nil, allocV, splice, partV, buildV, eqFieldsV, eqS, tabs, TK.agg, reduceCtorEq, Array.toList, List.map_cons, List.map_nil, ↓reduceIte, List.length_map, Nat.reduceAdd, Nat.reduceLeDiff, Nat.reduceLT, Nat.reduceMul, Nat.reduceSub, Option.bind_some, Option.map_some, bndV, numV, eI, eU, e8, eB, AV.isCell, Int.reduceToNat, Int.reduceSub, Int.reduceAdd, Int.reduceNeg])
      exact ⟨by rw [gtI_none (hnone (step_any ha))], hle11⟩
  · have : i = t.length := by omega
    subst this
    rw [List.take_length] at hrun
    have hle : Heap.le H (H.set q (cP fI p)) := Heap.le_set hq
    refine ⟨?_, hle⟩
    simp only [gtI, hf, hrun, Bool.true_and]
    congr 2
    apply decide_eq_decide.2; omega
end Go.Proofs.YtgcklgeifdefhaaGreat
