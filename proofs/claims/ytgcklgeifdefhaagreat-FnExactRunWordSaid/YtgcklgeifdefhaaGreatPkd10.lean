/- Texts laid together: Qa0 Qa1 Qa2 Qb0 Qa3 Qa5 Qc1. -/
import Derived.Test.YtgcklgeifdefhaaGreatPkd9
set_option linter.unusedVariables false
set_option linter.unusedSimpArgs false
open Nat renaming reduceAdd → ν1, reduceLeDiff → ν2, reduceLT → ν3, reduceMul → ν4, reduceSub → ν5
open Int renaming reduceToNat → ι1, reduceSub → ι2, reduceAdd → ι3, reduceNeg → ι4
open Array renaming toList → ι5
open Ne renaming symm → ν6
open List renaming forall_mem_cons → ν7
namespace Go.Pt
def sgn (w a : Nat) : Int := if a < 2 ^ (w - 1) then a else (a : Int) - 2 ^ w
def ap (w : Nat) (op : Int) (a b : Nat) : Nat :=
  if op = 3 then (a + b) % 2 ^ w
  else if op = 4 then (a + 2 ^ w - b) % 2 ^ w
  else if op = 5 then a * b % 2 ^ w
  else if op = 6 then (if b = 0 then 2 ^ w - 1 else a / b)
  else if op = 7 then (if b = 0 then a else a % b)
  else if op = 8 ∨ op = 17 then a &&& b
  else if op = 9 ∨ op = 18 then a ||| b
  else if op = 10 then a ^^^ b
  else if op = 11 then (if w ≤ b then 0 else a * 2 ^ b % 2 ^ w)
  else if op = 12 then (if w ≤ b then 0 else a / 2 ^ b)
  else if op = 14 then (if a = b then 1 else 0)
  else if op = 15 then (if a < b then 1 else 0)
  else if op = 16 then (if sgn w a < sgn w b then 1 else 0)
  else 0
def un (w : Nat) (op : Int) (a : Nat) : Nat := if op = 13 then 2 ^ w - 1 - a else 1 - a
def leafV (s : List Nat) (x : Nd) : Nat := if x.op = 2 then s.getD x.n.toNat 0 else x.n.toNat
def okV (w : Nat) (k : Int) (a : Nat) : Prop := a < 2 ^ w ∧ (k ≠ 1 → a ≤ 1)
theorem many_cases (op : Int) : many op = 0 ∨ many op = 1 ∨ many op = 2 := by
  unfold many
  split
  · exact .inr (.inl rfl)
  · split
    · exact .inr (.inr rfl)
    · exact .inl rfl
theorem many1 {op : Int} (h : many op = 1) : op = 13 ∨ op = 19 := by
  unfold many at h
  split at h
  · assumption
  · split at h <;> omega
theorem many2 {op : Int} (h : many op = 2) : (3 ≤ op ∧ op ≤ 12) ∨ (14 ≤ op ∧ op ≤ 16) ∨ op = 17 ∨ op = 18 := by
  unfold many at h
  split at h
  · omega
  · split at h
    · assumption
    · omega
theorem many0 {op : Int} (h : many op = 0) (ho : own op ≠ 0) : op = 1 ∨ op = 2 ∨ op = 20 := by
  unfold many at h
  unfold own at ho
  split at h
  · omega
  · split at h
    · omega
    · split at ho
      · omega
      · split at ho <;> omega
theorem le_one_pow {w a : Nat} (hw : 1 ≤ w) (h : a ≤ 1) : a < 2 ^ w := by
  have : 2 ^ 1 ≤ 2 ^ w := Nat.pow_le_pow_right (by decide) hw
  omega
theorem un_ok {w : Nat} {op : Int} {a : Nat} (hw : 1 ≤ w) (h1 : many op = 1) (ha : okV w (part op) a) : okV w (own op) (un w op a) := by
  have hp := Nat.two_pow_pos w
  rcases many1 h1 with rfl | rfl
  · refine ⟨?_, fun h => absurd rfl h⟩
    unfold un; rw [if_pos rfl]; omega
  · have e : un w 19 a = 1 - a := rfl
    rw [e]
    exact ⟨le_one_pow hw (by omega), fun _ => by omega⟩
theorem div_lt' {a b m : Nat} (h : a < m) : a / b < m := Nat.lt_of_le_of_lt (Nat.div_le_self a b) h
theorem and_one {a b : Nat} (ha : a ≤ 1) (hb : b ≤ 1) : a &&& b ≤ 1 ∧ a ||| b ≤ 1 := by
  have h1 : a = 0 ∨ a = 1 := by omega
  have h2 : b = 0 ∨ b = 1 := by omega
  rcases h1 with rfl | rfl <;> rcases h2 with rfl | rfl <;> decide
theorem ite01 (p : Prop) [Decidable p] : (if p then 1 else 0 : Nat) ≤ 1 := by split <;> omega
theorem ap_ok {w : Nat} {op : Int} {a b : Nat} (hw : 1 ≤ w) (h2 : many op = 2) (ha : okV w (part op) a) (hb : okV w (part op) b) : okV w (own op) (ap w op a b) := by
  have hp := Nat.two_pow_pos w
  have md : ∀ x, x % 2 ^ w < 2 ^ w := fun x => Nat.mod_lt _ hp
  have k1 : own op = 1 → ap w op a b < 2 ^ w → okV w (own op) (ap w op a b) := fun h h3 => ⟨h3, fun h4 => absurd h h4⟩
  have k2 : ap w op a b ≤ 1 → okV w (own op) (ap w op a b) := fun h => ⟨le_one_pow hw h, fun _ => h⟩
  have ha1 := ha.1
  have hb1 := hb.1
  rcases many2 h2 with h | h | rfl | rfl
  · obtain rfl | rfl | rfl | rfl | rfl | rfl | rfl | rfl | rfl | rfl : op = 3 ∨ op = 4 ∨ op = 5 ∨ op = 6 ∨ op = 7 ∨ op = 8 ∨ op = 9 ∨ op = 10 ∨ op = 11 ∨ op = 12 := by omega
    · exact k1 rfl (md _)
    · exact k1 rfl (md _)
    · exact k1 rfl (md _)
    · refine k1 rfl ?_
      show (if b = 0 then 2 ^ w - 1 else a / b) < _
      split
      · omega
      · exact div_lt' ha1
    · refine k1 rfl ?_
      show (if b = 0 then a else a % b) < _
      split
      · exact ha1
      · exact Nat.lt_of_le_of_lt (Nat.mod_le _ _) ha1
    · exact k1 rfl (Nat.and_lt_two_pow a hb1)
    · exact k1 rfl (Nat.or_lt_two_pow ha1 hb1)
    · exact k1 rfl (Nat.xor_lt_two_pow ha1 hb1)
    · refine k1 rfl ?_
      show (if w ≤ b then 0 else a * 2 ^ b % 2 ^ w) < _
      split
      · exact hp
      · exact md _
    · refine k1 rfl ?_
      show (if w ≤ b then 0 else a / 2 ^ b) < _
      split
      · exact hp
      · exact div_lt' ha1
  · obtain rfl | rfl | rfl : op = 14 ∨ op = 15 ∨ op = 16 := by omega
    · exact k2 (ite01 _)
    · exact k2 (ite01 _)
    · exact k2 (ite01 _)
  · exact k2 (and_one (ha.2 (by decide)) (hb.2 (by decide))).1
  · exact k2 (and_one (ha.2 (by decide)) (hb.2 (by decide))).2
inductive Tr (w : Nat) (t : List Nd) (s : List Nat) : Nat → Nat → Int → Nat → Prop
  | leaf (k : Nat) (hk : k < t.length) (h0 : many (t.getD k default).op = 0) (ho : own (t.getD k default).op ≠ 0) (hv : okV w (own (t.getD k default).op) (leafV s (t.getD k default))) :
      Tr w t s k k (own (t.getD k default).op) (leafV s (t.getD k default))
  | one (k f a : Nat) (hk : k + 1 < t.length) (h1 : many (t.getD (k + 1) default).op = 1) (h : Tr w t s k f (part (t.getD (k + 1) default).op) a) :
      Tr w t s (k + 1) f (own (t.getD (k + 1) default).op) (un w (t.getD (k + 1) default).op a)
  | two (k f g a b : Nat) (hk : k + 1 < t.length) (h2 : many (t.getD (k + 1) default).op = 2) (hb : Tr w t s k (f + 1) (part (t.getD (k + 1) default).op) b) (ha : Tr w t s f g (part (t.getD (k + 1) default).op) a) :
      Tr w t s (k + 1) g (own (t.getD (k + 1) default).op) (ap w (t.getD (k + 1) default).op a b)
theorem Tr.lt {w : Nat} {t : List Nd} {s : List Nat} {k f : Nat} {kd : Int} {a : Nat} (h : Tr w t s k f kd a) : k < t.length ∧ f ≤ k := by
  induction h with
  | leaf k hk => exact ⟨hk, Nat.le_refl _⟩
  | one k f a hk h1 h ih => exact ⟨hk, by omega⟩
  | two k f g a b hk h2 hb ha ihb iha => exact ⟨hk, by omega⟩
theorem Tr.okV {w : Nat} {t : List Nd} {s : List Nat} (hw : 1 ≤ w) {k f : Nat} {kd : Int} {a : Nat} (h : Tr w t s k f kd a) : okV w kd a := by
  induction h with
  | leaf k hk h0 ho hv => exact hv
  | one k f a hk h1 h ih => exact un_ok hw h1 ih
  | two k f g a b hk h2 hb ha ihb iha => exact ap_ok hw h2 iha ihb
inductive Stk (w : Nat) (t : List Nd) (s : List Nat) : Nat → List Int → List Nat → Prop
  | nil : Stk w t s 0 [] []
  | snoc (i : Nat) (p : List Int) (vs : List Nat) (k : Nat) (kd : Int) (a : Nat) (h : Stk w t s i p vs) (ht : Tr w t s k i kd a) : Stk w t s (k + 1) (p ++ [kd]) (vs ++ [a])
theorem Stk.len {w : Nat} {t : List Nd} {s : List Nat} {i : Nat} {p : List Int} {vs : List Nat} (h : Stk w t s i p vs) : vs.length = p.length := by
  induction h with
  | nil => rfl
  | snoc i p vs k kd a h ht ih => simp [ih]
theorem Stk.inv {w : Nat} {t : List Nd} {s : List Nat} {i : Nat} {p : List Int} {vs : List Nat} (h : Stk w t s i p vs) (hp : p ≠ []) : ∃ i0 p0 vs0 k kd a, i = k + 1 ∧ p = p0 ++ [kd] ∧ vs = vs0 ++ [a] ∧ Stk w t s i0 p0 vs0 ∧ Tr w t s k i0 kd a := by
  cases h with
  | nil => exact absurd rfl hp
  | snoc i0 p0 vs0 k kd a h ht => exact ⟨i0, p0, vs0, k, kd, a, rfl, rfl, rfl, h, ht⟩
theorem Stk.nil_inv {w : Nat} {t : List Nd} {s : List Nat} {i : Nat} {p : List Int} {vs : List Nat} (h : Stk w t s i p vs) (hp : p = []) : i = 0 ∧ vs = [] := by
  cases h with
  | nil => exact ⟨rfl, rfl⟩
  | snoc i0 p0 vs0 k kd a h ht => simp at hp
theorem Stk.bound {w : Nat} {t : List Nd} {s : List Nat} {i : Nat} {p : List Int} {vs : List Nat} (h : Stk w t s i p vs) : p.length ≤ i := by
  induction h with
  | nil => exact Nat.le_refl _
  | snoc i p vs k kd a h ht ih =>
    have := ht.lt
    simp only [List.length_append, List.length_cons, List.length_nil]; omega
theorem Stk.okV {w : Nat} {t : List Nd} {s : List Nat} (hw : 1 ≤ w) {i : Nat} {p : List Int} {vs : List Nat} (h : Stk w t s i p vs) : ∀ j, j < vs.length → Pt.okV w (p.getD j 0) (vs.getD j 0) := by
  induction h with
  | nil => intro j hj; simp at hj
  | snoc i p vs k kd a h ht ih =>
    intro j hj
    have hl := h.len
    by_cases e : j < vs.length
    · have := ih j e
      have e1 : (p ++ [kd]).getD j 0 = p.getD j 0 := by simp only [List.getD, List.getElem?_append_left (show j < p.length by omega)]
      have e2 : (vs ++ [a]).getD j 0 = vs.getD j 0 := by simp only [List.getD, List.getElem?_append_left e]
      rw [e1, e2]; exact this
    · have hj2 : j = vs.length := by simp at hj; omega
      subst hj2
      have e1 : (p ++ [kd]).getD vs.length 0 = kd := by simp [List.getD, hl]
      have e2 : (vs ++ [a]).getD vs.length 0 = a := by simp [List.getD]
      rw [e1, e2]; exact ht.okV hw
def stepV (w : Nat) (s vs : List Nat) (x : Nd) : List Nat :=
  if many x.op = 0 then vs ++ [leafV s x]
  else if many x.op = 1 then vs.take (vs.length - 1) ++ [un w x.op (vs.getD (vs.length - 1) 0)]
  else vs.take (vs.length - 2) ++ [ap w x.op (vs.getD (vs.length - 2) 0) (vs.getD (vs.length - 1) 0)]
theorem leaf_ok {w v : Nat} {s : List Nat} {x : Nd} (hw : 1 ≤ w) (hs : s.length = v) (hsw : ∀ a ∈ s, a < 2 ^ w) (hx : 0 ≤ x.n) (h0 : many x.op = 0) (ho : own x.op ≠ 0) (hl : leafOk w v x = true) : okV w (own x.op) (leafV s x) := by
  rcases many0 h0 ho with h | h | h
  · unfold leafOk at hl
    rw [if_pos h] at hl
    simp only [Bool.and_eq_true, decide_eq_true_eq, Int.toNat_natCast] at hl
    have e : leafV s x = x.n.toNat := by unfold leafV; rw [if_neg (by omega)]
    rw [e, h]
    refine ⟨?_, fun hh => absurd rfl hh⟩
    have h2 := hl.2
    have : ((2 ^ w : Nat) : Int) = (2 : Int) ^ w := by simp
    omega
  · unfold leafOk at hl
    rw [if_neg (by omega), if_pos h] at hl
    simp only [decide_eq_true_eq] at hl
    have e : leafV s x = s.getD x.n.toNat 0 := by unfold leafV; rw [if_pos h]
    rw [e, h]
    refine ⟨?_, fun hh => absurd rfl hh⟩
    have hlt : x.n.toNat < s.length := by omega
    have : s.getD x.n.toNat 0 = s[x.n.toNat] := by simp [List.getD, hlt]
    rw [this]; exact hsw _ (List.getElem_mem hlt)
  · unfold leafOk at hl
    rw [if_neg (by omega), if_neg (by omega), if_pos h] at hl
    simp only [decide_eq_true_eq] at hl
    have e : leafV s x = x.n.toNat := by unfold leafV; rw [if_neg (by omega)]
    rw [e]
    exact ⟨le_one_pow hw (by omega), fun _ => by omega⟩
theorem step_inv {w v : Int} {p p' : List Int} {x : Nd} (h : step w v p x = some p') : own x.op ≠ 0 ∧ leafOk w v x = true ∧ many x.op ≤ p.length ∧ (∀ k ∈ p.drop (p.length - many x.op), k = part x.op) ∧ p' = p.take (p.length - many x.op) ++ [own x.op] := by
  unfold step at h
  split at h
  · cases h
  · rename_i h1
    split at h
    · cases h
    · rename_i h2
      injection h with h
      refine ⟨fun e => h1 (.inl e), ?_, by omega, fun k hk => ?_, h.symm⟩
      · cases hh : leafOk w v x
        · exact absurd (.inr (.inl hh)) h1
        · rfl
      · cases hh : decide (k = part x.op)
        · exfalso; apply h2
          rw [List.any_eq_true]
          exact ⟨k, hk, by simpa using hh⟩
        · simpa using hh
theorem Stk.step {w v : Nat} {t : List Nd} {s : List Nat} {i : Nat} {p p' : List Int} {vs : List Nat} (hw : 1 ≤ w) (hs : s.length = v) (hsw : ∀ a ∈ s, a < 2 ^ w) (h : Stk w t s i p vs) (hi : i < t.length) (hx : 0 ≤ (t.getD i default).n)
    (hp : Pt.step w v p (t.getD i default) = some p') : Stk w t s (i + 1) p' (stepV w s vs (t.getD i default)) := by
  obtain ⟨ho, hl, hm, hk, rfl⟩ := step_inv hp
  have hlen := h.len
  rcases many_cases (t.getD i default).op with h0 | h1 | h2
  · have e : stepV w s vs (t.getD i default) = vs ++ [leafV s (t.getD i default)] := by unfold stepV; rw [if_pos h0]
    rw [e, h0, Nat.sub_zero, List.take_length]
    exact .snoc i p vs i _ _ h (.leaf i hi h0 ho (leaf_ok hw hs hsw hx h0 ho hl))
  · obtain ⟨i0, p0, vs0, k, kd, a, rfl, rfl, rfl, hst, htr⟩ := h.inv (by intro e; rw [e] at hm; simp only [List.length_nil] at hm; omega)
    have e : stepV w s (vs0 ++ [a]) (t.getD (k + 1) default) = vs0 ++ [un w (t.getD (k + 1) default).op a] := by
      unfold stepV; rw [if_neg (by omega), if_pos h1]; simp
    rw [e, h1]
    rw [h1] at hk
    have hkd : kd = part (t.getD (k + 1) default).op := hk kd (by simp)
    subst hkd
    simp only [List.length_append, List.length_cons, List.length_nil, Nat.zero_add, Nat.add_sub_cancel, List.take_left]
    exact .snoc i0 p0 vs0 (k + 1) _ _ hst (.one k i0 a hi h1 htr)
  · obtain ⟨i1, p1, vs1, k, kd, b, rfl, rfl, rfl, hst1, htr1⟩ := h.inv (by intro e; rw [e] at hm; simp only [List.length_nil] at hm; omega)
    obtain ⟨i0, p0, vs0, f, kd0, a, rfl, rfl, rfl, hst, htr⟩ := hst1.inv (by intro e; rw [e] at hm; simp only [List.length_nil, List.length_append, List.length_cons] at hm; omega)
    have e : stepV w s (vs0 ++ [a] ++ [b]) (t.getD (k + 1) default) = vs0 ++ [ap w (t.getD (k + 1) default).op a b] := by
      unfold stepV; rw [if_neg (by omega), if_neg (by omega)]
      simp [List.getD]
    rw [e, h2]
    rw [h2] at hk
    have hkd : kd = part (t.getD (k + 1) default).op := hk kd (by simp)
    have hkd0 : kd0 = part (t.getD (k + 1) default).op := hk kd0 (by simp)
    subst hkd; subst hkd0
    have e2 : (p0 ++ [part (t.getD (k + 1) default).op] ++ [part (t.getD (k + 1) default).op]).take ((p0 ++ [part (t.getD (k + 1) default).op] ++ [part (t.getD (k + 1) default).op]).length - 2) = p0 := by simp
    rw [e2]
    exact .snoc i0 p0 vs0 (k + 1) _ _ hst (.two k f i0 a b hi h2 htr1 htr)
def pileV (w : Nat) (s : List Nat) (t : List Nd) (i : Nat) : List Nat := (t.take i).foldl (stepV w s) []
theorem pileV_succ {w : Nat} {s : List Nat} {t : List Nd} {i : Nat} (h : i < t.length) : pileV w s t (i + 1) = stepV w s (pileV w s t i) (t.getD i default) := by
  unfold pileV; rw [take_succ_snoc h, List.foldl_append]; rfl
def tval (w : Nat) (t : List Nd) (s : List Nat) : Nat := (pileV w s t t.length).getD 0 0
theorem Stk.run {w v : Nat} {t : List Nd} {s : List Nat} (hw : 1 ≤ w) (hs : s.length = v) (hsw : ∀ a ∈ s, a < 2 ^ w) (hx : ∀ x ∈ t, 0 ≤ x.n) : ∀ (i : Nat) (p : List Int), i ≤ t.length → run w v [] (t.take i) = some p → Stk w t s i p (pileV w s t i)
  | 0, p, _, h => by
    simp only [List.take_zero, Pt.run, Option.some.injEq] at h
    subst h; exact .nil
  | i + 1, p, hi, h => by
    have hlt : i < t.length := hi
    rw [take_succ_snoc hlt, run_snoc] at h
    cases hr : Pt.run w v [] (t.take i) with
    | none => rw [hr] at h; cases h
    | some p0 =>
      rw [hr] at h
      rw [pileV_succ hlt]
      refine Stk.step hw hs hsw (Stk.run hw hs hsw hx i p0 (by omega) hr) hlt ?_ h
      have : t.getD i default = t[i] := by simp [List.getD, hlt]
      rw [this]; exact hx _ (List.getElem_mem hlt)
theorem run_prefix {w v : Int} {t : List Nd} {p : List Int} (h : run w v [] t = some p) (i : Nat) : ∃ p', run w v [] (t.take i) = some p' := by
  have e : t = t.take i ++ t.drop i := (List.take_append_drop _ _).symm
  rw [e, run_app] at h
  cases hr : run w v [] (t.take i) with
  | none => rw [hr] at h; cases h
  | some p' => exact ⟨p', rfl⟩
theorem kind_run {w v : Int} {t : List Nd} {k : Int} (hk : k ≠ 0) (h : kind w v t = k) : frame w v t = true ∧ run w v [] t = some [k] := by
  unfold kind at h
  split at h
  · rename_i hf
    refine ⟨hf, ?_⟩
    split at h
    · rename_i k' hr; rw [hr, h]
    · exact absurd h.symm hk
  · exact absurd h.symm hk
theorem kind_tree {w v : Nat} {t : List Nd} {s : List Nat} {k : Int} (hs : s.length = v) (hsw : ∀ a ∈ s, a < 2 ^ w) (hx : ∀ x ∈ t, 0 ≤ x.n) (hk : k ≠ 0) (h : kind w v t = k) :
    1 ≤ w ∧ 1 ≤ t.length ∧ t.length ≤ 48 ∧ Tr w t s (t.length - 1) 0 k (tval w t s) ∧ (∀ i, i ≤ t.length → ∃ p, Stk w t s i p (pileV w s t i) ∧ (i < t.length → ∃ p', step w v p (t.getD i default) = some p')) ∧ (pileV w s t t.length).length = 1 := by
  obtain ⟨hf, hr⟩ := kind_run hk h
  simp only [frame, Bool.and_eq_true, inB_iff, decide_eq_true_eq] at hf
  have hw : 1 ≤ w := by omega
  have hall := Stk.run hw hs hsw hx (t := t)
  have hst := hall t.length [k] (Nat.le_refl _) (by rw [List.take_length]; exact hr)
  obtain ⟨i0, p0, vs0, k1, kd, a, e1, e2, e3, h1, h2⟩ := hst.inv (by simp)
  have hp0 : p0 = [] := by
    have := congrArg List.length e2
    simp at this; simpa using this
  subst hp0
  have hkd : kd = k := by simpa using e2.symm
  subst hkd
  obtain ⟨rfl, rfl⟩ := h1.nil_inv rfl
  refine ⟨hw, hf.2.1, hf.2.2, ?_, fun i hi => ?_, by rw [e3]; rfl⟩
  · have : tval w t s = a := by unfold tval; rw [e3]; rfl
    rw [this, show t.length - 1 = k1 by omega]; exact h2
  · obtain ⟨p, hp⟩ := run_prefix hr i
    refine ⟨p, hall i p hi hp, fun hlt => ?_⟩
    obtain ⟨p', hp'⟩ := run_prefix hr (i + 1)
    rw [take_succ_snoc hlt, run_snoc, hp] at hp'
    exact ⟨p', hp'⟩
theorem kind_var {w v : Nat} {t : List Nd} {k : Int} (hk : k ≠ 0) (h : kind w v t = k) : ∀ x ∈ t, x.op = 2 → x.n < v := by
  obtain ⟨hf, hr⟩ := kind_run hk h
  intro x hx h2
  obtain ⟨i, hi, rfl⟩ := List.mem_iff_getElem.1 hx
  obtain ⟨p, hp⟩ := run_prefix hr i
  obtain ⟨p', hp'⟩ := run_prefix hr (i + 1)
  rw [take_succ_snoc hi, run_snoc, hp] at hp'
  have e : t.getD i default = t[i] := by simp [List.getD, hi]
  rw [e] at hp'
  obtain ⟨_, hl, _⟩ := step_inv hp'
  unfold leafOk at hl
  rw [if_neg (by omega), if_pos h2] at hl
  exact of_decide_eq_true hl
end Go.Pt
namespace Go.Proofs.YtgcklgeifdefhaaGreat
open Go Go.Sep Go.Pt
attribute [local irreducible] CallT
def sw (w : Nat) : Prop := 1 ≤ w ∧ w ≤ 5
theorem pow5 {w : Nat} (h : sw w) : 2 ≤ 2 ^ w ∧ 2 ^ w ≤ 32 := by
  have a := Nat.pow_le_pow_right (n := 2) (by decide) h.1
  have b := Nat.pow_le_pow_right (n := 2) (by decide) h.2
  omega
theorem powI (w : Nat) : ((2 ^ w : Nat) : Int) = (2 : Int) ^ w := by simp
theorem mask_sw {w : Nat} (h : sw w) : Pu Tryz.prog 144 [I w] (U ((2 ^ w - 1 : Nat) : Int)) := by
  have h1 := h.1
  have h2 := h.2
  have := mask_spec (w : Int) (by omega) (by omega)
  have hp := pow5 h
  have e : (2 : Int) ^ (w : Int).toNat - 1 = ((2 ^ w - 1 : Nat) : Int) := by
    rw [Int.toNat_natCast, ← powI]; omega
  rw [e] at this; exact this
theorem inB_sw {w : Nat} (h : sw w) : inB (w : Int) 1 64 = true := by
  have h1 := h.1
  have h2 := h.2
  rw [inB_iff]; omega
theorem GoodW_impl {w a : Nat} (h : sw w) (ha : a < 2 ^ w) : Pu Tryz.prog 196 [I w, U a] (B true) := by
  have := GoodWord_impl (w : Int) a
  have e : (inB (w : Int) 1 64 && decide ((a : Int) < 2 ^ (w : Int).toNat)) = true := by
    rw [inB_sw h, Int.toNat_natCast, ← powI]
    have : (a : Int) < ((2 ^ w : Nat) : Int) := by omega
    rw [decide_eq_true this]; rfl
  rw [e] at this; exact this
theorem GoodW_ref {w a : Nat} (h : sw w) (ha : a < 2 ^ w) : Pu Tryz.prog 166 [I w, U a] (B true) := by
  have hp := pow5 h
  have := GoodWord_spec (w : Int) a (by omega)
  have e : (inB (w : Int) 1 64 && decide ((a : Int) < 2 ^ (w : Int).toNat)) = true := by
    rw [inB_sw h, Int.toNat_natCast, ← powI]
    have : (a : Int) < ((2 ^ w : Nat) : Int) := by omega
    rw [decide_eq_true this]; rfl
  rw [e] at this; exact this
theorem l1Cut_sw {w a : Nat} (h : sw w) (ha : a < 2 ^ 64) : Pu Tryz.prog 176 [I w, U a] (U ((a % 2 ^ w : Nat) : Int)) := l1Cut_spec w a (by have := h.2; omega) ha
theorem and_mask {x w : Nat} (hx : x < 2 ^ 64) (h : sw w) : bitsI .and .u64 (x : Int) ((2 ^ w - 1 : Nat) : Int) = ((x % 2 ^ w : Nat) : Int) := by
  have hp := pow5 h
  rw [(bitsU x (2 ^ w - 1) hx (by omega)).1, Nat.and_two_pow_sub_one_eq_mod]
theorem xorU (a b : Nat) (ha : a < 2 ^ 64) (hb : b < 2 ^ 64) : bitsI .xor .u64 (a : Int) (b : Int) = ((a ^^^ b : Nat) : Int) := by
  have e : ∀ x : Nat, x < 2 ^ 64 → (BitVec.ofInt IntKind.u64.bits (x : Int)).toNat = x := by
    intro x hx
    have : BitVec.ofInt IntKind.u64.bits (x : Int) = BitVec.ofNat 64 x := by
      apply BitVec.eq_of_toNat_eq; simp [IntKind.bits]
    rw [this]
    show (BitVec.ofNat 64 x).toNat = x
    rw [BitVec.toNat_ofNat, Nat.mod_eq_of_lt hx]
  simp only [bitsI]
  rw [BitVec.toNat_xor, e a ha, e b hb, IntKind.wrap_u64]
  have := Nat.xor_lt_two_pow ha hb
  omega
theorem wU {n : Nat} (h : n < 2 ^ 64) : IntKind.u64.wrap (n : Int) = n := by rw [IntKind.wrap_u64]; omega
theorem tdivN (a b : Nat) : Int.tdiv (a : Int) (b : Int) = ((a / b : Nat) : Int) := by
  rw [Int.tdiv_eq_ediv_of_nonneg (by omega)]; rfl
theorem tmodN (a b : Nat) : Int.tmod (a : Int) (b : Int) = ((a % b : Nat) : Int) := by
  rw [Int.tmod_eq_emod_of_nonneg (by omega)]; rfl
theorem fdivN (a n : Nat) : Int.fdiv (a : Int) (2 ^ n) = ((a / 2 ^ n : Nat) : Int) := by
  rw [Int.fdiv_eq_ediv_of_nonneg _ (by exact Int.le_of_lt (Int.pow_pos (by decide))), ← powI]; rfl
theorem mulN (a n : Nat) : (a : Int) * 2 ^ n = ((a * 2 ^ n : Nat) : Int) := by rw [← powI]; rfl
theorem minU {n : Nat} (h : n ≤ 64) : min n IntKind.u64.bits = n := by
  have : IntKind.u64.bits = 64 := rfl
  omega
theorem areWords_sw {w a b : Nat} (h : sw w) (ha : a < 2 ^ w) (hb : b < 2 ^ w) : Pu Tryz.prog 214 [I w, U a, U b] (B true) := by
  refine Pu.of fun H => ?_
  refine W214_ok ?_; simp (maxSteps := 1000000) (disch := first | assumption | (apply ν6; assumption)) only [W214, vz, vu, vv, eqS, eF_, ↓c1_, ↓c2_, tabs, reduceCtorEq, ι5, ↓reduceIte, ν1, ν2, ν3, ν4, ν5, ι1, ι2, ι3, ι4]
  refine Pu.use (GoodW_impl h ha) ?_
  (try simp (maxSteps := 1000000) (disch := first | assumption | (apply ν6; assumption)) only [vz, vu, vv, eqS, eF_, ↓c1_, ↓c2_, tabs, reduceCtorEq, ι5, ↓reduceIte, ν1, ν2, ν3, ν4, ν5, ι1, ι2, ι3, ι4])
  refine Pu.use (GoodW_impl h hb) ?_
  (try simp (maxSteps := 1000000) (disch := first | assumption | (apply ν6; assumption)) only [vz, vu, vv, eqS, eF_, ↓c1_, ↓c2_, tabs, reduceCtorEq, ι5, ↓reduceIte, ν1, ν2, ν3, ν4, ν5, ι1, ι2, ι3, ι4])
theorem l1Both_sw {w a b : Nat} (h : sw w) (ha : a < 2 ^ w) (hb : b < 2 ^ w) : Pu Tryz.prog 213 [I w, U a, U b] (B true) := by
  refine Pu.of fun H => ?_
  refine W213_ok ?_; simp (maxSteps := 1000000) (disch := first | assumption | (apply ν6; assumption)) only [W213, vz, vu, vv, eqS, eF_, ↓c1_, ↓c2_, tabs, reduceCtorEq, ι5, ↓reduceIte, ν1, ν2, ν3, ν4, ν5, ι1, ι2, ι3, ι4]
  refine Pu.use (GoodW_ref h ha) ?_
  (try simp (maxSteps := 1000000) (disch := first | assumption | (apply ν6; assumption)) only [vz, vu, vv, eqS, eF_, ↓c1_, ↓c2_, tabs, reduceCtorEq, ι5, ↓reduceIte, ν1, ν2, ν3, ν4, ν5, ι1, ι2, ι3, ι4])
  refine Pu.use (GoodW_ref h hb) ?_
  (try simp (maxSteps := 1000000) (disch := first | assumption | (apply ν6; assumption)) only [vz, vu, vv, eqS, eF_, ↓c1_, ↓c2_, tabs, reduceCtorEq, ι5, ↓reduceIte, ν1, ν2, ν3, ν4, ν5, ι1, ι2, ι3, ι4])
def quoW (w a b : Nat) : Nat := if b = 0 then 2 ^ w - 1 else a / b
def remW (a b : Nat) : Nat := if b = 0 then a else a % b
theorem Div64_sw {a b : Nat} (hb : b ≠ 0) (ha : a < 1000) (hb2 : b < 1000) : Pu Tryz.prog 215 [U 0, U a, U b] (.tup [U ((a / b : Nat) : Int), U ((a % b : Nat) : Int)]) := by
  refine Pu.of fun H => ?_
  refine W215_ok ?_; simp (maxSteps := 1000000) (disch := first | assumption | (apply ν6; assumption)) only [W215, vz, vu, vv, eqS, eF_, ↓c1_, ↓c2_, tabs, reduceCtorEq, ι5, ↓reduceIte, ν1, ν2, ν3, ν4, ν5, ι1, ι2, ι3, ι4]
  refine ⟨fun h => absurd h (by omega), fun h => ⟨fun h2 => by omega, fun h2 => ⟨by omega, by omega, ?_⟩⟩⟩
  rw [tdivN, tmodN, wU (Nat.lt_of_le_of_lt (Nat.div_le_self a b) (by omega))]
theorem DivWord_impl {w a b : Nat} (h : sw w) (ha : a < 2 ^ w) (hb : b < 2 ^ w) : Pu Tryz.prog 202 [I w, U a, U b] (.tup [U (quoW w a b : Nat), U (remW a b : Nat), B true]) := by
  have hp := pow5 h
  refine Pu.of fun H => ?_
  refine W202_ok ?_; simp (maxSteps := 1000000) (disch := first | assumption | (apply ν6; assumption)) only [W202, vz, vu, vv, eqS, eF_, ↓c1_, ↓c2_, tabs, reduceCtorEq, ι5, ↓reduceIte, ν1, ν2, ν3, ν4, ν5, ι1, ι2, ι3, ι4]
  refine Pu.use (areWords_sw h ha hb) ?_
  (try simp (maxSteps := 1000000) (disch := first | assumption | (apply ν6; assumption)) only [vz, vu, vv, eqS, eF_, ↓c1_, ↓c2_, tabs, reduceCtorEq, ι5, ↓reduceIte, ν1, ν2, ν3, ν4, ν5, ι1, ι2, ι3, ι4])
  refine ⟨fun h0 => ?_, fun h0 => ?_⟩
  · have : b = 0 := by omega
    subst this
    refine Pu.use (mask_sw h) ⟨rfl, Heap.le_refl _⟩
  · have hb0 : b ≠ 0 := by omega
    refine Pu.use (Div64_sw hb0 (by omega) (by omega)) ?_
    have e1 : quoW w a b = a / b := by rw [quoW, if_neg hb0]
    have e2 : remW a b = a % b := by rw [remW, if_neg hb0]
    rw [e1, e2]
    (try simp (maxSteps := 1000000) (disch := first | assumption | (apply ν6; assumption)) only [vz, vu, vv, eqS, eF_, ↓c1_, ↓c2_, tabs, reduceCtorEq, ι5, ↓reduceIte, ν1, ν2, ν3, ν4, ν5, ι1, ι2, ι3, ι4])
theorem DivWord_ref {w a b : Nat} (h : sw w) (ha : a < 2 ^ w) (hb : b < 2 ^ w) : Pu Tryz.prog 198 [I w, U a, U b] (.tup [U (quoW w a b : Nat), U (remW a b : Nat), B true]) := by
  have hp := pow5 h
  refine Pu.of fun H => ?_
  refine W198_ok ?_; simp (maxSteps := 1000000) (disch := first | assumption | (apply ν6; assumption)) only [W198, vz, vu, vv, eqS, eF_, ↓c1_, ↓c2_, tabs, reduceCtorEq, ι5, ↓reduceIte, ν1, ν2, ν3, ν4, ν5, ι1, ι2, ι3, ι4]
  refine Pu.use (l1Both_sw h ha hb) ?_
  (try simp (maxSteps := 1000000) (disch := first | assumption | (apply ν6; assumption)) only [vz, vu, vv, eqS, eF_, ↓c1_, ↓c2_, tabs, reduceCtorEq, ι5, ↓reduceIte, ν1, ν2, ν3, ν4, ν5, ι1, ι2, ι3, ι4])
  refine ⟨fun h0 => ?_, fun h0 => ?_⟩
  · have : b = 0 := by omega
    subst this
    have := l1Cut_sw (a := 18446744073709551615) h (by omega)
    have e : 18446744073709551615 % 2 ^ w = 2 ^ w - 1 := (by decide : ∀ w, w ≤ 5 → 18446744073709551615 % 2 ^ w = 2 ^ w - 1) w h.2
    rw [e] at this
    refine Pu.use this ⟨rfl, Heap.le_refl _⟩
  · have hb0 : b ≠ 0 := by omega
    have e1 : quoW w a b = a / b := by rw [quoW, if_neg hb0]
    have e2 : remW a b = a % b := by rw [remW, if_neg hb0]
    rw [e1, e2, tdivN, tmodN, wU (Nat.lt_of_le_of_lt (Nat.div_le_self a b) (by omega))]
    exact ⟨h0, h0, rfl⟩
def shW (w a b : Nat) (l : Bool) : Nat := if w ≤ b then 0 else if l then a * 2 ^ b % 2 ^ w else a / 2 ^ b
theorem shift_sw {w a b : Nat} (l : Bool) (h : sw w) (ha : a < 2 ^ w) (hb : b < 2 ^ w) : Pu Tryz.prog 203 [I w, U a, U b, B l] (U (shW w a b l : Nat)) := by
  have hp := pow5 h
  refine Pu.of fun H => ?_
  have e0 : IntKind.u64.wrap (w : Int) = w := wU (by have := h.2; omega)
  refine W203_ok ?_; simp (maxSteps := 1000000) (disch := first | assumption | (apply ν6; assumption)) only [W203, vz, vu, vv, eqS, eF_, ↓c1_, ↓c2_, tabs, reduceCtorEq, ι5, ↓reduceIte, ν1, ν2, ν3, ν4, ν5, ι1, ι2, ι3, ι4, e0]
  refine ⟨fun h1 => ?_, fun h1 => ?_⟩
  · rw [shW, if_pos (by omega)]; rfl
  have hbw : ¬ w ≤ b := by omega
  have hw5 := h.2
  have hb5 : 2 ^ b ≤ 32 := Nat.pow_le_pow_right (n := 2) (by decide) (show b ≤ 5 by omega)
  have hab : a * 2 ^ b < 2 ^ 64 := by
    have := Nat.mul_le_mul (show a ≤ 32 by omega) hb5
    omega
  refine ⟨fun hl => ⟨by omega, ?_⟩, fun hl => ⟨by omega, ?_⟩⟩
  · refine Pu.use (mask_sw h) ?_
    rw [minU (by omega), mulN, wU hab]
    (try simp (maxSteps := 1000000) (disch := first | assumption | (apply ν6; assumption)) only [vz, vu, vv, eqS, eF_, ↓c1_, ↓c2_, tabs, reduceCtorEq, ι5, ↓reduceIte, ν1, ν2, ν3, ν4, ν5, ι1, ι2, ι3, ι4])
    rw [and_mask hab h, shW, if_neg hbw, if_pos hl]
  · rw [minU (by omega), fdivN, shW, if_neg hbw, if_neg (by rw [hl]; simp)]
def shJ (w a j : Nat) (l : Bool) : Nat := if l then a * 2 ^ j % 2 ^ w else a / 2 ^ j
theorem shJ_zero {w a : Nat} {l : Bool} (ha : a < 2 ^ w) : shJ w a 0 l = a := by
  unfold shJ; split
  · rw [Nat.pow_zero, Nat.mul_one, Nat.mod_eq_of_lt ha]
  · simp
theorem shJ_lt {w a : Nat} (l : Bool) (ha : a < 2 ^ w) (j : Nat) : shJ w a j l < 2 ^ w := by
  unfold shJ; split
  · exact Nat.mod_lt _ (Nat.two_pow_pos w)
  · exact div_lt' ha
theorem l1Shift_sw {w a b : Nat} (l : Bool) (h : sw w) (ha : a < 2 ^ w) (hb : b < 2 ^ w) : Pu Tryz.prog 199 [I w, U a, U b, B l] (U (shW w a b l : Nat)) := by
  have hp := pow5 h
  refine Pu.of fun H => ?_
  have hw5 := h.2
  have e0 : IntKind.u64.wrap (w : Int) = w := wU (by omega)
  refine W199_ok ?_; simp (maxSteps := 1000000) (disch := first | assumption | (apply ν6; assumption)) only [W199, vz, vu, vv, eqS, eF_, ↓c1_, ↓c2_, tabs, reduceCtorEq, ι5, ↓reduceIte, ν1, ν2, ν3, ν4, ν5, ι1, ι2, ι3, ι4, e0]
  refine ⟨fun h1 => ?_, fun h1 => ?_⟩
  · rw [shW, if_pos (by omega)]; rfl
  have hbw : ¬ w ≤ b := by omega
  refine L199_0_rule (0 : Nat) (fun j => U (shJ w a j l : Nat)) (fun j => U ((b - j : Nat) : Int)) (fun _ => H) (fun j => j ≤ b) (fun j => b - j) ⟨by omega, ?_, .refl _, Heap.le_refl _⟩ ?_
  · rw [shJ_zero ha]; exact .refl _
  intro j hj
  have hlt := shJ_lt l ha j
  have em : min 1 IntKind.u64.bits = 1 := by decide
  have e3 : j < b → IntKind.u64.wrap (((b - j : Nat) : Int) - 1) = ((b - (j + 1) : Nat) : Int) := fun hjb => by
    have : ((b - j : Nat) : Int) - 1 = ((b - (j + 1) : Nat) : Int) := by omega
    rw [this, wU (by omega)]
  (try simp (maxSteps := 1000000) (disch := first | assumption | (apply ν6; assumption)) only [vz, vu, vv, eqS, eF_, ↓c1_, ↓c2_, tabs, reduceCtorEq, ι5, ↓reduceIte, ν1, ν2, ν3, ν4, ν5, ι1, ι2, ι3, ι4, B199_0])
  refine ⟨fun h2 => ?_, fun h2 => ?_⟩
  · have hjb : j < b := by omega
    rw [e3 hjb, em]
    refine ⟨fun hl => ⟨by omega, ?_⟩, fun hl => ⟨by omega, j + 1, by omega, by omega, ?_, .refl _⟩⟩
    · have e4 : IntKind.u64.wrap (((shJ w a j l : Nat) : Int) * 2 ^ 1) = ((shJ w a j l * 2 : Nat) : Int) := by
        rw [mulN, Nat.pow_one, wU (by omega)]
      rw [e4]
      refine Pu.use (l1Cut_sw h (by omega)) ⟨j + 1, by omega, by omega, ?_, .refl _, Heap.le_refl _⟩
      have e5 : shJ w a j l * 2 % 2 ^ w = shJ w a (j + 1) l := by
        simp only [shJ, hl, if_true]
        rw [Nat.mul_mod, Nat.mod_mod, ← Nat.mul_mod, Nat.pow_succ, Nat.mul_assoc]
      rw [e5]; exact .refl _
    · have e5 : shJ w a j l / 2 = shJ w a (j + 1) l := by
        simp only [shJ, hl, Bool.false_eq_true, if_false]
        rw [Nat.div_div_eq_div_mul, Nat.pow_succ]
      rw [fdivN, Nat.pow_one, e5]; exact .refl _
  · have : j = b := by omega
    subst this
    rw [shW, if_neg hbw]; rfl
theorem sg1 : ∀ w : Nat, w < 6 → ∀ a : Nat, a < 32 → 1 ≤ w → a < 2 ^ w → (IntKind.i64.wrap (IntKind.u64.wrap ((a : Int) * 2 ^ min (IntKind.i64.wrap (64 - (w : Int))).toNat IntKind.u64.bits))).fdiv (2 ^ min (IntKind.i64.wrap (64 - (w : Int))).toNat IntKind.i64.bits) = sgn w a := by decide +kernel
theorem signed_sw {w a : Nat} (h : sw w) (ha : a < 2 ^ w) : Pu Tryz.prog 205 [I w, U a] (I (sgn w a)) := by
  have hp := pow5 h
  refine Pu.of fun H => ?_
  refine W205_ok ?_; simp (maxSteps := 1000000) (disch := first | assumption | (apply ν6; assumption)) only [W205, vz, vu, vv, eqS, eF_, ↓c1_, ↓c2_, tabs, reduceCtorEq, ι5, ↓reduceIte, ν1, ν2, ν3, ν4, ν5, ι1, ι2, ι3, ι4]
  have h1 := h.1
  have h2 := h.2
  have e0 : IntKind.i64.wrap (64 - (w : Int)) = 64 - w := i64_id (by omega) (by omega)
  refine ⟨by omega, by omega, ?_⟩
  rw [sg1 w (by omega) a (by omega) h1 ha]
theorem sg2 : ∀ w : Nat, w < 6 → 1 ≤ w → 0 ≤ IntKind.u64.wrap (IntKind.i64.wrap ((w : Int) - 1)) := by decide +kernel
theorem sg3 : ∀ w : Nat, w < 6 → ∀ a : Nat, a < 32 → 1 ≤ w → a < 2 ^ w → ¬ bitsI BinOp.and IntKind.u64 (Int.fdiv (a : Int) (2 ^ min (IntKind.u64.wrap (IntKind.i64.wrap ((w : Int) - 1))).toNat IntKind.u64.bits)) 1 = 1 → IntKind.i64.wrap (a : Int) = sgn w a := by decide +kernel
theorem sg4 : ∀ w : Nat, w < 6 → ∀ a : Nat, a < 32 → 1 ≤ w → a < 2 ^ w → bitsI BinOp.and IntKind.u64 (Int.fdiv (a : Int) (2 ^ min (IntKind.u64.wrap (IntKind.i64.wrap ((w : Int) - 1))).toNat IntKind.u64.bits)) 1 = 1 →
    IntKind.i64.wrap (bitsI BinOp.or IntKind.u64 (a : Int) (bitsI BinOp.xor IntKind.u64 (if IntKind.u64.signed = true then -1 else IntKind.u64.max) ((18446744073709551615 % 2 ^ w : Nat) : Int))) = sgn w a := by decide +kernel
theorem l1Signed_sw {w a : Nat} (h : sw w) (ha : a < 2 ^ w) : Pu Tryz.prog 201 [I w, U a] (I (sgn w a)) := by
  have hp := pow5 h
  refine Pu.of fun H => ?_
  refine W201_ok ?_; simp (maxSteps := 1000000) (disch := first | assumption | (apply ν6; assumption)) only [W201, vz, vu, vv, eqS, eF_, ↓c1_, ↓c2_, tabs, reduceCtorEq, ι5, ↓reduceIte, ν1, ν2, ν3, ν4, ν5, ι1, ι2, ι3, ι4]
  have h1 := h.1
  have h2 := h.2
  refine ⟨sg2 w (by omega) h1, fun hc => ?_, fun hc => ?_⟩
  · refine Pu.use (l1Cut_sw (a := 18446744073709551615) h (by omega)) ?_
    (try simp (maxSteps := 1000000) (disch := first | assumption | (apply ν6; assumption)) only [vz, vu, vv, eqS, eF_, ↓c1_, ↓c2_, tabs, reduceCtorEq, ι5, ↓reduceIte, ν1, ν2, ν3, ν4, ν5, ι1, ι2, ι3, ι4])
    rw [sg4 w (by omega) a (by omega) h1 ha hc]
  · rw [sg3 w (by omega) a (by omega) h1 ha hc]
theorem truth_spec (b : Bool) : Pu Tryz.prog 204 [B b] (U ((if b = true then 1 else 0 : Nat) : Int)) := by
  refine Pu.of fun H => ?_
  refine W204_ok ?_; simp (maxSteps := 1000000) (disch := first | assumption | (apply ν6; assumption)) only [W204, vz, vu, vv, eqS, eF_, ↓c1_, ↓c2_, tabs, reduceCtorEq, ι5, ↓reduceIte, ν1, ν2, ν3, ν4, ν5, ι1, ι2, ι3, ι4]
  cases b <;> simp
theorem l2Bool_spec (b : Bool) : Pu Tryz.prog 200 [B b] (U ((if b = true then 1 else 0 : Nat) : Int)) := by
  refine Pu.of fun H => ?_
  refine W200_ok ?_; simp (maxSteps := 1000000) (disch := first | assumption | (apply ν6; assumption)) only [W200, vz, vu, vv, eqS, eF_, ↓c1_, ↓c2_, tabs, reduceCtorEq, ι5, ↓reduceIte, ν1, ν2, ν3, ν4, ν5, ι1, ι2, ι3, ι4]
  cases b <;> simp
theorem and_fin {w x v : Nat} (h : sw w) (hx : x < 2 ^ 64) (e : x % 2 ^ w = v) {H : Heap} : CallT Tryz.prog 144 [I w] H fun m H2 => binV tab .and 153 (U x) m fun r => r = U v ∧ Heap.le H H2 := by
  refine Pu.use (mask_sw h) ?_
  (try simp (maxSteps := 1000000) (disch := first | assumption | (apply ν6; assumption)) only [vz, vu, vv, eqS, eF_, ↓c1_, ↓c2_, tabs, reduceCtorEq, ι5, ↓reduceIte, ν1, ν2, ν3, ν4, ν5, ι1, ι2, ι3, ι4])
  rw [and_mask hx h, e]
theorem subW : ∀ w : Nat, w < 6 → ∀ a : Nat, a < 32 → ∀ b : Nat, b < 32 → a < 2 ^ w → b < 2 ^ w → (18446744073709551616 + a - b) % 18446744073709551616 % 2 ^ w = (a + 2 ^ w - b) % 2 ^ w := by decide +kernel
theorem subU {a b : Nat} (ha : a < 1000) (hb : b < 1000) : IntKind.u64.wrap ((a : Int) - b) = (((18446744073709551616 + a - b) % 18446744073709551616 : Nat) : Int) := by
  rw [IntKind.wrap_u64]; omega
theorem ite_dec (p : Prop) [Decidable p] : (if decide p = true then 1 else 0 : Nat) = if p then 1 else 0 := by by_cases h : p <;> simp [h]
theorem one_sw {w n : Nat} (h : sw w) (hn : n ≤ 1) : n % 2 ^ w = n := Nat.mod_eq_of_lt (by have := pow5 h; omega)
theorem quoW_lt {w a b : Nat} (h : sw w) (ha : a < 2 ^ w) : quoW w a b < 2 ^ w := by
  have hp := pow5 h
  unfold quoW; split
  · omega
  · exact div_lt' ha
theorem remW_lt {w a b : Nat} (ha : a < 2 ^ w) : remW a b < 2 ^ w := by
  unfold remW; split
  · exact ha
  · exact Nat.lt_of_le_of_lt (Nat.mod_le _ _) ha
theorem shW_lt {w a b : Nat} (l : Bool) (h : sw w) (ha : a < 2 ^ w) : shW w a b l < 2 ^ w := by
  have hp := pow5 h
  unfold shW; split
  · omega
  · split
    · exact Nat.mod_lt _ (Nat.two_pow_pos w)
    · exact div_lt' ha
theorem apply_sw {w a b : Nat} {op : Int} (h : sw w) (h2 : many op = 2) (ha : a < 2 ^ w) (hb : b < 2 ^ w) : Pu Tryz.prog 179 [I w, I op, U a, U b] (U (ap w op a b : Nat)) := by
  have hp := pow5 h
  have hab : a * b ≤ 32 * 32 := Nat.mul_le_mul (by omega) (by omega)
  refine Pu.of fun H => ?_
  rcases many2 h2 with h3 | h3 | rfl | rfl
  · obtain rfl | rfl | rfl | rfl | rfl | rfl | rfl | rfl | rfl | rfl : op = 3 ∨ op = 4 ∨ op = 5 ∨ op = 6 ∨ op = 7 ∨ op = 8 ∨ op = 9 ∨ op = 10 ∨ op = 11 ∨ op = 12 := by omega
    · refine W179_ok ?_; simp (maxSteps := 1000000) (disch := first | assumption | (apply ν6; assumption)) only [W179, vz, vu, vv, eqS, eF_, ↓c1_, ↓c2_, tabs, reduceCtorEq, ι5, ↓reduceIte, ν1, ν2, ν3, ν4, ν5, ι1, ι2, ι3, ι4, J179_0, J179_1, J179_2, Int.reduceEq]
      rw [← Int.natCast_add, wU (by omega)]
      exact and_fin h (by omega) rfl
    · refine W179_ok ?_; simp (maxSteps := 1000000) (disch := first | assumption | (apply ν6; assumption)) only [W179, vz, vu, vv, eqS, eF_, ↓c1_, ↓c2_, tabs, reduceCtorEq, ι5, ↓reduceIte, ν1, ν2, ν3, ν4, ν5, ι1, ι2, ι3, ι4, J179_0, J179_1, J179_2, Int.reduceEq]
      rw [subU (by omega) (by omega)]
      exact and_fin h (by omega) (subW w (by have := h.2; omega) a (by omega) b (by omega) ha hb)
    · refine W179_ok ?_; simp (maxSteps := 1000000) (disch := first | assumption | (apply ν6; assumption)) only [W179, vz, vu, vv, eqS, eF_, ↓c1_, ↓c2_, tabs, reduceCtorEq, ι5, ↓reduceIte, ν1, ν2, ν3, ν4, ν5, ι1, ι2, ι3, ι4, J179_0, J179_1, J179_2, Int.reduceEq]
      rw [← Int.natCast_mul, wU (by omega)]
      exact and_fin h (by omega) rfl
    · refine W179_ok ?_; simp (maxSteps := 1000000) (disch := first | assumption | (apply ν6; assumption)) only [W179, vz, vu, vv, eqS, eF_, ↓c1_, ↓c2_, tabs, reduceCtorEq, ι5, ↓reduceIte, ν1, ν2, ν3, ν4, ν5, ι1, ι2, ι3, ι4, J179_0, J179_1, J179_2, Int.reduceEq]
      refine Pu.use (DivWord_impl h ha hb) ?_
      (try simp (maxSteps := 1000000) (disch := first | assumption | (apply ν6; assumption)) only [vz, vu, vv, eqS, eF_, ↓c1_, ↓c2_, tabs, reduceCtorEq, ι5, ↓reduceIte, ν1, ν2, ν3, ν4, ν5, ι1, ι2, ι3, ι4])
      have := quoW_lt (b := b) h ha
      exact and_fin h (by omega) (Nat.mod_eq_of_lt this)
    · refine W179_ok ?_; simp (maxSteps := 1000000) (disch := first | assumption | (apply ν6; assumption)) only [W179, vz, vu, vv, eqS, eF_, ↓c1_, ↓c2_, tabs, reduceCtorEq, ι5, ↓reduceIte, ν1, ν2, ν3, ν4, ν5, ι1, ι2, ι3, ι4, J179_0, J179_1, J179_2, Int.reduceEq]
      refine Pu.use (DivWord_impl h ha hb) ?_
      (try simp (maxSteps := 1000000) (disch := first | assumption | (apply ν6; assumption)) only [vz, vu, vv, eqS, eF_, ↓c1_, ↓c2_, tabs, reduceCtorEq, ι5, ↓reduceIte, ν1, ν2, ν3, ν4, ν5, ι1, ι2, ι3, ι4])
      have := remW_lt (b := b) ha
      exact and_fin h (by omega) (Nat.mod_eq_of_lt this)
    · refine W179_ok ?_; simp (maxSteps := 1000000) (disch := first | assumption | (apply ν6; assumption)) only [W179, vz, vu, vv, eqS, eF_, ↓c1_, ↓c2_, tabs, reduceCtorEq, ι5, ↓reduceIte, ν1, ν2, ν3, ν4, ν5, ι1, ι2, ι3, ι4, J179_0, J179_1, J179_2, Int.reduceEq]
      rw [(bitsU a b (by omega) (by omega)).1]
      have := Nat.and_lt_two_pow a hb
      exact and_fin h (by omega) (Nat.mod_eq_of_lt this)
    · refine W179_ok ?_; simp (maxSteps := 1000000) (disch := first | assumption | (apply ν6; assumption)) only [W179, vz, vu, vv, eqS, eF_, ↓c1_, ↓c2_, tabs, reduceCtorEq, ι5, ↓reduceIte, ν1, ν2, ν3, ν4, ν5, ι1, ι2, ι3, ι4, J179_0, J179_1, J179_2, Int.reduceEq]
      rw [(bitsU a b (by omega) (by omega)).2]
      have := Nat.or_lt_two_pow ha hb
      exact and_fin h (by omega) (Nat.mod_eq_of_lt this)
    · refine W179_ok ?_; simp (maxSteps := 1000000) (disch := first | assumption | (apply ν6; assumption)) only [W179, vz, vu, vv, eqS, eF_, ↓c1_, ↓c2_, tabs, reduceCtorEq, ι5, ↓reduceIte, ν1, ν2, ν3, ν4, ν5, ι1, ι2, ι3, ι4, J179_0, J179_1, J179_2, Int.reduceEq]
      rw [xorU a b (by omega) (by omega)]
      have := Nat.xor_lt_two_pow ha hb
      exact and_fin h (by omega) (Nat.mod_eq_of_lt this)
    · refine W179_ok ?_; simp (maxSteps := 1000000) (disch := first | assumption | (apply ν6; assumption)) only [W179, vz, vu, vv, eqS, eF_, ↓c1_, ↓c2_, tabs, reduceCtorEq, ι5, ↓reduceIte, ν1, ν2, ν3, ν4, ν5, ι1, ι2, ι3, ι4, J179_0, J179_1, J179_2, Int.reduceEq]
      refine Pu.use (shift_sw true h ha hb) ?_
      (try simp (maxSteps := 1000000) (disch := first | assumption | (apply ν6; assumption)) only [vz, vu, vv, eqS, eF_, ↓c1_, ↓c2_, tabs, reduceCtorEq, ι5, ↓reduceIte, ν1, ν2, ν3, ν4, ν5, ι1, ι2, ι3, ι4])
      have := shW_lt (b := b) true h ha
      exact and_fin h (by omega) (Nat.mod_eq_of_lt this)
    · refine W179_ok ?_; simp (maxSteps := 1000000) (disch := first | assumption | (apply ν6; assumption)) only [W179, vz, vu, vv, eqS, eF_, ↓c1_, ↓c2_, tabs, reduceCtorEq, ι5, ↓reduceIte, ν1, ν2, ν3, ν4, ν5, ι1, ι2, ι3, ι4, J179_0, J179_1, J179_2, Int.reduceEq]
      refine Pu.use (shift_sw false h ha hb) ?_
      (try simp (maxSteps := 1000000) (disch := first | assumption | (apply ν6; assumption)) only [vz, vu, vv, eqS, eF_, ↓c1_, ↓c2_, tabs, reduceCtorEq, ι5, ↓reduceIte, ν1, ν2, ν3, ν4, ν5, ι1, ι2, ι3, ι4])
      have := shW_lt (b := b) false h ha
      exact and_fin h (by omega) (Nat.mod_eq_of_lt this)
  · obtain rfl | rfl | rfl : op = 14 ∨ op = 15 ∨ op = 16 := by omega
    · refine W179_ok ?_; simp (maxSteps := 1000000) (disch := first | assumption | (apply ν6; assumption)) only [W179, vz, vu, vv, eqS, eF_, ↓c1_, ↓c2_, tabs, reduceCtorEq, ι5, ↓reduceIte, ν1, ν2, ν3, ν4, ν5, ι1, ι2, ι3, ι4, J179_0, J179_1, J179_2, Int.reduceEq]
      refine Pu.use (truth_spec _) ?_
      (try simp (maxSteps := 1000000) (disch := first | assumption | (apply ν6; assumption)) only [vz, vu, vv, eqS, eF_, ↓c1_, ↓c2_, tabs, reduceCtorEq, ι5, ↓reduceIte, ν1, ν2, ν3, ν4, ν5, ι1, ι2, ι3, ι4])
      refine and_fin h (by split <;> omega) ?_
      rw [one_sw h (ite01 _)]
      show _ = (if a = b then 1 else 0)
      by_cases hh : a = b
      · rw [if_pos hh, if_pos (by omega)]
      · rw [if_neg hh, if_neg (by omega)]
    · refine W179_ok ?_; simp (maxSteps := 1000000) (disch := first | assumption | (apply ν6; assumption)) only [W179, vz, vu, vv, eqS, eF_, ↓c1_, ↓c2_, tabs, reduceCtorEq, ι5, ↓reduceIte, ν1, ν2, ν3, ν4, ν5, ι1, ι2, ι3, ι4, J179_0, J179_1, J179_2, Int.reduceEq]
      refine Pu.use (truth_spec _) ?_
      (try simp (maxSteps := 1000000) (disch := first | assumption | (apply ν6; assumption)) only [vz, vu, vv, eqS, eF_, ↓c1_, ↓c2_, tabs, reduceCtorEq, ι5, ↓reduceIte, ν1, ν2, ν3, ν4, ν5, ι1, ι2, ι3, ι4])
      refine and_fin h (by split <;> omega) ?_
      rw [one_sw h (ite01 _)]
      show _ = (if a < b then 1 else 0)
      by_cases hh : a < b
      · rw [if_pos hh, if_pos (by omega)]
      · rw [if_neg hh, if_neg (by omega)]
    · refine W179_ok ?_; simp (maxSteps := 1000000) (disch := first | assumption | (apply ν6; assumption)) only [W179, vz, vu, vv, eqS, eF_, ↓c1_, ↓c2_, tabs, reduceCtorEq, ι5, ↓reduceIte, ν1, ν2, ν3, ν4, ν5, ι1, ι2, ι3, ι4, J179_0, J179_1, J179_2, Int.reduceEq]
      refine Pu.use (signed_sw h ha) ?_
      (try simp (maxSteps := 1000000) (disch := first | assumption | (apply ν6; assumption)) only [vz, vu, vv, eqS, eF_, ↓c1_, ↓c2_, tabs, reduceCtorEq, ι5, ↓reduceIte, ν1, ν2, ν3, ν4, ν5, ι1, ι2, ι3, ι4])
      refine Pu.use (signed_sw h hb) ?_
      (try simp (maxSteps := 1000000) (disch := first | assumption | (apply ν6; assumption)) only [vz, vu, vv, eqS, eF_, ↓c1_, ↓c2_, tabs, reduceCtorEq, ι5, ↓reduceIte, ν1, ν2, ν3, ν4, ν5, ι1, ι2, ι3, ι4])
      refine Pu.use (truth_spec _) ?_
      (try simp (maxSteps := 1000000) (disch := first | assumption | (apply ν6; assumption)) only [vz, vu, vv, eqS, eF_, ↓c1_, ↓c2_, tabs, reduceCtorEq, ι5, ↓reduceIte, ν1, ν2, ν3, ν4, ν5, ι1, ι2, ι3, ι4])
      refine and_fin h (by split <;> omega) ?_
      rw [one_sw h (ite01 _)]
      show _ = (if sgn w a < sgn w b then 1 else 0)
      rfl
  · refine W179_ok ?_; simp (maxSteps := 1000000) (disch := first | assumption | (apply ν6; assumption)) only [W179, vz, vu, vv, eqS, eF_, ↓c1_, ↓c2_, tabs, reduceCtorEq, ι5, ↓reduceIte, ν1, ν2, ν3, ν4, ν5, ι1, ι2, ι3, ι4, J179_0, J179_1, J179_2, Int.reduceEq]
    rw [(bitsU a b (by omega) (by omega)).1]
    have := Nat.and_lt_two_pow a hb
    exact and_fin h (by omega) (Nat.mod_eq_of_lt this)
  · refine W179_ok ?_; simp (maxSteps := 1000000) (disch := first | assumption | (apply ν6; assumption)) only [W179, vz, vu, vv, eqS, eF_, ↓c1_, ↓c2_, tabs, reduceCtorEq, ι5, ↓reduceIte, ν1, ν2, ν3, ν4, ν5, ι1, ι2, ι3, ι4, J179_0, J179_1, J179_2, Int.reduceEq]
    rw [(bitsU a b (by omega) (by omega)).2]
    have := Nat.or_lt_two_pow ha hb
    exact and_fin h (by omega) (Nat.mod_eq_of_lt this)
theorem l2Do_sw {w a b : Nat} {op : Int} (h : sw w) (h2 : many op = 2) (ha : a < 2 ^ w) (hb : b < 2 ^ w) : Pu Tryz.prog 177 [I w, I op, U a, U b] (U (ap w op a b : Nat)) := by
  have hp := pow5 h
  have hab : a * b ≤ 32 * 32 := Nat.mul_le_mul (by omega) (by omega)
  refine Pu.of fun H => ?_
  rcases many2 h2 with h3 | h3 | rfl | rfl
  · obtain rfl | rfl | rfl | rfl | rfl | rfl | rfl | rfl | rfl | rfl : op = 3 ∨ op = 4 ∨ op = 5 ∨ op = 6 ∨ op = 7 ∨ op = 8 ∨ op = 9 ∨ op = 10 ∨ op = 11 ∨ op = 12 := by omega
    all_goals
      refine W177_ok ?_; simp (maxSteps := 1000000) (disch := first | assumption | (apply ν6; assumption)) only [W177, vz, vu, vv, eqS, eF_, ↓c1_, ↓c2_, tabs, reduceCtorEq, ι5, ↓reduceIte, ν1, ν2, ν3, ν4, ν5, ι1, ι2, ι3, ι4, J177_0, J177_1, Int.reduceEq]
      refine Pu.use (DivWord_ref h ha hb) ?_
      (try simp (maxSteps := 1000000) (disch := first | assumption | (apply ν6; assumption)) only [vz, vu, vv, eqS, eF_, ↓c1_, ↓c2_, tabs, reduceCtorEq, ι5, ↓reduceIte, ν1, ν2, ν3, ν4, ν5, ι1, ι2, ι3, ι4, J177_0, J177_1, Int.reduceEq])
    · rw [← Int.natCast_add, wU (by omega)]
      exact Pu.use (l1Cut_sw h (by omega)) ⟨rfl, Heap.le_refl _⟩
    · rw [subU (by omega) (by omega)]
      refine Pu.use (l1Cut_sw h (by omega)) ⟨?_, Heap.le_refl _⟩
      rw [subW w (by have := h.2; omega) a (by omega) b (by omega) ha hb]; rfl
    · rw [← Int.natCast_mul, wU (by omega)]
      exact Pu.use (l1Cut_sw h (by omega)) ⟨rfl, Heap.le_refl _⟩
    · rfl
    · rfl
    · rw [(bitsU a b (by omega) (by omega)).1]; rfl
    · rw [(bitsU a b (by omega) (by omega)).2]; rfl
    · rw [xorU a b (by omega) (by omega)]; rfl
    · exact Pu.use (l1Shift_sw true h ha hb) ⟨rfl, Heap.le_refl _⟩
    · exact Pu.use (l1Shift_sw false h ha hb) ⟨rfl, Heap.le_refl _⟩
  · obtain rfl | rfl | rfl : op = 14 ∨ op = 15 ∨ op = 16 := by omega
    all_goals
      refine W177_ok ?_; simp (maxSteps := 1000000) (disch := first | assumption | (apply ν6; assumption)) only [W177, vz, vu, vv, eqS, eF_, ↓c1_, ↓c2_, tabs, reduceCtorEq, ι5, ↓reduceIte, ν1, ν2, ν3, ν4, ν5, ι1, ι2, ι3, ι4, J177_0, J177_1, Int.reduceEq]
      refine Pu.use (DivWord_ref h ha hb) ?_
      (try simp (maxSteps := 1000000) (disch := first | assumption | (apply ν6; assumption)) only [vz, vu, vv, eqS, eF_, ↓c1_, ↓c2_, tabs, reduceCtorEq, ι5, ↓reduceIte, ν1, ν2, ν3, ν4, ν5, ι1, ι2, ι3, ι4, J177_0, J177_1, Int.reduceEq])
    · refine Pu.use (l2Bool_spec _) ⟨?_, Heap.le_refl _⟩
      have e : ap w 14 a b = if a = b then 1 else 0 := rfl
      rw [e, ite_dec]
      by_cases hh : a = b
      · rw [if_pos hh, if_pos (by omega)]
      · rw [if_neg hh, if_neg (by omega)]
    · refine Pu.use (l2Bool_spec _) ⟨?_, Heap.le_refl _⟩
      have e : ap w 15 a b = if a < b then 1 else 0 := rfl
      rw [e, ite_dec]
      by_cases hh : a < b
      · rw [if_pos hh, if_pos (by omega)]
      · rw [if_neg hh, if_neg (by omega)]
    · refine Pu.use (l1Signed_sw h ha) ?_
      (try simp (maxSteps := 1000000) (disch := first | assumption | (apply ν6; assumption)) only [vz, vu, vv, eqS, eF_, ↓c1_, ↓c2_, tabs, reduceCtorEq, ι5, ↓reduceIte, ν1, ν2, ν3, ν4, ν5, ι1, ι2, ι3, ι4])
      refine Pu.use (l1Signed_sw h hb) ?_
      (try simp (maxSteps := 1000000) (disch := first | assumption | (apply ν6; assumption)) only [vz, vu, vv, eqS, eF_, ↓c1_, ↓c2_, tabs, reduceCtorEq, ι5, ↓reduceIte, ν1, ν2, ν3, ν4, ν5, ι1, ι2, ι3, ι4])
      refine Pu.use (l2Bool_spec _) ⟨?_, Heap.le_refl _⟩
      have e : ap w 16 a b = if sgn w a < sgn w b then 1 else 0 := rfl
      rw [e, ite_dec]
  · refine W177_ok ?_; simp (maxSteps := 1000000) (disch := first | assumption | (apply ν6; assumption)) only [W177, vz, vu, vv, eqS, eF_, ↓c1_, ↓c2_, tabs, reduceCtorEq, ι5, ↓reduceIte, ν1, ν2, ν3, ν4, ν5, ι1, ι2, ι3, ι4, J177_0, J177_1, Int.reduceEq]
    refine Pu.use (DivWord_ref h ha hb) ?_
    (try simp (maxSteps := 1000000) (disch := first | assumption | (apply ν6; assumption)) only [vz, vu, vv, eqS, eF_, ↓c1_, ↓c2_, tabs, reduceCtorEq, ι5, ↓reduceIte, ν1, ν2, ν3, ν4, ν5, ι1, ι2, ι3, ι4, J177_0, J177_1, Int.reduceEq])
    rw [(bitsU a b (by omega) (by omega)).1]; rfl
  · refine W177_ok ?_; simp (maxSteps := 1000000) (disch := first | assumption | (apply ν6; assumption)) only [W177, vz, vu, vv, eqS, eF_, ↓c1_, ↓c2_, tabs, reduceCtorEq, ι5, ↓reduceIte, ν1, ν2, ν3, ν4, ν5, ι1, ι2, ι3, ι4, J177_0, J177_1, Int.reduceEq]
    refine Pu.use (DivWord_ref h ha hb) ?_
    (try simp (maxSteps := 1000000) (disch := first | assumption | (apply ν6; assumption)) only [vz, vu, vv, eqS, eF_, ↓c1_, ↓c2_, tabs, reduceCtorEq, ι5, ↓reduceIte, ν1, ν2, ν3, ν4, ν5, ι1, ι2, ι3, ι4, J177_0, J177_1, Int.reduceEq])
    rw [(bitsU a b (by omega) (by omega)).2]; rfl
end Go.Proofs.YtgcklgeifdefhaaGreat
namespace Go.Proofs.YtgcklgeifdefhaaGreat
open Go Go.Sep Go.Pt
attribute [local irreducible] CallT
abbrev eW (a : Nat) : List PV := [.int .u64 a]
abbrev fW (a : Nat) : PV := .int .u64 a
abbrev Ws (s : List Nat) : AV := .p (.sl (s.map eW))
theorem l2From_of (t : List Nd) (hl : t.length ≤ 1048576) (k : Nat) (hk : k < t.length) (fs : Nat → Nat) (h0 : fs 0 = k)
    (hs : ∀ j, j < many (t.getD k default).op → 1 ≤ fs j ∧ fs j ≤ k ∧ Pu Tryz.prog 178 [Ns t, I ((fs j - 1 : Nat) : Int)] (I (fs (j + 1)))) : Pu Tryz.prog 178 [Ns t, I k] (I (fs (many (t.getD k default).op))) := by
  refine Pu.of fun H => ?_
  refine W178_ok ?_; simp (maxSteps := 1000000) (disch := first | assumption | (apply ν6; assumption)) only [W178, vz, vu, vv, eqS, eF_, ↓c1_, ↓c2_, tabs, reduceCtorEq, ι5, ↓reduceIte, ν1, ν2, ν3, ν4, ν5, ι1, ι2, ι3, ι4]
  refine ⟨by omega, by omega, ?_⟩
  refine l2Need_spec _ fun pp hpp => ?_
  (try simp (maxSteps := 1000000) (disch := first | assumption | (apply ν6; assumption)) only [vz, vu, vv, eqS, eF_, ↓c1_, ↓c2_, tabs, reduceCtorEq, ι5, ↓reduceIte, ν1, ν2, ν3, ν4, ν5, ι1, ι2, ι3, ι4])
  have hml := many_le (t.getD k default).op
  generalize many (t.getD k default).op = m at hs hml ⊢
  refine L178_0_rule (0 : Nat) (fun j => I ((m - j : Nat) : Int)) (fun j => I (fs j)) (fun _ => H) (fun j => j ≤ m) (fun j => m - j) ⟨by omega, .refl _, by rw [h0]; exact .refl _, Heap.le_refl _⟩ ?_
  intro j hj
  (try simp (maxSteps := 1000000) (disch := first | assumption | (apply ν6; assumption)) only [vz, vu, vv, eqS, eF_, ↓c1_, ↓c2_, tabs, reduceCtorEq, ι5, ↓reduceIte, ν1, ν2, ν3, ν4, ν5, ι1, ι2, ι3, ι4, B178_0])
  refine ⟨fun h1 => ?_, fun h1 => ?_⟩
  · obtain ⟨h2, h3, h4⟩ := hs j (by omega)
    have e : IntKind.i64.wrap ((fs j : Int) - 1) = ((fs j - 1 : Nat) : Int) := by rw [i64_id (by omega) (by omega)]; omega
    rw [e]
    refine Pu.use h4 ?_
    (try simp (maxSteps := 1000000) (disch := first | assumption | (apply ν6; assumption)) only [vz, vu, vv, eqS, eF_, ↓c1_, ↓c2_, tabs, reduceCtorEq, ι5, ↓reduceIte, ν1, ν2, ν3, ν4, ν5, ι1, ι2, ι3, ι4])
    refine ⟨j + 1, by omega, by omega, ?_, .refl _⟩
    rw [wk_int, i64_id (by omega) (by omega)]; omega
  · have : j = m := by omega
    subst this; rfl
theorem l2From_tr {w : Nat} {t : List Nd} {s : List Nat} (hl : t.length ≤ 1048576) {k f : Nat} {kd : Int} {a : Nat} (h : Tr w t s k f kd a) : Pu Tryz.prog 178 [Ns t, I k] (I f) := by
  induction h with
  | leaf k hk h0 ho hv =>
    have := l2From_of t hl k hk (fun _ => k) rfl fun j hj => by omega
    exact this
  | one k f a hk h1 h ih =>
    have := l2From_of t hl (k + 1) hk (fun j => if j = 0 then k + 1 else f) rfl fun j hj => by
      have : j = 0 := by omega
      subst this
      exact ⟨by simp, by simp, by simpa using ih⟩
    rw [h1] at this
    simpa using this
  | two k f g a b hk h2 hb ha ihb iha =>
    have hlt := hb.lt
    have := l2From_of t hl (k + 1) hk (fun j => if j = 0 then k + 1 else if j = 1 then f + 1 else g) rfl fun j hj => by
      have : j = 0 ∨ j = 1 := by omega
      rcases this with rfl | rfl
      · exact ⟨by simp, by simp, by simpa using ihb⟩
      · exact ⟨by simp, by simp; omega, by simpa using iha⟩
    rw [h2] at this
    simpa using this
theorem un_flip {w a : Nat} (h : sw w) (ha : a < 2 ^ w) : (18446744073709551615 - a) % 2 ^ w = 2 ^ w - 1 - a :=
  (by decide +kernel : ∀ w : Nat, w < 6 → ∀ a : Nat, a < 32 → a < 2 ^ w → (18446744073709551615 - a) % 2 ^ w = 2 ^ w - 1 - a) w (by have := h.2; omega) a (by have := pow5 h; omega) ha
theorem xorAll {a : Nat} (ha : a < 1000) : bitsI BinOp.xor IntKind.u64 (if IntKind.u64.signed = true then -1 else IntKind.u64.max) (a : Int) = ((18446744073709551615 - a : Nat) : Int) :=
  (by decide +kernel : ∀ a : Nat, a < 1000 → bitsI BinOp.xor IntKind.u64 (if IntKind.u64.signed = true then -1 else IntKind.u64.max) (a : Int) = ((18446744073709551615 - a : Nat) : Int)) a ha
theorem l2Value_tr {w : Nat} {t : List Nd} {s : List Nat} (h : sw w) (hl : t.length ≤ 1048576) (hx : ∀ x ∈ t, okN x) (hs : ∀ x ∈ t, x.op = 2 → x.n < s.length) {k f : Nat} {kd : Int} {a : Nat} (ht : Tr w t s k f kd a) : Pu Tryz.prog 143 [I w, Ns t, I k, Ws s] (U a) := by
  have hp := pow5 h
  induction ht with
  | leaf k hk h0 ho hv =>
    have hm : t.getD k default ∈ t := getD_all (p := fun x => x ∈ t) (fun _ h => h) hk
    have hxk := hx _ hm
    have hsk := hs _ hm
    refine Pu.of fun H => ?_
    refine W143_ok ?_; simp (maxSteps := 1000000) (disch := first | assumption | (apply ν6; assumption)) only [W143, vz, vu, vv, eqS, eF_, ↓c1_, ↓c2_, tabs, reduceCtorEq, ι5, ↓reduceIte, ν1, ν2, ν3, ν4, ν5, ι1, ι2, ι3, ι4]
    refine ⟨by omega, by omega, ?_⟩
    intro r hr
    generalize t.getD k default = x at *
    refine l2Need_spec _ fun pp hpp => ?_
    (try simp (maxSteps := 1000000) (disch := first | assumption | (apply ν6; assumption)) only [vz, vu, vv, eqS, eF_, ↓c1_, ↓c2_, tabs, reduceCtorEq, ι5, ↓reduceIte, ν1, ν2, ν3, ν4, ν5, ι1, ι2, ι3, ι4, h0])
    refine ⟨fun h1 => ⟨hxk.1, hsk h1, ?_, Heap.le_set hr⟩, fun h1 => ⟨fun _ => ⟨?_, Heap.le_set hr⟩, fun h => absurd rfl h⟩⟩
    · unfold leafV; rw [if_pos h1]; rfl
    · unfold leafV; rw [if_neg h1, Int.toNat_of_nonneg hxk.1]
  | one k f a hk h1 htr ih =>
    have hok := htr.okV h.1
    refine Pu.of fun H => ?_
    refine W143_ok ?_; simp (maxSteps := 1000000) (disch := first | assumption | (apply ν6; assumption)) only [W143, vz, vu, vv, eqS, eF_, ↓c1_, ↓c2_, tabs, reduceCtorEq, ι5, ↓reduceIte, ν1, ν2, ν3, ν4, ν5, ι1, ι2, ι3, ι4]
    refine ⟨by omega, by omega, ?_⟩
    intro r hr
    have e1 : IntKind.i64.wrap (((k + 1 : Nat) : Int) - 1) = k := by rw [i64_id (by omega) (by omega)]; omega
    generalize t.getD (k + 1) default = x at *
    have h13 := many1 h1
    have hlt : Heap.le H (H.set r [AV.p (PV.int IntKind.i64 x.op), AV.p (PV.int IntKind.u64 x.n)]) := Heap.le_set hr
    refine l2Need_spec _ fun pp hpp => ?_
    (try simp (maxSteps := 1000000) (disch := first | assumption | (apply ν6; assumption)) only [vz, vu, vv, eqS, eF_, ↓c1_, ↓c2_, tabs, reduceCtorEq, ι5, ↓reduceIte, ν1, ν2, ν3, ν4, ν5, ι1, ι2, ι3, ι4, h1, e1])
    refine ⟨fun h2 => by omega, fun _ => ⟨fun h2 => by omega, fun _ => ⟨fun h2 => ?_, fun h2 => ⟨fun h3 => ?_, fun h3 => by omega⟩⟩⟩⟩
    · have hb := hok.1
      refine Pu.use ih ?_
      (try simp (maxSteps := 1000000) (disch := first | assumption | (apply ν6; assumption)) only [vz, vu, vv, eqS, eF_, ↓c1_, ↓c2_, tabs, reduceCtorEq, ι5, ↓reduceIte, ν1, ν2, ν3, ν4, ν5, ι1, ι2, ι3, ι4])
      rw [xorAll (by omega)]
      refine Pu.use (l1Cut_sw h (by omega)) ⟨?_, hlt⟩
      rw [un_flip h hb, un, if_pos h2]
    · have hb : a ≤ 1 := hok.2 (by rw [h3]; decide)
      refine Pu.use ih ?_
      (try simp (maxSteps := 1000000) (disch := first | assumption | (apply ν6; assumption)) only [vz, vu, vv, eqS, eF_, ↓c1_, ↓c2_, tabs, reduceCtorEq, ι5, ↓reduceIte, ν1, ν2, ν3, ν4, ν5, ι1, ι2, ι3, ι4])
      have e2 : (1 : Int) - (a : Int) = ((1 - a : Nat) : Int) := by omega
      rw [e2, wU (by omega), un, if_neg h2]
      exact ⟨rfl, hlt⟩
  | two k f g a b hk h2 hb ha ihb iha =>
    have hoka := ha.okV h.1
    have hokb := hb.okV h.1
    have hblt := hb.lt
    refine Pu.of fun H => ?_
    refine W143_ok ?_; simp (maxSteps := 1000000) (disch := first | assumption | (apply ν6; assumption)) only [W143, vz, vu, vv, eqS, eF_, ↓c1_, ↓c2_, tabs, reduceCtorEq, ι5, ↓reduceIte, ν1, ν2, ν3, ν4, ν5, ι1, ι2, ι3, ι4]
    refine ⟨by omega, by omega, ?_⟩
    intro r hr
    have e1 : IntKind.i64.wrap (((k + 1 : Nat) : Int) - 1) = k := by rw [i64_id (by omega) (by omega)]; omega
    have e2 : IntKind.i64.wrap (((f + 1 : Nat) : Int) - 1) = f := by rw [i64_id (by omega) (by omega)]; omega
    have hfr := l2From_tr hl hb
    generalize t.getD (k + 1) default = x at *
    have h13 := many2 h2
    have hlt : Heap.le H (H.set r [AV.p (PV.int IntKind.i64 x.op), AV.p (PV.int IntKind.u64 x.n)]) := Heap.le_set hr
    refine l2Need_spec _ fun pp hpp => ?_
    (try simp (maxSteps := 1000000) (disch := first | assumption | (apply ν6; assumption)) only [vz, vu, vv, eqS, eF_, ↓c1_, ↓c2_, tabs, reduceCtorEq, ι5, ↓reduceIte, ν1, ν2, ν3, ν4, ν5, ι1, ι2, ι3, ι4, h2, e1])
    refine ⟨fun h3 => by omega, fun _ => ⟨fun h3 => by omega, fun _ => ⟨fun h3 => by omega, fun _ => ⟨fun h3 => by omega, fun _ => ?_⟩⟩⟩⟩
    refine Pu.use hfr ?_
    (try simp (maxSteps := 1000000) (disch := first | assumption | (apply ν6; assumption)) only [vz, vu, vv, eqS, eF_, ↓c1_, ↓c2_, tabs, reduceCtorEq, ι5, ↓reduceIte, ν1, ν2, ν3, ν4, ν5, ι1, ι2, ι3, ι4, e2])
    refine Pu.use iha ?_
    (try simp (maxSteps := 1000000) (disch := first | assumption | (apply ν6; assumption)) only [vz, vu, vv, eqS, eF_, ↓c1_, ↓c2_, tabs, reduceCtorEq, ι5, ↓reduceIte, ν1, ν2, ν3, ν4, ν5, ι1, ι2, ι3, ι4])
    refine Pu.use ihb ?_
    (try simp (maxSteps := 1000000) (disch := first | assumption | (apply ν6; assumption)) only [vz, vu, vv, eqS, eF_, ↓c1_, ↓c2_, tabs, reduceCtorEq, ι5, ↓reduceIte, ν1, ν2, ν3, ν4, ν5, ι1, ι2, ι3, ι4])
    exact Pu.use (l2Do_sw h h2 hoka.1 hokb.1) ⟨rfl, hlt⟩
theorem valueOf_spec {w v : Nat} {t : List Nd} {s : List Nat} {kd : Int} (h : sw w) (hl : t.length ≤ 1048576) (hx : ∀ x ∈ t, okN x) (hs : s.length = v) (hsw : ∀ a ∈ s, a < 2 ^ w) (hk0 : kd ≠ 0) (hk : kind w v t = kd) :
    Pu Tryz.prog 145 [I w, Ns t, Ws s] (U (tval w t s)) := by
  have hp := pow5 h
  obtain ⟨-, ht1, ht2, htr, hst, hend⟩ := kind_tree hs hsw (fun x hm => (hx x hm).1) hk0 hk
  refine Pu.of fun H => ?_
  refine W145_ok ?_; simp (maxSteps := 1000000) (disch := first | assumption | (apply ν6; assumption)) only [W145, vz, vu, vv, eqS, eF_, ↓c1_, ↓c2_, tabs, reduceCtorEq, ι5, ↓reduceIte, ν1, ν2, ν3, ν4, ν5, ι1, ι2, ι3, ι4, buildSliceV, zerosA, List.replicate_zero, List.flatten_nil]
  intro q0 hq0
  refine wkK.keep ?_
  (try simp (maxSteps := 1000000) (disch := first | assumption | (apply ν6; assumption)) only [vz, vu, vv, eqS, eF_, ↓c1_, ↓c2_, tabs, reduceCtorEq, ι5, ↓reduceIte, ν1, ν2, ν3, ν4, ν5, ι1, ι2, ι3, ι4])
  refine L145_0_rule ((0 : Nat), q0, ([] : List Nat)) (fun z => rowP z.2.1 z.2.2) (fun z => I z.1) (fun z => H.set z.2.1 (cP fW z.2.2)) (fun z => z.1 ≤ t.length ∧ z.2.2 = pileV w s t z.1 ∧ H z.2.1 = none) (fun z => t.length - z.1)
    ⟨⟨by simp, by simp [pileV], hq0⟩, .refl _, .refl _, Heap.le_refl _⟩ ?_
  rintro ⟨i, q, vs⟩ ⟨hi, hvs, hq⟩
  dsimp only at hi hvs hq
  obtain ⟨p, hsk, hstep⟩ := hst i hi
  rw [← hvs] at hsk
  have hlen := hsk.len
  (try simp (maxSteps := 1000000) (disch := first | assumption | (apply ν6; assumption)) only [vz, vu, vv, eqS, eF_, ↓c1_, ↓c2_, tabs, reduceCtorEq, ι5, ↓reduceIte, ν1, ν2, ν3, ν4, ν5, ι1, ι2, ι3, ι4, B145_0])
  refine ⟨fun h1 => ⟨by omega, h1, ?_⟩, fun h1 => ?_⟩
  · have hlt : i < t.length := by omega
    obtain ⟨p', hp'⟩ := hstep hlt
    have hm : t.getD i default ∈ t := getD_all (p := fun x => x ∈ t) (fun _ h => h) hlt
    have hxk := hx _ hm
    have hsucc := pileV_succ (w := w) (s := s) hlt
    rw [← hvs] at hsucc
    generalize t.getD i default = x at *
    intro r9 n9 hr9
    obtain ⟨ho, hlf, hmp, hkp, -⟩ := step_inv hp'
    have hvl : vs.length ≤ 1048576 := by
      have := hsk.bound
      omega
    have hokv := hsk.okV h.1
    have nn9 : q ≠ r9 := Ne.symm n9
    have hqG : ∀ z, ((H.set q (cP fW vs)).set r9 z) q = some (cP fW vs) := fun z => by rw [Heap.set_other nn9, Heap.set_same]
    have hle9 : ∀ z, Heap.le H ((H.set q (cP fW vs)).set r9 z) := fun z => Heap.le_setN (Heap.le_set hq) hr9
    have e5 : IntKind.i64.wrap ((i : Int) + 1) = ((i + 1 : Nat) : Int) := by rw [i64_id (by omega) (by omega)]; simp
    have e6 : 1 ≤ vs.length → IntKind.i64.wrap ((vs.length : Int) - 1) = ((vs.length - 1 : Nat) : Int) := fun h => by rw [i64_id (by omega) (by omega)]; omega
    have e7 : 2 ≤ vs.length → IntKind.i64.wrap (((vs.length - 1 : Nat) : Int) - 1) = ((vs.length - 2 : Nat) : Int) := fun h => by rw [i64_id (by omega) (by omega)]; omega
    rcases many_cases x.op with hm0 | hm1 | hm2
    · have hop := many0 hm0 ho
      have hpush : ∀ a : Nat, leafV s x = a → ∀ z, Heap.le H ((H.set q (cP fW vs)).set r9 z) → buildSliceV tab 116 1 [(0, U a)] ((H.set q (cP fW vs)).set r9 z) (wkK fun v48 H4 => appendV tab 116 116 (rowP q vs) v48 H4
          (wkK fun v49 H5 => ∃ s' : Nat × Nat × List Nat, (s'.fst ≤ t.length ∧ s'.snd.snd = pileV w s t s'.fst ∧ H s'.snd.fst = none) ∧ t.length - s'.fst < t.length - i ∧ v49.wk (rowP s'.snd.fst s'.snd.snd) ∧ (I ((i + 1 : Nat) : Int)).wk (I s'.fst) ∧ (H.set s'.snd.fst (cP fW s'.snd.snd)).le H5)) := by
        intro a ha z hz
        refine lit1 tab_116 rfl tab_153 ⟨rfl, rfl⟩ ?_
        refine app_row (f := fW) (xs := vs) (ys := [a]) tab_116 rfl tab_153 rfl (by decide) (hqG z) (by simp; omega) fun q' hq' => ?_
        refine ⟨(i + 1, q', vs ++ [a]), ⟨by simp only; omega, ?_, ?_⟩, by simp only; omega, .refl _, .refl _, ?_⟩
        · rw [hsucc, stepV, if_pos hm0, ha]
        · simp only [Heap.set_none] at hq'
          exact hq'.2.2
        · simp only [Heap.set_none] at hq'
          obtain ⟨p1, p2, p3⟩ := hq'
          generalize cP fW (vs ++ [a]) = zz
          (intro y b hy; simp only [Heap.set, Heap.del] at hy ⊢; (repeat' split at hy) <;> (repeat' split) <;> simp_all [cells])
      rcases hop with h1 | h1 | h1
      · (try simp (maxSteps := 1000000) (disch := first | assumption | (apply ν6; assumption)) only [vz, vu, vv, eqS, eF_, ↓c1_, ↓c2_, tabs, reduceCtorEq, ι5, ↓reduceIte, ν1, ν2, ν3, ν4, ν5, ι1, ι2, ι3, ι4, J145_1, e5, h1, Int.reduceEq])
        have := hpush x.n.toNat (by unfold leafV; rw [if_neg (by omega)]) [AV.p (PV.int IntKind.i64 1), AV.p (PV.int IntKind.u64 x.n)] (hle9 _)
        rw [Int.toNat_of_nonneg hxk.1] at this
        exact this
      · (try simp (maxSteps := 1000000) (disch := first | assumption | (apply ν6; assumption)) only [vz, vu, vv, eqS, eF_, ↓c1_, ↓c2_, tabs, reduceCtorEq, ι5, ↓reduceIte, ν1, ν2, ν3, ν4, ν5, ι1, ι2, ι3, ι4, J145_1, e5, h1, Int.reduceEq])
        have hlt2 : x.n < s.length := by
          unfold leafOk at hlf
          rw [if_neg (by omega), if_pos h1] at hlf
          have := of_decide_eq_true hlf
          omega
        exact ⟨hxk.1, hlt2, hpush (s.getD x.n.toNat default) (by unfold leafV; rw [if_pos h1]; rfl) _ (hle9 _)⟩
      · (try simp (maxSteps := 1000000) (disch := first | assumption | (apply ν6; assumption)) only [vz, vu, vv, eqS, eF_, ↓c1_, ↓c2_, tabs, reduceCtorEq, ι5, ↓reduceIte, ν1, ν2, ν3, ν4, ν5, ι1, ι2, ι3, ι4, J145_1, e5, h1, Int.reduceEq])
        have := hpush x.n.toNat (by unfold leafV; rw [if_neg (by omega)]) [AV.p (PV.int IntKind.i64 20), AV.p (PV.int IntKind.u64 x.n)] (hle9 _)
        rw [Int.toNat_of_nonneg hxk.1] at this
        exact this
    · have h13 := many1 hm1
      have hl1 : vs.length - 1 < vs.length := by omega
      have hrd := read_row (f := fW) (xs := vs) (k := vs.length - 1) 0 hl1
      have ho1 := hokv (vs.length - 1) hl1
      have hkd : p.getD (vs.length - 1) 0 = Pt.part x.op := by
        refine hkp _ ?_
        rw [hm1, ← hlen, getD_lt (by omega), List.mem_iff_getElem]
        exact ⟨0, by simp; omega, by rw [List.getElem_drop]; congr 1⟩
      rw [hkd] at ho1
      have hset : ∀ a, List.take (vs.length - 1) (cP fW vs) ++ [AV.p (fW a)] ++ List.drop (vs.length - 1 + 1) (cP fW vs) = cP fW (vs.take (vs.length - 1) ++ [a]) := by
        intro a
        have h2 : vs.length - 1 + 1 = vs.length := by omega
        rw [h2, List.drop_of_length_le (by simp), List.append_nil]
        simp [cP, List.map_take]
      generalize hrg : vs.getD (vs.length - 1) 0 = a at *
      have hwrap : ∀ a' : Nat, un w x.op a = a' → ∀ z, Heap.le H ((H.set q (cP fW vs)).set r9 z) → ∃ s' : Nat × Nat × List Nat, (s'.fst ≤ t.length ∧ s'.snd.snd = pileV w s t s'.fst ∧ H s'.snd.fst = none) ∧ t.length - s'.fst < t.length - i ∧ (rowP q vs).wk (rowP s'.snd.fst s'.snd.snd) ∧ (I ((i + 1 : Nat) : Int)).wk (I s'.fst) ∧ (H.set s'.snd.fst (cP fW s'.snd.snd)).le ((H.set q (cP fW (vs.take (vs.length - 1) ++ [a']))).set r9 z) := by
        intro a' ha' z hz
        refine ⟨(i + 1, q, vs.take (vs.length - 1) ++ [a']), ⟨by simp only; omega, ?_, hq⟩, by simp only; omega, ?_, .refl _, ?_⟩
        · rw [hsucc, stepV, if_neg (by omega), if_pos hm1, hrg, ha']
        · have : (vs.take (vs.length - 1) ++ [a']).length = vs.length := by simp; omega
          simp only [rowP, this]; exact .refl _
        · exact Heap.le_set (by rw [Heap.set_other (Ne.symm nn9)]; exact hr9)
      rcases h13 with h1 | h1
      · (try simp (maxSteps := 1000000) (disch := first | assumption | (apply ν6; assumption)) only [vz, vu, vv, eqS, eF_, ↓c1_, ↓c2_, tabs, reduceCtorEq, ι5, ↓reduceIte, ν1, ν2, ν3, ν4, ν5, ι1, ι2, ι3, ι4, J145_1, e5, e6 (by omega), h1, Int.reduceEq, hrd, Nat.mul_one])
        refine ⟨by omega, by omega, by omega, ?_⟩
        have hb := ho1.1
        rw [xorAll (by omega)]
        refine Pu.use (mask_sw h) ?_
        (try simp (maxSteps := 1000000) (disch := first | assumption | (apply ν6; assumption)) only [vz, vu, vv, eqS, eF_, ↓c1_, ↓c2_, tabs, reduceCtorEq, ι5, ↓reduceIte, ν1, ν2, ν3, ν4, ν5, ι1, ι2, ι3, ι4, load_at (hqG _), hrd, Nat.mul_one])
        rw [and_mask (by omega) h, un_flip h hb]
        refine ⟨by omega, by omega, by omega, by omega, ?_⟩
        rw [hset]
        exact hwrap (2 ^ w - 1 - a) (by rw [un, if_pos h1]) _ (hle9 _)
      · (try simp (maxSteps := 1000000) (disch := first | assumption | (apply ν6; assumption)) only [vz, vu, vv, eqS, eF_, ↓c1_, ↓c2_, tabs, reduceCtorEq, ι5, ↓reduceIte, ν1, ν2, ν3, ν4, ν5, ι1, ι2, ι3, ι4, J145_1, e5, e6 (by omega), h1, Int.reduceEq, hrd, Nat.mul_one])
        have hb : a ≤ 1 := ho1.2 (by rw [h1]; decide)
        have e2 : (1 : Int) - (a : Int) = ((1 - a : Nat) : Int) := by omega
        rw [e2, wU (by omega)]
        refine ⟨by omega, by omega, by omega, by omega, by omega, by omega, ?_⟩
        rw [hset]
        exact hwrap (1 - a) (by rw [un, if_neg (by omega)]) _ (hle9 _)
    · have h13 := many2 hm2
      have hl1 : vs.length - 1 < vs.length := by omega
      have hl2 : vs.length - 2 < vs.length := by omega
      have hrd1 := read_row (f := fW) (xs := vs) (k := vs.length - 1) 0 hl1
      have hrd2 := read_row (f := fW) (xs := vs) (k := vs.length - 2) 0 hl2
      have ho1 := hokv (vs.length - 1) hl1
      have ho2 := hokv (vs.length - 2) hl2
      generalize hg1 : vs.getD (vs.length - 1) 0 = b at *
      generalize hg2 : vs.getD (vs.length - 2) 0 = a at *
      have n1 : ¬ x.op = 1 := by omega
      have n2 : ¬ x.op = 2 := by omega
      have n3 : ¬ x.op = 13 := by omega
      have n4 : ¬ x.op = 19 := by omega
      have n5 : ¬ x.op = 20 := by omega
      (try simp (maxSteps := 1000000) (disch := first | assumption | (apply ν6; assumption)) only [vz, vu, vv, eqS, eF_, ↓c1_, ↓c2_, tabs, reduceCtorEq, ι5, ↓reduceIte, ν1, ν2, ν3, ν4, ν5, ι1, ι2, ι3, ι4, J145_1, e5, e6 (by omega), e7 (by omega), hrd1, hrd2, Nat.mul_one, n1, n2, n3, n4, n5])
      have hkd1 : p.getD (vs.length - 1) 0 = Pt.part x.op := by
        refine hkp _ ?_
        rw [hm2, ← hlen, getD_lt (by omega), List.mem_iff_getElem]
        exact ⟨1, by simp; omega, by rw [List.getElem_drop]; congr 1; omega⟩
      have hkd2 : p.getD (vs.length - 2) 0 = Pt.part x.op := by
        refine hkp _ ?_
        rw [hm2, ← hlen, getD_lt (by omega), List.mem_iff_getElem]
        exact ⟨0, by simp; omega, by rw [List.getElem_drop]; congr 1⟩
      rw [hkd1] at ho1
      rw [hkd2] at ho2
      refine ⟨by omega, by omega, by omega, by omega, by omega, by omega, by omega, by omega, by omega, ?_⟩
      refine Pu.use (apply_sw h hm2 ho2.1 ho1.1) ?_
      refine lit1 tab_116 rfl tab_153 ⟨rfl, rfl⟩ ?_
      refine app_prefix (f := fW) (xs := vs) (m := vs.length - 2) (ys := [ap w x.op a b]) tab_116 rfl tab_153 rfl (by decide) (hqG _) (by omega) (by simp; omega) fun q' hq' hne => ?_
      refine ⟨(i + 1, q', vs.take (vs.length - 2) ++ [ap w x.op a b]), ⟨by simp only; omega, ?_, ?_⟩, by simp only; omega, .refl _, .refl _, ?_⟩
      · rw [hsucc, stepV, if_neg (by omega), if_neg (by omega), hg1, hg2]
      · simp only [Heap.set_none] at hq'
        exact hq'.2.2
      · simp only [Heap.set_none] at hq'
        obtain ⟨p1, p2, p3⟩ := hq'
        generalize cP fW (vs.take (vs.length - 2) ++ [ap w x.op a b]) = zz
        (intro y b hy; simp only [Heap.set, Heap.del] at hy ⊢; (repeat' split at hy) <;> (repeat' split) <;> simp_all [cells])
  · have : i = t.length := by omega
    subst this
    have hl1 : vs.length = 1 := by rw [hvs]; exact hend
    have := read_row (f := fW) (xs := vs) (k := 0) 0 (by omega)
    rw [List.drop_zero] at this
    refine ⟨by omega, by omega, by omega, ?_, Heap.le_set hq⟩
    rw [this, tval, ← hvs]
end Go.Proofs.YtgcklgeifdefhaaGreat
namespace Go.Pt
def stOf (w v no : Nat) : List Nat := (List.range v).map fun i => no / 2 ^ (w * i) % 2 ^ w
theorem stOf_len (w v no : Nat) : (stOf w v no).length = v := by simp [stOf]
theorem stOf_succ (w v no : Nat) : stOf w (v + 1) no = stOf w v no ++ [no / 2 ^ (w * v) % 2 ^ w] := by simp [stOf, List.range_succ]
theorem stOf_lt (w v no : Nat) : ∀ a ∈ stOf w v no, a < 2 ^ w := by
  intro a ha
  obtain ⟨i, _, rfl⟩ := List.mem_map.1 ha
  exact Nat.mod_lt _ (Nat.two_pow_pos w)
def noOf (w : Nat) : List Nat → Nat
  | [] => 0
  | a :: s => noOf w s * 2 ^ w + a
theorem noOf_snoc (w : Nat) : ∀ (s : List Nat) (a : Nat), noOf w (s ++ [a]) = noOf w s + a * 2 ^ (w * s.length)
  | [], a => by simp [noOf]
  | b :: s, a => by
    simp only [List.cons_append, noOf, noOf_snoc w s a, List.length_cons]
    have e : 2 ^ (w * (s.length + 1)) = 2 ^ (w * s.length) * 2 ^ w := by rw [Nat.mul_add, Nat.mul_one, Nat.pow_add]
    rw [e, Nat.add_mul, Nat.mul_assoc]
    omega
theorem noOf_lt (w : Nat) : ∀ (s : List Nat), (∀ a ∈ s, a < 2 ^ w) → noOf w s < 2 ^ (w * s.length)
  | [], _ => by simp [noOf]
  | b :: s, h => by
    have ih := noOf_lt w s fun a ha => h a (List.mem_cons_of_mem _ ha)
    have hb := h b List.mem_cons_self
    have e : 2 ^ (w * (s.length + 1)) = 2 ^ (w * s.length) * 2 ^ w := by rw [Nat.mul_add, Nat.mul_one, Nat.pow_add]
    simp only [noOf, List.length_cons]
    rw [e]
    have : (noOf w s + 1) * 2 ^ w ≤ 2 ^ (w * s.length) * 2 ^ w := Nat.mul_le_mul_right _ ih
    rw [Nat.add_mul, Nat.one_mul] at this
    omega
theorem or_add (x y n : Nat) (h : x < 2 ^ n) : x ||| (y * 2 ^ n) = x + y * 2 ^ n := by
  have := Nat.two_pow_add_eq_or_of_lt h y
  rw [Nat.mul_comm] at this
  rw [Nat.or_comm, ← this]; omega
def letK (w : Nat) (asks : List (List Nd)) (s : List Nat) : Nat → Nat
  | 0 => 0
  | k + 1 => if tval w (asks.getD k default) s = 1 then letK w asks s k ||| 2 ^ k else letK w asks s k
theorem letK_lt (w : Nat) (asks : List (List Nd)) (s : List Nat) : ∀ k, letK w asks s k < 2 ^ k
  | 0 => by simp [letK]
  | k + 1 => by
    have ih := letK_lt w asks s k
    have e : 2 ^ (k + 1) = 2 * 2 ^ k := by rw [Nat.pow_succ]; omega
    simp only [letK]
    split
    · have := or_add (letK w asks s k) 1 k ih
      rw [Nat.one_mul] at this
      rw [this]; omega
    · omega
def aftK (w : Nat) (chs : List Ch) (s : List Nat) : Nat → List Nat
  | 0 => s
  | k + 1 => (aftK w chs s k).set (chs.getD k default).var.toNat (tval w (chs.getD k default).by_ s)
theorem aftK_len (w : Nat) (chs : List Ch) (s : List Nat) : ∀ k, (aftK w chs s k).length = s.length
  | 0 => rfl
  | k + 1 => by simp [aftK, aftK_len w chs s k]
def enP (w : Nat) (s : List Nat) (c : Cm) : Bool := decide (tval w c.when_ s = 1)
def toP (w : Nat) (s : List Nat) (c : Cm) : Nat := noOf w (aftK w c.chs s c.chs.length)
def steps (p : Pg) (s : List Nat) (k : Nat) : List Int := ((p.cmds.take k).filter (enP p.wide.toNat s)).map fun c => (toP p.wide.toNat s c : Int)
theorem steps_succ (p : Pg) (s : List Nat) {k : Nat} (hk : k < p.cmds.length) : steps p s (k + 1) = if enP p.wide.toNat s (p.cmds.getD k default) = true then steps p s k ++ [(toP p.wide.toNat s (p.cmds.getD k default) : Int)] else steps p s k := by
  unfold steps
  rw [take_succ_snoc hk, List.filter_append]
  generalize p.cmds.getD k default = c
  by_cases h : enP p.wide.toNat s c = true
  · rw [if_pos h]; simp [h]
  · rw [if_neg h]; simp [h]
theorem steps_len (p : Pg) (s : List Nat) (k : Nat) : (steps p s k).length ≤ k := by
  unfold steps
  rw [List.length_map]
  have h1 := List.length_filter_le (enP p.wide.toNat s) (p.cmds.take k)
  have h2 := List.length_take_le k p.cmds
  omega
def stP (p : Pg) (no : Nat) : List Nat := stOf p.wide.toNat p.vars.toNat no
def nextP (p : Pg) (no : Nat) : List Int := if steps p (stP p no) p.cmds.length = [] then [(no : Int)] else sc (steps p (stP p no) p.cmds.length)
def allP (p : Pg) : Nat := 2 ^ (p.wide * p.vars).toNat
def holdP (p : Pg) (t : List Nd) (no : Nat) : Bool := decide (tval p.wide.toNat t (stP p no) = 1)
structure SmallP (p : Pg) : Prop where
  w1 : 1 ≤ p.wide
  v1 : 1 ≤ p.vars
  v4 : p.vars ≤ 4
  wv : p.wide * p.vars ≤ 5
  w5 : p.wide ≤ 5
  start : kind p.wide p.vars p.start = 2
  cl : 1 ≤ p.cmds.length ∧ p.cmds.length ≤ 6
  cmd : ∀ c ∈ p.cmds, goodCm p.wide p.vars c = true
theorem smallP_of {p : Pg} (h : smallP p = true) : SmallP p := by
  simp only [smallP, Bool.and_eq_true, decide_eq_true_eq] at h
  have hr := goodP_rng h.1
  have hg := h.1
  simp only [goodP, Bool.and_eq_true, decide_eq_true_eq, List.all_eq_true] at hg
  have h5 : p.wide ≤ 5 := by
    have h2 := h.2
    obtain hv | hv | hv | hv : p.vars = 1 ∨ p.vars = 2 ∨ p.vars = 3 ∨ p.vars = 4 := by omega
    all_goals (rw [hv] at h2; omega)
  exact ⟨hr.1.1, hr.2.1, hr.2.2, h.2, h5, hg.1.1, hg.1.2, hg.2⟩
theorem SmallP.nat {p : Pg} (h : SmallP p) : ∃ w v : Nat, p.wide = w ∧ p.vars = v ∧ p.wide.toNat = w ∧ p.vars.toNat = v ∧ 1 ≤ w ∧ w ≤ 5 ∧ 1 ≤ v ∧ v ≤ 4 ∧ w * v ≤ 5 := by
  refine ⟨p.wide.toNat, p.vars.toNat, by have := h.w1; omega, by have := h.v1; omega, rfl, rfl, by have := h.w1; omega, by have := h.w5; omega, by have := h.v1; omega, by have := h.v4; omega, ?_⟩
  have h1 := h.wv
  have e1 : (p.wide.toNat : Int) = p.wide := Int.toNat_of_nonneg (by have := h.w1; omega)
  have e2 : (p.vars.toNat : Int) = p.vars := Int.toNat_of_nonneg (by have := h.v1; omega)
  have : ((p.wide.toNat * p.vars.toNat : Nat) : Int) = p.wide * p.vars := by rw [Int.natCast_mul, e1, e2]
  omega
theorem allP_nat {p : Pg} (h : SmallP p) : allP p = 2 ^ (p.wide.toNat * p.vars.toNat) := by
  obtain ⟨w, v, e1, e2, e3, e4, _⟩ := h.nat
  unfold allP
  rw [e3, e4, e1, e2, ← Int.natCast_mul, Int.toNat_natCast]
theorem allP_bd {p : Pg} (h : SmallP p) : 2 ≤ allP p ∧ allP p ≤ 32 := by
  obtain ⟨w, v, e1, e2, e3, e4, h1, h2, h3, h4, h5⟩ := h.nat
  rw [allP_nat h, e3, e4]
  have hpos : 1 ≤ w * v := Nat.mul_le_mul h1 h3
  have a := Nat.pow_le_pow_right (n := 2) (by decide) hpos
  have b := Nat.pow_le_pow_right (n := 2) (by decide) h5
  omega
end Go.Pt
namespace Go.Proofs.YtgcklgeifdefhaaGreat
open Go Go.Sep Go.Pt
attribute [local irreducible] CallT
theorem sw_of {p : Pg} (h : SmallP p) : sw p.wide.toNat := by
  have := h.w1
  have := h.w5
  unfold sw; omega
theorem push_w {q : Nat} {xs : List Nat} {b : Nat} {G : Heap} {K : AV → Heap → Prop} (hq : G q = some (cP fW xs)) (hl : xs.length ≤ 100000000) (h : ∀ q', G q' = none → q' ≠ q → K (rowP q' (xs ++ [b])) ((G.del q).set q' (cP fW (xs ++ [b])))) :
    buildSliceV tab 116 1 [(0, U b)] G (wkK fun v H1 => appendV tab 116 116 (rowP q xs) v H1 (wkK K)) := by
  refine lit1 tab_116 rfl tab_153 ⟨rfl, rfl⟩ ?_
  refine app_row (f := fW) (ys := [b]) tab_116 rfl tab_153 rfl (by decide) hq (by simp; omega) fun q' hq' => h q' hq' fun e => by rw [e, hq] at hq'; cases hq'
theorem fin_w {q : Nat} {xs : List Nat} {H G : Heap} (hq : H q = none) (hG : Heap.le (H.set q (cP fW xs)) G) : wkK (fun r H' => r = Ws xs ∧ H' = H) (rowP q xs) G := by
  have := fin_own (sz := 1) (es := xs.map eW) (q := q) (H := H) (H' := G) (K := fun r H' => r = Ws xs ∧ H' = H) (by omega) (sized_map (f := eW) (fun _ => rfl) xs) hq (by rw [show cells (xs.map eW) = cP fW xs from cells_P fW xs]; exact hG) ⟨rfl, rfl⟩
  simpa only [Go.Sep.own, List.length_map] using this
theorem and_maskI {x w : Nat} (hx : x < 2 ^ 63) (h : sw w) : bitsI .and .i64 (x : Int) ((2 ^ w - 1 : Nat) : Int) = ((x % 2 ^ w : Nat) : Int) := by
  have hp := pow5 h
  have e : ∀ x : Nat, x < 2 ^ 63 → (BitVec.ofInt IntKind.i64.bits (x : Int)).toNat = x := by
    intro x hx
    have : BitVec.ofInt IntKind.i64.bits (x : Int) = BitVec.ofNat 64 x := by
      apply BitVec.eq_of_toNat_eq; simp [IntKind.bits]
    rw [this]
    show (BitVec.ofNat 64 x).toNat = x
    rw [BitVec.toNat_ofNat, Nat.mod_eq_of_lt (by omega)]
  simp only [bitsI]
  rw [BitVec.toNat_and, e x hx, e _ (by omega), Nat.and_two_pow_sub_one_eq_mod]
  have := Nat.mod_lt x (Nat.two_pow_pos w)
  exact i64_id (by omega) (by omega)
theorem minI {n : Nat} (h : n ≤ 64) : min n IntKind.i64.bits = n := by
  have : IntKind.i64.bits = 64 := rfl
  omega
theorem shr_le {a n : Nat} : a / 2 ^ n ≤ a := Nat.div_le_self _ _
theorem stateOf_spec (p : Pg) (hs : SmallP p) (no : Nat) (hno : no < 2 ^ 40) : Pu Tryz.prog 94 [aPg p, I no] (Ws (stP p no)) := by
  have hsw := sw_of hs
  obtain ⟨w, v, e1, e2, e3, e4, hw1, hw5, hv1, hv4, hwv⟩ := hs.nat
  rw [e3] at hsw
  refine ⟨fun H => CallT.fin ?_⟩
  refine W94_ok ?_; simp (maxSteps := 1000000) (disch := first | assumption | (apply ν6; assumption)) only [W94, vz, vu, vv, eqS, eF_, ↓c1_, ↓c2_, tabs, reduceCtorEq, ι5, ↓reduceIte, ν1, ν2, ν3, ν4, ν5, ι1, ι2, ι3, ι4, buildSliceV, zerosA, List.replicate_zero, List.flatten_nil]
  intro r hr q0 hq0r hq0
  refine wkK.keep ?_
  (try simp (maxSteps := 1000000) (disch := first | assumption | (apply ν6; assumption)) only [vz, vu, vv, eqS, eF_, ↓c1_, ↓c2_, tabs, reduceCtorEq, ι5, ↓reduceIte, ν1, ν2, ν3, ν4, ν5, ι1, ι2, ι3, ι4])
  refine L94_0_rule ((0 : Nat), q0) (fun z => rowP z.2 (stOf w z.1 no)) (fun z => I z.1) (fun z => (H.set r [I p.wide, I p.vars, Ns p.start, Cms p.cmds]).set z.2 (cP fW (stOf w z.1 no))) (fun z => z.1 ≤ v ∧ H z.2 = none ∧ z.2 ≠ r) (fun z => v - z.1)
    ⟨⟨by omega, hq0, hq0r⟩, .refl _, .refl _, Heap.le_refl _⟩ ?_
  rintro ⟨i, q⟩ ⟨hi, hq, hqr⟩
  dsimp only at hi hq hqr
  have nn : r ≠ q := Ne.symm hqr
  have hlen := stOf_len w i no
  have hwi : i < v → w * i ≤ 5 := fun h => Nat.le_trans (Nat.mul_le_mul_left w (by omega)) hwv
  (try simp (maxSteps := 1000000) (disch := first | assumption | (apply ν6; assumption)) only [vz, vu, vv, eqS, eF_, ↓c1_, ↓c2_, tabs, reduceCtorEq, ι5, ↓reduceIte, ν1, ν2, ν3, ν4, ν5, ι1, ι2, ι3, ι4, B94_0, e1, e2])
  refine ⟨fun h1 => ?_, fun h1 => ?_⟩
  · have hwi := hwi (by omega)
    have e5 : IntKind.i64.wrap ((w : Int) * i) = ((w * i : Nat) : Int) := by rw [← Int.natCast_mul, i64_id (by omega) (by omega)]
    have hn1 := shr_le (a := no) (n := w * i)
    rw [e5, Int.toNat_natCast, minU (by omega), wU (by omega), fdivN]
    refine ⟨by omega, ?_⟩
    refine Pu.use (mask_sw hsw) ?_
    (try simp (maxSteps := 1000000) (disch := first | assumption | (apply ν6; assumption)) only [vz, vu, vv, eqS, eF_, ↓c1_, ↓c2_, tabs, reduceCtorEq, ι5, ↓reduceIte, ν1, ν2, ν3, ν4, ν5, ι1, ι2, ι3, ι4])
    rw [and_mask (by omega) hsw]
    refine push_w (by rw [Heap.set_same]) (by omega) fun q' hq' hne => ?_
    simp only [Heap.set_none] at hq'
    obtain ⟨p1, p2, p3⟩ := hq'
    refine ⟨(i + 1, q'), ⟨by simp only; omega, p3, p2⟩, by simp only; omega, ?_, ?_, ?_⟩
    · rw [stOf_succ]; exact .refl _
    · rw [wk_int, i64_id (by omega) (by omega)]; simp
    · rw [stOf_succ]
      generalize cP fW (stOf w i no ++ [no / 2 ^ (w * i) % 2 ^ w]) = zz
      (intro y b hy; simp only [Heap.set, Heap.del] at hy ⊢; (repeat' split at hy) <;> (repeat' split) <;> simp_all [cells])
  · have : i = v := by omega
    subst this
    rw [stP, e3, e4]
    exact fin_w hq (Heap.set_le (Heap.le_set hr))
theorem l7Of_spec (p : Pg) (hs : SmallP p) (no : Nat) (hno : no < 2 ^ 40) : Pu Tryz.prog 92 [aPg p, I no] (Ws (stP p no)) := by
  have hsw := sw_of hs
  obtain ⟨w, v, e1, e2, e3, e4, hw1, hw5, hv1, hv4, hwv⟩ := hs.nat
  rw [e3] at hsw
  refine ⟨fun H => CallT.fin ?_⟩
  refine CallT.ghost W92_hb fun q0 hq0 => ?_
  refine W92_ok ?_; simp (maxSteps := 1000000) (disch := first | assumption | (apply ν6; assumption)) only [W92, vz, vu, vv, eqS, eF_, ↓c1_, ↓c2_, tabs, reduceCtorEq, ι5, ↓reduceIte, ν1, ν2, ν3, ν4, ν5, ι1, ι2, ι3, ι4]
  intro r hrq hr
  refine L92_0_rule ((0 : Nat), q0) (fun z => rowP z.2 (stOf w z.1 no)) (fun z => I z.1) (fun z => (H.set r [I p.wide, I p.vars, Ns p.start, Cms p.cmds]).set z.2 (cP fW (stOf w z.1 no))) (fun z => z.1 ≤ v ∧ H z.2 = none ∧ z.2 ≠ r) (fun z => v - z.1)
    ⟨⟨by omega, hq0, fun e => hrq e.symm⟩, .nilo _ _ _, .refl _, ?_⟩ ?_
  · rw [Heap.set_comm hrq]; exact Heap.le_refl _
  rintro ⟨i, q⟩ ⟨hi, hq, hqr⟩
  dsimp only at hi hq hqr
  have nn : r ≠ q := Ne.symm hqr
  have hlen := stOf_len w i no
  have hwi : i < v → w * i ≤ 5 := fun h => Nat.le_trans (Nat.mul_le_mul_left w (by omega)) hwv
  (try simp (maxSteps := 1000000) (disch := first | assumption | (apply ν6; assumption)) only [vz, vu, vv, eqS, eF_, ↓c1_, ↓c2_, tabs, reduceCtorEq, ι5, ↓reduceIte, ν1, ν2, ν3, ν4, ν5, ι1, ι2, ι3, ι4, B92_0, e1, e2])
  refine ⟨fun h1 => ?_, fun h1 => ?_⟩
  · have hwi := hwi (by omega)
    have e5 : IntKind.u64.wrap (IntKind.i64.wrap ((i : Int) * w)) = ((w * i : Nat) : Int) := by rw [← Int.natCast_mul, Nat.mul_comm, i64_id (by omega) (by omega), wU (by omega)]
    have hn1 := shr_le (a := no) (n := w * i)
    have hp := pow5 hsw
    have e6 : IntKind.u64.wrap (w : Int) = w := wU (by omega)
    have e7 : IntKind.i64.wrap (IntKind.i64.wrap (1 * 2 ^ w) - 1) = ((2 ^ w - 1 : Nat) : Int) := by
      have e8 : IntKind.i64.wrap ((2 ^ w : Nat) : Int) = ((2 ^ w : Nat) : Int) := i64_id (by omega) (by omega)
      rw [Int.one_mul, ← powI, e8, i64_id (by omega) (by omega)]; omega
    rw [e5, e6, Int.toNat_natCast, Int.toNat_natCast, minI (by omega), minI (by omega), e7, fdivN, and_maskI (by omega) hsw]
    have hm := Nat.mod_lt (no / 2 ^ (w * i)) (Nat.two_pow_pos w)
    rw [wU (by omega)]
    refine ⟨by omega, by omega, ?_⟩
    refine push_w (by rw [Heap.set_same]) (by omega) fun q' hq' hne => ?_
    simp only [Heap.set_none] at hq'
    obtain ⟨p1, p2, p3⟩ := hq'
    refine ⟨(i + 1, q'), ⟨by simp only; omega, p3, p2⟩, by simp only; omega, ?_, ?_, ?_⟩
    · rw [stOf_succ]; exact .refl _
    · rw [wk_int, i64_id (by omega) (by omega)]; simp
    · rw [stOf_succ]
      generalize cP fW (stOf w i no ++ [no / 2 ^ (w * i) % 2 ^ w]) = zz
      (intro y b hy; simp only [Heap.set, Heap.del] at hy ⊢; (repeat' split at hy) <;> (repeat' split) <;> simp_all [cells])
  · have : i = v := by omega
    subst this
    rw [stP, e3, e4]
    exact fin_w hq (Heap.set_le (Heap.le_set hr))
theorem decN {n : Nat} : AV.p (PV.bool (decide ((n : Int) = 1))) = B (decide (n = 1)) := by
  congr 2
  exact decide_eq_decide.2 (by omega)
theorem stP_len' (p : Pg) (no : Nat) : (stP p no).length = p.vars.toNat := stOf_len _ _ _
theorem stP_lt' (p : Pg) (no : Nat) : ∀ a ∈ stP p no, a < 2 ^ p.wide.toNat := stOf_lt _ _ _
theorem holds_spec (p : Pg) (hs : SmallP p) (t : List Nd) (ht : vT t) (s : List Nat) (hl : s.length = p.vars.toNat) (hsw : ∀ a ∈ s, a < 2 ^ p.wide.toNat) (hk : kind p.wide p.vars t = 2) : Pu Tryz.prog 95 [aPg p, Ns t, Ws s] (B (decide (tval p.wide.toNat t s = 1))) := by
  have hsm := sw_of hs
  obtain ⟨w, v, e1, e2, e3, e4, hw1, hw5, hv1, hv4, hwv⟩ := hs.nat
  rw [e3] at hsm hsw ⊢
  rw [e4] at hl
  rw [e1, e2] at hk
  refine Pu.of fun H => ?_
  refine W95_ok ?_; simp (maxSteps := 1000000) (disch := first | assumption | (apply ν6; assumption)) only [W95, vz, vu, vv, eqS, eF_, ↓c1_, ↓c2_, tabs, reduceCtorEq, ι5, ↓reduceIte, ν1, ν2, ν3, ν4, ν5, ι1, ι2, ι3, ι4]
  intro r hr
  have := valueOf_spec (kd := 2) hsm ht.1 ht.2 hl hsw (by decide) hk
  rw [e1]
  refine Pu.use this ?_
  (try simp (maxSteps := 1000000) (disch := first | assumption | (apply ν6; assumption)) only [vz, vu, vv, eqS, eF_, ↓c1_, ↓c2_, tabs, reduceCtorEq, ι5, ↓reduceIte, ν1, ν2, ν3, ν4, ν5, ι1, ι2, ι3, ι4])
  exact ⟨decN, Heap.le_set hr⟩
theorem l7Holds_spec (p : Pg) (hs : SmallP p) (t : List Nd) (ht : vT t) (s : List Nat) (hl : s.length = p.vars.toNat) (hsw : ∀ a ∈ s, a < 2 ^ p.wide.toNat) (hk : kind p.wide p.vars t = 2) : Pu Tryz.prog 91 [aPg p, Ns t, Ws s] (B (decide (tval p.wide.toNat t s = 1))) := by
  have hsm := sw_of hs
  obtain ⟨w, v, e1, e2, e3, e4, hw1, hw5, hv1, hv4, hwv⟩ := hs.nat
  rw [e3] at hsm hsw ⊢
  rw [e4] at hl
  rw [e1, e2] at hk
  obtain ⟨_, ht1, ht2, htr, hst, _⟩ := kind_tree hl hsw (fun x hm => (ht.2 x hm).1) (by decide) hk
  refine Pu.of fun H => ?_
  refine W91_ok ?_; simp (maxSteps := 1000000) (disch := first | assumption | (apply ν6; assumption)) only [W91, vz, vu, vv, eqS, eF_, ↓c1_, ↓c2_, tabs, reduceCtorEq, ι5, ↓reduceIte, ν1, ν2, ν3, ν4, ν5, ι1, ι2, ι3, ι4]
  intro r hr
  have e : IntKind.i64.wrap ((t.length : Int) - 1) = ((t.length - 1 : Nat) : Int) := by rw [i64_id (by omega) (by omega)]; omega
  rw [e, e1]
  refine Pu.use (l2Value_tr hsm ht.1 ht.2 (fun x hx h2 => by rw [hl]; exact kind_var (by decide) hk x hx h2) htr) ?_
  (try simp (maxSteps := 1000000) (disch := first | assumption | (apply ν6; assumption)) only [vz, vu, vv, eqS, eF_, ↓c1_, ↓c2_, tabs, reduceCtorEq, ι5, ↓reduceIte, ν1, ν2, ν3, ν4, ν5, ι1, ι2, ι3, ι4])
  exact ⟨decN, Heap.le_set hr⟩
end Go.Proofs.YtgcklgeifdefhaaGreat
namespace Go.Proofs.YtgcklgeifdefhaaGreat
open Go Go.Sep Go.Pt
attribute [local irreducible] CallT
theorem app_topW {q : Nat} {xs ys : List Nat} {G : Heap} {K : AV → Heap → Prop} (hq : G q = none) (hl : xs.length + ys.length ≤ 1000000) (h : ∀ q', G q' = none → K (rowP q' (xs ++ ys)) (G.set q' (cP fW (xs ++ ys)))) :
    appendV tab 116 116 (rowP q xs) (Ws ys) (G.set q (cP fW xs)) (wkK K) := by
  refine app_row (f := fW) tab_116 rfl tab_153 rfl (by decide) (Heap.set_same _ _ _) (by omega) fun q' hq' => ?_
  have hne : q' ≠ q := by rintro rfl; rw [Heap.set_same] at hq'; cases hq'
  rw [Heap.set_other hne] at hq'
  rw [Heap.del_set hq]
  exact h q' hq'
theorem lit0W {G : Heap} {K : AV → Heap → Prop} (h : ∀ q, G q = none → K (rowP q ([] : List Nat)) (G.set q (cP fW []))) : buildSliceV tab 116 0 [] G (wkK K) := by
  simp only [buildSliceV, tab_116, tab_153]
  refine ⟨by omega, ?_⟩
  simp only [fillV, zerosA, List.replicate_zero, List.flatten_nil]
  exact fun r hr => wkK.keep (h r hr)
theorem CloneW_row (xs : List Nat) (hl : xs.length ≤ 100000) {H : Heap} {K : AV → Heap → Prop} (h : ∀ q, H q = none → K (rowP q xs) (H.set q (cP fW xs))) : CallT Tryz.prog 182 [Ws xs] H K := by
  refine CallT.fin ?_
  refine CallT.ghost W182_hb fun q0 hq0 => ?_
  refine W182_ok ?_; simp (maxSteps := 1000000) (disch := first | assumption | (apply ν6; assumption)) only [W182, vz, vu, vv, eqS, eF_, ↓c1_, ↓c2_, tabs, reduceCtorEq, ι5, ↓reduceIte, ν1, ν2, ν3, ν4, ν5, ι1, ι2, ι3, ι4]
  have main : buildSliceV tab 116 0 [] (H.set q0 []) (wkK fun v5 H1 => appendV tab 116 116 v5 (Ws xs) H1 (wkK fun v7 H2 => wkK K v7 H2)) := by
    refine lit0W fun q1 hq1 => ?_
    refine app_topW (xs := []) (ys := xs) hq1 (by simp; omega) fun q2 hq2 => ?_
    rw [Heap.set_none] at hq2
    rw [List.nil_append]
    refine fin_le ?_ (h q2 hq2.2)
    generalize cP fW xs = z
    have := hq2.2
    have := hq2.1
    (intro y b hy; simp only [Heap.set, Heap.del] at hy ⊢; (repeat' split at hy) <;> (repeat' split) <;> simp_all [cells])
  refine ⟨fun h0 => ⟨?_, main⟩, fun _ => main⟩
  have hx : xs = [] := List.map_eq_nil_iff.1 h0
  subst hx
  exact ⟨_, _, .val (.nilo q0 1 0), h q0 hq0⟩
theorem orII {x y : Nat} (hx : x < 2 ^ 62) (hy : y < 2 ^ 62) : bitsI .or .i64 (x : Int) (y : Int) = ((x ||| y : Nat) : Int) := by
  have e : ∀ x : Nat, x < 2 ^ 63 → (BitVec.ofInt IntKind.i64.bits (x : Int)).toNat = x := by
    intro x hx
    have : BitVec.ofInt IntKind.i64.bits (x : Int) = BitVec.ofNat 64 x := by
      apply BitVec.eq_of_toNat_eq; simp [IntKind.bits]
    rw [this]
    show (BitVec.ofNat 64 x).toNat = x
    rw [BitVec.toNat_ofNat, Nat.mod_eq_of_lt (by omega)]
  simp only [bitsI]
  rw [BitVec.toNat_or, e x (by omega), e _ (by omega)]
  have := Nat.or_lt_two_pow hx hy
  exact i64_id (by omega) (by omega)
theorem noOf_pre {w : Nat} {s : List Nat} {i : Nat} (hi : i < s.length) : noOf w (s.take (i + 1)) = noOf w (s.take i) + s.getD i 0 * 2 ^ (w * i) := by
  have e : s.take (i + 1) = s.take i ++ [s.getD i default] := take_succ_snoc hi
  rw [e, noOf_snoc, List.length_take, Nat.min_eq_left (by omega)]; rfl
theorem pow_wv {w v i : Nat} (hi : i ≤ v) (hwv : w * v ≤ 5) : 2 ^ (w * i) ≤ 32 :=
  Nat.pow_le_pow_right (n := 2) (by decide) (Nat.le_trans (Nat.mul_le_mul_left w hi) hwv)
theorem take_lt' {s : List Nat} {m : Nat} (h : ∀ a ∈ s, a < m) (i : Nat) : ∀ a ∈ s.take i, a < m := fun a ha => h a (List.mem_of_mem_take ha)
theorem stateNo_spec (p : Pg) (hs : SmallP p) (s : List Nat) (hl : s.length = p.vars.toNat) (hsw : ∀ a ∈ s, a < 2 ^ p.wide.toNat) : Pu Tryz.prog 158 [aPg p, Ws s] (I (noOf p.wide.toNat s)) := by
  obtain ⟨w, v, e1, e2, e3, e4, hw1, hw5, hv1, hv4, hwv⟩ := hs.nat
  rw [e3] at hsw ⊢
  rw [e4] at hl
  refine Pu.of fun H => ?_
  refine W158_ok ?_; simp (maxSteps := 1000000) (disch := first | assumption | (apply ν6; assumption)) only [W158, vz, vu, vv, eqS, eF_, ↓c1_, ↓c2_, tabs, reduceCtorEq, ι5, ↓reduceIte, ν1, ν2, ν3, ν4, ν5, ι1, ι2, ι3, ι4]
  intro r hr
  refine L158_0_rule (0 : Nat) (fun i => I (noOf w (s.take i))) (fun i => I i) (fun _ => H.set r [I p.wide, I p.vars, Ns p.start, Cms p.cmds]) (fun i => i ≤ v) (fun i => v - i) ⟨by omega, .refl _, .refl _, Heap.le_refl _⟩ ?_
  intro i hi
  (try simp (maxSteps := 1000000) (disch := first | assumption | (apply ν6; assumption)) only [vz, vu, vv, eqS, eF_, ↓c1_, ↓c2_, tabs, reduceCtorEq, ι5, ↓reduceIte, ν1, ν2, ν3, ν4, ν5, ι1, ι2, ι3, ι4, B158_0, e1])
  refine ⟨fun h1 => ?_, fun h1 => ?_⟩
  · have hlt : i < s.length := by omega
    have hpre := noOf_pre (w := w) hlt
    have hb : s.getD i 0 < 2 ^ w := getD_all hsw hlt
    have hwi : w * i ≤ 5 := Nat.le_trans (Nat.mul_le_mul_left w (by omega)) hwv
    have h2 := noOf_lt w (s.take i) (take_lt' hsw i)
    rw [List.length_take, Nat.min_eq_left (by omega)] at h2
    have h3 := pow_wv (w := w) (show i ≤ v by omega) hwv
    have h4 := noOf_lt w (s.take (i + 1)) (take_lt' hsw (i + 1))
    rw [List.length_take, Nat.min_eq_left (by omega)] at h4
    have h5 := pow_wv (w := w) (show i + 1 ≤ v by omega) hwv
    have hp5 : 2 ^ w ≤ 32 := Nat.pow_le_pow_right (n := 2) (by decide) hw5
    have e5 : IntKind.i64.wrap ((w : Int) * i) = ((w * i : Nat) : Int) := by rw [← Int.natCast_mul, i64_id (by omega) (by omega)]
    have e6 : IntKind.i64.wrap ((s.getD i 0 : Nat) : Int) = (s.getD i 0 : Nat) := i64_id (by omega) (by omega)
    have hdd : s.getD i default = s.getD i 0 := rfl
    refine ⟨by omega, by omega, ?_⟩
    rw [e5, hdd, e6, Int.toNat_natCast, minI (by omega), mulN]
    have e7 : IntKind.i64.wrap ((s.getD i 0 * 2 ^ (w * i) : Nat) : Int) = ((s.getD i 0 * 2 ^ (w * i) : Nat) : Int) := i64_id (by omega) (by omega)
    rw [e7, orII (by omega) (by omega), or_add _ _ _ h2, ← hpre]
    refine ⟨by omega, i + 1, by omega, by omega, .refl _, ?_⟩
    rw [wk_int, i64_id (by omega) (by omega)]; simp
  · have : i = v := by omega
    subst this
    rw [← hl, List.take_length]
    exact ⟨rfl, Heap.le_set hr⟩
theorem noOf_drop {w : Nat} {s : List Nat} {j : Nat} (hj : j < s.length) : noOf w (s.drop j) = noOf w (s.drop (j + 1)) * 2 ^ w + s.getD j 0 := by
  rw [List.drop_eq_getElem_cons hj]
  simp [noOf, List.getD, hj]
theorem l7No_spec (p : Pg) (hs : SmallP p) (s : List Nat) (hl : s.length = p.vars.toNat) (hsw : ∀ a ∈ s, a < 2 ^ p.wide.toNat) : Pu Tryz.prog 148 [aPg p, Ws s] (I (noOf p.wide.toNat s)) := by
  obtain ⟨w, v, e1, e2, e3, e4, hw1, hw5, hv1, hv4, hwv⟩ := hs.nat
  rw [e3] at hsw ⊢
  rw [e4] at hl
  refine Pu.of fun H => ?_
  have e0 : IntKind.i64.wrap (p.vars - 1) = (v : Int) - 1 := by rw [e2]; exact i64_id (by omega) (by omega)
  refine W148_ok ?_; simp (maxSteps := 1000000) (disch := first | assumption | (apply ν6; assumption)) only [W148, vz, vu, vv, eqS, eF_, ↓c1_, ↓c2_, tabs, reduceCtorEq, ι5, ↓reduceIte, ν1, ν2, ν3, ν4, ν5, ι1, ι2, ι3, ι4, e0]
  intro r hr
  refine L148_0_rule v (fun j => I (noOf w (s.drop j))) (fun j => I ((j : Int) - 1)) (fun _ => H.set r [I p.wide, I p.vars, Ns p.start, Cms p.cmds]) (fun j => j ≤ v) (fun j => j) ⟨by omega, ?_, .refl _, Heap.le_refl _⟩ ?_
  · rw [List.drop_of_length_le (by omega)]; exact .refl _
  intro j hj
  (try simp (maxSteps := 1000000) (disch := first | assumption | (apply ν6; assumption)) only [vz, vu, vv, eqS, eF_, ↓c1_, ↓c2_, tabs, reduceCtorEq, ι5, ↓reduceIte, ν1, ν2, ν3, ν4, ν5, ι1, ι2, ι3, ι4, B148_0, e1])
  refine ⟨fun h1 => ?_, fun h1 => ?_⟩
  · have hlt : j - 1 < s.length := by omega
    have hpre := noOf_drop (w := w) hlt
    rw [show j - 1 + 1 = j by omega] at hpre
    have hb : s.getD (j - 1) 0 < 2 ^ w := getD_all hsw hlt
    have h4 := noOf_lt w (s.drop (j - 1)) fun a ha => hsw a (List.mem_of_mem_drop ha)
    rw [List.length_drop] at h4
    have h5 := pow_wv (w := w) (show s.length - (j - 1) ≤ v by omega) hwv
    have hp5 : 2 ^ w ≤ 32 := Nat.pow_le_pow_right (n := 2) (by decide) hw5
    have et : ((j : Int) - 1).toNat = j - 1 := by omega
    have hdd : s.getD (j - 1) default = s.getD (j - 1) 0 := rfl
    have e6 : IntKind.u64.wrap (w : Int) = w := wU (by omega)
    have e7 : IntKind.i64.wrap ((noOf w (s.drop j) * 2 ^ w : Nat) : Int) = ((noOf w (s.drop j) * 2 ^ w : Nat) : Int) := i64_id (by omega) (by omega)
    have e8 : IntKind.i64.wrap ((s.getD (j - 1) 0 : Nat) : Int) = (s.getD (j - 1) 0 : Nat) := i64_id (by omega) (by omega)
    rw [et, hdd, e6, Int.toNat_natCast, minI (by omega), mulN, e7, e8, ← Int.natCast_add, ← hpre]
    refine ⟨by omega, h1, by omega, j - 1, by omega, by omega, ?_, ?_⟩
    · rw [wk_int, i64_id (by omega) (by omega)]
    · rw [wk_int, i64_id (by omega) (by omega)]; omega
  · have : j = 0 := by omega
    subst this
    exact ⟨rfl, Heap.le_set hr⟩
theorem goodCm_ch {w v : Int} {c : Cm} (h : goodCm w v c = true) {i : Nat} (hi : i < c.chs.length) : 0 ≤ (c.chs.getD i default).var ∧ (c.chs.getD i default).var ≤ v - 1 ∧ kind w v (c.chs.getD i default).by_ = 1 := by
  simp only [goodCm, Bool.and_eq_true, List.all_eq_true, List.mem_range] at h
  have := h.2 i hi
  simp only [goodCh, Bool.and_eq_true, inB_iff, decide_eq_true_eq] at this
  exact ⟨this.1.1.1, this.1.1.2, this.2⟩
theorem goodCm_when {w v : Int} {c : Cm} (h : goodCm w v c = true) : kind w v c.when_ = 2 := by
  simp only [goodCm, Bool.and_eq_true, decide_eq_true_eq] at h
  exact h.1
theorem cPs_set {α : Type} {f : α → PV} {xs : List α} {i : Nat} {x : α} (hi : i < xs.length) : List.take (i * 1) (cP f xs) ++ [AV.p (f x)] ++ List.drop (i * 1 + 1) (cP f xs) = cP f (xs.set i x) := by
  simp only [Nat.mul_one, cP, ← List.map_take, ← List.map_drop]
  rw [List.set_eq_take_append_cons_drop, if_pos hi]
  simp
theorem aftK_lt {w v : Nat} {c : Cm} {s : List Nat} (hs : s.length = v) (hsw : ∀ a ∈ s, a < 2 ^ w) (hv : vCm c) (hg : goodCm w v c = true) : ∀ k, k ≤ c.chs.length → ∀ a ∈ aftK w c.chs s k, a < 2 ^ w
  | 0, _ => hsw
  | k + 1, hk => by
    intro a ha
    simp only [aftK] at ha
    rcases List.mem_or_eq_of_mem_set ha with h | rfl
    · exact aftK_lt hs hsw hv hg k (by omega) a h
    · have hm : c.chs.getD k default ∈ c.chs := getD_all (p := fun x => x ∈ c.chs) (fun _ h => h) (show k < c.chs.length by omega)
      obtain ⟨_, _, h3⟩ := goodCm_ch hg (show k < c.chs.length by omega)
      have hvt := hv.2.2 _ hm
      obtain ⟨hw, _, _, htr, _⟩ := kind_tree hs hsw (fun x hx => (hvt.2 x hx).1) (by decide) h3
      exact (htr.okV hw).1
theorem after_spec (p : Pg) (hs : SmallP p) (c : Cm) (hv : vCm c) (hg : goodCm p.wide p.vars c = true) (s : List Nat) (hl : s.length = p.vars.toNat) (hsw : ∀ a ∈ s, a < 2 ^ p.wide.toNat) : Pu Tryz.prog 159 [aPg p, aCm c, Ws s] (Ws (aftK p.wide.toNat c.chs s c.chs.length)) := by
  have hsm := sw_of hs
  obtain ⟨w, v, e1, e2, e3, e4, hw1, hw5, hv1, hv4, hwv⟩ := hs.nat
  rw [e3] at hsw hsm ⊢
  rw [e4] at hl
  rw [e1, e2] at hg
  have hcl := hv.2.1
  refine ⟨fun H => CallT.fin ?_⟩
  refine W159_ok ?_; simp (maxSteps := 1000000) (disch := first | assumption | (apply ν6; assumption)) only [W159, vz, vu, vv, eqS, eF_, ↓c1_, ↓c2_, tabs, reduceCtorEq, ι5, ↓reduceIte, ν1, ν2, ν3, ν4, ν5, ι1, ι2, ι3, ι4]
  intro r3 hr3 r4 n43 hr4
  have nn : r3 ≠ r4 := Ne.symm n43
  refine CloneW_row s (by omega) fun q0 hq0 => ?_
  simp only [Heap.set_none] at hq0
  obtain ⟨p1, p2, p3⟩ := hq0
  have nn1 : r4 ≠ q0 := Ne.symm p1
  have nn2 : r3 ≠ q0 := Ne.symm p2
  (try simp (maxSteps := 1000000) (disch := first | assumption | (apply ν6; assumption)) only [vz, vu, vv, eqS, eF_, ↓c1_, ↓c2_, tabs, reduceCtorEq, ι5, ↓reduceIte, ν1, ν2, ν3, ν4, ν5, ι1, ι2, ι3, ι4])
  refine L159_0_rule (0 : Nat) (fun k => I k) (fun k => ((H.set r3 [I p.wide, I p.vars, Ns p.start, Cms p.cmds]).set r4 [Ns c.when_, Chs c.chs]).set q0 (cP fW (aftK w c.chs s k))) (fun k => k ≤ c.chs.length) (fun k => c.chs.length - k) ⟨by omega, .refl _, Heap.le_refl _⟩ ?_
  intro k hk
  have hal := aftK_len w c.chs s k
  (try simp (maxSteps := 1000000) (disch := first | assumption | (apply ν6; assumption)) only [vz, vu, vv, eqS, eF_, ↓c1_, ↓c2_, tabs, reduceCtorEq, ι5, ↓reduceIte, ν1, ν2, ν3, ν4, ν5, ι1, ι2, ι3, ι4, B159_0])
  refine ⟨fun h1 => ⟨by omega, h1, ?_⟩, fun h1 => ?_⟩
  · have hlt : k < c.chs.length := by omega
    have hm : c.chs.getD k default ∈ c.chs := getD_all (p := fun x => x ∈ c.chs) (fun _ h => h) hlt
    obtain ⟨g1, g2, g3⟩ := goodCm_ch hg hlt
    have hvt := hv.2.2 _ hm
    have hsucc : aftK w c.chs s (k + 1) = (aftK w c.chs s k).set (c.chs.getD k default).var.toNat (tval w (c.chs.getD k default).by_ s) := rfl
    have hval := valueOf_spec (kd := 1) hsm hvt.1 hvt.2 hl hsw (by decide) g3
    generalize c.chs.getD k default = x at *
    intro r9 n9q n94 n93 hr9
    have nn9q : q0 ≠ r9 := Ne.symm n9q
    have nn94 : r4 ≠ r9 := Ne.symm n94
    have nn93 : r3 ≠ r9 := Ne.symm n93
    (try simp (maxSteps := 1000000) (disch := first | assumption | (apply ν6; assumption)) only [vz, vu, vv, eqS, eF_, ↓c1_, ↓c2_, tabs, reduceCtorEq, ι5, ↓reduceIte, ν1, ν2, ν3, ν4, ν5, ι1, ι2, ι3, ι4, e1])
    rw [e1] at *
    refine Pu.use hval ?_
    (try simp (maxSteps := 1000000) (disch := first | assumption | (apply ν6; assumption)) only [vz, vu, vv, eqS, eF_, ↓c1_, ↓c2_, tabs, reduceCtorEq, ι5, ↓reduceIte, ν1, ν2, ν3, ν4, ν5, ι1, ι2, ι3, ι4])
    refine ⟨g1, by omega, by omega, k + 1, by omega, by omega, ?_, ?_⟩
    · rw [wk_int, i64_id (by omega) (by omega)]; simp
    · rw [cPs_set (f := fW) (by omega), ← hsucc]
      generalize cP fW (aftK w c.chs s (k + 1)) = zz
      (intro y b hy; simp only [Heap.set, Heap.del] at hy ⊢; (repeat' split at hy) <;> (repeat' split) <;> simp_all [cells])
  · have : k = c.chs.length := by omega
    subst this
    have := fin_w (H := H) (G := ((H.set r3 [I p.wide, I p.vars, Ns p.start, Cms p.cmds]).set r4 [Ns c.when_, Chs c.chs]).set q0 (cP fW (aftK w c.chs s c.chs.length))) p3 (Heap.set_le (Heap.le_setN (Heap.le_set hr3) hr4))
    simpa only [rowP, hal] using this
theorem l7Do_spec (p : Pg) (hs : SmallP p) (hp : vPg p) (k : Nat) (hk : k < p.cmds.length) (s : List Nat) (hl : s.length = p.vars.toNat) (hsw : ∀ a ∈ s, a < 2 ^ p.wide.toNat) :
    Pu Tryz.prog 149 [aPg p, Ws s, I k] (Ws (aftK p.wide.toNat (p.cmds.getD k default).chs s (p.cmds.getD k default).chs.length)) := by
  have hmc : p.cmds.getD k default ∈ p.cmds := getD_all (p := fun x => x ∈ p.cmds) (fun _ h => h) hk
  have hv := hp.2.2 _ hmc
  have hg := hs.cmd _ hmc
  have hsm := sw_of hs
  obtain ⟨w, v, e1, e2, e3, e4, hw1, hw5, hv1, hv4, hwv⟩ := hs.nat
  rw [e3] at hsw hsm ⊢
  rw [e4] at hl
  rw [e1, e2] at hg
  have hcl := hv.2.1
  have hpl := hp.2.1
  refine ⟨fun H => CallT.fin ?_⟩
  refine W149_ok ?_; simp (maxSteps := 1000000) (disch := first | assumption | (apply ν6; assumption)) only [W149, vz, vu, vv, eqS, eF_, ↓c1_, ↓c2_, tabs, reduceCtorEq, ι5, ↓reduceIte, ν1, ν2, ν3, ν4, ν5, ι1, ι2, ι3, ι4, buildSliceV, zerosA, List.replicate_zero, List.flatten_nil]
  intro r3 hr3 q1 hq1r hq1
  refine wkK.keep ?_
  refine app_topW (xs := []) (ys := s) (by rw [Heap.set_other hq1r]; exact hq1) (by simp; omega) fun q0 hq0 => ?_
  rw [List.nil_append]
  simp only [Heap.set_none] at hq0
  obtain ⟨p2, p3⟩ := hq0
  have nn2 : r3 ≠ q0 := Ne.symm p2
  (try simp (maxSteps := 1000000) (disch := first | assumption | (apply ν6; assumption)) only [vz, vu, vv, eqS, eF_, ↓c1_, ↓c2_, tabs, reduceCtorEq, ι5, ↓reduceIte, ν1, ν2, ν3, ν4, ν5, ι1, ι2, ι3, ι4])
  refine ⟨by omega, by omega, ?_⟩
  generalize p.cmds.getD k default = c at *
  refine L149_0_rule (0 : Nat) (fun k => I k) (fun k => (H.set r3 [I p.wide, I p.vars, Ns p.start, Cms p.cmds]).set q0 (cP fW (aftK w c.chs s k))) (fun k => k ≤ c.chs.length) (fun k => c.chs.length - k) ⟨by omega, .refl _, Heap.le_refl _⟩ ?_
  intro k hk
  have hal := aftK_len w c.chs s k
  (try simp (maxSteps := 1000000) (disch := first | assumption | (apply ν6; assumption)) only [vz, vu, vv, eqS, eF_, ↓c1_, ↓c2_, tabs, reduceCtorEq, ι5, ↓reduceIte, ν1, ν2, ν3, ν4, ν5, ι1, ι2, ι3, ι4, B149_0])
  refine ⟨fun h1 => ⟨by omega, h1, ?_⟩, fun h1 => ?_⟩
  · have hlt : k < c.chs.length := by omega
    have hm : c.chs.getD k default ∈ c.chs := getD_all (p := fun x => x ∈ c.chs) (fun _ h => h) hlt
    obtain ⟨g1, g2, g3⟩ := goodCm_ch hg hlt
    have hvt := hv.2.2 _ hm
    have hsucc : aftK w c.chs s (k + 1) = (aftK w c.chs s k).set (c.chs.getD k default).var.toNat (tval w (c.chs.getD k default).by_ s) := rfl
    obtain ⟨_, ht1, ht2, htr, _⟩ := kind_tree hl hsw (fun x hm => (hvt.2 x hm).1) (by decide) g3
    have hval := l2Value_tr hsm hvt.1 hvt.2 (fun x hx h2 => by rw [hl]; exact kind_var (by decide) g3 x hx h2) htr
    generalize c.chs.getD k default = x at *
    have e9 : IntKind.i64.wrap ((x.by_.length : Int) - 1) = ((x.by_.length - 1 : Nat) : Int) := by rw [i64_id (by omega) (by omega)]; omega
    intro r9 n9q n93 hr9
    have nn9q : q0 ≠ r9 := Ne.symm n9q
    have nn93 : r3 ≠ r9 := Ne.symm n93
    (try simp (maxSteps := 1000000) (disch := first | assumption | (apply ν6; assumption)) only [vz, vu, vv, eqS, eF_, ↓c1_, ↓c2_, tabs, reduceCtorEq, ι5, ↓reduceIte, ν1, ν2, ν3, ν4, ν5, ι1, ι2, ι3, ι4, e1, e9])
    rw [e1] at *
    refine Pu.use hval ?_
    (try simp (maxSteps := 1000000) (disch := first | assumption | (apply ν6; assumption)) only [vz, vu, vv, eqS, eF_, ↓c1_, ↓c2_, tabs, reduceCtorEq, ι5, ↓reduceIte, ν1, ν2, ν3, ν4, ν5, ι1, ι2, ι3, ι4])
    refine ⟨g1, by omega, by omega, k + 1, by omega, by omega, ?_, ?_⟩
    · rw [wk_int, i64_id (by omega) (by omega)]; simp
    · rw [cPs_set (f := fW) (by omega), ← hsucc]
      generalize cP fW (aftK w c.chs s (k + 1)) = zz
      (intro y b hy; simp only [Heap.set, Heap.del] at hy ⊢; (repeat' split at hy) <;> (repeat' split) <;> simp_all [cells])
  · have : k = c.chs.length := by omega
    subst this
    have := fin_w (H := H) (G := (H.set r3 [I p.wide, I p.vars, Ns p.start, Cms p.cmds]).set q0 (cP fW (aftK w c.chs s c.chs.length))) p3 (Heap.set_le (Heap.le_set hr3))
    simpa only [rowP, hal] using this
end Go.Proofs.YtgcklgeifdefhaaGreat
namespace Go.Proofs.YtgcklgeifdefhaaGreat
open Go Go.Sep Go.Pt
attribute [local irreducible] CallT
theorem push_intR {q : Nat} {xs : List Int} {b : Int} {G : Heap} {K : AV → Heap → Prop} (hq : G q = some (cP fI xs)) (hl : xs.length ≤ 100000000)
    (h : ∀ q', G q' = none → q' ≠ q → K (rowP q' (xs ++ [b])) ((G.del q).set q' (cP fI (xs ++ [b])))) :
    buildSliceV tab 46 1 [(0, I b)] G (wkK fun v H1 => appendV tab 46 46 (rowP q xs) v H1 (wkK K)) := by
  refine lit1 tab_46 rfl tab_3 ⟨rfl, rfl⟩ ?_
  refine app_row (f := fI) (ys := [b]) tab_46 rfl tab_3 rfl (by decide) hq (by simp; omega) fun q' hq' => h q' hq' fun e => by rw [e, hq] at hq'; cases hq'
def whN (p : Pg) (t : List Nd) (n : Nat) : List Int := ((List.range n).filter (holdP p t)).map fun (i : Nat) => (i : Int)
theorem whN_succ (p : Pg) (t : List Nd) (n : Nat) : whN p t (n + 1) = if holdP p t n = true then whN p t n ++ [(n : Int)] else whN p t n := by
  unfold whN
  rw [List.range_succ, List.filter_append, List.map_append]
  by_cases h : holdP p t n = true
  · have e : [n].filter (holdP p t) = [n] := by rw [List.filter_cons_of_pos (by exact h)]; rfl
    rw [if_pos h, e]; rfl
  · have e : [n].filter (holdP p t) = [] := by rw [List.filter_cons_of_neg (by exact h)]; rfl
    rw [if_neg h, e]; simp
theorem whN_len (p : Pg) (t : List Nd) (n : Nat) : (whN p t n).length ≤ n := by
  unfold whN
  rw [List.length_map]
  have := List.length_filter_le (holdP p t) (List.range n)
  simpa using this
theorem whN_mem {p : Pg} {t : List Nd} {n : Nat} (x : Int) : x ∈ whN p t n ↔ ∃ i : Nat, x = i ∧ i < n ∧ holdP p t i = true := by
  unfold whN
  rw [List.mem_map]
  constructor
  · rintro ⟨i, hi, rfl⟩
    rw [List.mem_filter, List.mem_range] at hi
    exact ⟨i, rfl, hi⟩
  · rintro ⟨i, rfl, hi⟩
    exact ⟨i, by rw [List.mem_filter, List.mem_range]; exact hi, rfl⟩
theorem statesP_nat {p : Pg} (hs : SmallP p) : statesP p = (allP p : Nat) := by
  unfold statesP allP; rw [powI]
theorem l8Those_spec (p : Pg) (hb : smallP p = true) (t : List Nd) (ht : vT t) (hk : kind p.wide p.vars t = 2) : Pu Tryz.prog 70 [aPg p, Ns t] (Is (whN p t (allP p))) := by
  have hs := smallP_of hb
  have hal := allP_bd hs
  have hsp := statesP_nat hs
  refine ⟨fun H => CallT.fin ?_⟩
  refine CallT.ghost W70_hb fun q0 hq0 => ?_
  refine W70_ok ?_; simp (maxSteps := 1000000) (disch := first | assumption | (apply ν6; assumption)) only [W70, vz, vu, vv, eqS, eF_, ↓c1_, ↓c2_, tabs, reduceCtorEq, ι5, ↓reduceIte, ν1, ν2, ν3, ν4, ν5, ι1, ι2, ι3, ι4]
  intro r hrq hr
  refine L70_0_rule ((0 : Nat), q0) (fun z => rowP z.2 (whN p t z.1)) (fun z => I z.1) (fun z => (H.set r [I p.wide, I p.vars, Ns p.start, Cms p.cmds]).set z.2 (cP fI (whN p t z.1))) (fun z => z.1 ≤ allP p ∧ H z.2 = none ∧ z.2 ≠ r) (fun z => allP p - z.1)
    ⟨⟨by omega, hq0, fun e => hrq e.symm⟩, .nilo _ _ _, .refl _, ?_⟩ ?_
  · rw [Heap.set_comm hrq]; exact Heap.le_refl _
  rintro ⟨i, q⟩ ⟨hi, hq, hqr⟩
  dsimp only at hi hq hqr
  have nn : r ≠ q := Ne.symm hqr
  have hsl := whN_len p t i
  have hsucc := whN_succ p t i
  have e5 : IntKind.i64.wrap ((i : Int) + 1) = ((i + 1 : Nat) : Int) := by rw [i64_id (by omega) (by omega)]; simp
  (try simp (maxSteps := 1000000) (disch := first | assumption | (apply ν6; assumption)) only [vz, vu, vv, eqS, eF_, ↓c1_, ↓c2_, tabs, reduceCtorEq, ι5, ↓reduceIte, ν1, ν2, ν3, ν4, ν5, ι1, ι2, ι3, ι4, B70_0])
  refine Pu.use (l7Many_spec p hb) ?_
  rw [hsp]
  (try simp (maxSteps := 1000000) (disch := first | assumption | (apply ν6; assumption)) only [vz, vu, vv, eqS, eF_, ↓c1_, ↓c2_, tabs, reduceCtorEq, ι5, ↓reduceIte, ν1, ν2, ν3, ν4, ν5, ι1, ι2, ι3, ι4])
  refine ⟨fun h1 => ?_, fun h1 => ?_⟩
  · have hlt : i < allP p := by omega
    refine Pu.use (l7Of_spec p hs i (by omega)) ?_
    (try simp (maxSteps := 1000000) (disch := first | assumption | (apply ν6; assumption)) only [vz, vu, vv, eqS, eF_, ↓c1_, ↓c2_, tabs, reduceCtorEq, ι5, ↓reduceIte, ν1, ν2, ν3, ν4, ν5, ι1, ι2, ι3, ι4])
    refine Pu.use (l7Holds_spec p hs t ht _ (stP_len' _ _) (stP_lt' _ _) hk) ?_
    (try simp (maxSteps := 1000000) (disch := first | assumption | (apply ν6; assumption)) only [vz, vu, vv, eqS, eF_, ↓c1_, ↓c2_, tabs, reduceCtorEq, ι5, ↓reduceIte, ν1, ν2, ν3, ν4, ν5, ι1, ι2, ι3, ι4, e5])
    refine ⟨fun h2 => ?_, fun h2 => ?_⟩
    · rw [if_pos (by exact decide_eq_true h2)] at hsucc
      refine push_intR (xs := whN p t i) (by rw [Heap.set_same]) (by omega) fun q' hq' hne => ?_
      simp only [Heap.set_none] at hq'
      obtain ⟨p1, p2, p3⟩ := hq'
      rw [← hsucc]
      refine ⟨(i + 1, q'), ⟨by simp only; omega, p3, p2⟩, by simp only; omega, .refl _, .refl _, ?_⟩
      generalize cP fI (whN p t (i + 1)) = zz
      (intro y b hy; simp only [Heap.set, Heap.del] at hy ⊢; (repeat' split at hy) <;> (repeat' split) <;> simp_all [cells])
    · rw [if_neg (by simpa [holdP] using h2)] at hsucc
      refine ⟨(i + 1, q), ⟨by simp only; omega, hq, hqr⟩, by simp only; omega, ?_, .refl _, ?_⟩
      · rw [hsucc]; exact .refl _
      · rw [hsucc]; exact Heap.le_refl _
  · have hi' : i = allP p := by omega
    subst hi'
    exact fin_int hq (Heap.set_le (Heap.le_set hr))
end Go.Proofs.YtgcklgeifdefhaaGreat
