/- Plain facts: terms put in the place of variables. -/
import Derived.Test.YtlcnoflmlonikaaPt1
namespace Go.Pt
def byInit (v : Nat) : List (List Nd) := (List.range v).map fun (i : Nat) => [⟨2, (i : Int)⟩]
theorem byInit_succ (v : Nat) : byInit (v + 1) = byInit v ++ [[⟨2, (v : Int)⟩]] := by simp [byInit, List.range_succ]
theorem byInit_len (v : Nat) : (byInit v).length = v := by simp [byInit]
def byPut (bs : List (List Nd)) (chs : List Ch) : List (List Nd) := chs.foldl (fun b c => b.set c.var.toNat c.by_) bs
theorem byPut_snoc (bs : List (List Nd)) (chs : List Ch) (c : Ch) : byPut bs (chs ++ [c]) = (byPut bs chs).set c.var.toNat c.by_ := by simp [byPut]
theorem byPut_len (bs : List (List Nd)) (chs : List Ch) : (byPut bs chs).length = bs.length := by
  unfold byPut
  induction chs generalizing bs with
  | nil => rfl
  | cons c cs ih => simp only [List.foldl_cons]; rw [ih]; simp
def subst1 (bs : List (List Nd)) (x : Nd) : List Nd := if x.op = 2 then bs.getD x.n.toNat [] else [x]
def subst (bs : List (List Nd)) (t : List Nd) : List Nd := t.flatMap (subst1 bs)
theorem subst_snoc (bs : List (List Nd)) (t : List Nd) (x : Nd) : subst bs (t ++ [x]) = subst bs t ++ subst1 bs x := by simp [subst]
theorem run_leaf {w v : Int} : ∀ {t : List Nd} {p p' : List Int}, run w v p t = some p' → ∀ x ∈ t, leafOk w v x = true
  | [], _, _, _, _, hx => by cases hx
  | y :: t, p, p', h, x, hx => by
    simp only [run] at h
    cases hs : step w v p y with
    | none => rw [hs] at h; cases h
    | some q =>
      rw [hs] at h
      rcases List.mem_cons.1 hx with rfl | hx
      · unfold step at hs
        split at hs
        · cases hs
        · rename_i h1
          cases hl : leafOk w v x with
          | true => rfl
          | false => exact absurd (.inr (.inl hl)) h1
      · exact run_leaf (t := t) (p := q) h x hx
def gt (w v : Int) (t : List Nd) : Bool := frame w v t && (match run w v [] t with
  | some p => decide (p.length = 1)
  | none => false)
theorem gt_leaf {w v : Int} {t : List Nd} (h : gt w v t = true) {x : Nd} (hx : x ∈ t) : leafOk w v x = true := by
  simp only [gt, Bool.and_eq_true] at h
  cases hr : run w v [] t with
  | none => rw [hr] at h; exact absurd h.2 (by simp)
  | some p => exact run_leaf hr x hx
theorem gt_len {w v : Int} {t : List Nd} (h : gt w v t = true) : 1 ≤ t.length ∧ t.length ≤ 48 := by
  simp only [gt, frame, Bool.and_eq_true, decide_eq_true_eq] at h
  exact h.1.2
theorem kind_len {w v : Int} {t : List Nd} {k : Int} (h : kind w v t = k) (hk : k ≠ 0) : 1 ≤ t.length ∧ t.length ≤ 48 := by
  unfold kind at h
  split at h
  · rename_i hf
    simp only [frame, Bool.and_eq_true, decide_eq_true_eq] at hf
    exact hf.2
  · exact absurd h.symm hk
/-- What PutAll answers. -/
def putAll (w v : Int) (t : List Nd) (bs : List (List Nd)) : Option (List Nd) :=
  if gt w v t && decide ((bs.length : Int) = v) && bs.all (fun b => decide (kind w v b = 1)) && gt w v (subst bs t) then some (subst bs t) else none
theorem subst_len {bs : List (List Nd)} (hb : ∀ b ∈ bs, b.length ≤ 48) (t : List Nd) : (subst bs t).length ≤ 48 * t.length := by
  unfold subst
  induction t with
  | nil => simp
  | cons x t ih =>
    simp only [List.flatMap_cons, List.length_append, List.length_cons]
    have : (subst1 bs x).length ≤ 48 := by
      unfold subst1
      split
      · by_cases h : x.n.toNat < bs.length
        · simp only [List.getD, List.getElem?_eq_getElem h, Option.getD_some]; exact hb _ (List.getElem_mem h)
        · simp [List.getD, h]
      · simp
    omega
end Go.Pt
