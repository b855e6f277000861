/- Texts laid together: Lb2 Lf1 Le4 Le5 Le6 Le7 Le8a Lr1 Lq1 Lr6 Qa0. -/
import Derived.Test.YtdnfiacjoghfkaaGreatPka5
/- Rules for rows that grow, held by a slot or by a block. -/
namespace Go.Proofs.YtdnfiacjoghfkaaGreat
open Go Go.Sep
set_option linter.unusedSimpArgs false
set_option linter.unusedVariables false
attribute [local irreducible] CallT

abbrev fI (n : Int) : PV := .int .i64 n
abbrev rowP {α : Type} (q : Nat) (xs : List α) : AV := .sl q 1 0 xs.length
abbrev cP {α : Type} (f : α → PV) (xs : List α) : List AV := xs.map fun x => AV.p (f x)
abbrev vP {α : Type} (f : α → PV) (xs : List α) : AV := .p (.sl (xs.map fun x => [f x]))
theorem cells_P {α : Type} (f : α → PV) (xs : List α) : cells (xs.map fun x => [f x]) = cP f xs := by
  induction xs with
  | nil => rfl
  | cons x xs ih => simp only [cells, List.map_cons, List.flatten_cons, List.map_append] at ih ⊢; rw [ih]; rfl
theorem flat_P {α : Type} (f : α → PV) (xs : List α) : (xs.map fun x => [f x]).flatten.map AV.p = cP f xs := cells_P f xs
theorem szP {α : Type} (f : α → PV) (xs : List α) : Sized 1 (xs.map fun x => [f x]) := sized_map (f := fun x => [f x]) (fun _ => rfl) xs
theorem read_row {α : Type} {f : α → PV} {xs : List α} {k : Nat} (d : α) (h : k < xs.length) : ((((cP f xs).drop k).take 1).headD .any) = .p (f (xs.getD k d)) := by
  rw [List.drop_eq_getElem_cons (by simpa using h)]
  simp [List.getD, h]

/-- What may stand in front of an append: nothing yet, or a row of one's own. -/
def Base {α : Type} (f : α → PV) (x : AV) (xs : List α) (G : Heap) : Prop := (x = .p .nil ∧ xs = []) ∨ ∃ q, x = rowP q xs ∧ G q = some (cP f xs)

/-- Elements behind a row. -/
theorem app_row {α : Type} {f : α → PV} {tab : Tab} {t e : Nat} {d ed : TD} {q : Nat} {xs ys : List α} {G : Heap} {K : AV → Heap → Prop} (h1 : tab t = some d) (h2 : d.k = .slice e) (h3 : tab e = some ed) (h6 : ed.size = 1) (h7 : ed.bytes ≤ 64)
    (hq : G q = some (cP f xs)) (hl : xs.length + ys.length ≤ 1000000000)
    (h : ∀ q', G q' = none → K (rowP q' (xs ++ ys)) ((G.del q).set q' (cP f (xs ++ ys)))) : appendV tab t t (rowP q xs) (vP f ys) G (wkK K) := by
  have := app_own (x := vP f ys) (r := q) (es := xs.map fun x => [f x]) (fs := ys.map fun x => [f x]) (H := G) (K := K) h1 h2 h3 h1 h2 h6 (bz := ed.bytes) rfl (.inl rfl) (by rw [cells_P]; exact hq) (szP f xs) (szP f ys)
    (by simp only [List.length_map]; exact Nat.le_trans (Nat.mul_le_mul hl h7) (by omega)) (by simp only [List.length_map]; omega) fun r' hr' => by
      have := h r' hr'
      rw [← List.map_append, cells_P]
      simpa only [own, List.length_map] using this
  simpa only [own, List.length_map] using this

/-- Elements behind a row, or behind none. -/
theorem app_base {α : Type} {f : α → PV} {tab : Tab} {t e : Nat} {d ed : TD} {x : AV} {xs ys : List α} {G : Heap} {K : AV → Heap → Prop} (h1 : tab t = some d) (h2 : d.k = .slice e) (h3 : tab e = some ed) (h6 : ed.size = 1) (h7 : ed.bytes ≤ 64)
    (hb : Base f x xs G) (hl : xs.length + ys.length ≤ 1000000000)
    (h : ∀ q' G1, G q' = none → G1 q' = some (cP f (xs ++ ys)) → (∀ y, y ≠ q' → (∀ q, x = rowP q xs → y ≠ q) → G1 y = G y) → K (rowP q' (xs ++ ys)) G1) : appendV tab t t x (vP f ys) G (wkK K) := by
  rcases hb with ⟨rfl, rfl⟩ | ⟨q, rfl, hq⟩
  · simp only [appendV, h1, h2, h3, h6, srcV, baseV]
    refine ⟨szP f ys, ?_, ?_, ?_, fun r' hr' => wkK.keep ?_⟩
    · have hl2 : 0 + (ys.map fun x => [f x]).length ≤ 1000000000 := by simpa using hl
      exact Nat.le_trans (Nat.mul_le_mul hl2 h7) (by omega)
    · simp only [List.length_map]; simp at hl; omega
    · exact cells_cell _
    · have := h r' (G.set r' (cP f ys)) hr' (by rw [Heap.set_same]; rfl) (fun y hy _ => Heap.set_other hy)
      rw [flat_P]
      simpa using this
  · refine app_row h1 h2 h3 h6 h7 hq hl fun q' hq' => ?_
    have hne : q' ≠ q := by rintro rfl; rw [hq] at hq'; cases hq'
    refine h q' _ hq' (Heap.set_same _ _ _) fun y hy hy2 => ?_
    rw [Heap.set_other hy, Heap.del_other (hy2 q rfl)]

/-- A block r of one's own, the last of whose cells holds a list that grows. -/
structure Own1 {α : Type} (f : α → PV) (H0 G : Heap) (r : Nat) (pre : List AV) (x : AV) (xs : List α) : Prop where
  hr : G r = some (pre ++ [x])
  base : (x = .p .nil ∧ xs = []) ∨ ∃ q, x = rowP q xs ∧ G q = some (cP f xs) ∧ H0 q = none ∧ q ≠ r
  le : Heap.le H0 G
  nr : H0 r = none

theorem Own1.alloc {α : Type} {f : α → PV} {H0 G : Heap} {r : Nat} {pre : List AV} {x : AV} {xs : List α} (o : Own1 f H0 G r pre x xs) {q : Nat} (hq : G q = none) (b : List AV) : Own1 f H0 (G.set q b) r pre x xs := by
  have ne : ∀ {y c}, G y = some c → y ≠ q := fun h e => by rw [e, hq] at h; cases h
  refine ⟨by rw [Heap.set_other (ne o.hr)]; exact o.hr, ?_, Heap.le_setN o.le ?_, o.nr⟩
  · rcases o.base with h | ⟨q1, h1, h2, h3, h4⟩
    · exact .inl h
    · exact .inr ⟨q1, h1, by rw [Heap.set_other (ne h2)]; exact h2, h3, h4⟩
  · cases hh : H0 q with
    | none => rfl
    | some c => rw [o.le q c hh] at hq; cases hq

/-- Elements are put behind the list, and it is stored again. -/
theorem Own1.app {α : Type} {f : α → PV} {H0 G : Heap} {r : Nat} {pre : List AV} {x : AV} {xs : List α} (o : Own1 f H0 G r pre x xs) {tab : Tab} {t e : Nat} {d ed : TD} {ys : List α} {K : AV → Heap → Prop} (h1 : tab t = some d) (h2 : d.k = .slice e) (h3 : tab e = some ed) (h6 : ed.size = 1) (h7 : ed.bytes ≤ 64)
    (hl : xs.length + ys.length ≤ 1000000000)
    (h : ∀ q' m G1, G1 r = some (pre ++ [x]) → Own1 f H0 (G1.set r (pre ++ [.sl q' 1 0 m])) r pre (.sl q' 1 0 m) (xs ++ ys) → (∀ y b, y ≠ r → H0 y = some b → G1 y = some b) → K (.sl q' 1 0 m) G1) : appendV tab t t x (vP f ys) G (wkK K) := by
  refine app_base (f := f) h1 h2 h3 h6 h7 (xs := xs) ?_ hl fun q' G1 hq' hG1 hfr => ?_
  · rcases o.base with h | ⟨q1, h1, h2, h3, h4⟩
    · exact .inl h
    · exact .inr ⟨q1, h1, h2⟩
  · have hrq : r ≠ q' := fun e => by rw [← e, o.hr] at hq'; cases hq'
    have hxr : ∀ q, x = rowP q xs → H0 q = none ∧ q ≠ r := by
      intro q hx
      rcases o.base with ⟨h, _⟩ | ⟨q1, h1, h2, h3, h4⟩
      · rw [h] at hx; cases hx
      · rw [h1] at hx; cases hx; exact ⟨h3, h4⟩
    have hle1 : ∀ y b, H0 y = some b → G1 y = some b := by
      intro y b hy
      rw [hfr y (fun e => by rw [← e, o.le y b hy] at hq'; cases hq') (fun q hx e => by rw [e, (hxr q hx).1] at hy; cases hy)]
      exact o.le y b hy
    have hnq : H0 q' = none := by
      cases hh : H0 q' with
      | none => rfl
      | some c => rw [o.le q' c hh] at hq'; cases hq'
    refine h q' _ G1 ?_ ⟨Heap.set_same _ _ _, .inr ⟨q', rfl, by rw [Heap.set_other hrq.symm]; exact hG1, hnq, hrq.symm⟩, ?_, o.nr⟩ fun y b _ hy => hle1 y b hy
    · rw [hfr r hrq (fun q hx e => (hxr q hx).2 e.symm)]; exact o.hr
    · refine Heap.le_setN (fun y b hy => hle1 y b hy) o.nr

/-- The list, and the block, told by value. -/
theorem Own1.wk {α : Type} {f : α → PV} {H0 G : Heap} {r : Nat} {pre : List AV} {x : AV} {xs : List α} (o : Own1 f H0 G r pre x xs) {v v' : AV}
    (hn : x = .p .nil → xs = [] → AV.wk v v') (hf : ∀ q, x = rowP q xs → FrzR q 1 (xs.map fun x => [f x]) v v') (hp : ∀ q, q ≠ r → FrzL q 1 (xs.map fun x => [f x]) (pre ++ [rowP q xs]) (pre ++ [vP f xs])) :
    ∃ G', Wk v G v' G' ∧ G' r = some (pre ++ [vP f xs]) ∧ Heap.le H0 G' := by
  rcases o.base with ⟨rfl, rfl⟩ | ⟨q, rfl, hq, hq0, hqr⟩
  · refine ⟨G.set r (pre ++ [vP f []]), .trans (.val (hn rfl rfl)) (.cell o.hr (by simp) fun i a a' ha ha' => ?_), Heap.set_same _ _ _, Heap.le_setN o.le o.nr⟩
    by_cases hi : i < pre.length
    · rw [List.getElem?_append_left hi] at ha ha'
      rw [ha] at ha'; cases ha'; exact .refl _
    · rw [List.getElem?_append_right (by omega)] at ha ha'
      cases hj : i - pre.length with
      | zero =>
        rw [hj] at ha ha'
        simp at ha ha'
        subst ha; subst ha'; exact .nil
      | succ j => rw [hj] at ha; simp at ha
  · refine ⟨(G.del q).set r (pre ++ [vP f xs]), Wk.frzAt (r := q) (s := r) (sz := 1) (es := xs.map fun x => [f x]) (by omega) (by rw [flat_P]; exact hq) (szP f xs) o.hr hqr.symm (hp q hqr) (hf q rfl) (by simp), Heap.set_same _ _ _, ?_⟩
    exact Heap.le_setN (Heap.le_del o.le hq0) o.nr

theorem FrzL.refl {r sz : Nat} {es : List (List PV)} : ∀ vs, FrzL r sz es vs vs
  | [] => .nil
  | v :: vs => .cons (.same v) (FrzL.refl vs)
theorem FrzL.app {r sz : Nat} {es : List (List PV)} : ∀ {vs ws ws' : List AV}, FrzL r sz es ws ws' → FrzL r sz es (vs ++ ws) (vs ++ ws')
  | [], _, _, h => h
  | v :: vs, _, _, h => .cons (.same v) (FrzL.app (vs := vs) h)
theorem frz_row {α : Type} {f : α → PV} {q : Nat} {xs : List α} : FrzR q 1 (xs.map fun x => [f x]) (rowP q xs) (vP f xs) := by
  have : FrzR q 1 (xs.map fun x => [f x]) (.sl q 1 0 (xs.map fun x => [f x]).length) (.p (.sl (xs.map fun x => [f x]))) := .here
  rwa [List.length_map] at this
end Go.Proofs.YtdnfiacjoghfkaaGreat
/- Specs: function values over lists of numbers. -/
namespace Go.Proofs.YtdnfiacjoghfkaaGreat
open Go Go.Sep
set_option linter.unusedSimpArgs false
set_option linter.unusedVariables false
attribute [local irreducible] CallT

theorem IndexFunc_at (xs : List Int) (g : Nat) (caps : List AV) (p : Int → Bool) {H : Heap} (hl : xs.length ≤ 1000000000) (hp : ∀ x ∈ xs, PuAt Tryz.prog g (I x :: caps) H (B (p x))) :
    PuAt Tryz.prog 109 [Is xs, .fn g caps] H (I (if xs.any p then (xs.findIdx p : Int) else -1)) := by
  intro K hK
  refine CallT.fin ?_
  refine W109_ok ?_; simp (maxSteps := 1000000) (disch := first | assumption | (apply Ne.symm; assumption)) only [W109, vz, vu, vv, eqS, eqFieldsV, ↓condV_t, ↓condV_f, tabs, reduceCtorEq, Array.toList, ↓reduceIte, Nat.reduceAdd, Nat.reduceLeDiff, Nat.reduceLT, Nat.reduceMul, Nat.reduceSub, Int.reduceToNat, Int.reduceSub, Int.reduceAdd, Int.reduceNeg]
  refine L109_0_rule (0 : Nat) (fun i => I i) (fun _ => H) (fun i => i ≤ xs.length ∧ ∀ j (hj : j < xs.length), j < i → p xs[j] = false) (fun i => xs.length - i) ⟨⟨by omega, by intros; omega⟩, .refl _, Heap.le_refl _⟩ ?_
  rintro i ⟨hi1, ha⟩
  (try simp (maxSteps := 1000000) (disch := first | assumption | (apply Ne.symm; assumption)) only [vz, vu, vv, eqS, eqFieldsV, ↓condV_t, ↓condV_f, tabs, reduceCtorEq, Array.toList, ↓reduceIte, Nat.reduceAdd, Nat.reduceLeDiff, Nat.reduceLT, Nat.reduceMul, Nat.reduceSub, Int.reduceToNat, Int.reduceSub, Int.reduceAdd, Int.reduceNeg, B109_0])
  refine ⟨fun h => ⟨by omega, h, ?_⟩, fun h => ?_⟩
  · have hlt : i < xs.length := by omega
    rw [getD_lt hlt]
    refine PuAt.use (hp _ (List.getElem_mem hlt)) ?_
    (try simp (maxSteps := 1000000) (disch := first | assumption | (apply Ne.symm; assumption)) only [vz, vu, vv, eqS, eqFieldsV, ↓condV_t, ↓condV_f, tabs, reduceCtorEq, Array.toList, ↓reduceIte, Nat.reduceAdd, Nat.reduceLeDiff, Nat.reduceLT, Nat.reduceMul, Nat.reduceSub, Int.reduceToNat, Int.reduceSub, Int.reduceAdd, Int.reduceNeg])
    refine ⟨fun h1 => ?_, fun h1 => ⟨i + 1, ⟨by omega, fun j hj hji => ?_⟩, by omega, ?_⟩⟩
    · have h2 : xs.any p = true := List.any_eq_true.2 ⟨xs[i], List.getElem_mem hlt, h1⟩
      have h3 : xs.findIdx p = i := by
        rw [List.findIdx_eq hlt]; exact ⟨h1, fun j hj => ha j (by omega) hj⟩
      rw [h2, h3] at hK; exact wkK.keep (by simpa using hK)
    · rcases Nat.lt_succ_iff_lt_or_eq.1 hji with h2 | rfl
      · exact ha j hj h2
      · exact h1
    · rw [wk_int, i64_id (by omega) (by omega)]; simp
  · have hi : i = xs.length := by omega
    have h2 : xs.any p = false := by
      rw [List.any_eq_false]
      intro x hx
      obtain ⟨j, hj, rfl⟩ := List.mem_iff_getElem.1 hx
      rw [ha j hj (by omega)]; simp
    rw [h2] at hK; exact wkK.keep (by simpa using hK)

theorem ContainsFunc_at (xs : List Int) (g : Nat) (caps : List AV) (p : Int → Bool) {H : Heap} (hl : xs.length ≤ 1000000000) (hp : ∀ x ∈ xs, PuAt Tryz.prog g (I x :: caps) H (B (p x))) :
    PuAt Tryz.prog 102 [Is xs, .fn g caps] H (B (xs.any p)) := by
  intro K hK
  refine W102_ok ?_; simp (maxSteps := 1000000) (disch := first | assumption | (apply Ne.symm; assumption)) only [W102, vz, vu, vv, eqS, eqFieldsV, ↓condV_t, ↓condV_f, tabs, reduceCtorEq, Array.toList, ↓reduceIte, Nat.reduceAdd, Nat.reduceLeDiff, Nat.reduceLT, Nat.reduceMul, Nat.reduceSub, Int.reduceToNat, Int.reduceSub, Int.reduceAdd, Int.reduceNeg]
  refine PuAt.use (IndexFunc_at xs g caps p hl hp) ?_
  (try simp (maxSteps := 1000000) (disch := first | assumption | (apply Ne.symm; assumption)) only [vz, vu, vv, eqS, eqFieldsV, ↓condV_t, ↓condV_f, tabs, reduceCtorEq, Array.toList, ↓reduceIte, Nat.reduceAdd, Nat.reduceLeDiff, Nat.reduceLT, Nat.reduceMul, Nat.reduceSub, Int.reduceToNat, Int.reduceSub, Int.reduceAdd, Int.reduceNeg])
  cases h : xs.any p <;> simp [h] at hK ⊢ <;> exact hK

/-- Elements behind the first m of a row. -/
theorem app_prefix {α : Type} {f : α → PV} {tab : Tab} {t e : Nat} {d ed : TD} {q m : Nat} {xs ys : List α} {G : Heap} {K : AV → Heap → Prop} (h1 : tab t = some d) (h2 : d.k = .slice e) (h3 : tab e = some ed) (h6 : ed.size = 1) (h7 : ed.bytes ≤ 64)
    (hq : G q = some (cP f xs)) (hm : m ≤ xs.length) (hl : m + ys.length ≤ 1000000000)
    (h : ∀ q', G q' = none → q' ≠ q → K (rowP q' (xs.take m ++ ys)) ((G.del q).set q' (cP f (xs.take m ++ ys)))) : appendV tab t t (.sl q 1 0 m) (vP f ys) G (wkK K) := by
  simp only [appendV, h1, h2, h3, h6, srcV, baseV, hq]
  refine ⟨szP f ys, trivial, by simp; omega, ?_, ?_, ?_, fun r' hr' => wkK.keep ?_⟩
  · have hl2 : m + (ys.map fun x => [f x]).length ≤ 1000000000 := by simpa using hl
    exact Nat.le_trans (Nat.mul_le_mul hl2 h7) (by omega)
  · simp only [List.length_map]; omega
  · exact cells_cell _
  · have := h r' hr' (fun e => by rw [e, hq] at hr'; cases hr')
    rw [flat_P]
    have e1 : (List.drop 0 (cP f xs)).take (m * 1) = cP f (xs.take m) := by simp [cP, List.map_take]
    have e2 : (xs.take m).length = m := by simp; omega
    rw [e1]
    have e3 : (xs.take m ++ ys).length = m + ys.length := by rw [List.length_append, e2]
    have h0 : cP f (xs.take m ++ ys) = cP f (xs.take m) ++ cP f ys := List.map_append
    simp only [rowP, e3, h0] at this
    rw [List.length_map]
    exact this
end Go.Proofs.YtdnfiacjoghfkaaGreat
/- Specs: terms and their kinds. -/
namespace Go.Proofs.YtdnfiacjoghfkaaGreat
open Go Go.Sep Go.Pt
set_option linter.unusedSimpArgs false
set_option linter.unusedVariables false
attribute [local irreducible] CallT

theorem GoodTerm1_at (x k : Int) {H : Heap} : PuAt Tryz.prog 103 [I x, .fp [.int .i64 k]] H (B (decide (x ≠ k))) := by
  intro K hK
  refine W103_ok ?_; simp (maxSteps := 1000000) (disch := first | assumption | (apply Ne.symm; assumption)) only [W103, vz, vu, vv, eqS, eqFieldsV, ↓condV_t, ↓condV_f, tabs, reduceCtorEq, Array.toList, ↓reduceIte, Nat.reduceAdd, Nat.reduceLeDiff, Nat.reduceLT, Nat.reduceMul, Nat.reduceSub, Int.reduceToNat, Int.reduceSub, Int.reduceAdd, Int.reduceNeg, load_fp]
  simpa using hK

/-- Whether one of the last elements of a row of one's own is another one. -/
theorem Contains_row {q r m o : Nat} {p : List Int} {k : Int} {G : Heap} (hq : G q = some (cP fI p)) (hr : G r = some [I k]) (hqr : q ≠ r) (ho : o + m = p.length) {K : AV → Heap → Prop} (h : K (B ((p.drop o).any fun x => decide (x ≠ k))) G) (hl : p.length ≤ 1000) :
    CallT Tryz.prog 102 [.sl q 1 o m, .fn 103 [.ptr r 0]] G K := by
  refine CallT.thaw (args' := [Is (p.drop o), .fn 103 [.fp [.int .i64 k]]]) (v := B ((p.drop o).any fun x => decide (x ≠ k))) (H1 := (G.del q).del r) ?_ (.bool _) ?_ h
  · exact (ContainsFunc_at (p.drop o) _ _ (fun x => decide (x ≠ k)) (by simp; omega) fun x _ => GoodTerm1_at x k) _ rfl
  · refine .trans (Wk.frzS (r := q) (es := p.map fI) (v' := .tup [Is (p.drop o), .fn 103 [.ptr r 0]]) ?_ ?_) (Wk.frzS (r := r) (es := [.int .i64 k]) ?_ ?_)
    · rw [hq]; simp [cP]
    · have := FrzS.part (r := q) (es := p.map fI) o m (by simp; omega)
      have e : ((List.drop o (p.map fI)).take m).map (fun v => [v]) = (p.drop o).map eI := by
        rw [List.take_of_length_le (by simp; omega), ← List.map_drop, List.map_map]; rfl
      rw [e] at this
      exact .tup (.cons this (.cons (.same _) .nil))
    · rw [Heap.del_other hqr.symm]; exact hr
    · exact .tup (.cons (.same _) (.cons (.fn _ (.cons (.ptr 0) .nil)) .nil))

/-- Whether a term is good. -/
def gtI (w v : Int) (t : List Nd) : Bool := frame w v t && (match run w v [] t with
  | some p => decide (p.length = 1)
  | none => false)
theorem gtI_none {w v : Int} {t : List Nd} (h : run w v [] t = none) : gtI w v t = false := by simp [gtI, h]

theorem step_some {w v : Int} {p : List Int} {x : Nd} (h1 : Pt.own x.op ≠ 0) (h2 : leafOk w v x = true) (h3 : many x.op ≤ p.length) (h4 : ((p.drop (p.length - many x.op)).any fun k => decide (k ≠ Pt.part x.op)) = false) : Pt.step w v p x = some (p.take (p.length - many x.op) ++ [Pt.own x.op]) := by
  unfold Pt.step
  rw [if_neg (by rintro (h | h | h); exact h1 h; rw [h2] at h; cases h; omega), if_neg (by rw [h4]; simp)]
theorem step_none {w v : Int} {p : List Int} {x : Nd} (h : Pt.own x.op = 0 ∨ leafOk w v x = false ∨ p.length < many x.op) : Pt.step w v p x = none := by unfold Pt.step; rw [if_pos h]
theorem step_any {w v : Int} {p : List Int} {x : Nd} (h : ((p.drop (p.length - many x.op)).any fun k => decide (k ≠ Pt.part x.op)) = true) : Pt.step w v p x = none := by
  unfold Pt.step
  split
  · rfl
  · first | rfl | rw [if_pos h]
theorem many_le (op : Int) : many op ≤ 2 := by unfold many; split <;> (try split) <;> omega

theorem GoodTerm_spec (w v : Int) (t : List Nd) (hl : t.length ≤ 1048576) (ht : ∀ x ∈ t, okN x) : Pu Tryz.prog 93 [I w, I v, Ns t] (B (gtI w v t)) := by
  refine Pu.of fun H => ?_
  have bad : frame w v t = false → B false = B (gtI w v t) := fun h => by simp only [gtI, h, Bool.false_and]
  refine W93_ok ?_; simp (maxSteps := 1000000) (disch := first | assumption | (apply Ne.symm; assumption)) only [W93, vz, vu, vv, eqS, eqFieldsV, ↓condV_t, ↓condV_f, tabs, reduceCtorEq, Array.toList, ↓reduceIte, Nat.reduceAdd, Nat.reduceLeDiff, Nat.reduceLT, Nat.reduceMul, Nat.reduceSub, Int.reduceToNat, Int.reduceSub, Int.reduceAdd, Int.reduceNeg, buildSliceV, zerosA, List.replicate_zero, List.flatten_nil]
  refine Pu.use (isWide_spec w) ?_
  cases hw : inB w 1 64
  · (try simp (maxSteps := 1000000) (disch := first | assumption | (apply Ne.symm; assumption)) only [vz, vu, vv, eqS, eqFieldsV, ↓condV_t, ↓condV_f, tabs, reduceCtorEq, Array.toList, ↓reduceIte, Nat.reduceAdd, Nat.reduceLeDiff, Nat.reduceLT, Nat.reduceMul, Nat.reduceSub, Int.reduceToNat, Int.reduceSub, Int.reduceAdd, Int.reduceNeg])
    exact bad (by simp only [frame, hw, Bool.false_and])
  (try simp (maxSteps := 1000000) (disch := first | assumption | (apply Ne.symm; assumption)) only [vz, vu, vv, eqS, eqFieldsV, ↓condV_t, ↓condV_f, tabs, reduceCtorEq, Array.toList, ↓reduceIte, Nat.reduceAdd, Nat.reduceLeDiff, Nat.reduceLT, Nat.reduceMul, Nat.reduceSub, Int.reduceToNat, Int.reduceSub, Int.reduceAdd, Int.reduceNeg])
  refine Pu.use (isVars_spec v) ?_
  cases hv : inB v 1 4
  · (try simp (maxSteps := 1000000) (disch := first | assumption | (apply Ne.symm; assumption)) only [vz, vu, vv, eqS, eqFieldsV, ↓condV_t, ↓condV_f, tabs, reduceCtorEq, Array.toList, ↓reduceIte, Nat.reduceAdd, Nat.reduceLeDiff, Nat.reduceLT, Nat.reduceMul, Nat.reduceSub, Int.reduceToNat, Int.reduceSub, Int.reduceAdd, Int.reduceNeg])
    exact bad (by simp only [frame, hw, hv, Bool.false_and, Bool.and_false])
  (try simp (maxSteps := 1000000) (disch := first | assumption | (apply Ne.symm; assumption)) only [vz, vu, vv, eqS, eqFieldsV, ↓condV_t, ↓condV_f, tabs, reduceCtorEq, Array.toList, ↓reduceIte, Nat.reduceAdd, Nat.reduceLeDiff, Nat.reduceLT, Nat.reduceMul, Nat.reduceSub, Int.reduceToNat, Int.reduceSub, Int.reduceAdd, Int.reduceNeg])
  refine ⟨fun h1 => ?_, fun h1 => ⟨fun h2 => ?_, fun h2 => ?_⟩⟩
  · have : ¬ 1 ≤ t.length := by omega
    exact bad (by simp only [frame, this, decide_false, Bool.false_and, Bool.and_false])
  · have : ¬ t.length ≤ 48 := by omega
    exact bad (by simp only [frame, this, decide_false, Bool.and_false])
  have hf : frame w v t = true := by
    have a1 : 1 ≤ t.length := by omega
    have a2 : t.length ≤ 48 := by omega
    simp only [frame, hw, hv, a1, a2, decide_true, Bool.and_true]
  rw [inB_iff] at hw hv
  intro q0 hq0
  refine wkK.keep ?_
  (try simp (maxSteps := 1000000) (disch := first | assumption | (apply Ne.symm; assumption)) only [vz, vu, vv, eqS, eqFieldsV, ↓condV_t, ↓condV_f, tabs, reduceCtorEq, Array.toList, ↓reduceIte, Nat.reduceAdd, Nat.reduceLeDiff, Nat.reduceLT, Nat.reduceMul, Nat.reduceSub, Int.reduceToNat, Int.reduceSub, Int.reduceAdd, Int.reduceNeg])
  refine L93_0_rule ((0 : Nat), q0, ([] : List Int)) (fun s => rowP s.2.1 s.2.2) (fun s => I s.1) (fun s => H.set s.2.1 (cP fI s.2.2)) (fun s => s.1 ≤ t.length ∧ run w v [] (t.take s.1) = some s.2.2 ∧ H s.2.1 = none ∧ s.2.2.length ≤ s.1) (fun s => t.length - s.1)
    ⟨⟨by simp, by simp [run], hq0, by simp⟩, .refl _, .refl _, Heap.le_refl _⟩ ?_
  rintro ⟨i, q, p⟩ ⟨hi, hrun, hq, hpl⟩
  dsimp only at hi hrun hq hpl
  (try simp (maxSteps := 1000000) (disch := first | assumption | (apply Ne.symm; assumption)) only [vz, vu, vv, eqS, eqFieldsV, ↓condV_t, ↓condV_f, tabs, reduceCtorEq, Array.toList, ↓reduceIte, Nat.reduceAdd, Nat.reduceLeDiff, Nat.reduceLT, Nat.reduceMul, Nat.reduceSub, Int.reduceToNat, Int.reduceSub, Int.reduceAdd, Int.reduceNeg, B93_0])
  refine ⟨fun h => ⟨by omega, h, ?_⟩, fun h => ?_⟩
  · have hlt : i < t.length := by omega
    have hm : t.getD i default ∈ t := getD_all (p := fun x => x ∈ t) (fun _ h => h) hlt
    have hx := ht _ hm
    have hnone := fun hs => run_none w v hlt hrun hs
    have hsnoc : ∀ p', Pt.step w v p (t.getD i default) = some p' → run w v [] (t.take (i + 1)) = some p' := fun p' hs => by
      rw [take_succ_snoc hlt, run_snoc, hrun]; exact hs
    generalize t.getD i default = x at hx hnone hsnoc ⊢
    intro r9 n9 hr9
    (try simp (maxSteps := 1000000) (disch := first | assumption | (apply Ne.symm; assumption)) only [vz, vu, vv, eqS, eqFieldsV, ↓condV_t, ↓condV_f, tabs, reduceCtorEq, Array.toList, ↓reduceIte, Nat.reduceAdd, Nat.reduceLeDiff, Nat.reduceLT, Nat.reduceMul, Nat.reduceSub, Int.reduceToNat, Int.reduceSub, Int.reduceAdd, Int.reduceNeg])
    have hle9 : Heap.le H ((H.set q (cP fI p)).set r9 [I x.op, U x.n]) := Heap.le_setN (Heap.le_set hq) hr9
    refine operandsOf_spec x.op fun pp hpp => ?_
    (try simp (maxSteps := 1000000) (disch := first | assumption | (apply Ne.symm; assumption)) only [vz, vu, vv, eqS, eqFieldsV, ↓condV_t, ↓condV_f, tabs, reduceCtorEq, Array.toList, ↓reduceIte, Nat.reduceAdd, Nat.reduceLeDiff, Nat.reduceLT, Nat.reduceMul, Nat.reduceSub, Int.reduceToNat, Int.reduceSub, Int.reduceAdd, Int.reduceNeg])
    intro r11 n119 n11q hr11
    have hml := many_le x.op
    have e : IntKind.i64.wrap (↑p.length - ↑(many x.op)) = (p.length : Int) - many x.op := i64_id (by omega) (by omega)
    have hle11 : Heap.le H (((H.set q (cP fI p)).set r9 [I x.op, U x.n]).set r11 [I pp]) := Heap.le_setN hle9 hr11
    have nn : r9 ≠ r11 := Ne.symm n119
    (try simp (maxSteps := 1000000) (disch := first | assumption | (apply Ne.symm; assumption)) only [vz, vu, vv, eqS, eqFieldsV, ↓condV_t, ↓condV_f, tabs, reduceCtorEq, Array.toList, ↓reduceIte, Nat.reduceAdd, Nat.reduceLeDiff, Nat.reduceLT, Nat.reduceMul, Nat.reduceSub, Int.reduceToNat, Int.reduceSub, Int.reduceAdd, Int.reduceNeg, e])
    refine ⟨fun h0 => ⟨by rw [gtI_none (hnone (step_none (.inl h0)))], hle11⟩, fun h0 => ?_⟩
    refine Pu.use (isLeafRight_spec w v x hv hx) ?_
    cases hlf : leafOk w v x
    · (try simp (maxSteps := 1000000) (disch := first | assumption | (apply Ne.symm; assumption)) only [vz, vu, vv, eqS, eqFieldsV, ↓condV_t, ↓condV_f, tabs, reduceCtorEq, Array.toList, ↓reduceIte, Nat.reduceAdd, Nat.reduceLeDiff, Nat.reduceLT, Nat.reduceMul, Nat.reduceSub, Int.reduceToNat, Int.reduceSub, Int.reduceAdd, Int.reduceNeg])
      exact ⟨by rw [gtI_none (hnone (step_none (.inr (.inl hlf))))], hle11⟩
    (try simp (maxSteps := 1000000) (disch := first | assumption | (apply Ne.symm; assumption)) only [vz, vu, vv, eqS, eqFieldsV, ↓condV_t, ↓condV_f, tabs, reduceCtorEq, Array.toList, ↓reduceIte, Nat.reduceAdd, Nat.reduceLeDiff, Nat.reduceLT, Nat.reduceMul, Nat.reduceSub, Int.reduceToNat, Int.reduceSub, Int.reduceAdd, Int.reduceNeg])
    refine ⟨fun h3 => ⟨by rw [gtI_none (hnone (step_none (.inr (.inr (by omega)))))], hle11⟩, fun h3 => ⟨by omega, by omega, by omega, ?_⟩⟩
    have e2 : ((p.length : Int) - many x.op).toNat = p.length - many x.op := by omega
    have e3 : ((p.length : Int) - ((p.length : Int) - many x.op)).toNat = many x.op := by omega
    rw [e2, e3]
    have hqG : ∀ z1 z2, (((H.set q (cP fI p)).set r9 z1).set r11 z2) q = some (cP fI p) := fun z1 z2 => by rw [Heap.set_other (Ne.symm n11q), Heap.set_other (Ne.symm n9), Heap.set_same]
    refine Contains_row (p := p) (k := pp) (o := (p.length - many x.op) * 1) (m := many x.op) (hqG _ _) (Heap.set_same _ _ _) (Ne.symm n11q) (by omega) ?_ (by omega)
    have hany : ((p.drop ((p.length - many x.op) * 1)).any fun k => decide (k ≠ pp)) = ((p.drop (p.length - many x.op)).any fun k => decide (k ≠ Pt.part x.op)) := by
      rw [Nat.mul_one]
      rcases hpp with h0 | rfl
      · rw [h0, Nat.sub_zero, List.drop_length]; rfl
      · rfl
    rw [hany]
    cases ha : ((p.drop (p.length - many x.op)).any fun k => decide (k ≠ Pt.part x.op))
    · (try simp (maxSteps := 1000000) (disch := first | assumption | (apply Ne.symm; assumption)) only [vz, vu, vv, eqS, eqFieldsV, ↓condV_t, ↓condV_f, tabs, reduceCtorEq, Array.toList, ↓reduceIte, Nat.reduceAdd, Nat.reduceLeDiff, Nat.reduceLT, Nat.reduceMul, Nat.reduceSub, Int.reduceToNat, Int.reduceSub, Int.reduceAdd, Int.reduceNeg])
      refine ⟨by omega, by omega, by omega, ?_⟩
      refine lit1 tab_29 rfl tab_3 ⟨rfl, rfl⟩ ?_
      try rw [show ((p.length : Int) - many x.op).toNat = p.length - many x.op by omega]
      refine app_prefix (f := fI) (xs := p) (ys := [Pt.own x.op]) tab_29 rfl tab_3 rfl (by decide) (hqG _ _) (by omega) (by simp; omega) fun q' hq' hne => ?_
      simp only [Heap.set_none] at hq'
      obtain ⟨p1, p2, p3, p4⟩ := hq'
      (try simp (maxSteps := 1000000) (disch := first | assumption | (apply Ne.symm; assumption)) only [vz, vu, vv, eqS, eqFieldsV, ↓condV_t, ↓condV_f, tabs, reduceCtorEq, Array.toList, ↓reduceIte, Nat.reduceAdd, Nat.reduceLeDiff, Nat.reduceLT, Nat.reduceMul, Nat.reduceSub, Int.reduceToNat, Int.reduceSub, Int.reduceAdd, Int.reduceNeg])
      refine ⟨(i + 1, q', p.take (p.length - many x.op) ++ [Pt.own x.op]), ⟨by simp only; omega, hsnoc _ (step_some h0 hlf (by omega) ha), p4, by simp; omega⟩, by simp only; omega, ?_, ?_, ?_⟩
      · simp only [List.length_append, List.length_cons, List.length_nil]; exact .refl _
      · rw [wk_int, i64_id (by omega) (by omega)]; simp
      · generalize cP fI (p.take (p.length - many x.op) ++ [Pt.own x.op]) = z
        (intro y b hy; simp only [Heap.set, Heap.del] at hy ⊢; (repeat' split at hy) <;> (repeat' split) <;> simp_all [cells])
    · (try simp (maxSteps := 1000000) (disch := first | assumption | (apply Ne.symm; assumption)) only [vz, vu, vv, eqS, eqFieldsV, ↓condV_t, ↓condV_f, tabs, reduceCtorEq, Array.toList, ↓reduceIte, Nat.reduceAdd, Nat.reduceLeDiff, Nat.reduceLT, Nat.reduceMul, Nat.reduceSub, Int.reduceToNat, Int.reduceSub, Int.reduceAdd, Int.reduceNeg])
      exact ⟨by rw [gtI_none (hnone (step_any ha))], hle11⟩
  · have : i = t.length := by omega
    subst this
    rw [List.take_length] at hrun
    have hle : Heap.le H (H.set q (cP fI p)) := Heap.le_set hq
    refine ⟨?_, hle⟩
    simp only [gtI, hf, hrun, Bool.true_and]
    congr 2
    apply decide_eq_decide.2; omega
end Go.Proofs.YtdnfiacjoghfkaaGreat
/- Specs: the kinds of terms, in the program and in the reference. -/
namespace Go.Proofs.YtdnfiacjoghfkaaGreat
open Go Go.Sep Go.Pt
set_option linter.unusedSimpArgs false
set_option linter.unusedVariables false
attribute [local irreducible] CallT

theorem kindOf_spec (t : List Nd) (h1 : 1 ≤ t.length) (hl : t.length ≤ 1048576) : Pu Tryz.prog 94 [Ns t] (I (Pt.own (t.getD (t.length - 1) default).op)) := by
  refine Pu.of fun H => ?_
  have e : IntKind.i64.wrap ((t.length : Int) - 1) = ((t.length - 1 : Nat) : Int) := by rw [i64_id (by omega) (by omega)]; omega
  refine W94_ok ?_; simp (maxSteps := 1000000) (disch := first | assumption | (apply Ne.symm; assumption)) only [W94, vz, vu, vv, eqS, eqFieldsV, ↓condV_t, ↓condV_f, tabs, reduceCtorEq, Array.toList, ↓reduceIte, Nat.reduceAdd, Nat.reduceLeDiff, Nat.reduceLT, Nat.reduceMul, Nat.reduceSub, Int.reduceToNat, Int.reduceSub, Int.reduceAdd, Int.reduceNeg, e]
  refine ⟨by omega, by omega, ?_⟩
  refine operandsOf_spec _ fun pp _ => ?_
  (try simp (maxSteps := 1000000) (disch := first | assumption | (apply Ne.symm; assumption)) only [vz, vu, vv, eqS, eqFieldsV, ↓condV_t, ↓condV_f, tabs, reduceCtorEq, Array.toList, ↓reduceIte, Nat.reduceAdd, Nat.reduceLeDiff, Nat.reduceLT, Nat.reduceMul, Nat.reduceSub, Int.reduceToNat, Int.reduceSub, Int.reduceAdd, Int.reduceNeg])

theorem kind_gt {w v : Int} {t : List Nd} {k : Int} (hk : k ≠ 0) : decide (kind w v t = k) = (gtI w v t && decide (Pt.own (t.getD (t.length - 1) default).op = k)) := by
  cases hf : frame w v t
  · rw [kind_f hf]; simp [gtI, hf, Ne.symm hk]
  · rw [kind_eq hf k hk]
    simp only [gtI, hf, Bool.true_and]
    cases run w v [] t <;> rfl

theorem isTermOf_spec (w v : Int) (t : List Nd) (k : Int) (hk : k ≠ 0) (hl : t.length ≤ 1048576) (ht : ∀ x ∈ t, okN x) : Pu Tryz.prog 77 [I w, I v, Ns t, I k] (B (decide (kind w v t = k))) := by
  refine Pu.of fun H => ?_
  refine W77_ok ?_; simp (maxSteps := 1000000) (disch := first | assumption | (apply Ne.symm; assumption)) only [W77, vz, vu, vv, eqS, eqFieldsV, ↓condV_t, ↓condV_f, tabs, reduceCtorEq, Array.toList, ↓reduceIte, Nat.reduceAdd, Nat.reduceLeDiff, Nat.reduceLT, Nat.reduceMul, Nat.reduceSub, Int.reduceToNat, Int.reduceSub, Int.reduceAdd, Int.reduceNeg]
  refine Pu.use (GoodTerm_spec w v t hl ht) ?_
  rw [kind_gt hk]
  cases h : gtI w v t
  · (try simp (maxSteps := 1000000) (disch := first | assumption | (apply Ne.symm; assumption)) only [vz, vu, vv, eqS, eqFieldsV, ↓condV_t, ↓condV_f, tabs, reduceCtorEq, Array.toList, ↓reduceIte, Nat.reduceAdd, Nat.reduceLeDiff, Nat.reduceLT, Nat.reduceMul, Nat.reduceSub, Int.reduceToNat, Int.reduceSub, Int.reduceAdd, Int.reduceNeg])
  · (try simp (maxSteps := 1000000) (disch := first | assumption | (apply Ne.symm; assumption)) only [vz, vu, vv, eqS, eqFieldsV, ↓condV_t, ↓condV_f, tabs, reduceCtorEq, Array.toList, ↓reduceIte, Nat.reduceAdd, Nat.reduceLeDiff, Nat.reduceLT, Nat.reduceMul, Nat.reduceSub, Int.reduceToNat, Int.reduceSub, Int.reduceAdd, Int.reduceNeg])
    have h1 : 1 ≤ t.length := by
      simp only [gtI, frame, Bool.and_eq_true, decide_eq_true_eq] at h
      omega
    refine Pu.use (kindOf_spec t h1 hl) ?_
    (try simp (maxSteps := 1000000) (disch := first | assumption | (apply Ne.symm; assumption)) only [vz, vu, vv, eqS, eqFieldsV, ↓condV_t, ↓condV_f, tabs, reduceCtorEq, Array.toList, ↓reduceIte, Nat.reduceAdd, Nat.reduceLeDiff, Nat.reduceLT, Nat.reduceMul, Nat.reduceSub, Int.reduceToNat, Int.reduceSub, Int.reduceAdd, Int.reduceNeg])

theorem any_last {p : List Int} {m j : Nat} {k : Int} (hj : j < m) (hm : m ≤ p.length) (h : p.getD (p.length - 1 - j) 0 ≠ k) : ((p.drop (p.length - m)).any fun x => decide (x ≠ k)) = true := by
  rw [List.any_eq_true]
  have hlt : p.length - 1 - j < p.length := by omega
  refine ⟨p.getD (p.length - 1 - j) 0, ?_, by simpa using h⟩
  rw [getD_lt hlt, List.mem_iff_getElem]
  refine ⟨m - 1 - j, by simp; omega, ?_⟩
  rw [List.getElem_drop]
  congr 1; omega
theorem any_none {p : List Int} {m : Nat} {k : Int} (hm : m ≤ p.length) (h : ∀ j, j < m → p.getD (p.length - 1 - j) 0 = k) : ((p.drop (p.length - m)).any fun x => decide (x ≠ k)) = false := by
  rw [List.any_eq_false]
  intro x hx
  obtain ⟨i, hi, rfl⟩ := List.mem_iff_getElem.1 hx
  simp only [List.length_drop] at hi
  have h1 := h (m - 1 - i) (by omega)
  rw [getD_lt (by omega)] at h1
  rw [List.getElem_drop]
  have : p[p.length - m + i] = k := by
    rw [← h1]; congr 1; omega
  simp [this]

theorem kind_none {w v : Int} {t : List Nd} (h : run w v [] t = none) : kind w v t = 0 := by
  unfold kind
  split
  · rw [h]
  · rfl

theorem kind_some {w v : Int} {t : List Nd} {p : List Int} (hf : frame w v t = true) (h : run w v [] t = some p) : kind w v t = if p.length = 1 then p.getD 0 0 else 0 := by
  unfold kind
  rw [if_pos hf, h]
  match p with
  | [] => rfl
  | [k] => rfl
  | a :: b :: p => simp

theorem l2Kind_spec (w v : Int) (t : List Nd) (hl : t.length ≤ 1048576) (ht : ∀ x ∈ t, okN x) : Pu Tryz.prog 64 [I w, I v, Ns t] (I (kind w v t)) := by
  refine Pu.of fun H => ?_
  refine CallT.ghost W64_hb fun q0 hq0 => ?_
  have bad : frame w v t = false → I 0 = I (kind w v t) := fun h => by rw [kind_f h]
  refine W64_ok ?_; simp (maxSteps := 1000000) (disch := first | assumption | (apply Ne.symm; assumption)) only [W64, vz, vu, vv, eqS, eqFieldsV, ↓condV_t, ↓condV_f, tabs, reduceCtorEq, Array.toList, ↓reduceIte, Nat.reduceAdd, Nat.reduceLeDiff, Nat.reduceLT, Nat.reduceMul, Nat.reduceSub, Int.reduceToNat, Int.reduceSub, Int.reduceAdd, Int.reduceNeg]
  refine Pu.use (l1Wide_spec w) ?_
  cases hw : inB w 1 64
  · (try simp (maxSteps := 1000000) (disch := first | assumption | (apply Ne.symm; assumption)) only [vz, vu, vv, eqS, eqFieldsV, ↓condV_t, ↓condV_f, tabs, reduceCtorEq, Array.toList, ↓reduceIte, Nat.reduceAdd, Nat.reduceLeDiff, Nat.reduceLT, Nat.reduceMul, Nat.reduceSub, Int.reduceToNat, Int.reduceSub, Int.reduceAdd, Int.reduceNeg])
    exact ⟨bad (by simp only [frame, hw, Bool.false_and]), Heap.le_set hq0⟩
  (try simp (maxSteps := 1000000) (disch := first | assumption | (apply Ne.symm; assumption)) only [vz, vu, vv, eqS, eqFieldsV, ↓condV_t, ↓condV_f, tabs, reduceCtorEq, Array.toList, ↓reduceIte, Nat.reduceAdd, Nat.reduceLeDiff, Nat.reduceLT, Nat.reduceMul, Nat.reduceSub, Int.reduceToNat, Int.reduceSub, Int.reduceAdd, Int.reduceNeg])
  refine Pu.use (l1In_B v 1 4) ?_
  cases hv : inB v 1 4
  · (try simp (maxSteps := 1000000) (disch := first | assumption | (apply Ne.symm; assumption)) only [vz, vu, vv, eqS, eqFieldsV, ↓condV_t, ↓condV_f, tabs, reduceCtorEq, Array.toList, ↓reduceIte, Nat.reduceAdd, Nat.reduceLeDiff, Nat.reduceLT, Nat.reduceMul, Nat.reduceSub, Int.reduceToNat, Int.reduceSub, Int.reduceAdd, Int.reduceNeg])
    exact ⟨bad (by simp only [frame, hw, hv, Bool.false_and, Bool.and_false]), Heap.le_set hq0⟩
  (try simp (maxSteps := 1000000) (disch := first | assumption | (apply Ne.symm; assumption)) only [vz, vu, vv, eqS, eqFieldsV, ↓condV_t, ↓condV_f, tabs, reduceCtorEq, Array.toList, ↓reduceIte, Nat.reduceAdd, Nat.reduceLeDiff, Nat.reduceLT, Nat.reduceMul, Nat.reduceSub, Int.reduceToNat, Int.reduceSub, Int.reduceAdd, Int.reduceNeg])
  refine Pu.use (l1In_B t.length 1 48) ?_
  cases h12 : inB t.length 1 48
  · (try simp (maxSteps := 1000000) (disch := first | assumption | (apply Ne.symm; assumption)) only [vz, vu, vv, eqS, eqFieldsV, ↓condV_t, ↓condV_f, tabs, reduceCtorEq, Array.toList, ↓reduceIte, Nat.reduceAdd, Nat.reduceLeDiff, Nat.reduceLT, Nat.reduceMul, Nat.reduceSub, Int.reduceToNat, Int.reduceSub, Int.reduceAdd, Int.reduceNeg])
    have h12' : ¬ (1 ≤ (t.length : Int) ∧ (t.length : Int) ≤ 48) := fun h => by rw [inB_iff.2 h] at h12; cases h12
    refine ⟨bad ?_, Heap.le_set hq0⟩
    have : (decide (1 ≤ t.length) && decide (t.length ≤ 48)) = false := by
      rw [Bool.eq_false_iff]; intro h; simp only [Bool.and_eq_true, decide_eq_true_eq] at h; omega
    simp only [frame, this, Bool.and_false]
  have h12' := inB_iff.1 h12
  have hf : frame w v t = true := by
    have a1 : 1 ≤ t.length := by omega
    have a2 : t.length ≤ 48 := by omega
    simp only [frame, hw, hv, a1, a2, decide_true, Bool.and_true]
  rw [inB_iff] at hw hv
  (try simp (maxSteps := 1000000) (disch := first | assumption | (apply Ne.symm; assumption)) only [vz, vu, vv, eqS, eqFieldsV, ↓condV_t, ↓condV_f, tabs, reduceCtorEq, Array.toList, ↓reduceIte, Nat.reduceAdd, Nat.reduceLeDiff, Nat.reduceLT, Nat.reduceMul, Nat.reduceSub, Int.reduceToNat, Int.reduceSub, Int.reduceAdd, Int.reduceNeg])
  refine L64_0_rule ((0 : Nat), q0, ([] : List Int)) (fun s => rowP s.2.1 s.2.2) (fun s => I s.1) (fun s => H.set s.2.1 (cP fI s.2.2)) (fun s => s.1 ≤ t.length ∧ run w v [] (t.take s.1) = some s.2.2 ∧ H s.2.1 = none ∧ s.2.2.length ≤ s.1) (fun s => t.length - s.1)
    ⟨⟨by simp, by simp [run], hq0, by simp⟩, .nilo _ _ _, .refl _, Heap.le_refl _⟩ ?_
  rintro ⟨i, q, p⟩ ⟨hi, hrun, hq, hpl⟩
  dsimp only at hi hrun hq hpl
  have hle : Heap.le H (H.set q (cP fI p)) := Heap.le_set hq
  (try simp (maxSteps := 1000000) (disch := first | assumption | (apply Ne.symm; assumption)) only [vz, vu, vv, eqS, eqFieldsV, ↓condV_t, ↓condV_f, tabs, reduceCtorEq, Array.toList, ↓reduceIte, Nat.reduceAdd, Nat.reduceLeDiff, Nat.reduceLT, Nat.reduceMul, Nat.reduceSub, Int.reduceToNat, Int.reduceSub, Int.reduceAdd, Int.reduceNeg, B64_0])
  refine ⟨fun h => ⟨by omega, h, ?_⟩, fun h => ?_⟩
  · have hlt : i < t.length := by omega
    have hm : t.getD i default ∈ t := getD_all (p := fun x => x ∈ t) (fun _ h => h) hlt
    have hx := ht _ hm
    have hnone : Pt.step w v p (t.getD i default) = none → I 0 = I (kind w v t) := fun hs => by rw [kind_none (run_none w v hlt hrun hs)]
    have hsnoc : ∀ p', Pt.step w v p (t.getD i default) = some p' → run w v [] (t.take (i + 1)) = some p' := fun p' hs => by
      rw [take_succ_snoc hlt, run_snoc, hrun]; exact hs
    generalize t.getD i default = x at hx hnone hsnoc ⊢
    intro r9 n9 hr9
    (try simp (maxSteps := 1000000) (disch := first | assumption | (apply Ne.symm; assumption)) only [vz, vu, vv, eqS, eqFieldsV, ↓condV_t, ↓condV_f, tabs, reduceCtorEq, Array.toList, ↓reduceIte, Nat.reduceAdd, Nat.reduceLeDiff, Nat.reduceLT, Nat.reduceMul, Nat.reduceSub, Int.reduceToNat, Int.reduceSub, Int.reduceAdd, Int.reduceNeg])
    have hle9 : Heap.le H ((H.set q (cP fI p)).set r9 [I x.op, U x.n]) := Heap.le_setN hle hr9
    refine l2Need_spec x.op fun pp hpp => ?_
    (try simp (maxSteps := 1000000) (disch := first | assumption | (apply Ne.symm; assumption)) only [vz, vu, vv, eqS, eqFieldsV, ↓condV_t, ↓condV_f, tabs, reduceCtorEq, Array.toList, ↓reduceIte, Nat.reduceAdd, Nat.reduceLeDiff, Nat.reduceLT, Nat.reduceMul, Nat.reduceSub, Int.reduceToNat, Int.reduceSub, Int.reduceAdd, Int.reduceNeg])
    have hml := many_le x.op
    refine ⟨fun h0 => ⟨hnone (step_none (.inl h0)), hle9⟩, fun h0 => ?_⟩
    refine Pu.use (l2N_spec w v x hv hx) ?_
    cases hlf : leafOk w v x
    · (try simp (maxSteps := 1000000) (disch := first | assumption | (apply Ne.symm; assumption)) only [vz, vu, vv, eqS, eqFieldsV, ↓condV_t, ↓condV_f, tabs, reduceCtorEq, Array.toList, ↓reduceIte, Nat.reduceAdd, Nat.reduceLeDiff, Nat.reduceLT, Nat.reduceMul, Nat.reduceSub, Int.reduceToNat, Int.reduceSub, Int.reduceAdd, Int.reduceNeg])
      exact ⟨hnone (step_none (.inr (.inl hlf))), hle9⟩
    (try simp (maxSteps := 1000000) (disch := first | assumption | (apply Ne.symm; assumption)) only [vz, vu, vv, eqS, eqFieldsV, ↓condV_t, ↓condV_f, tabs, reduceCtorEq, Array.toList, ↓reduceIte, Nat.reduceAdd, Nat.reduceLeDiff, Nat.reduceLT, Nat.reduceMul, Nat.reduceSub, Int.reduceToNat, Int.reduceSub, Int.reduceAdd, Int.reduceNeg])
    refine ⟨fun h3 => ⟨hnone (step_none (.inr (.inr (by omega)))), hle9⟩, fun h3 => ?_⟩
    have hqG : ∀ z1, ((H.set q (cP fI p)).set r9 z1) q = some (cP fI p) := fun z1 => by rw [Heap.set_other (Ne.symm n9), Heap.set_same]
    refine L64_1_rule (0 : Nat) (fun j => .sl q 1 0 (p.length - j)) (fun j => I ((many x.op - j : Nat) : Int)) (fun _ => (H.set q (cP fI p)).set r9 [I x.op, U x.n]) (fun j => j ≤ many x.op ∧ ∀ j', j' < j → p.getD (p.length - 1 - j') 0 = pp) (fun j => many x.op - j)
      ⟨⟨by omega, fun _ h => by omega⟩, .refl _, .refl _, Heap.le_refl _⟩ ?_
    rintro j ⟨hj, hall⟩
    have e1 : j < many x.op → IntKind.i64.wrap (((p.length - j : Nat) : Int) - 1) = ((p.length - 1 - j : Nat) : Int) := fun hjm => by rw [i64_id (by omega) (by omega)]; omega
    (try simp (maxSteps := 1000000) (disch := first | assumption | (apply Ne.symm; assumption)) only [vz, vu, vv, eqS, eqFieldsV, ↓condV_t, ↓condV_f, tabs, reduceCtorEq, Array.toList, ↓reduceIte, Nat.reduceAdd, Nat.reduceLeDiff, Nat.reduceLT, Nat.reduceMul, Nat.reduceSub, Int.reduceToNat, Int.reduceSub, Int.reduceAdd, Int.reduceNeg, B64_1])
    refine ⟨fun h5 => ?_, fun h5 => ?_⟩
    · have hjm : j < many x.op := by omega
      rw [e1 hjm]
      have hpp2 : pp = Pt.part x.op := by
        rcases hpp with h | h
        · omega
        · exact h
      refine ⟨by omega, by omega, ?_⟩
      simp only [Int.toNat_natCast]
      refine ⟨by omega, ?_⟩
      rw [show (List.take 1 (List.drop ((p.length - 1 - j) * 1) (cP fI p))).headD AV.any = I (p.getD (p.length - 1 - j) 0) by rw [Nat.mul_one]; exact read_row (f := fI) 0 (by omega)]
      (try simp (maxSteps := 1000000) (disch := first | assumption | (apply Ne.symm; assumption)) only [vz, vu, vv, eqS, eqFieldsV, ↓condV_t, ↓condV_f, tabs, reduceCtorEq, Array.toList, ↓reduceIte, Nat.reduceAdd, Nat.reduceLeDiff, Nat.reduceLT, Nat.reduceMul, Nat.reduceSub, Int.reduceToNat, Int.reduceSub, Int.reduceAdd, Int.reduceNeg])
      refine ⟨fun hne => ?_, fun heq => ⟨by omega, by omega, by omega, j + 1, ⟨by omega, fun j' hj' => ?_⟩, by omega, ?_, ?_⟩⟩
      · refine ⟨hnone (step_any ?_), hle9⟩
        rw [← hpp2]; exact any_last hjm (by omega) hne
      · rcases Nat.lt_succ_iff_lt_or_eq.1 hj' with h6 | rfl
        · exact hall j' h6
        · exact heq
      · have e4 : ((p.length - 1 - j : Nat) : Int).toNat = p.length - (j + 1) := by omega
        first
          | (rw [show p.length - 1 - j = p.length - (j + 1) by omega]; exact .refl _)
          | (simp only [e4]; exact .refl _)
      · rw [wk_int, i64_id (by omega) (by omega)]; omega
    · have hjm : j = many x.op := by omega
      subst hjm
      have ha : ((p.drop (p.length - many x.op)).any fun k => decide (k ≠ Pt.part x.op)) = false := by
        refine any_none (by omega) fun j' hj' => ?_
        rcases hpp with h | h
        · omega
        · rw [← h]; exact hall j' hj'
      refine lit1 tab_29 rfl tab_3 ⟨rfl, rfl⟩ ?_
      refine app_prefix (f := fI) (xs := p) (ys := [Pt.own x.op]) tab_29 rfl tab_3 rfl (by decide) (hqG _) (by omega) (by simp; omega) fun q' hq' hne => ?_
      simp only [Heap.set_none] at hq'
      obtain ⟨p1, p2, p3⟩ := hq'
      (try simp (maxSteps := 1000000) (disch := first | assumption | (apply Ne.symm; assumption)) only [vz, vu, vv, eqS, eqFieldsV, ↓condV_t, ↓condV_f, tabs, reduceCtorEq, Array.toList, ↓reduceIte, Nat.reduceAdd, Nat.reduceLeDiff, Nat.reduceLT, Nat.reduceMul, Nat.reduceSub, Int.reduceToNat, Int.reduceSub, Int.reduceAdd, Int.reduceNeg])
      refine ⟨(i + 1, q', p.take (p.length - many x.op) ++ [Pt.own x.op]), ⟨by simp only; omega, hsnoc _ (step_some h0 hlf (by omega) ha), p3, by simp; omega⟩, by simp only; omega, ?_, ?_, ?_⟩
      · simp only [List.length_append, List.length_cons, List.length_nil]; exact .refl _
      · rw [wk_int, i64_id (by omega) (by omega)]; simp
      · generalize cP fI (p.take (p.length - many x.op) ++ [Pt.own x.op]) = z
        (intro y b hy; simp only [Heap.set, Heap.del] at hy ⊢; (repeat' split at hy) <;> (repeat' split) <;> simp_all [cells])
  · have : i = t.length := by omega
    subst this
    rw [List.take_length] at hrun
    have hk := kind_some hf hrun
    refine ⟨fun h1 => ⟨?_, hle⟩, fun h1 => ?_⟩
    · rw [hk, if_neg (by omega)]
    · have h1' : p.length = 1 := by omega
      rw [hk, if_pos h1']
      exact ⟨by omega, by omega, by omega, read_row (f := fI) (xs := p) (k := 0) 0 (by omega), hle⟩
end Go.Proofs.YtdnfiacjoghfkaaGreat
/- Specs: commands and programs. -/
namespace Go.Proofs.YtdnfiacjoghfkaaGreat
open Go Go.Sep Go.Pt
set_option linter.unusedSimpArgs false
set_option linter.unusedVariables false
attribute [local irreducible] CallT

def vT (t : List Nd) : Prop := t.length ≤ 1048576 ∧ ∀ x ∈ t, okN x
def vCh (c : Ch) : Prop := vT c.by_
def vCm (c : Cm) : Prop := vT c.when_ ∧ c.chs.length ≤ 1048576 ∧ ∀ x ∈ c.chs, vCh x
def vPg (p : Pg) : Prop := vT p.start ∧ p.cmds.length ≤ 1048576 ∧ ∀ c ∈ p.cmds, vCm c
theorem mul_rng {w v : Int} (hw : 1 ≤ w ∧ w ≤ 64) (hv : 1 ≤ v ∧ v ≤ 4) : 1 ≤ w * v ∧ w * v ≤ 256 := by
  obtain rfl | rfl | rfl | rfl : v = 1 ∨ v = 2 ∨ v = 3 ∨ v = 4 := by omega
  all_goals omega

theorem IndexFuncC_at (xs : List Cm) (g : Nat) (caps : List AV) (p : Cm → Bool) {H : Heap} (hl : xs.length ≤ 1000000000) (hp : ∀ x ∈ xs, PuAt Tryz.prog g (aCm x :: caps) H (B (p x))) :
    PuAt Tryz.prog 92 [Cms xs, .fn g caps] H (I (if xs.any p then (xs.findIdx p : Int) else -1)) := by
  intro K hK
  refine CallT.fin ?_
  refine W92_ok ?_; simp (maxSteps := 1000000) (disch := first | assumption | (apply Ne.symm; assumption)) only [W92, vz, vu, vv, eqS, eqFieldsV, ↓condV_t, ↓condV_f, tabs, reduceCtorEq, Array.toList, ↓reduceIte, Nat.reduceAdd, Nat.reduceLeDiff, Nat.reduceLT, Nat.reduceMul, Nat.reduceSub, Int.reduceToNat, Int.reduceSub, Int.reduceAdd, Int.reduceNeg]
  refine L92_0_rule (0 : Nat) (fun i => I i) (fun _ => H) (fun i => i ≤ xs.length ∧ ∀ j (hj : j < xs.length), j < i → p xs[j] = false) (fun i => xs.length - i) ⟨⟨by omega, by intros; omega⟩, .refl _, Heap.le_refl _⟩ ?_
  rintro i ⟨hi1, ha⟩
  (try simp (maxSteps := 1000000) (disch := first | assumption | (apply Ne.symm; assumption)) only [vz, vu, vv, eqS, eqFieldsV, ↓condV_t, ↓condV_f, tabs, reduceCtorEq, Array.toList, ↓reduceIte, Nat.reduceAdd, Nat.reduceLeDiff, Nat.reduceLT, Nat.reduceMul, Nat.reduceSub, Int.reduceToNat, Int.reduceSub, Int.reduceAdd, Int.reduceNeg, B92_0])
  refine ⟨fun h => ⟨by omega, h, ?_⟩, fun h => ?_⟩
  · have hlt : i < xs.length := by omega
    rw [getD_lt hlt]
    refine PuAt.use (hp _ (List.getElem_mem hlt)) ?_
    (try simp (maxSteps := 1000000) (disch := first | assumption | (apply Ne.symm; assumption)) only [vz, vu, vv, eqS, eqFieldsV, ↓condV_t, ↓condV_f, tabs, reduceCtorEq, Array.toList, ↓reduceIte, Nat.reduceAdd, Nat.reduceLeDiff, Nat.reduceLT, Nat.reduceMul, Nat.reduceSub, Int.reduceToNat, Int.reduceSub, Int.reduceAdd, Int.reduceNeg])
    refine ⟨fun h1 => ?_, fun h1 => ⟨i + 1, ⟨by omega, fun j hj hji => ?_⟩, by omega, ?_⟩⟩
    · have h2 : xs.any p = true := List.any_eq_true.2 ⟨xs[i], List.getElem_mem hlt, h1⟩
      have h3 : xs.findIdx p = i := by
        rw [List.findIdx_eq hlt]; exact ⟨h1, fun j hj => ha j (by omega) hj⟩
      rw [h2, h3] at hK; exact wkK.keep (by simpa using hK)
    · rcases Nat.lt_succ_iff_lt_or_eq.1 hji with h2 | rfl
      · exact ha j hj h2
      · exact h1
    · rw [wk_int, i64_id (by omega) (by omega)]; simp
  · have hi : i = xs.length := by omega
    have h2 : xs.any p = false := by
      rw [List.any_eq_false]
      intro x hx
      obtain ⟨j, hj, rfl⟩ := List.mem_iff_getElem.1 hx
      rw [ha j hj (by omega)]; simp
    rw [h2] at hK; exact wkK.keep (by simpa using hK)

theorem ContainsFuncC_at (xs : List Cm) (g : Nat) (caps : List AV) (p : Cm → Bool) {H : Heap} (hl : xs.length ≤ 1000000000) (hp : ∀ x ∈ xs, PuAt Tryz.prog g (aCm x :: caps) H (B (p x))) :
    PuAt Tryz.prog 73 [Cms xs, .fn g caps] H (B (xs.any p)) := by
  intro K hK
  refine W73_ok ?_; simp (maxSteps := 1000000) (disch := first | assumption | (apply Ne.symm; assumption)) only [W73, vz, vu, vv, eqS, eqFieldsV, ↓condV_t, ↓condV_f, tabs, reduceCtorEq, Array.toList, ↓reduceIte, Nat.reduceAdd, Nat.reduceLeDiff, Nat.reduceLT, Nat.reduceMul, Nat.reduceSub, Int.reduceToNat, Int.reduceSub, Int.reduceAdd, Int.reduceNeg]
  refine PuAt.use (IndexFuncC_at xs g caps p hl hp) ?_
  (try simp (maxSteps := 1000000) (disch := first | assumption | (apply Ne.symm; assumption)) only [vz, vu, vv, eqS, eqFieldsV, ↓condV_t, ↓condV_f, tabs, reduceCtorEq, Array.toList, ↓reduceIte, Nat.reduceAdd, Nat.reduceLeDiff, Nat.reduceLT, Nat.reduceMul, Nat.reduceSub, Int.reduceToNat, Int.reduceSub, Int.reduceAdd, Int.reduceNeg])
  cases h : xs.any p <;> simp [h] at hK ⊢ <;> exact hK

theorem isCondition_spec (p : Pg) (t : List Nd) (ht : vT t) : Pu Tryz.prog 58 [aPg p, Ns t] (B (decide (kind p.wide p.vars t = 2))) := by
  refine Pu.of fun H => ?_
  refine W58_ok ?_; simp (maxSteps := 1000000) (disch := first | assumption | (apply Ne.symm; assumption)) only [W58, vz, vu, vv, eqS, eqFieldsV, ↓condV_t, ↓condV_f, tabs, reduceCtorEq, Array.toList, ↓reduceIte, Nat.reduceAdd, Nat.reduceLeDiff, Nat.reduceLT, Nat.reduceMul, Nat.reduceSub, Int.reduceToNat, Int.reduceSub, Int.reduceAdd, Int.reduceNeg]
  intro r hr
  exact Pu.use (isTermOf_spec p.wide p.vars t 2 (by decide) ht.1 ht.2) ⟨rfl, Heap.le_set hr⟩
theorem l7Asks_spec (p : Pg) (t : List Nd) (ht : vT t) : Pu Tryz.prog 44 [aPg p, Ns t] (B (decide (kind p.wide p.vars t = 2))) := by
  refine Pu.of fun H => ?_
  refine W44_ok ?_; simp (maxSteps := 1000000) (disch := first | assumption | (apply Ne.symm; assumption)) only [W44, vz, vu, vv, eqS, eqFieldsV, ↓condV_t, ↓condV_f, tabs, reduceCtorEq, Array.toList, ↓reduceIte, Nat.reduceAdd, Nat.reduceLeDiff, Nat.reduceLT, Nat.reduceMul, Nat.reduceSub, Int.reduceToNat, Int.reduceSub, Int.reduceAdd, Int.reduceNeg]
  intro r hr
  refine Pu.use (l2Kind_spec p.wide p.vars t ht.1 ht.2) ?_
  (try simp (maxSteps := 1000000) (disch := first | assumption | (apply Ne.symm; assumption)) only [vz, vu, vv, eqS, eqFieldsV, ↓condV_t, ↓condV_f, tabs, reduceCtorEq, Array.toList, ↓reduceIte, Nat.reduceAdd, Nat.reduceLeDiff, Nat.reduceLT, Nat.reduceMul, Nat.reduceSub, Int.reduceToNat, Int.reduceSub, Int.reduceAdd, Int.reduceNeg])
  exact Heap.le_set hr

def chk (w v : Int) (c : Cm) (i : Nat) : Bool := goodCh w v (if i = 0 then none else some (c.chs.getD (i - 1) default).var) (c.chs.getD i default)
theorem goodCm_def (w v : Int) (c : Cm) : goodCm w v c = (decide (kind w v c.when_ = 2) && ((List.range c.chs.length).all (chk w v c))) := rfl
theorem goodCm_bad {w v : Int} {c : Cm} {i : Nat} (hi : i < c.chs.length) (h : chk w v c i = false) : B false = B (goodCm w v c) := by
  rw [goodCm_def, range_all_false hi h, Bool.and_false]
theorem chk_f {w v : Int} {c : Cm} {i : Nat} (h : ¬ ((0 ≤ (c.chs.getD i default).var ∧ (c.chs.getD i default).var ≤ v - 1) ∧ (0 < i → (c.chs.getD (i - 1) default).var < (c.chs.getD i default).var) ∧ kind w v (c.chs.getD i default).by_ = 1)) : chk w v c i = false := by
  rw [Bool.eq_false_iff]; intro h2
  apply h
  simp only [chk, goodCh, Bool.and_eq_true, inB_iff, decide_eq_true_eq] at h2
  refine ⟨h2.1.1, fun h0 => ?_, h2.2⟩
  have := h2.1.2
  rw [if_neg (by omega)] at this
  simpa using this
theorem chk_t {w v : Int} {c : Cm} {i : Nat} (h1 : 0 ≤ (c.chs.getD i default).var ∧ (c.chs.getD i default).var ≤ v - 1) (h2 : 0 < i → (c.chs.getD (i - 1) default).var < (c.chs.getD i default).var) (h3 : kind w v (c.chs.getD i default).by_ = 1) : chk w v c i = true := by
  simp only [chk, goodCh, Bool.and_eq_true, inB_iff, decide_eq_true_eq]
  refine ⟨⟨h1, ?_⟩, h3⟩
  split
  · rename_i p hp
    split at hp
    · cases hp
    · injection hp with hp; subst hp
      simpa using h2 (by omega)
  · rfl

theorem isCommand_spec (p : Pg) (c : Cm) (hc : vCm c) : Pu Tryz.prog 75 [aPg p, aCm c] (B (goodCm p.wide p.vars c)) := by
  refine Pu.of fun H => ?_
  refine W75_ok ?_; simp (maxSteps := 1000000) (disch := first | assumption | (apply Ne.symm; assumption)) only [W75, vz, vu, vv, eqS, eqFieldsV, ↓condV_t, ↓condV_f, tabs, reduceCtorEq, Array.toList, ↓reduceIte, Nat.reduceAdd, Nat.reduceLeDiff, Nat.reduceLT, Nat.reduceMul, Nat.reduceSub, Int.reduceToNat, Int.reduceSub, Int.reduceAdd, Int.reduceNeg]
  intro r hr r3 n3 hr3
  have hle : Heap.le H ((H.set r [I p.wide, I p.vars, Ns p.start, Cms p.cmds]).set r3 [Ns c.when_, Chs c.chs]) := Heap.le_setN (Heap.le_set hr) hr3
  (try simp (maxSteps := 1000000) (disch := first | assumption | (apply Ne.symm; assumption)) only [vz, vu, vv, eqS, eqFieldsV, ↓condV_t, ↓condV_f, tabs, reduceCtorEq, Array.toList, ↓reduceIte, Nat.reduceAdd, Nat.reduceLeDiff, Nat.reduceLT, Nat.reduceMul, Nat.reduceSub, Int.reduceToNat, Int.reduceSub, Int.reduceAdd, Int.reduceNeg])
  refine Pu.use (isCondition_spec p c.when_ hc.1) ?_
  (try simp (maxSteps := 1000000) (disch := first | assumption | (apply Ne.symm; assumption)) only [vz, vu, vv, eqS, eqFieldsV, ↓condV_t, ↓condV_f, tabs, reduceCtorEq, Array.toList, ↓reduceIte, Nat.reduceAdd, Nat.reduceLeDiff, Nat.reduceLT, Nat.reduceMul, Nat.reduceSub, Int.reduceToNat, Int.reduceSub, Int.reduceAdd, Int.reduceNeg])
  refine ⟨fun h => ⟨by rw [goodCm_def, decide_eq_false h, Bool.false_and], hle⟩, fun h => ?_⟩
  refine L75_0_rule (0 : Nat) (fun i => I i) (fun _ => (H.set r [I p.wide, I p.vars, Ns p.start, Cms p.cmds]).set r3 [Ns c.when_, Chs c.chs]) (fun i => i ≤ c.chs.length ∧ (List.range i).all (chk p.wide p.vars c) = true) (fun i => c.chs.length - i) ⟨⟨by omega, by simp⟩, .refl _, Heap.le_refl _⟩ ?_
  rintro i ⟨hi, ha⟩
  have hcl := hc.2.1
  have e1 : 0 < i → IntKind.i64.wrap ((i : Int) - 1) = ((i - 1 : Nat) : Int) := fun h0 => by rw [i64_id (by omega) (by omega)]; omega
  (try simp (maxSteps := 1000000) (disch := first | assumption | (apply Ne.symm; assumption)) only [vz, vu, vv, eqS, eqFieldsV, ↓condV_t, ↓condV_f, tabs, reduceCtorEq, Array.toList, ↓reduceIte, Nat.reduceAdd, Nat.reduceLeDiff, Nat.reduceLT, Nat.reduceMul, Nat.reduceSub, Int.reduceToNat, Int.reduceSub, Int.reduceAdd, Int.reduceNeg, B75_0])
  refine ⟨fun h2 => ⟨by omega, h2, ?_⟩, fun h2 => ?_⟩
  · have hlt : i < c.chs.length := by omega
    have hm : c.chs.getD i default ∈ c.chs := getD_all (p := fun x => x ∈ c.chs) (fun _ h => h) hlt
    have hv := hc.2.2 _ hm
    have hbad := fun h => goodCm_bad (w := p.wide) (v := p.vars) hlt (chk_f h)
    intro r6 n63 n6 hr6
    have hle6 := fun z => Heap.le_setN (b := z) hle hr6
    have nn6 : r ≠ r6 := Ne.symm n6
    have nn63 : r3 ≠ r6 := Ne.symm n63
    (try simp (maxSteps := 1000000) (disch := first | assumption | (apply Ne.symm; assumption)) only [vz, vu, vv, eqS, eqFieldsV, ↓condV_t, ↓condV_f, tabs, reduceCtorEq, Array.toList, ↓reduceIte, Nat.reduceAdd, Nat.reduceLeDiff, Nat.reduceLT, Nat.reduceMul, Nat.reduceSub, Int.reduceToNat, Int.reduceSub, Int.reduceAdd, Int.reduceNeg])
    refine ⟨fun h3 => ⟨hbad (by omega), hle6 _⟩, fun h3 => ⟨fun h4 => ⟨hbad (by omega), hle6 _⟩, fun h4 => ?_⟩⟩
    have tail : (0 < i → (c.chs.getD (i - 1) default).var < (c.chs.getD i default).var) → ∀ G, Heap.le H G → Heap.le ((H.set r [I p.wide, I p.vars, Ns p.start, Cms p.cmds]).set r3 [Ns c.when_, Chs c.chs]) G →
        CallT Tryz.prog 77 [I p.wide, I p.vars, Ns (c.chs.getD i default).by_, I 1] G fun v53 H6 => unV UnOp.not v53 fun v54 => condV v54 (AV.p (PV.bool false) = B (goodCm p.wide p.vars c) ∧ H.le H6)
            (∃ s', (s' ≤ c.chs.length ∧ (List.range s').all (chk p.wide p.vars c) = true) ∧ c.chs.length - s' < c.chs.length - i ∧ (AV.p (PV.int IntKind.i64 (IntKind.i64.wrap (↑i + 1)))).wk (I (s' : Nat)) ∧
              ((H.set r [I p.wide, I p.vars, Ns p.start, Cms p.cmds]).set r3 [Ns c.when_, Chs c.chs]).le H6) := by
      intro hprev G hG hG2
      refine Pu.use (isTermOf_spec p.wide p.vars _ 1 (by decide) hv.1 hv.2) ?_
      (try simp (maxSteps := 1000000) (disch := first | assumption | (apply Ne.symm; assumption)) only [vz, vu, vv, eqS, eqFieldsV, ↓condV_t, ↓condV_f, tabs, reduceCtorEq, Array.toList, ↓reduceIte, Nat.reduceAdd, Nat.reduceLeDiff, Nat.reduceLT, Nat.reduceMul, Nat.reduceSub, Int.reduceToNat, Int.reduceSub, Int.reduceAdd, Int.reduceNeg])
      refine ⟨fun h6 => ⟨hbad fun hh => h6 hh.2.2, hG⟩, fun h6 => ⟨i + 1, ⟨by omega, ?_⟩, by omega, ?_, hG2⟩⟩
      · rw [range_all_succ, ha, chk_t (by omega) hprev h6]; rfl
      · rw [wk_int, i64_id (by omega) (by omega)]; simp
    have hle7 : ∀ z, Heap.le ((H.set r [I p.wide, I p.vars, Ns p.start, Cms p.cmds]).set r3 [Ns c.when_, Chs c.chs]) (((H.set r [I p.wide, I p.vars, Ns p.start, Cms p.cmds]).set r3 [Ns c.when_, Chs c.chs]).set r6 z) := fun z => Heap.le_set (by simp [Heap.set_none, n63, n6, hr6])
    refine ⟨fun h0 => ?_, fun h0 => tail (fun h => by omega) _ (hle6 _) (hle7 _)⟩
    rw [e1 (by omega)]
    simp only [Int.toNat_natCast]
    exact ⟨by omega, by omega, fun h5 => ⟨hbad fun hh => by have := hh.2.1 (by omega); omega, hle6 _⟩, fun h5 => tail (fun _ => by omega) _ (hle6 _) (hle7 _)⟩
  · have : i = c.chs.length := by omega
    subst this
    exact ⟨by rw [goodCm_def, ha, decide_eq_true h]; rfl, hle⟩

theorem l7Command_spec (p : Pg) (c : Cm) (hc : vCm c) : Pu Tryz.prog 69 [aPg p, aCm c] (B (goodCm p.wide p.vars c)) := by
  refine Pu.of fun H => ?_
  refine W69_ok ?_; simp (maxSteps := 1000000) (disch := first | assumption | (apply Ne.symm; assumption)) only [W69, vz, vu, vv, eqS, eqFieldsV, ↓condV_t, ↓condV_f, tabs, reduceCtorEq, Array.toList, ↓reduceIte, Nat.reduceAdd, Nat.reduceLeDiff, Nat.reduceLT, Nat.reduceMul, Nat.reduceSub, Int.reduceToNat, Int.reduceSub, Int.reduceAdd, Int.reduceNeg]
  intro r hr r3 n3 hr3
  have hle : Heap.le H ((H.set r [I p.wide, I p.vars, Ns p.start, Cms p.cmds]).set r3 [Ns c.when_, Chs c.chs]) := Heap.le_setN (Heap.le_set hr) hr3
  (try simp (maxSteps := 1000000) (disch := first | assumption | (apply Ne.symm; assumption)) only [vz, vu, vv, eqS, eqFieldsV, ↓condV_t, ↓condV_f, tabs, reduceCtorEq, Array.toList, ↓reduceIte, Nat.reduceAdd, Nat.reduceLeDiff, Nat.reduceLT, Nat.reduceMul, Nat.reduceSub, Int.reduceToNat, Int.reduceSub, Int.reduceAdd, Int.reduceNeg])
  refine Pu.use (l7Asks_spec p c.when_ hc.1) ?_
  by_cases h : kind p.wide p.vars c.when_ = 2
  rotate_left
  · rw [decide_eq_false h]
    (try simp (maxSteps := 1000000) (disch := first | assumption | (apply Ne.symm; assumption)) only [vz, vu, vv, eqS, eqFieldsV, ↓condV_t, ↓condV_f, tabs, reduceCtorEq, Array.toList, ↓reduceIte, Nat.reduceAdd, Nat.reduceLeDiff, Nat.reduceLT, Nat.reduceMul, Nat.reduceSub, Int.reduceToNat, Int.reduceSub, Int.reduceAdd, Int.reduceNeg])
    exact ⟨by rw [goodCm_def, decide_eq_false h, Bool.false_and], hle⟩
  have hfr := kind2_frame h
  rw [decide_eq_true h]
  have ev : IntKind.i64.wrap (p.vars - 1) = p.vars - 1 := i64_id (by omega) (by omega)
  (try simp (maxSteps := 1000000) (disch := first | assumption | (apply Ne.symm; assumption)) only [vz, vu, vv, eqS, eqFieldsV, ↓condV_t, ↓condV_f, tabs, reduceCtorEq, Array.toList, ↓reduceIte, Nat.reduceAdd, Nat.reduceLeDiff, Nat.reduceLT, Nat.reduceMul, Nat.reduceSub, Int.reduceToNat, Int.reduceSub, Int.reduceAdd, Int.reduceNeg])
  refine ⟨fun h1 => ⟨?_, hle⟩, fun h1 => ?_⟩
  · cases hg : goodCm p.wide p.vars c
    · rfl
    · have := goodCm_len hg
      omega
  refine L69_0_rule (0 : Nat) (fun i => I i) (fun _ => (H.set r [I p.wide, I p.vars, Ns p.start, Cms p.cmds]).set r3 [Ns c.when_, Chs c.chs]) (fun i => i ≤ c.chs.length ∧ (List.range i).all (chk p.wide p.vars c) = true) (fun i => c.chs.length - i) ⟨⟨by omega, by simp⟩, .refl _, Heap.le_refl _⟩ ?_
  rintro i ⟨hi, ha⟩
  have hcl := hc.2.1
  have e1 : 0 < i → IntKind.i64.wrap ((i : Int) - 1) = ((i - 1 : Nat) : Int) := fun h0 => by rw [i64_id (by omega) (by omega)]; omega
  (try simp (maxSteps := 1000000) (disch := first | assumption | (apply Ne.symm; assumption)) only [vz, vu, vv, eqS, eqFieldsV, ↓condV_t, ↓condV_f, tabs, reduceCtorEq, Array.toList, ↓reduceIte, Nat.reduceAdd, Nat.reduceLeDiff, Nat.reduceLT, Nat.reduceMul, Nat.reduceSub, Int.reduceToNat, Int.reduceSub, Int.reduceAdd, Int.reduceNeg, B69_0])
  refine ⟨fun h2 => ⟨by omega, h2, ?_⟩, fun h2 => ?_⟩
  · have hlt : i < c.chs.length := by omega
    have hm : c.chs.getD i default ∈ c.chs := getD_all (p := fun x => x ∈ c.chs) (fun _ h => h) hlt
    have hv := hc.2.2 _ hm
    have hbad := fun h => goodCm_bad (w := p.wide) (v := p.vars) hlt (chk_f h)
    intro r6 n63 n6 hr6
    have hle6 := fun z => Heap.le_setN (b := z) hle hr6
    have nn6 : r ≠ r6 := Ne.symm n6
    have nn63 : r3 ≠ r6 := Ne.symm n63
    have hle7 : ∀ z, Heap.le ((H.set r [I p.wide, I p.vars, Ns p.start, Cms p.cmds]).set r3 [Ns c.when_, Chs c.chs]) (((H.set r [I p.wide, I p.vars, Ns p.start, Cms p.cmds]).set r3 [Ns c.when_, Chs c.chs]).set r6 z) := fun z => Heap.le_set (by simp [Heap.set_none, n63, n6, hr6])
    (try simp (maxSteps := 1000000) (disch := first | assumption | (apply Ne.symm; assumption)) only [vz, vu, vv, eqS, eqFieldsV, ↓condV_t, ↓condV_f, tabs, reduceCtorEq, Array.toList, ↓reduceIte, Nat.reduceAdd, Nat.reduceLeDiff, Nat.reduceLT, Nat.reduceMul, Nat.reduceSub, Int.reduceToNat, Int.reduceSub, Int.reduceAdd, Int.reduceNeg, ev])
    refine Pu.use (l1In_B ..) ?_
    cases hin : inB (c.chs.getD i default).var 0 (p.vars - 1)
    · (try simp (maxSteps := 1000000) (disch := first | assumption | (apply Ne.symm; assumption)) only [vz, vu, vv, eqS, eqFieldsV, ↓condV_t, ↓condV_f, tabs, reduceCtorEq, Array.toList, ↓reduceIte, Nat.reduceAdd, Nat.reduceLeDiff, Nat.reduceLT, Nat.reduceMul, Nat.reduceSub, Int.reduceToNat, Int.reduceSub, Int.reduceAdd, Int.reduceNeg])
      exact ⟨hbad (fun hh => by rw [inB_iff.2 hh.1] at hin; cases hin), hle6 _⟩
    rw [inB_iff] at hin
    (try simp (maxSteps := 1000000) (disch := first | assumption | (apply Ne.symm; assumption)) only [vz, vu, vv, eqS, eqFieldsV, ↓condV_t, ↓condV_f, tabs, reduceCtorEq, Array.toList, ↓reduceIte, Nat.reduceAdd, Nat.reduceLeDiff, Nat.reduceLT, Nat.reduceMul, Nat.reduceSub, Int.reduceToNat, Int.reduceSub, Int.reduceAdd, Int.reduceNeg])
    have tail : (0 < i → (c.chs.getD (i - 1) default).var < (c.chs.getD i default).var) → ∀ G, Heap.le H G → Heap.le ((H.set r [I p.wide, I p.vars, Ns p.start, Cms p.cmds]).set r3 [Ns c.when_, Chs c.chs]) G →
        CallT Tryz.prog 64 [I p.wide, I p.vars, Ns (c.chs.getD i default).by_] G fun v53 H6 => binV tab BinOp.neq 3 v53 (I 1) fun v54 => condV v54 (AV.p (PV.bool false) = B (goodCm p.wide p.vars c) ∧ H.le H6)
            (∃ s', (s' ≤ c.chs.length ∧ (List.range s').all (chk p.wide p.vars c) = true) ∧ c.chs.length - s' < c.chs.length - i ∧ (AV.p (PV.int IntKind.i64 (IntKind.i64.wrap (↑i + 1)))).wk (I (s' : Nat)) ∧
              ((H.set r [I p.wide, I p.vars, Ns p.start, Cms p.cmds]).set r3 [Ns c.when_, Chs c.chs]).le H6) := by
      intro hprev G hG hG2
      refine Pu.use (l2Kind_spec p.wide p.vars _ hv.1 hv.2) ?_
      (try simp (maxSteps := 1000000) (disch := first | assumption | (apply Ne.symm; assumption)) only [vz, vu, vv, eqS, eqFieldsV, ↓condV_t, ↓condV_f, tabs, reduceCtorEq, Array.toList, ↓reduceIte, Nat.reduceAdd, Nat.reduceLeDiff, Nat.reduceLT, Nat.reduceMul, Nat.reduceSub, Int.reduceToNat, Int.reduceSub, Int.reduceAdd, Int.reduceNeg])
      refine ⟨fun h6 => ⟨hbad fun hh => h6 hh.2.2, hG⟩, fun h6 => ⟨i + 1, ⟨by omega, ?_⟩, by omega, ?_, hG2⟩⟩
      · rw [range_all_succ, ha, chk_t hin hprev h6]; rfl
      · rw [wk_int, i64_id (by omega) (by omega)]; simp
    refine ⟨fun h0 => ?_, fun h0 => tail (fun h => by omega) _ (hle6 _) (hle7 _)⟩
    rw [e1 (by omega)]
    simp only [Int.toNat_natCast]
    exact ⟨by omega, by omega, fun h5 => ⟨hbad fun hh => by have := hh.2.1 (by omega); omega, hle6 _⟩, fun h5 => tail (fun _ => by omega) _ (hle6 _) (hle7 _)⟩
  · have : i = c.chs.length := by omega
    subst this
    exact ⟨by rw [goodCm_def, ha, decide_eq_true h]; rfl, hle⟩
end Go.Proofs.YtdnfiacjoghfkaaGreat
/- Specs: programs, and classes of their states. -/
namespace Go.Proofs.YtdnfiacjoghfkaaGreat
open Go Go.Sep Go.Pt
set_option linter.unusedSimpArgs false
set_option linter.unusedVariables false
attribute [local irreducible] CallT

theorem GoodProgram1_at (p : Pg) (c : Cm) (r : Nat) {H : Heap} (hr : H r = some [I p.wide, I p.vars, Ns p.start, Cms p.cmds]) (hc : vCm c) : PuAt Tryz.prog 74 [aCm c, .ptr r 0] H (B (!goodCm p.wide p.vars c)) := by
  intro K hK
  refine CallT.fin ?_
  refine W74_ok ?_; simp (maxSteps := 1000000) (disch := first | assumption | (apply Ne.symm; assumption)) only [W74, vz, vu, vv, eqS, eqFieldsV, ↓condV_t, ↓condV_f, tabs, reduceCtorEq, Array.toList, ↓reduceIte, Nat.reduceAdd, Nat.reduceLeDiff, Nat.reduceLT, Nat.reduceMul, Nat.reduceSub, Int.reduceToNat, Int.reduceSub, Int.reduceAdd, Int.reduceNeg]
  intro r2 hr2
  have n2 : r ≠ r2 := by rintro rfl; rw [hr] at hr2; cases hr2
  (try simp (maxSteps := 1000000) (disch := first | assumption | (apply Ne.symm; assumption)) only [vz, vu, vv, eqS, eqFieldsV, ↓condV_t, ↓condV_f, tabs, reduceCtorEq, Array.toList, ↓reduceIte, Nat.reduceAdd, Nat.reduceLeDiff, Nat.reduceLT, Nat.reduceMul, Nat.reduceSub, Int.reduceToNat, Int.reduceSub, Int.reduceAdd, Int.reduceNeg, load_at hr])
  refine Pu.use (isCommand_spec p c hc) ?_
  (try simp (maxSteps := 1000000) (disch := first | assumption | (apply Ne.symm; assumption)) only [vz, vu, vv, eqS, eqFieldsV, ↓condV_t, ↓condV_f, tabs, reduceCtorEq, Array.toList, ↓reduceIte, Nat.reduceAdd, Nat.reduceLeDiff, Nat.reduceLT, Nat.reduceMul, Nat.reduceSub, Int.reduceToNat, Int.reduceSub, Int.reduceAdd, Int.reduceNeg])
  exact fin_le (Heap.le_set hr2) hK

theorem goodP_f {p : Pg} (h : ¬ (kind p.wide p.vars p.start = 2 ∧ 1 ≤ p.cmds.length ∧ p.cmds.length ≤ 6)) : B false = B (goodP p) := by
  have : goodP p = false := by
    rw [Bool.eq_false_iff]; intro h2
    simp only [goodP, Bool.and_eq_true, decide_eq_true_eq] at h2
    exact h ⟨h2.1.1, h2.1.2⟩
  rw [this]
theorem goodP_e {p : Pg} (h : kind p.wide p.vars p.start = 2 ∧ 1 ≤ p.cmds.length ∧ p.cmds.length ≤ 6) : goodP p = p.cmds.all (goodCm p.wide p.vars) := by
  simp only [goodP, h.1, h.2.1, h.2.2, decide_true, Bool.and_self, Bool.true_and]

theorem GoodProgram_impl (p : Pg) (hp : vPg p) : Pu Tryz.prog 55 [aPg p] (B (goodP p)) := by
  refine Pu.of fun H => ?_
  refine W55_ok ?_; simp (maxSteps := 1000000) (disch := first | assumption | (apply Ne.symm; assumption)) only [W55, vz, vu, vv, eqS, eqFieldsV, ↓condV_t, ↓condV_f, tabs, reduceCtorEq, Array.toList, ↓reduceIte, Nat.reduceAdd, Nat.reduceLeDiff, Nat.reduceLT, Nat.reduceMul, Nat.reduceSub, Int.reduceToNat, Int.reduceSub, Int.reduceAdd, Int.reduceNeg]
  intro r hr
  have hle : Heap.le H (H.set r [I p.wide, I p.vars, Ns p.start, Cms p.cmds]) := Heap.le_set hr
  have hcl := hp.2.1
  refine Pu.use (isWide_spec _) ?_
  cases hw : inB p.wide 1 64
  · (try simp (maxSteps := 1000000) (disch := first | assumption | (apply Ne.symm; assumption)) only [vz, vu, vv, eqS, eqFieldsV, ↓condV_t, ↓condV_f, tabs, reduceCtorEq, Array.toList, ↓reduceIte, Nat.reduceAdd, Nat.reduceLeDiff, Nat.reduceLT, Nat.reduceMul, Nat.reduceSub, Int.reduceToNat, Int.reduceSub, Int.reduceAdd, Int.reduceNeg])
    exact ⟨goodP_f (fun h => by rw [inB_iff.2 (kind2_frame h.1).1] at hw; cases hw), hle⟩
  (try simp (maxSteps := 1000000) (disch := first | assumption | (apply Ne.symm; assumption)) only [vz, vu, vv, eqS, eqFieldsV, ↓condV_t, ↓condV_f, tabs, reduceCtorEq, Array.toList, ↓reduceIte, Nat.reduceAdd, Nat.reduceLeDiff, Nat.reduceLT, Nat.reduceMul, Nat.reduceSub, Int.reduceToNat, Int.reduceSub, Int.reduceAdd, Int.reduceNeg])
  refine Pu.use (isVars_spec _) ?_
  cases hv : inB p.vars 1 4
  · (try simp (maxSteps := 1000000) (disch := first | assumption | (apply Ne.symm; assumption)) only [vz, vu, vv, eqS, eqFieldsV, ↓condV_t, ↓condV_f, tabs, reduceCtorEq, Array.toList, ↓reduceIte, Nat.reduceAdd, Nat.reduceLeDiff, Nat.reduceLT, Nat.reduceMul, Nat.reduceSub, Int.reduceToNat, Int.reduceSub, Int.reduceAdd, Int.reduceNeg])
    exact ⟨goodP_f (fun h => by rw [inB_iff.2 (kind2_frame h.1).2] at hv; cases hv), hle⟩
  (try simp (maxSteps := 1000000) (disch := first | assumption | (apply Ne.symm; assumption)) only [vz, vu, vv, eqS, eqFieldsV, ↓condV_t, ↓condV_f, tabs, reduceCtorEq, Array.toList, ↓reduceIte, Nat.reduceAdd, Nat.reduceLeDiff, Nat.reduceLT, Nat.reduceMul, Nat.reduceSub, Int.reduceToNat, Int.reduceSub, Int.reduceAdd, Int.reduceNeg])
  refine Pu.use (isCondition_spec p p.start hp.1) ?_
  (try simp (maxSteps := 1000000) (disch := first | assumption | (apply Ne.symm; assumption)) only [vz, vu, vv, eqS, eqFieldsV, ↓condV_t, ↓condV_f, tabs, reduceCtorEq, Array.toList, ↓reduceIte, Nat.reduceAdd, Nat.reduceLeDiff, Nat.reduceLT, Nat.reduceMul, Nat.reduceSub, Int.reduceToNat, Int.reduceSub, Int.reduceAdd, Int.reduceNeg])
  refine ⟨fun h => ⟨goodP_f (fun hh => h hh.1), hle⟩, fun h => ⟨fun h1 => ⟨goodP_f (fun hh => by omega), hle⟩, fun h1 => ⟨fun h2 => ⟨goodP_f (fun hh => by omega), hle⟩, fun h2 => ?_⟩⟩⟩
  refine PuAt.use (ContainsFuncC_at p.cmds _ _ (fun c => !goodCm p.wide p.vars c) (by omega) fun c hm => GoodProgram1_at p c r (Heap.set_same _ _ _) (hp.2.2 c hm)) ?_
  (try simp (maxSteps := 1000000) (disch := first | assumption | (apply Ne.symm; assumption)) only [vz, vu, vv, eqS, eqFieldsV, ↓condV_t, ↓condV_f, tabs, reduceCtorEq, Array.toList, ↓reduceIte, Nat.reduceAdd, Nat.reduceLeDiff, Nat.reduceLT, Nat.reduceMul, Nat.reduceSub, Int.reduceToNat, Int.reduceSub, Int.reduceAdd, Int.reduceNeg])
  refine ⟨?_, hle⟩
  rw [goodP_e ⟨h, by omega, by omega⟩, List.all_eq_not_any_not]

theorem GoodProgram_spec (p : Pg) (hp : vPg p) : Pu Tryz.prog 52 [aPg p] (B (goodP p)) := by
  refine Pu.of fun H => ?_
  refine W52_ok ?_; simp (maxSteps := 1000000) (disch := first | assumption | (apply Ne.symm; assumption)) only [W52, vz, vu, vv, eqS, eqFieldsV, ↓condV_t, ↓condV_f, tabs, reduceCtorEq, Array.toList, ↓reduceIte, Nat.reduceAdd, Nat.reduceLeDiff, Nat.reduceLT, Nat.reduceMul, Nat.reduceSub, Int.reduceToNat, Int.reduceSub, Int.reduceAdd, Int.reduceNeg]
  intro r hr
  have hle : Heap.le H (H.set r [I p.wide, I p.vars, Ns p.start, Cms p.cmds]) := Heap.le_set hr
  have hcl := hp.2.1
  refine Pu.use (l7Asks_spec p p.start hp.1) ?_
  by_cases h : kind p.wide p.vars p.start = 2
  rotate_left
  · rw [decide_eq_false h]
    (try simp (maxSteps := 1000000) (disch := first | assumption | (apply Ne.symm; assumption)) only [vz, vu, vv, eqS, eqFieldsV, ↓condV_t, ↓condV_f, tabs, reduceCtorEq, Array.toList, ↓reduceIte, Nat.reduceAdd, Nat.reduceLeDiff, Nat.reduceLT, Nat.reduceMul, Nat.reduceSub, Int.reduceToNat, Int.reduceSub, Int.reduceAdd, Int.reduceNeg])
    exact ⟨goodP_f fun hh => h hh.1, hle⟩
  rw [decide_eq_true h]
  (try simp (maxSteps := 1000000) (disch := first | assumption | (apply Ne.symm; assumption)) only [vz, vu, vv, eqS, eqFieldsV, ↓condV_t, ↓condV_f, tabs, reduceCtorEq, Array.toList, ↓reduceIte, Nat.reduceAdd, Nat.reduceLeDiff, Nat.reduceLT, Nat.reduceMul, Nat.reduceSub, Int.reduceToNat, Int.reduceSub, Int.reduceAdd, Int.reduceNeg])
  refine Pu.use (l1In_B p.cmds.length 1 6) ?_
  cases h1 : inB p.cmds.length 1 6
  · (try simp (maxSteps := 1000000) (disch := first | assumption | (apply Ne.symm; assumption)) only [vz, vu, vv, eqS, eqFieldsV, ↓condV_t, ↓condV_f, tabs, reduceCtorEq, Array.toList, ↓reduceIte, Nat.reduceAdd, Nat.reduceLeDiff, Nat.reduceLT, Nat.reduceMul, Nat.reduceSub, Int.reduceToNat, Int.reduceSub, Int.reduceAdd, Int.reduceNeg])
    exact ⟨goodP_f (fun hh => by rw [inB_iff.2 (by omega)] at h1; cases h1), hle⟩
  rw [inB_iff] at h1
  (try simp (maxSteps := 1000000) (disch := first | assumption | (apply Ne.symm; assumption)) only [vz, vu, vv, eqS, eqFieldsV, ↓condV_t, ↓condV_f, tabs, reduceCtorEq, Array.toList, ↓reduceIte, Nat.reduceAdd, Nat.reduceLeDiff, Nat.reduceLT, Nat.reduceMul, Nat.reduceSub, Int.reduceToNat, Int.reduceSub, Int.reduceAdd, Int.reduceNeg])
  have hg : kind p.wide p.vars p.start = 2 ∧ 1 ≤ p.cmds.length ∧ p.cmds.length ≤ 6 := ⟨h, by omega, by omega⟩
  refine L52_0_rule (0 : Nat) (fun i => I i) (fun _ => H.set r [I p.wide, I p.vars, Ns p.start, Cms p.cmds]) (fun i => i ≤ p.cmds.length ∧ (p.cmds.take i).all (goodCm p.wide p.vars) = true) (fun i => p.cmds.length - i) ⟨⟨by omega, by simp⟩, .refl _, Heap.le_refl _⟩ ?_
  rintro i ⟨hi, ha⟩
  (try simp (maxSteps := 1000000) (disch := first | assumption | (apply Ne.symm; assumption)) only [vz, vu, vv, eqS, eqFieldsV, ↓condV_t, ↓condV_f, tabs, reduceCtorEq, Array.toList, ↓reduceIte, Nat.reduceAdd, Nat.reduceLeDiff, Nat.reduceLT, Nat.reduceMul, Nat.reduceSub, Int.reduceToNat, Int.reduceSub, Int.reduceAdd, Int.reduceNeg, B52_0])
  refine ⟨fun h2 => ⟨by omega, h2, ?_⟩, fun h2 => ?_⟩
  · have hlt : i < p.cmds.length := by omega
    have hm : p.cmds.getD i default ∈ p.cmds := getD_all (p := fun x => x ∈ p.cmds) (fun _ h => h) hlt
    intro r4 n4 hr4
    have nn4 : r ≠ r4 := Ne.symm n4
    (try simp (maxSteps := 1000000) (disch := first | assumption | (apply Ne.symm; assumption)) only [vz, vu, vv, eqS, eqFieldsV, ↓condV_t, ↓condV_f, tabs, reduceCtorEq, Array.toList, ↓reduceIte, Nat.reduceAdd, Nat.reduceLeDiff, Nat.reduceLT, Nat.reduceMul, Nat.reduceSub, Int.reduceToNat, Int.reduceSub, Int.reduceAdd, Int.reduceNeg])
    refine Pu.use (l7Command_spec p _ (hp.2.2 _ hm)) ?_
    cases hc : goodCm p.wide p.vars (p.cmds.getD i default)
    · (try simp (maxSteps := 1000000) (disch := first | assumption | (apply Ne.symm; assumption)) only [vz, vu, vv, eqS, eqFieldsV, ↓condV_t, ↓condV_f, tabs, reduceCtorEq, Array.toList, ↓reduceIte, Nat.reduceAdd, Nat.reduceLeDiff, Nat.reduceLT, Nat.reduceMul, Nat.reduceSub, Int.reduceToNat, Int.reduceSub, Int.reduceAdd, Int.reduceNeg])
      refine ⟨?_, Heap.le_setN hle hr4⟩
      have : (p.cmds.all (goodCm p.wide p.vars)) = false := by rw [List.all_eq_false]; exact ⟨_, hm, by rw [hc]; simp⟩
      rw [goodP_e hg, this]
    · (try simp (maxSteps := 1000000) (disch := first | assumption | (apply Ne.symm; assumption)) only [vz, vu, vv, eqS, eqFieldsV, ↓condV_t, ↓condV_f, tabs, reduceCtorEq, Array.toList, ↓reduceIte, Nat.reduceAdd, Nat.reduceLeDiff, Nat.reduceLT, Nat.reduceMul, Nat.reduceSub, Int.reduceToNat, Int.reduceSub, Int.reduceAdd, Int.reduceNeg])
      refine ⟨i + 1, ⟨by omega, ?_⟩, by omega, ?_, Heap.le_set (by simp [Heap.set_none, n4, hr4])⟩
      · rw [take_all_succ hlt, ha, ← getD_lt (d := default) hlt, hc]; rfl
      · rw [wk_int, i64_id (by omega) (by omega)]; simp
  · have : i = p.cmds.length := by omega
    subst this
    rw [List.take_length] at ha
    exact ⟨by rw [goodP_e hg, ha], hle⟩

theorem isSmall_spec (p : Pg) (hp : vPg p) : Pu Tryz.prog 31 [aPg p] (B (smallP p)) := by
  refine Pu.of fun H => ?_
  refine W31_ok ?_; simp (maxSteps := 1000000) (disch := first | assumption | (apply Ne.symm; assumption)) only [W31, vz, vu, vv, eqS, eqFieldsV, ↓condV_t, ↓condV_f, tabs, reduceCtorEq, Array.toList, ↓reduceIte, Nat.reduceAdd, Nat.reduceLeDiff, Nat.reduceLT, Nat.reduceMul, Nat.reduceSub, Int.reduceToNat, Int.reduceSub, Int.reduceAdd, Int.reduceNeg]
  intro r hr
  refine Pu.use (GoodProgram_impl p hp) ?_
  cases h : goodP p
  · (try simp (maxSteps := 1000000) (disch := first | assumption | (apply Ne.symm; assumption)) only [vz, vu, vv, eqS, eqFieldsV, ↓condV_t, ↓condV_f, tabs, reduceCtorEq, Array.toList, ↓reduceIte, Nat.reduceAdd, Nat.reduceLeDiff, Nat.reduceLT, Nat.reduceMul, Nat.reduceSub, Int.reduceToNat, Int.reduceSub, Int.reduceAdd, Int.reduceNeg])
    exact ⟨by simp only [smallP, h, Bool.false_and], Heap.le_set hr⟩
  · have hr2 := goodP_rng h
    have := mul_rng hr2.1 hr2.2
    have e : IntKind.i64.wrap (p.wide * p.vars) = p.wide * p.vars := i64_id (by omega) (by omega)
    (try simp (maxSteps := 1000000) (disch := first | assumption | (apply Ne.symm; assumption)) only [vz, vu, vv, eqS, eqFieldsV, ↓condV_t, ↓condV_f, tabs, reduceCtorEq, Array.toList, ↓reduceIte, Nat.reduceAdd, Nat.reduceLeDiff, Nat.reduceLT, Nat.reduceMul, Nat.reduceSub, Int.reduceToNat, Int.reduceSub, Int.reduceAdd, Int.reduceNeg, e])
    exact ⟨by simp only [smallP, h, Bool.true_and], Heap.le_set hr⟩
theorem l7Small_spec (p : Pg) (hp : vPg p) : Pu Tryz.prog 27 [aPg p] (B (smallP p)) := by
  refine Pu.of fun H => ?_
  refine W27_ok ?_; simp (maxSteps := 1000000) (disch := first | assumption | (apply Ne.symm; assumption)) only [W27, vz, vu, vv, eqS, eqFieldsV, ↓condV_t, ↓condV_f, tabs, reduceCtorEq, Array.toList, ↓reduceIte, Nat.reduceAdd, Nat.reduceLeDiff, Nat.reduceLT, Nat.reduceMul, Nat.reduceSub, Int.reduceToNat, Int.reduceSub, Int.reduceAdd, Int.reduceNeg]
  intro r hr
  refine Pu.use (GoodProgram_spec p hp) ?_
  cases h : goodP p
  · (try simp (maxSteps := 1000000) (disch := first | assumption | (apply Ne.symm; assumption)) only [vz, vu, vv, eqS, eqFieldsV, ↓condV_t, ↓condV_f, tabs, reduceCtorEq, Array.toList, ↓reduceIte, Nat.reduceAdd, Nat.reduceLeDiff, Nat.reduceLT, Nat.reduceMul, Nat.reduceSub, Int.reduceToNat, Int.reduceSub, Int.reduceAdd, Int.reduceNeg])
    exact ⟨by simp only [smallP, h, Bool.false_and], Heap.le_set hr⟩
  · have hr2 := goodP_rng h
    have := mul_rng hr2.1 hr2.2
    have e : IntKind.i64.wrap (p.wide * p.vars) = p.wide * p.vars := i64_id (by omega) (by omega)
    (try simp (maxSteps := 1000000) (disch := first | assumption | (apply Ne.symm; assumption)) only [vz, vu, vv, eqS, eqFieldsV, ↓condV_t, ↓condV_f, tabs, reduceCtorEq, Array.toList, ↓reduceIte, Nat.reduceAdd, Nat.reduceLeDiff, Nat.reduceLT, Nat.reduceMul, Nat.reduceSub, Int.reduceToNat, Int.reduceSub, Int.reduceAdd, Int.reduceNeg, e])
    exact ⟨by simp only [smallP, h, Bool.true_and], Heap.le_set hr⟩

theorem small_rng {p : Pg} (h : smallP p = true) : goodP p = true ∧ 1 ≤ p.wide * p.vars ∧ p.wide * p.vars ≤ 5 := by
  simp only [smallP, Bool.and_eq_true, decide_eq_true_eq] at h
  have hr := goodP_rng h.1
  exact ⟨h.1, (mul_rng hr.1 hr.2).1, h.2⟩
theorem pow_rng {n : Nat} (h : n ≤ 5) : (1 : Int) ≤ 2 ^ n ∧ (2 : Int) ^ n ≤ 32 := by
  obtain rfl | rfl | rfl | rfl | rfl | rfl : n = 0 ∨ n = 1 ∨ n = 2 ∨ n = 3 ∨ n = 4 ∨ n = 5 := by omega
  all_goals decide
theorem states_rng {p : Pg} (h : smallP p = true) : 1 ≤ statesP p ∧ statesP p ≤ 32 := by
  have := small_rng h
  exact pow_rng (by omega)
theorem states_spec (p : Pg) (h : smallP p = true) : Pu Tryz.prog 33 [aPg p] (I (statesP p)) := by
  refine Pu.of fun H => ?_
  have hs := small_rng h
  have e : IntKind.i64.wrap (p.wide * p.vars) = p.wide * p.vars := i64_id (by omega) (by omega)
  refine W33_ok ?_; simp (maxSteps := 1000000) (disch := first | assumption | (apply Ne.symm; assumption)) only [W33, vz, vu, vv, eqS, eqFieldsV, ↓condV_t, ↓condV_f, tabs, reduceCtorEq, Array.toList, ↓reduceIte, Nat.reduceAdd, Nat.reduceLeDiff, Nat.reduceLT, Nat.reduceMul, Nat.reduceSub, Int.reduceToNat, Int.reduceSub, Int.reduceAdd, Int.reduceNeg, e]
  intro r hr
  refine ⟨by omega, ?_, Heap.le_set hr⟩
  have e2 : min (p.wide * p.vars).toNat IntKind.i64.bits = (p.wide * p.vars).toNat := by
    have : IntKind.i64.bits = 64 := rfl
    omega
  have := states_rng h
  unfold statesP at *
  rw [e2, Int.one_mul, i64_id (by omega) (by omega)]
theorem l7Many_spec (p : Pg) (h : smallP p = true) : Pu Tryz.prog 53 [aPg p] (I (statesP p)) := by
  refine Pu.of fun H => ?_
  have hs := small_rng h
  have e : IntKind.i64.wrap (p.wide * p.vars) = p.wide * p.vars := i64_id (by omega) (by omega)
  have eu : IntKind.u64.wrap (p.wide * p.vars) = p.wide * p.vars := by rw [IntKind.wrap_u64]; omega
  refine W53_ok ?_; simp (maxSteps := 1000000) (disch := first | assumption | (apply Ne.symm; assumption)) only [W53, vz, vu, vv, eqS, eqFieldsV, ↓condV_t, ↓condV_f, tabs, reduceCtorEq, Array.toList, ↓reduceIte, Nat.reduceAdd, Nat.reduceLeDiff, Nat.reduceLT, Nat.reduceMul, Nat.reduceSub, Int.reduceToNat, Int.reduceSub, Int.reduceAdd, Int.reduceNeg, e, eu]
  intro r hr
  refine ⟨by omega, ?_, Heap.le_set hr⟩
  have e2 : min (p.wide * p.vars).toNat IntKind.i64.bits = (p.wide * p.vars).toNat := by
    have : IntKind.i64.bits = 64 := rfl
    omega
  have := states_rng h
  unfold statesP at *
  rw [e2, Int.one_mul, i64_id (by omega) (by omega)]

/-! ### Classes -/
end Go.Proofs.YtdnfiacjoghfkaaGreat
/- Numbers and lengths of arguments. -/
namespace Go.Proofs.YtdnfiacjoghfkaaGreat
open Go Go.Sep Go.Pt
set_option linter.unusedSimpArgs false
set_option linter.unusedVariables false
attribute [local irreducible] CallT

def nT (t : List Nd) : Prop := ∀ x ∈ t, okN x
def nCh (c : Ch) : Prop := nT c.by_
def nCm (c : Cm) : Prop := nT c.when_ ∧ ∀ x ∈ c.chs, nCh x
def nPg (p : Pg) : Prop := nT p.start ∧ ∀ c ∈ p.cmds, nCm c
theorem v_of {p : Pg} (h : smPg p) (hn : nPg p) : vPg p :=
  ⟨⟨h.1, hn.1⟩, h.2.1, fun c hc => ⟨⟨(h.2.2 c hc).1, (hn.2 c hc).1⟩, (h.2.2 c hc).2.1, fun x hx => ⟨(h.2.2 c hc).2.2 x hx, (hn.2 c hc).2 x hx⟩⟩⟩
theorem szR_nonneg {left : Int} {n : Nat} (h : ¬ szR left n < 0) : (n : Int) ≤ left ∧ szR left n = left - n := by
  unfold szR at *
  split at h
  · rename_i h2; exact ⟨h2, by rw [if_pos h2]⟩
  · omega

end Go.Proofs.YtdnfiacjoghfkaaGreat
/- Arguments by value: nodes, programs, sights. -/
namespace Go.Proofs.YtdnfiacjoghfkaaGreat
open Go Go.Sep Go.Pt Go.RowKit
set_option linter.unusedVariables false

theorem typed_node {x : List PV} (h : Typed Tryz.prog 82 x) : ∃ a, okN a ∧ x = eN a := by
  have h := typed_fields (ts := [3, 68]) (by kernel_rfl) h
  obtain ⟨a, b, rfl, h1, h⟩ := typedAll_cons h
  obtain ⟨b, c, rfl, h2, h⟩ := typedAll_cons h
  cases typedAll_nil h
  obtain ⟨n, _, rfl⟩ := typed_int (k := .i64) (by kernel_rfl) h1
  obtain ⟨m, hw, rfl⟩ := typed_int (k := .u64) (by kernel_rfl) h2
  refine ⟨⟨n, m⟩, ?_, rfl⟩
  simp only [Lit.wf, Bool.and_eq_true, decide_eq_true_eq] at hw
  have e1 : IntKind.u64.min = 0 := by decide
  have e2 : IntKind.u64.max = 18446744073709551615 := by decide
  rw [e1, e2] at hw
  unfold okN
  show 0 ≤ m ∧ m < 2 ^ 64
  omega
theorem typed_nodes {x : List PV} (h : Typed Tryz.prog 22 x) : ∃ t : List Nd, (ok t.length ∧ nT t) ∧ x = [.sl (t.map eN)] := by
  obtain ⟨es, rfl, hl, he⟩ := typed_slice (e := 82) (by kernel_rfl) h
  obtain ⟨t, h1, rfl, h3⟩ := rows_of (Q := okN) (e := eN) es fun y hy => typed_node (he y hy)
  exact ⟨t, ⟨by unfold ok; omega, h1⟩, rfl⟩
theorem typed_change {x : List PV} (h : Typed Tryz.prog 133 x) : ∃ a, (okCh a ∧ nCh a) ∧ x = eCh a := by
  have h := typed_fields (ts := [3, 22]) (by kernel_rfl) h
  obtain ⟨a, b, rfl, h1, h⟩ := typedAll_cons h
  obtain ⟨b, c, rfl, h2, h⟩ := typedAll_cons h
  cases typedAll_nil h
  obtain ⟨n, _, rfl⟩ := typed_int (k := .i64) (by kernel_rfl) h1
  obtain ⟨t, ht, rfl⟩ := typed_nodes h2
  exact ⟨⟨n, t⟩, ht, rfl⟩
theorem typed_changes {x : List PV} (h : Typed Tryz.prog 86 x) : ∃ t : List Ch, (okChs t ∧ ∀ c ∈ t, nCh c) ∧ x = [.sl (t.map eCh)] := by
  obtain ⟨es, rfl, hl, he⟩ := typed_slice (e := 133) (by kernel_rfl) h
  obtain ⟨t, h1, rfl, h3⟩ := rows_of (Q := fun a => okCh a ∧ nCh a) (e := eCh) es fun y hy => typed_change (he y hy)
  exact ⟨t, ⟨⟨by unfold ok; omega, fun c hc => (h1 c hc).1⟩, fun c hc => (h1 c hc).2⟩, rfl⟩
theorem typed_command {x : List PV} (h : Typed Tryz.prog 88 x) : ∃ a, (okCm a ∧ nCm a) ∧ x = eCm a := by
  have h := typed_fields (ts := [22, 86]) (by kernel_rfl) h
  obtain ⟨a, b, rfl, h1, h⟩ := typedAll_cons h
  obtain ⟨b, c, rfl, h2, h⟩ := typedAll_cons h
  cases typedAll_nil h
  obtain ⟨t, ht, rfl⟩ := typed_nodes h1
  obtain ⟨cs, hc, rfl⟩ := typed_changes h2
  exact ⟨⟨t, cs⟩, ⟨⟨ht.1, hc.1⟩, ⟨ht.2, hc.2⟩⟩, rfl⟩
theorem typed_commands {x : List PV} (h : Typed Tryz.prog 23 x) : ∃ t : List Cm, (okCms t ∧ ∀ c ∈ t, nCm c) ∧ x = [.sl (t.map eCm)] := by
  obtain ⟨es, rfl, hl, he⟩ := typed_slice (e := 88) (by kernel_rfl) h
  obtain ⟨t, h1, rfl, h3⟩ := rows_of (Q := fun a => okCm a ∧ nCm a) (e := eCm) es fun y hy => typed_command (he y hy)
  exact ⟨t, ⟨⟨by unfold ok; omega, fun c hc => (h1 c hc).1⟩, fun c hc => (h1 c hc).2⟩, rfl⟩
theorem arg_program {v : AV} (h : ArgT Tryz.prog 25 v) : ∃ p : Pg, okPg p ∧ nPg p ∧ v = aPg p := by
  obtain ⟨pvs, g, rfl⟩ := arg_struct (ts := [3, 3, 22, 23]) (by kernel_rfl) h
  clear h
  have h := g
  obtain ⟨a, b, rfl, h1, h⟩ := typedAll_cons h
  obtain ⟨b, c, rfl, h2, h⟩ := typedAll_cons h
  obtain ⟨c, d, rfl, h3, h⟩ := typedAll_cons h
  obtain ⟨d, e, rfl, h4, h⟩ := typedAll_cons h
  cases typedAll_nil h
  obtain ⟨n, _, rfl⟩ := typed_int (k := .i64) (by kernel_rfl) h1
  obtain ⟨m, _, rfl⟩ := typed_int (k := .i64) (by kernel_rfl) h2
  obtain ⟨t, ht, rfl⟩ := typed_nodes h3
  obtain ⟨cs, hc, rfl⟩ := typed_commands h4
  exact ⟨⟨n, m, t, cs⟩, ⟨ht.1, hc.1⟩, ⟨ht.2, hc.2⟩, rfl⟩
end Go.Proofs.YtdnfiacjoghfkaaGreat
/- Specs: rows of conditions: sizes, copies, comparisons; whether all are conditions. -/
namespace Go.Proofs.YtdnfiacjoghfkaaGreat
open Go Go.Sep Go.Pt
set_option linter.unusedSimpArgs false
set_option linter.unusedVariables false
attribute [local irreducible] CallT

abbrev eNN (t : List Nd) : List PV := [.sl (t.map eN)]
abbrev Nss (ts : List (List Nd)) : AV := .p (.sl (ts.map eNN))
def okNss (cs : List (List Nd)) : Prop := ok cs.length ∧ ∀ c ∈ cs, ok c.length
def totNL (l : List Nd) : Nat := l.length
def totNss (cs : List (List Nd)) : Nat := cs.length + psum totNL cs cs.length
def smNss (cs : List (List Nd)) : Prop := cs.length ≤ 1048576 ∧ ∀ c ∈ cs, c.length ≤ 1048576
theorem szNodeSS_spec (cs : List (List Nd)) (left : Int) (h0 : 0 ≤ left) (h1 : left ≤ 1048576) (hl : okNss cs) : Pu Tryz.prog 6 [Nss cs, I left] (I (szR left (totNss cs))) := by
  refine Pu.of fun H => ?_
  have hl1 := hl.1
  unfold ok at hl1
  have e : IntKind.i64.wrap (left - cs.length) = left - cs.length := i64_id (by omega) (by omega)
  refine W6_ok ?_; simp (maxSteps := 1000000) (disch := first | assumption | (apply Ne.symm; assumption)) only [W6, vz, vu, vv, eqS, eqFieldsV, ↓condV_t, ↓condV_f, tabs, reduceCtorEq, Array.toList, ↓reduceIte, Nat.reduceAdd, Nat.reduceLeDiff, Nat.reduceLT, Nat.reduceMul, Nat.reduceSub, Int.reduceToNat, Int.reduceSub, Int.reduceAdd, Int.reduceNeg, e]
  refine ⟨fun h => by rw [szR_neg (by unfold totNss; omega)], fun h => ?_⟩
  refine L6_0_rule (0 : Nat) (fun i => I (left - cs.length - psum totNL cs i)) (fun i => I i) (fun _ => H) (fun i => i ≤ cs.length ∧ (cs.length : Int) + psum totNL cs i ≤ left) (fun i => cs.length - i) ⟨⟨by omega, by simp [psum]; omega⟩, ?_, .refl _, Heap.le_refl _⟩ ?_
  · rw [wk_int]; simp [psum]
  rintro i ⟨hi, hs⟩
  (try simp (maxSteps := 1000000) (disch := first | assumption | (apply Ne.symm; assumption)) only [vz, vu, vv, eqS, eqFieldsV, ↓condV_t, ↓condV_f, tabs, reduceCtorEq, Array.toList, ↓reduceIte, Nat.reduceAdd, Nat.reduceLeDiff, Nat.reduceLT, Nat.reduceMul, Nat.reduceSub, Int.reduceToNat, Int.reduceSub, Int.reduceAdd, Int.reduceNeg, B6_0])
  refine ⟨fun h2 => ⟨by omega, h2, ?_⟩, fun h2 => ?_⟩
  · have hlt : i < cs.length := by omega
    have hm : cs.getD i default ∈ cs := getD_all (p := fun x => x ∈ cs) (fun _ h => h) hlt
    refine Pu.use (szNodeS_spec (cs.getD i default) _ (by omega) (by omega) (hl.2 _ hm)) ?_
    have hsucc := psum_succ (f := totNL) hlt
    have hle := psum_le (f := totNL) (xs := cs) (i + 1)
    have et : totNL (cs.getD i default) = (cs.getD i default).length := rfl
    rw [et] at hsucc
    (try simp (maxSteps := 1000000) (disch := first | assumption | (apply Ne.symm; assumption)) only [vz, vu, vv, eqS, eqFieldsV, ↓condV_t, ↓condV_f, tabs, reduceCtorEq, Array.toList, ↓reduceIte, Nat.reduceAdd, Nat.reduceLeDiff, Nat.reduceLT, Nat.reduceMul, Nat.reduceSub, Int.reduceToNat, Int.reduceSub, Int.reduceAdd, Int.reduceNeg])
    refine ⟨fun h3 => ?_, fun h3 => ⟨i + 1, ⟨by omega, ?_⟩, by omega, ?_, ?_⟩⟩
    · rw [szR_neg]
      unfold szR at h3
      unfold totNss
      split at h3 <;> omega
    · unfold szR at h3
      split at h3 <;> omega
    · rw [wk_int]
      unfold szR at h3 ⊢
      split at h3
      · rename_i h4; rw [if_pos h4]; omega
      · omega
    · rw [wk_int, i64_id (by omega) (by omega)]; simp
  · have : i = cs.length := by omega
    subst this
    rw [szR_pos (by unfold totNss; omega)]
    unfold totNss
    exact congrArg (fun n : Int => I n) (by omega)
theorem toNodeSS_spec (xs : List (List Nd)) (hs : smNss xs) : Pu Tryz.prog 9 [Nss xs] (Nss xs) := by
  have hl := hs.1
  refine ⟨fun H => CallT.fin ?_⟩
  refine W9_ok ?_; simp (maxSteps := 1000000) (disch := first | assumption | (apply Ne.symm; assumption)) only [W9, vz, vu, vv, eqS, eqFieldsV, ↓condV_t, ↓condV_f, tabs, reduceCtorEq, Array.toList, ↓reduceIte, Nat.reduceAdd, Nat.reduceLeDiff, Nat.reduceLT, Nat.reduceMul, Nat.reduceSub, Int.reduceToNat, Int.reduceSub, Int.reduceAdd, Int.reduceNeg, makeSliceV]
  refine ⟨by omega, by omega, by omega, by omega, fun q hq => ?_⟩
  have z0 : rowZ eNN [.p .nil] xs 0 = zerosA xs.length [.p .nil] := rowZ_zero
  rw [← z0]
  refine L9_0_rule (0 : Nat) (fun i => I i) (fun i => H.set q (rowZ eNN [.p .nil] xs i)) (fun i => i ≤ xs.length) (fun i => xs.length - i) ⟨by omega, .refl _, Heap.le_refl _⟩ ?_
  intro i hi
  have hrl := rowZ_len (e := eNN) (zero := [.p .nil]) (xs := xs) (i := i) (sz := 1) (fun _ => rfl) rfl hi
  (try simp (maxSteps := 1000000) (disch := first | assumption | (apply Ne.symm; assumption)) only [vz, vu, vv, eqS, eqFieldsV, ↓condV_t, ↓condV_f, tabs, reduceCtorEq, Array.toList, ↓reduceIte, Nat.reduceAdd, Nat.reduceLeDiff, Nat.reduceLT, Nat.reduceMul, Nat.reduceSub, Int.reduceToNat, Int.reduceSub, Int.reduceAdd, Int.reduceNeg, B9_0])
  refine ⟨fun h => ⟨by omega, h, ?_⟩, fun h => ?_⟩
  · have hlt : i < xs.length := by omega
    have hput := rowZ_put (e := eNN) (zero := [.p .nil]) (xs := xs) (i := i) (sz := 1) (fun _ => rfl) rfl hlt rfl rfl
    have hm : xs.getD i default ∈ xs := getD_all (p := fun x => x ∈ xs) (fun _ h => h) hlt
    refine Pu.use (toNodeS_spec (xs.getD i default) (hs.2 _ hm)) ?_
    (try simp (maxSteps := 1000000) (disch := first | assumption | (apply Ne.symm; assumption)) only [vz, vu, vv, eqS, eqFieldsV, ↓condV_t, ↓condV_f, tabs, reduceCtorEq, Array.toList, ↓reduceIte, Nat.reduceAdd, Nat.reduceLeDiff, Nat.reduceLT, Nat.reduceMul, Nat.reduceSub, Int.reduceToNat, Int.reduceSub, Int.reduceAdd, Int.reduceNeg])
    refine ⟨by omega, h, by omega, i + 1, by omega, by omega, ?_, ?_⟩
    · rw [wk_int, i64_id (by omega) (by omega)]; simp
    · rw [← hput]; exact Heap.le_refl _
  · have : i = xs.length := by omega
    subst this
    have := fin_own (sz := 1) (es := xs.map eNN) (q := q) (H := H) (H' := H.set q (rowZ eNN [.p .nil] xs xs.length)) (K := fun r H' => r = Nss xs ∧ H' = H) (by omega) (sized_map (f := eNN) (fun _ => rfl) xs) hq (by rw [rowZ_end]; exact Heap.le_refl _) ⟨rfl, rfl⟩
    simpa only [Go.Sep.own, List.length_map] using this
theorem eqNodeSS_spec (xs : List (List Nd)) (hs : smNss xs) : Pu Tryz.prog 13 [Nss xs, Nss xs] (B true) := by
  have hl := hs.1
  refine Pu.of fun H => ?_
  refine W13_ok ?_; simp (maxSteps := 1000000) (disch := first | assumption | (apply Ne.symm; assumption)) only [W13, vz, vu, vv, eqS, eqFieldsV, ↓condV_t, ↓condV_f, tabs, reduceCtorEq, Array.toList, ↓reduceIte, Nat.reduceAdd, Nat.reduceLeDiff, Nat.reduceLT, Nat.reduceMul, Nat.reduceSub, Int.reduceToNat, Int.reduceSub, Int.reduceAdd, Int.reduceNeg]
  refine L13_0_rule (0 : Nat) (fun i => I i) (fun _ => H) (fun i => i ≤ xs.length) (fun i => xs.length - i) ⟨by omega, .refl _, Heap.le_refl _⟩ ?_
  intro i hi
  (try simp (maxSteps := 1000000) (disch := first | assumption | (apply Ne.symm; assumption)) only [vz, vu, vv, eqS, eqFieldsV, ↓condV_t, ↓condV_f, tabs, reduceCtorEq, Array.toList, ↓reduceIte, Nat.reduceAdd, Nat.reduceLeDiff, Nat.reduceLT, Nat.reduceMul, Nat.reduceSub, Int.reduceToNat, Int.reduceSub, Int.reduceAdd, Int.reduceNeg, B13_0])
  intro h
  have hlt : i < xs.length := by omega
  have hm : xs.getD i default ∈ xs := getD_all (p := fun x => x ∈ xs) (fun _ h => h) hlt
  refine ⟨by omega, h, by omega, h, ?_⟩
  refine Pu.use (eqNodeS_spec (xs.getD i default) (hs.2 _ hm)) ?_
  (try simp (maxSteps := 1000000) (disch := first | assumption | (apply Ne.symm; assumption)) only [vz, vu, vv, eqS, eqFieldsV, ↓condV_t, ↓condV_f, tabs, reduceCtorEq, Array.toList, ↓reduceIte, Nat.reduceAdd, Nat.reduceLeDiff, Nat.reduceLT, Nat.reduceMul, Nat.reduceSub, Int.reduceToNat, Int.reduceSub, Int.reduceAdd, Int.reduceNeg])
  refine ⟨i + 1, by omega, by omega, ?_⟩
  rw [wk_int, i64_id (by omega) (by omega)]; simp

theorem smNss_of_tot {cs : List (List Nd)} (h : (totNss cs : Int) ≤ 1048576) : smNss cs := by
  have h0 : totNss cs ≤ 1048576 := by omega
  unfold totNss at h0
  refine ⟨by omega, fun c hc => ?_⟩
  have h1 := psum_mem (f := totNL) hc
  have e1 : totNL c = c.length := rfl
  omega
def nTs (cs : List (List Nd)) : Prop := ∀ t ∈ cs, nT t
theorem vT_of {cs : List (List Nd)} (h : smNss cs) (hn : nTs cs) : ∀ t ∈ cs, vT t := fun t ht => ⟨h.2 t ht, hn t ht⟩

theorem IndexFuncNs_at (xs : List (List Nd)) (g : Nat) (caps : List AV) (p : List Nd → Bool) {H : Heap} (hl : xs.length ≤ 1000000000) (hp : ∀ x ∈ xs, PuAt Tryz.prog g (Ns x :: caps) H (B (p x))) :
    PuAt Tryz.prog 76 [Nss xs, .fn g caps] H (I (if xs.any p then (xs.findIdx p : Int) else -1)) := by
  intro K hK
  refine CallT.fin ?_
  refine W76_ok ?_; simp (maxSteps := 1000000) (disch := first | assumption | (apply Ne.symm; assumption)) only [W76, vz, vu, vv, eqS, eqFieldsV, ↓condV_t, ↓condV_f, tabs, reduceCtorEq, Array.toList, ↓reduceIte, Nat.reduceAdd, Nat.reduceLeDiff, Nat.reduceLT, Nat.reduceMul, Nat.reduceSub, Int.reduceToNat, Int.reduceSub, Int.reduceAdd, Int.reduceNeg]
  refine L76_0_rule (0 : Nat) (fun i => I i) (fun _ => H) (fun i => i ≤ xs.length ∧ ∀ j (hj : j < xs.length), j < i → p xs[j] = false) (fun i => xs.length - i) ⟨⟨by omega, by intros; omega⟩, .refl _, Heap.le_refl _⟩ ?_
  rintro i ⟨hi1, ha⟩
  (try simp (maxSteps := 1000000) (disch := first | assumption | (apply Ne.symm; assumption)) only [vz, vu, vv, eqS, eqFieldsV, ↓condV_t, ↓condV_f, tabs, reduceCtorEq, Array.toList, ↓reduceIte, Nat.reduceAdd, Nat.reduceLeDiff, Nat.reduceLT, Nat.reduceMul, Nat.reduceSub, Int.reduceToNat, Int.reduceSub, Int.reduceAdd, Int.reduceNeg, B76_0])
  refine ⟨fun h => ⟨by omega, h, ?_⟩, fun h => ?_⟩
  · have hlt : i < xs.length := by omega
    rw [getD_lt hlt]
    refine PuAt.use (hp _ (List.getElem_mem hlt)) ?_
    (try simp (maxSteps := 1000000) (disch := first | assumption | (apply Ne.symm; assumption)) only [vz, vu, vv, eqS, eqFieldsV, ↓condV_t, ↓condV_f, tabs, reduceCtorEq, Array.toList, ↓reduceIte, Nat.reduceAdd, Nat.reduceLeDiff, Nat.reduceLT, Nat.reduceMul, Nat.reduceSub, Int.reduceToNat, Int.reduceSub, Int.reduceAdd, Int.reduceNeg])
    refine ⟨fun h1 => ?_, fun h1 => ⟨i + 1, ⟨by omega, fun j hj hji => ?_⟩, by omega, ?_⟩⟩
    · have h2 : xs.any p = true := List.any_eq_true.2 ⟨xs[i], List.getElem_mem hlt, h1⟩
      have h3 : xs.findIdx p = i := by
        rw [List.findIdx_eq hlt]; exact ⟨h1, fun j hj => ha j (by omega) hj⟩
      rw [h2, h3] at hK; exact wkK.keep (by simpa using hK)
    · rcases Nat.lt_succ_iff_lt_or_eq.1 hji with h2 | rfl
      · exact ha j hj h2
      · exact h1
    · rw [wk_int, i64_id (by omega) (by omega)]; simp
  · have hi : i = xs.length := by omega
    have h2 : xs.any p = false := by
      rw [List.any_eq_false]
      intro x hx
      obtain ⟨j, hj, rfl⟩ := List.mem_iff_getElem.1 hx
      rw [ha j hj (by omega)]; simp
    rw [h2] at hK; exact wkK.keep (by simpa using hK)

theorem ContainsFuncNs_at (xs : List (List Nd)) (g : Nat) (caps : List AV) (p : List Nd → Bool) {H : Heap} (hl : xs.length ≤ 1000000000) (hp : ∀ x ∈ xs, PuAt Tryz.prog g (Ns x :: caps) H (B (p x))) :
    PuAt Tryz.prog 56 [Nss xs, .fn g caps] H (B (xs.any p)) := by
  intro K hK
  refine W56_ok ?_; simp (maxSteps := 1000000) (disch := first | assumption | (apply Ne.symm; assumption)) only [W56, vz, vu, vv, eqS, eqFieldsV, ↓condV_t, ↓condV_f, tabs, reduceCtorEq, Array.toList, ↓reduceIte, Nat.reduceAdd, Nat.reduceLeDiff, Nat.reduceLT, Nat.reduceMul, Nat.reduceSub, Int.reduceToNat, Int.reduceSub, Int.reduceAdd, Int.reduceNeg]
  refine PuAt.use (IndexFuncNs_at xs g caps p hl hp) ?_
  (try simp (maxSteps := 1000000) (disch := first | assumption | (apply Ne.symm; assumption)) only [vz, vu, vv, eqS, eqFieldsV, ↓condV_t, ↓condV_f, tabs, reduceCtorEq, Array.toList, ↓reduceIte, Nat.reduceAdd, Nat.reduceLeDiff, Nat.reduceLT, Nat.reduceMul, Nat.reduceSub, Int.reduceToNat, Int.reduceSub, Int.reduceAdd, Int.reduceNeg])
  cases h : xs.any p <;> simp [h] at hK ⊢ <;> exact hK
end Go.Proofs.YtdnfiacjoghfkaaGreat
/- Arguments by value: rows of conditions. -/
namespace Go.Proofs.YtdnfiacjoghfkaaGreat
open Go Go.Sep Go.Pt Go.RowKit
set_option linter.unusedVariables false

theorem typed_nodess {x : List PV} (h : Typed Tryz.prog 26 x) : ∃ t : List (List Nd), (okNss t ∧ nTs t) ∧ x = [.sl (t.map eNN)] := by
  obtain ⟨es, rfl, hl, he⟩ := typed_slice (e := 22) (by kernel_rfl) h
  obtain ⟨t, h1, rfl, h3⟩ := rows_of (Q := fun a => ok a.length ∧ nT a) (e := eNN) es fun y hy => typed_nodes (he y hy)
  exact ⟨t, ⟨⟨by unfold ok; omega, fun c hc => (h1 c hc).1⟩, fun c hc => (h1 c hc).2⟩, rfl⟩
theorem arg_nodess {v : AV} (h : ArgT Tryz.prog 26 v) : ∃ t : List (List Nd), okNss t ∧ nTs t ∧ v = Nss t := by
  have hu := sliceIs_ok (P := Tryz.prog) (t := 26) (e := 22) (by kernel_rfl)
  obtain ⟨p, g, rfl⟩ := arg_cell (fun fs h => by rw [hu] at h; cases h) h
  obtain ⟨t, ht, e⟩ := typed_nodess g
  injection e with e
  exact ⟨t, ht.1, ht.2, by rw [e]⟩
end Go.Proofs.YtdnfiacjoghfkaaGreat
/- Plain facts: values of terms, by a pile and by their trees. -/
namespace Go.Pt

/-- The two's complement value of a word. -/
def sgn (w a : Nat) : Int := if a < 2 ^ (w - 1) then a else (a : Int) - 2 ^ w
/-- What an operator makes of two words. -/
def ap (w : Nat) (op : Int) (a b : Nat) : Nat :=
  if op = 3 then (a + b) % 2 ^ w
  else if op = 4 then (a + 2 ^ w - b) % 2 ^ w
  else if op = 5 then a * b % 2 ^ w
  else if op = 6 then (if b = 0 then 2 ^ w - 1 else a / b)
  else if op = 7 then (if b = 0 then a else a % b)
  else if op = 8 ∨ op = 17 then a &&& b
  else if op = 9 ∨ op = 18 then a ||| b
  else if op = 10 then a ^^^ b
  else if op = 11 then (if w ≤ b then 0 else a * 2 ^ b % 2 ^ w)
  else if op = 12 then (if w ≤ b then 0 else a / 2 ^ b)
  else if op = 14 then (if a = b then 1 else 0)
  else if op = 15 then (if a < b then 1 else 0)
  else if op = 16 then (if sgn w a < sgn w b then 1 else 0)
  else 0
def un (w : Nat) (op : Int) (a : Nat) : Nat := if op = 13 then 2 ^ w - 1 - a else 1 - a
def leafV (s : List Nat) (x : Nd) : Nat := if x.op = 2 then s.getD x.n.toNat 0 else x.n.toNat
/-- A value of a kind. -/
def okV (w : Nat) (k : Int) (a : Nat) : Prop := a < 2 ^ w ∧ (k ≠ 1 → a ≤ 1)

theorem many_cases (op : Int) : many op = 0 ∨ many op = 1 ∨ many op = 2 := by
  unfold many
  split
  · exact .inr (.inl rfl)
  · split
    · exact .inr (.inr rfl)
    · exact .inl rfl
theorem many1 {op : Int} (h : many op = 1) : op = 13 ∨ op = 19 := by
  unfold many at h
  split at h
  · assumption
  · split at h <;> omega
theorem many2 {op : Int} (h : many op = 2) : (3 ≤ op ∧ op ≤ 12) ∨ (14 ≤ op ∧ op ≤ 16) ∨ op = 17 ∨ op = 18 := by
  unfold many at h
  split at h
  · omega
  · split at h
    · assumption
    · omega
theorem many0 {op : Int} (h : many op = 0) (ho : own op ≠ 0) : op = 1 ∨ op = 2 ∨ op = 20 := by
  unfold many at h
  unfold own at ho
  split at h
  · omega
  · split at h
    · omega
    · split at ho
      · omega
      · split at ho <;> omega

theorem le_one_pow {w a : Nat} (hw : 1 ≤ w) (h : a ≤ 1) : a < 2 ^ w := by
  have : 2 ^ 1 ≤ 2 ^ w := Nat.pow_le_pow_right (by decide) hw
  omega

theorem un_ok {w : Nat} {op : Int} {a : Nat} (hw : 1 ≤ w) (h1 : many op = 1) (ha : okV w (part op) a) : okV w (own op) (un w op a) := by
  have hp := Nat.two_pow_pos w
  rcases many1 h1 with rfl | rfl
  · refine ⟨?_, fun h => absurd rfl h⟩
    unfold un; rw [if_pos rfl]; omega
  · have e : un w 19 a = 1 - a := rfl
    rw [e]
    exact ⟨le_one_pow hw (by omega), fun _ => by omega⟩

theorem div_lt' {a b m : Nat} (h : a < m) : a / b < m := Nat.lt_of_le_of_lt (Nat.div_le_self a b) h
theorem and_one {a b : Nat} (ha : a ≤ 1) (hb : b ≤ 1) : a &&& b ≤ 1 ∧ a ||| b ≤ 1 := by
  have h1 : a = 0 ∨ a = 1 := by omega
  have h2 : b = 0 ∨ b = 1 := by omega
  rcases h1 with rfl | rfl <;> rcases h2 with rfl | rfl <;> decide
theorem ite01 (p : Prop) [Decidable p] : (if p then 1 else 0 : Nat) ≤ 1 := by split <;> omega

theorem ap_ok {w : Nat} {op : Int} {a b : Nat} (hw : 1 ≤ w) (h2 : many op = 2) (ha : okV w (part op) a) (hb : okV w (part op) b) : okV w (own op) (ap w op a b) := by
  have hp := Nat.two_pow_pos w
  have md : ∀ x, x % 2 ^ w < 2 ^ w := fun x => Nat.mod_lt _ hp
  have k1 : own op = 1 → ap w op a b < 2 ^ w → okV w (own op) (ap w op a b) := fun h h3 => ⟨h3, fun h4 => absurd h h4⟩
  have k2 : ap w op a b ≤ 1 → okV w (own op) (ap w op a b) := fun h => ⟨le_one_pow hw h, fun _ => h⟩
  have ha1 := ha.1
  have hb1 := hb.1
  rcases many2 h2 with h | h | rfl | rfl
  · obtain rfl | rfl | rfl | rfl | rfl | rfl | rfl | rfl | rfl | rfl : op = 3 ∨ op = 4 ∨ op = 5 ∨ op = 6 ∨ op = 7 ∨ op = 8 ∨ op = 9 ∨ op = 10 ∨ op = 11 ∨ op = 12 := by omega
    · exact k1 rfl (md _)
    · exact k1 rfl (md _)
    · exact k1 rfl (md _)
    · refine k1 rfl ?_
      show (if b = 0 then 2 ^ w - 1 else a / b) < _
      split
      · omega
      · exact div_lt' ha1
    · refine k1 rfl ?_
      show (if b = 0 then a else a % b) < _
      split
      · exact ha1
      · exact Nat.lt_of_le_of_lt (Nat.mod_le _ _) ha1
    · exact k1 rfl (Nat.and_lt_two_pow a hb1)
    · exact k1 rfl (Nat.or_lt_two_pow ha1 hb1)
    · exact k1 rfl (Nat.xor_lt_two_pow ha1 hb1)
    · refine k1 rfl ?_
      show (if w ≤ b then 0 else a * 2 ^ b % 2 ^ w) < _
      split
      · exact hp
      · exact md _
    · refine k1 rfl ?_
      show (if w ≤ b then 0 else a / 2 ^ b) < _
      split
      · exact hp
      · exact div_lt' ha1
  · obtain rfl | rfl | rfl : op = 14 ∨ op = 15 ∨ op = 16 := by omega
    · exact k2 (ite01 _)
    · exact k2 (ite01 _)
    · exact k2 (ite01 _)
  · exact k2 (and_one (ha.2 (by decide)) (hb.2 (by decide))).1
  · exact k2 (and_one (ha.2 (by decide)) (hb.2 (by decide))).2

/-- The tree of node k: where it begins, its kind, its value. -/
inductive Tr (w : Nat) (t : List Nd) (s : List Nat) : Nat → Nat → Int → Nat → Prop
  | leaf (k : Nat) (hk : k < t.length) (h0 : many (t.getD k default).op = 0) (ho : own (t.getD k default).op ≠ 0) (hv : okV w (own (t.getD k default).op) (leafV s (t.getD k default))) :
      Tr w t s k k (own (t.getD k default).op) (leafV s (t.getD k default))
  | one (k f a : Nat) (hk : k + 1 < t.length) (h1 : many (t.getD (k + 1) default).op = 1) (h : Tr w t s k f (part (t.getD (k + 1) default).op) a) :
      Tr w t s (k + 1) f (own (t.getD (k + 1) default).op) (un w (t.getD (k + 1) default).op a)
  | two (k f g a b : Nat) (hk : k + 1 < t.length) (h2 : many (t.getD (k + 1) default).op = 2) (hb : Tr w t s k (f + 1) (part (t.getD (k + 1) default).op) b) (ha : Tr w t s f g (part (t.getD (k + 1) default).op) a) :
      Tr w t s (k + 1) g (own (t.getD (k + 1) default).op) (ap w (t.getD (k + 1) default).op a b)

theorem Tr.lt {w : Nat} {t : List Nd} {s : List Nat} {k f : Nat} {kd : Int} {a : Nat} (h : Tr w t s k f kd a) : k < t.length ∧ f ≤ k := by
  induction h with
  | leaf k hk => exact ⟨hk, Nat.le_refl _⟩
  | one k f a hk h1 h ih => exact ⟨hk, by omega⟩
  | two k f g a b hk h2 hb ha ihb iha => exact ⟨hk, by omega⟩
theorem Tr.okV {w : Nat} {t : List Nd} {s : List Nat} (hw : 1 ≤ w) {k f : Nat} {kd : Int} {a : Nat} (h : Tr w t s k f kd a) : okV w kd a := by
  induction h with
  | leaf k hk h0 ho hv => exact hv
  | one k f a hk h1 h ih => exact un_ok hw h1 ih
  | two k f g a b hk h2 hb ha ihb iha => exact ap_ok hw h2 iha ihb

inductive Stk (w : Nat) (t : List Nd) (s : List Nat) : Nat → List Int → List Nat → Prop
  | nil : Stk w t s 0 [] []
  | snoc (i : Nat) (p : List Int) (vs : List Nat) (k : Nat) (kd : Int) (a : Nat) (h : Stk w t s i p vs) (ht : Tr w t s k i kd a) : Stk w t s (k + 1) (p ++ [kd]) (vs ++ [a])

theorem Stk.len {w : Nat} {t : List Nd} {s : List Nat} {i : Nat} {p : List Int} {vs : List Nat} (h : Stk w t s i p vs) : vs.length = p.length := by
  induction h with
  | nil => rfl
  | snoc i p vs k kd a h ht ih => simp [ih]
theorem Stk.inv {w : Nat} {t : List Nd} {s : List Nat} {i : Nat} {p : List Int} {vs : List Nat} (h : Stk w t s i p vs) (hp : p ≠ []) : ∃ i0 p0 vs0 k kd a, i = k + 1 ∧ p = p0 ++ [kd] ∧ vs = vs0 ++ [a] ∧ Stk w t s i0 p0 vs0 ∧ Tr w t s k i0 kd a := by
  cases h with
  | nil => exact absurd rfl hp
  | snoc i0 p0 vs0 k kd a h ht => exact ⟨i0, p0, vs0, k, kd, a, rfl, rfl, rfl, h, ht⟩

theorem Stk.nil_inv {w : Nat} {t : List Nd} {s : List Nat} {i : Nat} {p : List Int} {vs : List Nat} (h : Stk w t s i p vs) (hp : p = []) : i = 0 ∧ vs = [] := by
  cases h with
  | nil => exact ⟨rfl, rfl⟩
  | snoc i0 p0 vs0 k kd a h ht => simp at hp

theorem Stk.bound {w : Nat} {t : List Nd} {s : List Nat} {i : Nat} {p : List Int} {vs : List Nat} (h : Stk w t s i p vs) : p.length ≤ i := by
  induction h with
  | nil => exact Nat.le_refl _
  | snoc i p vs k kd a h ht ih =>
    have := ht.lt
    simp only [List.length_append, List.length_cons, List.length_nil]; omega
theorem Stk.okV {w : Nat} {t : List Nd} {s : List Nat} (hw : 1 ≤ w) {i : Nat} {p : List Int} {vs : List Nat} (h : Stk w t s i p vs) : ∀ j, j < vs.length → Pt.okV w (p.getD j 0) (vs.getD j 0) := by
  induction h with
  | nil => intro j hj; simp at hj
  | snoc i p vs k kd a h ht ih =>
    intro j hj
    have hl := h.len
    by_cases e : j < vs.length
    · have := ih j e
      have e1 : (p ++ [kd]).getD j 0 = p.getD j 0 := by simp only [List.getD, List.getElem?_append_left (show j < p.length by omega)]
      have e2 : (vs ++ [a]).getD j 0 = vs.getD j 0 := by simp only [List.getD, List.getElem?_append_left e]
      rw [e1, e2]; exact this
    · have hj2 : j = vs.length := by simp at hj; omega
      subst hj2
      have e1 : (p ++ [kd]).getD vs.length 0 = kd := by simp [List.getD, hl]
      have e2 : (vs ++ [a]).getD vs.length 0 = a := by simp [List.getD]
      rw [e1, e2]; exact ht.okV hw

def stepV (w : Nat) (s vs : List Nat) (x : Nd) : List Nat :=
  if many x.op = 0 then vs ++ [leafV s x]
  else if many x.op = 1 then vs.take (vs.length - 1) ++ [un w x.op (vs.getD (vs.length - 1) 0)]
  else vs.take (vs.length - 2) ++ [ap w x.op (vs.getD (vs.length - 2) 0) (vs.getD (vs.length - 1) 0)]

theorem leaf_ok {w v : Nat} {s : List Nat} {x : Nd} (hw : 1 ≤ w) (hs : s.length = v) (hsw : ∀ a ∈ s, a < 2 ^ w) (hx : 0 ≤ x.n) (h0 : many x.op = 0) (ho : own x.op ≠ 0) (hl : leafOk w v x = true) : okV w (own x.op) (leafV s x) := by
  rcases many0 h0 ho with h | h | h
  · unfold leafOk at hl
    rw [if_pos h] at hl
    simp only [Bool.and_eq_true, decide_eq_true_eq, Int.toNat_natCast] at hl
    have e : leafV s x = x.n.toNat := by unfold leafV; rw [if_neg (by omega)]
    rw [e, h]
    refine ⟨?_, fun hh => absurd rfl hh⟩
    have h2 := hl.2
    have : ((2 ^ w : Nat) : Int) = (2 : Int) ^ w := by simp
    omega
  · unfold leafOk at hl
    rw [if_neg (by omega), if_pos h] at hl
    simp only [decide_eq_true_eq] at hl
    have e : leafV s x = s.getD x.n.toNat 0 := by unfold leafV; rw [if_pos h]
    rw [e, h]
    refine ⟨?_, fun hh => absurd rfl hh⟩
    have hlt : x.n.toNat < s.length := by omega
    have : s.getD x.n.toNat 0 = s[x.n.toNat] := by simp [List.getD, hlt]
    rw [this]; exact hsw _ (List.getElem_mem hlt)
  · unfold leafOk at hl
    rw [if_neg (by omega), if_neg (by omega), if_pos h] at hl
    simp only [decide_eq_true_eq] at hl
    have e : leafV s x = x.n.toNat := by unfold leafV; rw [if_neg (by omega)]
    rw [e]
    exact ⟨le_one_pow hw (by omega), fun _ => by omega⟩

theorem step_inv {w v : Int} {p p' : List Int} {x : Nd} (h : step w v p x = some p') : own x.op ≠ 0 ∧ leafOk w v x = true ∧ many x.op ≤ p.length ∧ (∀ k ∈ p.drop (p.length - many x.op), k = part x.op) ∧ p' = p.take (p.length - many x.op) ++ [own x.op] := by
  unfold step at h
  split at h
  · cases h
  · rename_i h1
    split at h
    · cases h
    · rename_i h2
      injection h with h
      refine ⟨fun e => h1 (.inl e), ?_, by omega, fun k hk => ?_, h.symm⟩
      · cases hh : leafOk w v x
        · exact absurd (.inr (.inl hh)) h1
        · rfl
      · cases hh : decide (k = part x.op)
        · exfalso; apply h2
          rw [List.any_eq_true]
          exact ⟨k, hk, by simpa using hh⟩
        · simpa using hh

theorem Stk.step {w v : Nat} {t : List Nd} {s : List Nat} {i : Nat} {p p' : List Int} {vs : List Nat} (hw : 1 ≤ w) (hs : s.length = v) (hsw : ∀ a ∈ s, a < 2 ^ w) (h : Stk w t s i p vs) (hi : i < t.length) (hx : 0 ≤ (t.getD i default).n)
    (hp : Pt.step w v p (t.getD i default) = some p') : Stk w t s (i + 1) p' (stepV w s vs (t.getD i default)) := by
  obtain ⟨ho, hl, hm, hk, rfl⟩ := step_inv hp
  have hlen := h.len
  rcases many_cases (t.getD i default).op with h0 | h1 | h2
  · have e : stepV w s vs (t.getD i default) = vs ++ [leafV s (t.getD i default)] := by unfold stepV; rw [if_pos h0]
    rw [e, h0, Nat.sub_zero, List.take_length]
    exact .snoc i p vs i _ _ h (.leaf i hi h0 ho (leaf_ok hw hs hsw hx h0 ho hl))
  · obtain ⟨i0, p0, vs0, k, kd, a, rfl, rfl, rfl, hst, htr⟩ := h.inv (by intro e; rw [e] at hm; simp only [List.length_nil] at hm; omega)
    have e : stepV w s (vs0 ++ [a]) (t.getD (k + 1) default) = vs0 ++ [un w (t.getD (k + 1) default).op a] := by
      unfold stepV; rw [if_neg (by omega), if_pos h1]; simp
    rw [e, h1]
    rw [h1] at hk
    have hkd : kd = part (t.getD (k + 1) default).op := hk kd (by simp)
    subst hkd
    simp only [List.length_append, List.length_cons, List.length_nil, Nat.zero_add, Nat.add_sub_cancel, List.take_left]
    exact .snoc i0 p0 vs0 (k + 1) _ _ hst (.one k i0 a hi h1 htr)
  · obtain ⟨i1, p1, vs1, k, kd, b, rfl, rfl, rfl, hst1, htr1⟩ := h.inv (by intro e; rw [e] at hm; simp only [List.length_nil] at hm; omega)
    obtain ⟨i0, p0, vs0, f, kd0, a, rfl, rfl, rfl, hst, htr⟩ := hst1.inv (by intro e; rw [e] at hm; simp only [List.length_nil, List.length_append, List.length_cons] at hm; omega)
    have e : stepV w s (vs0 ++ [a] ++ [b]) (t.getD (k + 1) default) = vs0 ++ [ap w (t.getD (k + 1) default).op a b] := by
      unfold stepV; rw [if_neg (by omega), if_neg (by omega)]
      simp [List.getD]
    rw [e, h2]
    rw [h2] at hk
    have hkd : kd = part (t.getD (k + 1) default).op := hk kd (by simp)
    have hkd0 : kd0 = part (t.getD (k + 1) default).op := hk kd0 (by simp)
    subst hkd; subst hkd0
    have e2 : (p0 ++ [part (t.getD (k + 1) default).op] ++ [part (t.getD (k + 1) default).op]).take ((p0 ++ [part (t.getD (k + 1) default).op] ++ [part (t.getD (k + 1) default).op]).length - 2) = p0 := by simp
    rw [e2]
    exact .snoc i0 p0 vs0 (k + 1) _ _ hst (.two k f i0 a b hi h2 htr1 htr)

/-- The pile after some nodes. -/
def pileV (w : Nat) (s : List Nat) (t : List Nd) (i : Nat) : List Nat := (t.take i).foldl (stepV w s) []
theorem pileV_succ {w : Nat} {s : List Nat} {t : List Nd} {i : Nat} (h : i < t.length) : pileV w s t (i + 1) = stepV w s (pileV w s t i) (t.getD i default) := by
  unfold pileV; rw [take_succ_snoc h, List.foldl_append]; rfl
def tval (w : Nat) (t : List Nd) (s : List Nat) : Nat := (pileV w s t t.length).getD 0 0

theorem Stk.run {w v : Nat} {t : List Nd} {s : List Nat} (hw : 1 ≤ w) (hs : s.length = v) (hsw : ∀ a ∈ s, a < 2 ^ w) (hx : ∀ x ∈ t, 0 ≤ x.n) : ∀ (i : Nat) (p : List Int), i ≤ t.length → run w v [] (t.take i) = some p → Stk w t s i p (pileV w s t i)
  | 0, p, _, h => by
    simp only [List.take_zero, Pt.run, Option.some.injEq] at h
    subst h; exact .nil
  | i + 1, p, hi, h => by
    have hlt : i < t.length := hi
    rw [take_succ_snoc hlt, run_snoc] at h
    cases hr : Pt.run w v [] (t.take i) with
    | none => rw [hr] at h; cases h
    | some p0 =>
      rw [hr] at h
      rw [pileV_succ hlt]
      refine Stk.step hw hs hsw (Stk.run hw hs hsw hx i p0 (by omega) hr) hlt ?_ h
      have : t.getD i default = t[i] := by simp [List.getD, hlt]
      rw [this]; exact hx _ (List.getElem_mem hlt)

theorem run_prefix {w v : Int} {t : List Nd} {p : List Int} (h : run w v [] t = some p) (i : Nat) : ∃ p', run w v [] (t.take i) = some p' := by
  have e : t = t.take i ++ t.drop i := (List.take_append_drop _ _).symm
  rw [e, run_app] at h
  cases hr : run w v [] (t.take i) with
  | none => rw [hr] at h; cases h
  | some p' => exact ⟨p', rfl⟩
theorem kind_run {w v : Int} {t : List Nd} {k : Int} (hk : k ≠ 0) (h : kind w v t = k) : frame w v t = true ∧ run w v [] t = some [k] := by
  unfold kind at h
  split at h
  · rename_i hf
    refine ⟨hf, ?_⟩
    split at h
    · rename_i k' hr; rw [hr, h]
    · exact absurd h.symm hk
  · exact absurd h.symm hk

/-- A good term is the tree of its last node. -/
theorem kind_tree {w v : Nat} {t : List Nd} {s : List Nat} {k : Int} (hs : s.length = v) (hsw : ∀ a ∈ s, a < 2 ^ w) (hx : ∀ x ∈ t, 0 ≤ x.n) (hk : k ≠ 0) (h : kind w v t = k) :
    1 ≤ w ∧ 1 ≤ t.length ∧ t.length ≤ 48 ∧ Tr w t s (t.length - 1) 0 k (tval w t s) ∧ (∀ i, i ≤ t.length → ∃ p, Stk w t s i p (pileV w s t i) ∧ (i < t.length → ∃ p', step w v p (t.getD i default) = some p')) ∧ (pileV w s t t.length).length = 1 := by
  obtain ⟨hf, hr⟩ := kind_run hk h
  simp only [frame, Bool.and_eq_true, inB_iff, decide_eq_true_eq] at hf
  have hw : 1 ≤ w := by omega
  have hall := Stk.run hw hs hsw hx (t := t)
  have hst := hall t.length [k] (Nat.le_refl _) (by rw [List.take_length]; exact hr)
  obtain ⟨i0, p0, vs0, k1, kd, a, e1, e2, e3, h1, h2⟩ := hst.inv (by simp)
  have hp0 : p0 = [] := by
    have := congrArg List.length e2
    simp at this; simpa using this
  subst hp0
  have hkd : kd = k := by simpa using e2.symm
  subst hkd
  obtain ⟨rfl, rfl⟩ := h1.nil_inv rfl
  refine ⟨hw, hf.2.1, hf.2.2, ?_, fun i hi => ?_, by rw [e3]; rfl⟩
  · have : tval w t s = a := by unfold tval; rw [e3]; rfl
    rw [this, show t.length - 1 = k1 by omega]; exact h2
  · obtain ⟨p, hp⟩ := run_prefix hr i
    refine ⟨p, hall i p hi hp, fun hlt => ?_⟩
    obtain ⟨p', hp'⟩ := run_prefix hr (i + 1)
    rw [take_succ_snoc hlt, run_snoc, hp] at hp'
    exact ⟨p', hp'⟩
theorem kind_var {w v : Nat} {t : List Nd} {k : Int} (hk : k ≠ 0) (h : kind w v t = k) : ∀ x ∈ t, x.op = 2 → x.n < v := by
  obtain ⟨hf, hr⟩ := kind_run hk h
  intro x hx h2
  obtain ⟨i, hi, rfl⟩ := List.mem_iff_getElem.1 hx
  obtain ⟨p, hp⟩ := run_prefix hr i
  obtain ⟨p', hp'⟩ := run_prefix hr (i + 1)
  rw [take_succ_snoc hi, run_snoc, hp] at hp'
  have e : t.getD i default = t[i] := by simp [List.getD, hi]
  rw [e] at hp'
  obtain ⟨_, hl, _⟩ := step_inv hp'
  unfold leafOk at hl
  rw [if_neg (by omega), if_pos h2] at hl
  exact of_decide_eq_true hl
end Go.Pt
