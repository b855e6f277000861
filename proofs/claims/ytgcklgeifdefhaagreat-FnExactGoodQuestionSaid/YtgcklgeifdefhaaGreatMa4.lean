/- Specs: rows of numbers laid one behind the other, moved, copied. -/
import Derived.Test.YtgcklgeifdefhaaGreatMa3
import Derived.Test.YtgcklgeifdefhaaGreatMa2
namespace Go.Proofs.YtgcklgeifdefhaaGreat
open Go Go.Sep Go.Pt
set_option linter.unusedSimpArgs false
set_option linter.unusedVariables false
attribute [local irreducible] CallT

theorem cI_len (xs : List Int) : (cP fI xs).length = xs.length := by simp [cP]
theorem cI_app (xs ys : List Int) : cP fI (xs ++ ys) = cP fI xs ++ cP fI ys := by simp [cP]
theorem app_intsX {q : Nat} {xs ys : List Int} {ex : List AV} {G : Heap} {K : AV → Heap → Prop} (hq : G q = some (cP fI xs ++ ex)) (hl : xs.length + ys.length ≤ 1000000000)
    (h : ∀ q', G q' = none → q' ≠ q → K (rowP q' (xs ++ ys)) ((G.del q).set q' (cP fI (xs ++ ys)))) : appendV tab 46 46 (rowP q xs) (Is ys) G (wkK K) := by
  have hlen := cI_len xs
  simp only [appendV, tab_46, tab_3, srcV, baseV, hq]
  have e2 : List.map AV.p (List.map eI ys).flatten = cP fI ys := flat_P fI ys
  refine ⟨szI ys, trivial, by rw [List.length_append, hlen]; omega, by simp only [List.length_map]; omega, by simp only [List.length_map]; omega, cells_cell _, fun q' hq' => wkK.keep ?_⟩
  have hne : q' ≠ q := fun e => by rw [e, hq] at hq'; cases hq'
  have := h q' hq' hne
  have e : List.take (xs.length * 1) (List.drop 0 (cP fI xs ++ ex)) = cP fI xs := by rw [List.drop_zero, Nat.mul_one, ← hlen, List.take_left]
  rw [e, e2, List.length_map]
  rw [cI_app] at this
  simpa only [rowP, List.length_append] using this
theorem app_topI {q : Nat} {xs ys : List Int} {G : Heap} {K : AV → Heap → Prop} (hq : G q = none) (hl : xs.length + ys.length ≤ 1000000) (h : ∀ q', G q' = none → K (rowP q' (xs ++ ys)) (G.set q' (cP fI (xs ++ ys)))) :
    appendV tab 46 46 (rowP q xs) (Is ys) (G.set q (cP fI xs)) (wkK K) :=
  app_intsX (ex := []) (by rw [Heap.set_same, List.append_nil]) (by omega) fun q' hq' hne => by
    rw [Heap.del_set hq]
    rw [Heap.set_none] at hq'
    exact h q' hq'.2
theorem push_topI {q : Nat} {xs : List Int} {b : Int} {G : Heap} {K : AV → Heap → Prop} (hq : G q = none) (hl : xs.length ≤ 100000) (h : ∀ q', G q' = none → K (rowP q' (xs ++ [b])) (G.set q' (cP fI (xs ++ [b])))) :
    buildSliceV tab 46 1 [(0, I b)] (G.set q (cP fI xs)) (wkK fun v H1 => appendV tab 46 46 (rowP q xs) v H1 (wkK K)) := by
  refine lit1 tab_46 rfl tab_3 ⟨rfl, rfl⟩ ?_
  exact app_topI (ys := [b]) hq (by simp; omega) h
theorem lit0I {G : Heap} {K : AV → Heap → Prop} (h : ∀ q, G q = none → K (rowP q ([] : List Int)) (G.set q (cP fI []))) : buildSliceV tab 46 0 [] G (wkK K) := by
  simp only [buildSliceV, tab_46, tab_3]
  refine ⟨by omega, ?_⟩
  simp only [fillV, zerosA, List.replicate_zero, List.flatten_nil]
  exact fun r hr => wkK.keep (h r hr)

def mv (l : List Int) (b : Int) : List Int := l.map (· + b)
def below (n : Nat) : List Int := (List.range n).map fun (i : Nat) => (i : Int)
theorem below_succ (n : Nat) : below (n + 1) = below n ++ [(n : Int)] := by simp [below, List.range_succ]
theorem below_len (n : Nat) : (below n).length = n := by simp [below]
/-- Numbers that are not great. -/
def smI (l : List Int) : Prop := l.length ≤ 10000 ∧ ∀ x ∈ l, 0 ≤ x ∧ x ≤ 100000

theorem fin_int {q : Nat} {xs : List Int} {H G : Heap} (hq : H q = none) (hG : Heap.le (H.set q (cP fI xs)) G) : wkK (fun r H' => r = Is xs ∧ H' = H) (rowP q xs) G := by
  have := fin_own (sz := 1) (es := xs.map eI) (q := q) (H := H) (H' := G) (K := fun r H' => r = Is xs ∧ H' = H) (by omega) (szI _) hq (by
    have e : cells (xs.map eI) = cP fI xs := cells_P fI xs
    rw [e]; exact hG) ⟨rfl, rfl⟩
  simpa only [Go.Sep.own, List.length_map] using this

def goalAt (a : Au) (k : Int) : List Int := if k < a.goals.length then a.goals.getD k.toNat default else below a.states.toNat
theorem LI_mk' {xs : List Int} {q : Nat} {G : Heap} (h : G q = some (cP fI xs)) : LI xs (rowP q xs) G [q] := LI_mk (by
  have e : cells (xs.map eI) = cP fI xs := cells_P fI xs
  rw [e]; exact h)
theorem lit_live1 {G : Heap} {K : AV → Heap → Prop} {q n : Nat} (h : ∀ ql, G ql = none → K (.sl ql 1 0 1) (G.set ql [.sl q 1 0 n])) : buildSliceV tab 60 1 [(0, .sl q 1 0 n)] G (wkK K) := by
  simp only [buildSliceV, tab_60, tab_46]
  refine ⟨by omega, ?_⟩
  simp only [fillV, zerosA, List.replicate_succ, List.replicate_zero, List.flatten_cons, List.flatten_nil, List.append_nil, AV.cells, splice]
  simp only [List.length_cons, List.length_nil, Nat.reduceAdd, Nat.zero_mul, Nat.zero_add, Nat.le_refl, and_self, if_true, List.take_zero, List.nil_append, List.drop_succ_cons, List.drop_zero, List.append_nil]
  exact fun r hr => wkK.keep (h r hr)
theorem CloneI_row (xs : List Int) (hl : xs.length ≤ 100000) {H : Heap} {K : AV → Heap → Prop} (h : ∀ q, H q = none → K (rowP q xs) (H.set q (cP fI xs))) : CallT Tryz.prog 169 [Is xs] H K := by
  refine CallT.fin ?_
  refine CallT.ghost W169_hb fun q0 hq0 => ?_
  refine W169_ok ?_; simp (maxSteps := 1000000) (disch := (first | assumption | (apply Ne.symm; assumption))) only [W169, vw0, vw1, vw2, vw3, vw4, vu0, vu1, ↓condV_t, ↓condV_f, cap_nil, allocV, splice, partV, buildV, eqFieldsV, eqS, tabs, TK.agg, reduceCtorEq, Array.toList, List.map_cons, List.map_nil, ↓reduceIte, List.length_map, Nat.reduceAdd, Nat.reduceLeDiff, Nat.reduceLT, Nat.reduceMul, Nat.reduceSub, Option.bind_some, Option.map_some, bndV, numV, eI, eU, e8, eB, AV.isCell, Int.reduceToNat, Int.reduceSub, Int.reduceAdd, Int.reduceNeg]
  have main : buildSliceV tab 46 0 [] (H.set q0 []) (wkK fun v5 H1 => appendV tab 46 46 v5 (Is xs) H1 (wkK fun v7 H2 => wkK K v7 H2)) := by
    refine lit0I fun q1 hq1 => ?_
    refine app_topI (xs := []) (ys := xs) hq1 (by simp; omega) fun q2 hq2 => ?_
    rw [Heap.set_none] at hq2
    rw [List.nil_append]
    refine fin_le ?_ (h q2 hq2.2)
    generalize cP fI xs = z
    have := hq2.2
    have := hq2.1
    (intro y b hy; simp only [Heap.set, Heap.del] at hy ⊢; (repeat' split at hy) <;> (repeat' split) <;> simp_all [cells])
  refine ⟨fun h0 => ⟨?_, main⟩, fun _ => main⟩
  have hx : xs = [] := List.map_eq_nil_iff.1 h0
  subst hx
  exact ⟨_, _, .val (.nilo q0 1 0), h q0 hq0⟩
end Go.Proofs.YtgcklgeifdefhaaGreat
