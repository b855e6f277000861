/- Texts laid together: Mf0 Lr3 Lq1 Ss1 Lay Ps1 Ss2 Ms1 Mf1 Mf2 Mf3 Lq2 Lr5 Lr6 Lr4. -/
import Derived.Test.YtgcklgeifdefhaaGreatPkd8
import Derived.Sort.Grow
import Derived.Shelf.SlGeneric
import Derived.Shelf.SlLaysNS
import Derived.Test.YtgcklgeifdefhaaGreatProg
import Derived.Lib.SlicesCompact
import Derived.Shelf.SortG.Plain
import Derived.Shelf.SortG.SortNone
import Derived.Shelf.SlicesG.CompactI
set_option linter.unusedVariables false
set_option linter.unusedSimpArgs false
open Nat renaming reduceAdd → ν1, reduceLeDiff → ν2, reduceLT → ν3, reduceMul → ν4, reduceSub → ν5
open Int renaming reduceToNat → ι1, reduceSub → ι2, reduceAdd → ι3, reduceNeg → ι4
open Array renaming toList → ι5
open Ne renaming symm → ν6
open List renaming forall_mem_cons → ν7
namespace Go.Sep
open Go Go.RowKit Go.Proofs.YtgcklgeifdefhaaGreat
structure ResT (R : AV → Heap → List Nat → Prop) : Prop where
  loc : ∀ {r G G' D}, R r G D → (∀ y ∈ D, ∀ b, G y = some b → G' y = some b) → R r G' D
  gd : ∀ {r G D}, R r G D → Gd2 r ∧ ∀ y ∈ D, ∀ bs, G y = some bs → ∀ c ∈ bs, GdC c
  sh : ∀ {r G D n G0}, (∀ q, n ≤ q → G0 q = none) → R r G D → R (sh2 n r) (Heap.or G0 (shH n G)) (D.map (· + n))
theorem thawR {R : AV → Heap → List Nat → Prop} (hR : ResT R) {P : Program} {f : Nat} {args args' : List AV} {G G1 : Heap} {K : AV → Heap → Prop}
    (hf : ∀ {K : AV → Heap → Prop}, (∀ r G D, R r G D → New (fun _ => none) G D → K r G) → CallT P f args' (fun _ => none) K)
    (hw : Wk (.tup args) G (.tup args') G1) (h : ∀ r G' D, R r G' D → New G G' D → K r G') : CallT P f args G K := by
  refine CallT.thawX (Q' := fun r H' => ∃ D, R r H' D ∧ D.Nodup ∧ ∀ y, y ∉ D → H' y = none) ?_ ?_ hw ?_
  · refine CallT.fin (hf fun r G D hl hn => ⟨_, only D G, .forget (only_le D G), D, hR.loc hl fun y hy b hb => by rw [only_in hy]; exact hb, hn.nd, fun y hy => only_out hy⟩)
  · rintro r H' ⟨D, hl, _, hout⟩
    refine ⟨(hR.gd hl).1, fun q cs hq => ?_⟩
    by_cases hD : q ∈ D
    · exact (hR.gd hl).2 q hD cs hq
    · rw [hout q hD] at hq; cases hq
  · rintro r H' n ⟨D, hl, hnd, hout⟩ hn
    refine h _ _ (D.map (· + n)) (hR.sh hn hl) ⟨?_, fun y hy => ?_, fun y b hb => by simp only [Heap.or, hb]⟩
    · exact List.pairwise_map.2 (hnd.imp fun h e => h (Nat.add_right_cancel e))
    · obtain ⟨z, _, rfl⟩ := List.mem_map.1 hy
      exact hn _ (by omega)
end Go.Sep
namespace Go.Proofs.YtgcklgeifdefhaaGreat
open Go Go.Sep Go.Pt
attribute [local irreducible] CallT
abbrev eD (x : Sd) : List PV := [.int .i64 x.op, .int .i64 x.n]
abbrev aD (x : Sd) : AV := .agg [I x.op, I x.n]
abbrev Ds (xs : List Sd) : AV := .p (.sl (xs.map eD))
abbrev rowD (q : Nat) (xs : List Sd) : AV := .sl q 2 0 xs.length
abbrev cD (xs : List Sd) : List AV := cells (xs.map eD)
abbrev LD : List Sd → AV → Heap → List Nat → Prop := LRow (LPl eD) 2
def markD (k : Int) (n : Nat) : List Sd := (List.range n).map fun (i : Nat) => ⟨k + 2 * (i : Int), k + 2 * (i : Int) + 1⟩
theorem markD_len (k : Int) (n : Nat) : (markD k n).length = n := by simp [markD]
theorem markD_succ (k : Int) (n : Nat) : markD k (n + 1) = markD k n ++ [⟨k + 2 * n, k + 2 * n + 1⟩] := by simp [markD, List.range_succ]
theorem szSaidS_spec (t : List Sd) (left : Int) (h0 : 0 ≤ left) (h1 : left ≤ 1048576) (hl : ok t.length) : Pu Tryz.prog 37 [Ds t, I left] (I (szR left t.length)) := by
  refine Pu.of fun H => ?_
  unfold ok at hl
  have e : IntKind.i64.wrap (left - t.length) = left - t.length := i64_id (by omega) (by omega)
  refine W37_ok ?_; simp (maxSteps := 1000000) (disch := first | assumption | (apply ν6; assumption)) only [W37, vz, vu, vv, eqS, eF_, ↓c1_, ↓c2_, tabs, reduceCtorEq, ι5, ↓reduceIte, ν1, ν2, ν3, ν4, ν5, ι1, ι2, ι3, ι4, e]
  refine ⟨fun h => by rw [szR_neg (by omega)], fun h => by rw [szR_pos (by omega)]⟩
theorem toSaid_spec (c : Sd) : Pu Tryz.prog 82 [aD c] (aD c) := by
  refine Pu.of fun H => ?_
  refine W82_ok ?_; simp (maxSteps := 1000000) (disch := first | assumption | (apply ν6; assumption)) only [W82, vz, vu, vv, eqS, eF_, ↓c1_, ↓c2_, tabs, reduceCtorEq, ι5, ↓reduceIte, ν1, ν2, ν3, ν4, ν5, ι1, ι2, ι3, ι4]
  intro r hr r2 n1 h2 r3 n2 n3 h3
  (try simp (maxSteps := 1000000) (disch := first | assumption | (apply ν6; assumption)) only [vz, vu, vv, eqS, eF_, ↓c1_, ↓c2_, tabs, reduceCtorEq, ι5, ↓reduceIte, ν1, ν2, ν3, ν4, ν5, ι1, ι2, ι3, ι4])
  (repeat first | exact Heap.le_refl _ | refine Heap.le_setN ?_ (by assumption))
theorem toSaidS_spec (xs : List Sd) (hl : xs.length ≤ 1048576) : Pu Tryz.prog 43 [Ds xs] (Ds xs) := by
  refine ⟨fun H => CallT.fin ?_⟩
  refine W43_ok ?_; simp (maxSteps := 1000000) (disch := first | assumption | (apply ν6; assumption)) only [W43, vz, vu, vv, eqS, eF_, ↓c1_, ↓c2_, tabs, reduceCtorEq, ι5, ↓reduceIte, ν1, ν2, ν3, ν4, ν5, ι1, ι2, ι3, ι4, makeSliceV]
  refine ⟨by omega, by omega, by omega, by omega, fun q hq => ?_⟩
  have z0 : rowZ eD [I 0, I 0] xs 0 = zerosA xs.length [I 0, I 0] := rowZ_zero
  rw [← z0]
  refine L43_0_rule (0 : Nat) (fun i => I i) (fun i => H.set q (rowZ eD [I 0, I 0] xs i)) (fun i => i ≤ xs.length) (fun i => xs.length - i) ⟨by omega, .refl _, Heap.le_refl _⟩ ?_
  intro i hi
  have hrl := rowZ_len (e := eD) (zero := [I 0, I 0]) (xs := xs) (i := i) (sz := 2) (fun _ => rfl) rfl hi
  (try simp (maxSteps := 1000000) (disch := first | assumption | (apply ν6; assumption)) only [vz, vu, vv, eqS, eF_, ↓c1_, ↓c2_, tabs, reduceCtorEq, ι5, ↓reduceIte, ν1, ν2, ν3, ν4, ν5, ι1, ι2, ι3, ι4, B43_0])
  refine ⟨fun h => ⟨by omega, h, ?_⟩, fun h => ?_⟩
  · have hlt : i < xs.length := by omega
    have hput := rowZ_put (e := eD) (zero := [I 0, I 0]) (xs := xs) (i := i) (sz := 2) (fun _ => rfl) rfl hlt rfl rfl
    refine Pu.use (toSaid_spec (xs.getD i default)) ?_
    (try simp (maxSteps := 1000000) (disch := first | assumption | (apply ν6; assumption)) only [vz, vu, vv, eqS, eF_, ↓c1_, ↓c2_, tabs, reduceCtorEq, ι5, ↓reduceIte, ν1, ν2, ν3, ν4, ν5, ι1, ι2, ι3, ι4])
    refine ⟨by omega, h, by omega, i + 1, by omega, by omega, ?_, ?_⟩
    · rw [wk_int, i64_id (by omega) (by omega)]; simp
    · rw [← hput]; exact Heap.le_refl _
  · have : i = xs.length := by omega
    subst this
    have := fin_own (sz := 2) (es := xs.map eD) (q := q) (H := H) (H' := H.set q (rowZ eD [I 0, I 0] xs xs.length)) (K := fun r H' => r = Ds xs ∧ H' = H) (by omega) (sized_map (f := eD) (fun _ => rfl) xs) hq (by rw [rowZ_end]; exact Heap.le_refl _) ⟨rfl, rfl⟩
    simpa only [Go.Sep.own, List.length_map] using this
theorem eqSaid_spec (c : Sd) : Pu Tryz.prog 90 [aD c, aD c] (B true) := by
  refine Pu.of fun H => ?_
  refine W90_ok ?_; simp (maxSteps := 1000000) (disch := first | assumption | (apply ν6; assumption)) only [W90, vz, vu, vv, eqS, eF_, ↓c1_, ↓c2_, tabs, reduceCtorEq, ι5, ↓reduceIte, ν1, ν2, ν3, ν4, ν5, ι1, ι2, ι3, ι4]
  intro r hr r2 n1 h2
  (try simp (maxSteps := 1000000) (disch := first | assumption | (apply ν6; assumption)) only [vz, vu, vv, eqS, eF_, ↓c1_, ↓c2_, tabs, reduceCtorEq, ι5, ↓reduceIte, ν1, ν2, ν3, ν4, ν5, ι1, ι2, ι3, ι4])
  (repeat first | exact Heap.le_refl _ | refine Heap.le_setN ?_ (by assumption))
theorem eqSaidS_spec (xs : List Sd) (hl : xs.length ≤ 1048576) : Pu Tryz.prog 51 [Ds xs, Ds xs] (B true) := by
  refine Pu.of fun H => ?_
  refine W51_ok ?_; simp (maxSteps := 1000000) (disch := first | assumption | (apply ν6; assumption)) only [W51, vz, vu, vv, eqS, eF_, ↓c1_, ↓c2_, tabs, reduceCtorEq, ι5, ↓reduceIte, ν1, ν2, ν3, ν4, ν5, ι1, ι2, ι3, ι4]
  refine L51_0_rule (0 : Nat) (fun i => I i) (fun _ => H) (fun i => i ≤ xs.length) (fun i => xs.length - i) ⟨by omega, .refl _, Heap.le_refl _⟩ ?_
  intro i hi
  (try simp (maxSteps := 1000000) (disch := first | assumption | (apply ν6; assumption)) only [vz, vu, vv, eqS, eF_, ↓c1_, ↓c2_, tabs, reduceCtorEq, ι5, ↓reduceIte, ν1, ν2, ν3, ν4, ν5, ι1, ι2, ι3, ι4, B51_0])
  intro h
  have hlt : i < xs.length := by omega
  refine ⟨by omega, h, by omega, h, ?_⟩
  refine Pu.use (eqSaid_spec (xs.getD i default)) ?_
  (try simp (maxSteps := 1000000) (disch := first | assumption | (apply ν6; assumption)) only [vz, vu, vv, eqS, eF_, ↓c1_, ↓c2_, tabs, reduceCtorEq, ι5, ↓reduceIte, ν1, ν2, ν3, ν4, ν5, ι1, ι2, ι3, ι4])
  refine ⟨i + 1, by omega, by omega, ?_⟩
  rw [wk_int, i64_id (by omega) (by omega)]; simp
theorem toSaidS_live (xs : List Sd) (hl : xs.length ≤ 1048576) {H : Heap} {K : AV → Heap → Prop} (h : ∀ x G D, LD xs x G D → New H G D → K x G) : CallT Tryz.prog 43 [Ds xs] H K := by
  refine W43_ok ?_; simp (maxSteps := 1000000) (disch := first | assumption | (apply ν6; assumption)) only [W43, vz, vu, vv, eqS, eF_, ↓c1_, ↓c2_, tabs, reduceCtorEq, ι5, ↓reduceIte, ν1, ν2, ν3, ν4, ν5, ι1, ι2, ι3, ι4, makeSliceV]
  refine ⟨by omega, by omega, by omega, by omega, fun q hq => ?_⟩
  have z0 : rowZ eD [I 0, I 0] xs 0 = zerosA xs.length [I 0, I 0] := rowZ_zero
  rw [← z0]
  refine L43_0_rule (0 : Nat) (fun i => I i) (fun i => H.set q (rowZ eD [I 0, I 0] xs i)) (fun i => i ≤ xs.length) (fun i => xs.length - i) ⟨by omega, .refl _, Heap.le_refl _⟩ ?_
  intro i hi
  have hrl := rowZ_len (e := eD) (zero := [I 0, I 0]) (xs := xs) (i := i) (sz := 2) (fun _ => rfl) rfl hi
  (try simp (maxSteps := 1000000) (disch := first | assumption | (apply ν6; assumption)) only [vz, vu, vv, eqS, eF_, ↓c1_, ↓c2_, tabs, reduceCtorEq, ι5, ↓reduceIte, ν1, ν2, ν3, ν4, ν5, ι1, ι2, ι3, ι4, B43_0])
  refine ⟨fun h => ⟨by omega, h, ?_⟩, fun h5 => ?_⟩
  · have hlt : i < xs.length := by omega
    have hput := rowZ_put (e := eD) (zero := [I 0, I 0]) (xs := xs) (i := i) (sz := 2) (fun _ => rfl) rfl hlt rfl rfl
    refine Pu.use (toSaid_spec (xs.getD i default)) ?_
    (try simp (maxSteps := 1000000) (disch := first | assumption | (apply ν6; assumption)) only [vz, vu, vv, eqS, eF_, ↓c1_, ↓c2_, tabs, reduceCtorEq, ι5, ↓reduceIte, ν1, ν2, ν3, ν4, ν5, ι1, ι2, ι3, ι4])
    refine ⟨by omega, h, by omega, i + 1, by omega, by omega, ?_, ?_⟩
    · rw [wk_int, i64_id (by omega) (by omega)]; simp
    · rw [← hput]; exact Heap.le_refl _
  · have : i = xs.length := by omega
    subst this
    refine h _ _ [q] ⟨q, _, [], rfl, Heap.set_same _ _ _, ?_, rfl⟩ ⟨by simp, by simpa using hq, Heap.le_set hq⟩
    rw [rowZ_end]; exact LL.plain xs
theorem markSaidS_row (xs : List Sd) (hl : xs.length ≤ 1048576) {k : Int} (h0 : 0 ≤ k) (h1 : k ≤ 1000000000) {q : Nat} {G : Heap} (hG : G q = some (cD xs)) {K : AV → Heap → Prop}
    (h : K (I (k + 2 * xs.length)) (G.set q (cD (markD k xs.length)))) : CallT Tryz.prog 67 [rowD q xs, I k] G K := by
  refine W67_ok ?_; simp (maxSteps := 1000000) (disch := first | assumption | (apply ν6; assumption)) only [W67, vz, vu, vv, eqS, eF_, ↓c1_, ↓c2_, tabs, reduceCtorEq, ι5, ↓reduceIte, ν1, ν2, ν3, ν4, ν5, ι1, ι2, ι3, ι4]
  refine L67_0_rule (0 : Nat) (fun i => I (k + 2 * i)) (fun i => I i) (fun i => G.set q (cD (markD k i ++ xs.drop i))) (fun i => i ≤ xs.length) (fun i => xs.length - i) ⟨by omega, ?_, .refl _, ?_⟩ ?_
  · rw [wk_int]; simp
  · intro y b hy
    by_cases e : y = q
    · subst e; rw [Heap.set_same] at hy; rw [hG]; simpa [markD] using hy
    · rw [Heap.set_other e] at hy; exact hy
  intro i hi
  (try simp (maxSteps := 1000000) (disch := first | assumption | (apply ν6; assumption)) only [vz, vu, vv, eqS, eF_, ↓c1_, ↓c2_, tabs, reduceCtorEq, ι5, ↓reduceIte, ν1, ν2, ν3, ν4, ν5, ι1, ι2, ι3, ι4, B67_0])
  refine ⟨fun h5 => ?_, fun h5 => ?_⟩
  · have hlt : i < xs.length := by omega
    have hdl : (cD (markD k i)).length = i * 2 := by rw [cells_map_len (sz := 2) (fun _ => rfl), markD_len]
    have e3 : cD (markD k i ++ xs.drop i) = cD (markD k i) ++ (I (xs.getD i default).op :: I (xs.getD i default).n :: cD (xs.drop (i + 1))) := by
      rw [drop_cons hlt, cD, List.map_append, cells_app]; rfl
    have e4 : cD (markD k (i + 1) ++ xs.drop (i + 1)) = cD (markD k i) ++ (I (k + 2 * i) :: I (k + 2 * i + 1) :: cD (xs.drop (i + 1))) := by
      rw [markD_succ, List.append_assoc, cD, List.map_append, cells_app]; rfl
    generalize cD (xs.drop (i + 1)) = c2 at e3 e4
    generalize xs.getD i default = a at e3
    rw [e3]
    generalize cD (markD k i) = cd at hdl e4
    have p1 : ∀ z, List.take (i * 2) (cd ++ (I a.op :: I a.n :: c2)) ++ [z] ++ List.drop (i * 2 + 1) (cd ++ (I a.op :: I a.n :: c2)) = cd ++ (z :: I a.n :: c2) := fun z => splice_at (c := [I a.op]) (c' := [z]) (post := I a.n :: c2) hdl.symm rfl rfl
    have p2 : ∀ z w, List.take (i * 2 + 1) (cd ++ (z :: I a.n :: c2)) ++ [w] ++ List.drop (i * 2 + 1 + 1) (cd ++ (z :: I a.n :: c2)) = cd ++ (z :: w :: c2) := fun z w => by
      have := splice_at (pre := cd ++ [z]) (c := [I a.n]) (c' := [w]) (post := c2) (off := i * 2 + 1) (n := 1) (by simp [hdl]) rfl rfl
      simpa using this
    have w1 : IntKind.i64.wrap (k + 2 * ↑i + 1) = k + 2 * i + 1 := i64_id (by omega) (by omega)
    (try simp (maxSteps := 1000000) (disch := first | assumption | (apply ν6; assumption)) only [vz, vu, vv, eqS, eF_, ↓c1_, ↓c2_, tabs, reduceCtorEq, ι5, ↓reduceIte, ν1, ν2, ν3, ν4, ν5, ι1, ι2, ι3, ι4, p1, p2, w1])
    refine ⟨by omega, h5, by omega, by omega, h5, by simp only [List.length_take, List.length_drop, List.length_append, List.length_cons, hdl]; omega, i + 1, by omega, by omega, ?_, ?_, ?_⟩
    · rw [wk_int, i64_id (by omega) (by omega)]; omega
    · rw [wk_int, i64_id (by omega) (by omega)]; simp
    · rw [e4]; exact Heap.le_refl _
  · have : i = xs.length := by omega
    subst this
    simpa using h
theorem LD_row {xs : List Sd} {x : AV} {G : Heap} {D : List Nat} (h : LD xs x G D) : ∃ q, x = rowD q xs ∧ G q = some (cD xs) ∧ D = [q] := by
  obtain ⟨q, cs, D', rfl, hq, hll, rfl⟩ := h
  obtain ⟨rfl, rfl⟩ := LL.plain' hll
  exact ⟨q, rfl, hq, rfl⟩
end Go.Proofs.YtgcklgeifdefhaaGreat
namespace Go.Proofs.YtgcklgeifdefhaaGreat
open Go Go.Sep Go.Pt Go.RowKit
theorem typed_said {x : List PV} (h : Typed Tryz.prog 108 x) : ∃ a : Sd, x = eD a := by
  have h := typed_fields (ts := [3, 3]) (by kernel_rfl) h
  obtain ⟨a, b, rfl, h1, h⟩ := typedAll_cons h
  obtain ⟨b, c, rfl, h2, h⟩ := typedAll_cons h
  cases typedAll_nil h
  obtain ⟨n, _, rfl⟩ := typed_int (k := .i64) (by kernel_rfl) h1
  obtain ⟨m, _, rfl⟩ := typed_int (k := .i64) (by kernel_rfl) h2
  exact ⟨⟨n, m⟩, rfl⟩
theorem typed_saids {x : List PV} (h : Typed Tryz.prog 27 x) : ∃ t : List Sd, ok t.length ∧ x = [.sl (t.map eD)] := by
  obtain ⟨es, rfl, hl, he⟩ := typed_slice (e := 108) (by kernel_rfl) h
  obtain ⟨t, h1, rfl, h3⟩ := rows_of (Q := fun _ => True) (e := eD) es fun y hy => by
    obtain ⟨a, rfl⟩ := typed_said (he y hy)
    exact ⟨a, trivial, rfl⟩
  exact ⟨t, by unfold ok; omega, rfl⟩
end Go.Proofs.YtgcklgeifdefhaaGreat
namespace Go.Proofs.YtgcklgeifdefhaaGreat
open Go Go.Sep Go.Pt
attribute [local irreducible] CallT
abbrev eNN (t : List Nd) : List PV := [.sl (t.map eN)]
abbrev Nss (ts : List (List Nd)) : AV := .p (.sl (ts.map eNN))
def okNss (cs : List (List Nd)) : Prop := ok cs.length ∧ ∀ c ∈ cs, ok c.length
def totNL (l : List Nd) : Nat := l.length
def totNss (cs : List (List Nd)) : Nat := cs.length + psum totNL cs cs.length
def smNss (cs : List (List Nd)) : Prop := cs.length ≤ 1048576 ∧ ∀ c ∈ cs, c.length ≤ 1048576
theorem szNodeSS_spec (cs : List (List Nd)) (left : Int) (h0 : 0 ≤ left) (h1 : left ≤ 1048576) (hl : okNss cs) : Pu Tryz.prog 36 [Nss cs, I left] (I (szR left (totNss cs))) := by
  refine Pu.of fun H => ?_
  have hl1 := hl.1
  unfold ok at hl1
  have e : IntKind.i64.wrap (left - cs.length) = left - cs.length := i64_id (by omega) (by omega)
  refine W36_ok ?_; simp (maxSteps := 1000000) (disch := first | assumption | (apply ν6; assumption)) only [W36, vz, vu, vv, eqS, eF_, ↓c1_, ↓c2_, tabs, reduceCtorEq, ι5, ↓reduceIte, ν1, ν2, ν3, ν4, ν5, ι1, ι2, ι3, ι4, e]
  refine ⟨fun h => by rw [szR_neg (by unfold totNss; omega)], fun h => ?_⟩
  refine L36_0_rule (0 : Nat) (fun i => I (left - cs.length - psum totNL cs i)) (fun i => I i) (fun _ => H) (fun i => i ≤ cs.length ∧ (cs.length : Int) + psum totNL cs i ≤ left) (fun i => cs.length - i) ⟨⟨by omega, by simp [psum]; omega⟩, ?_, .refl _, Heap.le_refl _⟩ ?_
  · rw [wk_int]; simp [psum]
  rintro i ⟨hi, hs⟩
  (try simp (maxSteps := 1000000) (disch := first | assumption | (apply ν6; assumption)) only [vz, vu, vv, eqS, eF_, ↓c1_, ↓c2_, tabs, reduceCtorEq, ι5, ↓reduceIte, ν1, ν2, ν3, ν4, ν5, ι1, ι2, ι3, ι4, B36_0])
  refine ⟨fun h2 => ⟨by omega, h2, ?_⟩, fun h2 => ?_⟩
  · have hlt : i < cs.length := by omega
    have hm : cs.getD i default ∈ cs := getD_all (p := fun x => x ∈ cs) (fun _ h => h) hlt
    refine Pu.use (szNodeS_spec (cs.getD i default) _ (by omega) (by omega) (hl.2 _ hm)) ?_
    have hsucc := psum_succ (f := totNL) hlt
    have hle := psum_le (f := totNL) (xs := cs) (i + 1)
    have et : totNL (cs.getD i default) = (cs.getD i default).length := rfl
    rw [et] at hsucc
    (try simp (maxSteps := 1000000) (disch := first | assumption | (apply ν6; assumption)) only [vz, vu, vv, eqS, eF_, ↓c1_, ↓c2_, tabs, reduceCtorEq, ι5, ↓reduceIte, ν1, ν2, ν3, ν4, ν5, ι1, ι2, ι3, ι4])
    refine ⟨fun h3 => ?_, fun h3 => ⟨i + 1, ⟨by omega, ?_⟩, by omega, ?_, ?_⟩⟩
    · rw [szR_neg]
      unfold szR at h3
      unfold totNss
      split at h3 <;> omega
    · unfold szR at h3
      split at h3 <;> omega
    · rw [wk_int]
      unfold szR at h3 ⊢
      split at h3
      · rename_i h4; rw [if_pos h4]; omega
      · omega
    · rw [wk_int, i64_id (by omega) (by omega)]; simp
  · have : i = cs.length := by omega
    subst this
    rw [szR_pos (by unfold totNss; omega)]
    unfold totNss
    exact congrArg (fun n : Int => I n) (by omega)
theorem toNodeSS_spec (xs : List (List Nd)) (hs : smNss xs) : Pu Tryz.prog 42 [Nss xs] (Nss xs) := by
  have hl := hs.1
  refine ⟨fun H => CallT.fin ?_⟩
  refine W42_ok ?_; simp (maxSteps := 1000000) (disch := first | assumption | (apply ν6; assumption)) only [W42, vz, vu, vv, eqS, eF_, ↓c1_, ↓c2_, tabs, reduceCtorEq, ι5, ↓reduceIte, ν1, ν2, ν3, ν4, ν5, ι1, ι2, ι3, ι4, makeSliceV]
  refine ⟨by omega, by omega, by omega, by omega, fun q hq => ?_⟩
  have z0 : rowZ eNN [.p .nil] xs 0 = zerosA xs.length [.p .nil] := rowZ_zero
  rw [← z0]
  refine L42_0_rule (0 : Nat) (fun i => I i) (fun i => H.set q (rowZ eNN [.p .nil] xs i)) (fun i => i ≤ xs.length) (fun i => xs.length - i) ⟨by omega, .refl _, Heap.le_refl _⟩ ?_
  intro i hi
  have hrl := rowZ_len (e := eNN) (zero := [.p .nil]) (xs := xs) (i := i) (sz := 1) (fun _ => rfl) rfl hi
  (try simp (maxSteps := 1000000) (disch := first | assumption | (apply ν6; assumption)) only [vz, vu, vv, eqS, eF_, ↓c1_, ↓c2_, tabs, reduceCtorEq, ι5, ↓reduceIte, ν1, ν2, ν3, ν4, ν5, ι1, ι2, ι3, ι4, B42_0])
  refine ⟨fun h => ⟨by omega, h, ?_⟩, fun h => ?_⟩
  · have hlt : i < xs.length := by omega
    have hput := rowZ_put (e := eNN) (zero := [.p .nil]) (xs := xs) (i := i) (sz := 1) (fun _ => rfl) rfl hlt rfl rfl
    have hm : xs.getD i default ∈ xs := getD_all (p := fun x => x ∈ xs) (fun _ h => h) hlt
    refine Pu.use (toNodeS_spec (xs.getD i default) (hs.2 _ hm)) ?_
    (try simp (maxSteps := 1000000) (disch := first | assumption | (apply ν6; assumption)) only [vz, vu, vv, eqS, eF_, ↓c1_, ↓c2_, tabs, reduceCtorEq, ι5, ↓reduceIte, ν1, ν2, ν3, ν4, ν5, ι1, ι2, ι3, ι4])
    refine ⟨by omega, h, by omega, i + 1, by omega, by omega, ?_, ?_⟩
    · rw [wk_int, i64_id (by omega) (by omega)]; simp
    · rw [← hput]; exact Heap.le_refl _
  · have : i = xs.length := by omega
    subst this
    have := fin_own (sz := 1) (es := xs.map eNN) (q := q) (H := H) (H' := H.set q (rowZ eNN [.p .nil] xs xs.length)) (K := fun r H' => r = Nss xs ∧ H' = H) (by omega) (sized_map (f := eNN) (fun _ => rfl) xs) hq (by rw [rowZ_end]; exact Heap.le_refl _) ⟨rfl, rfl⟩
    simpa only [Go.Sep.own, List.length_map] using this
theorem eqNodeSS_spec (xs : List (List Nd)) (hs : smNss xs) : Pu Tryz.prog 50 [Nss xs, Nss xs] (B true) := by
  have hl := hs.1
  refine Pu.of fun H => ?_
  refine W50_ok ?_; simp (maxSteps := 1000000) (disch := first | assumption | (apply ν6; assumption)) only [W50, vz, vu, vv, eqS, eF_, ↓c1_, ↓c2_, tabs, reduceCtorEq, ι5, ↓reduceIte, ν1, ν2, ν3, ν4, ν5, ι1, ι2, ι3, ι4]
  refine L50_0_rule (0 : Nat) (fun i => I i) (fun _ => H) (fun i => i ≤ xs.length) (fun i => xs.length - i) ⟨by omega, .refl _, Heap.le_refl _⟩ ?_
  intro i hi
  (try simp (maxSteps := 1000000) (disch := first | assumption | (apply ν6; assumption)) only [vz, vu, vv, eqS, eF_, ↓c1_, ↓c2_, tabs, reduceCtorEq, ι5, ↓reduceIte, ν1, ν2, ν3, ν4, ν5, ι1, ι2, ι3, ι4, B50_0])
  intro h
  have hlt : i < xs.length := by omega
  have hm : xs.getD i default ∈ xs := getD_all (p := fun x => x ∈ xs) (fun _ h => h) hlt
  refine ⟨by omega, h, by omega, h, ?_⟩
  refine Pu.use (eqNodeS_spec (xs.getD i default) (hs.2 _ hm)) ?_
  (try simp (maxSteps := 1000000) (disch := first | assumption | (apply ν6; assumption)) only [vz, vu, vv, eqS, eF_, ↓c1_, ↓c2_, tabs, reduceCtorEq, ι5, ↓reduceIte, ν1, ν2, ν3, ν4, ν5, ι1, ι2, ι3, ι4])
  refine ⟨i + 1, by omega, by omega, ?_⟩
  rw [wk_int, i64_id (by omega) (by omega)]; simp
theorem smNss_of_tot {cs : List (List Nd)} (h : (totNss cs : Int) ≤ 1048576) : smNss cs := by
  have h0 : totNss cs ≤ 1048576 := by omega
  unfold totNss at h0
  refine ⟨by omega, fun c hc => ?_⟩
  have h1 := psum_mem (f := totNL) hc
  have e1 : totNL c = c.length := rfl
  omega
def nTs (cs : List (List Nd)) : Prop := ∀ t ∈ cs, nT t
theorem vT_of {cs : List (List Nd)} (h : smNss cs) (hn : nTs cs) : ∀ t ∈ cs, vT t := fun t ht => ⟨h.2 t ht, hn t ht⟩
theorem IndexFuncNs_at (xs : List (List Nd)) (g : Nat) (caps : List AV) (p : List Nd → Bool) {H : Heap} (hl : xs.length ≤ 1000000000) (hp : ∀ x ∈ xs, PuAt Tryz.prog g (Ns x :: caps) H (B (p x))) :
    PuAt Tryz.prog 86 [Nss xs, .fn g caps] H (I (if xs.any p then (xs.findIdx p : Int) else -1)) := by
  intro K hK
  refine CallT.fin ?_
  refine W86_ok ?_; simp (maxSteps := 1000000) (disch := first | assumption | (apply ν6; assumption)) only [W86, vz, vu, vv, eqS, eF_, ↓c1_, ↓c2_, tabs, reduceCtorEq, ι5, ↓reduceIte, ν1, ν2, ν3, ν4, ν5, ι1, ι2, ι3, ι4]
  refine L86_0_rule (0 : Nat) (fun i => I i) (fun _ => H) (fun i => i ≤ xs.length ∧ ∀ j (hj : j < xs.length), j < i → p xs[j] = false) (fun i => xs.length - i) ⟨⟨by omega, by intros; omega⟩, .refl _, Heap.le_refl _⟩ ?_
  rintro i ⟨hi1, ha⟩
  (try simp (maxSteps := 1000000) (disch := first | assumption | (apply ν6; assumption)) only [vz, vu, vv, eqS, eF_, ↓c1_, ↓c2_, tabs, reduceCtorEq, ι5, ↓reduceIte, ν1, ν2, ν3, ν4, ν5, ι1, ι2, ι3, ι4, B86_0])
  refine ⟨fun h => ⟨by omega, h, ?_⟩, fun h => ?_⟩
  · have hlt : i < xs.length := by omega
    rw [getD_lt hlt]
    refine PuAt.use (hp _ (List.getElem_mem hlt)) ?_
    (try simp (maxSteps := 1000000) (disch := first | assumption | (apply ν6; assumption)) only [vz, vu, vv, eqS, eF_, ↓c1_, ↓c2_, tabs, reduceCtorEq, ι5, ↓reduceIte, ν1, ν2, ν3, ν4, ν5, ι1, ι2, ι3, ι4])
    refine ⟨fun h1 => ?_, fun h1 => ⟨i + 1, ⟨by omega, fun j hj hji => ?_⟩, by omega, ?_⟩⟩
    · have h2 : xs.any p = true := List.any_eq_true.2 ⟨xs[i], List.getElem_mem hlt, h1⟩
      have h3 : xs.findIdx p = i := by
        rw [List.findIdx_eq hlt]; exact ⟨h1, fun j hj => ha j (by omega) hj⟩
      rw [h2, h3] at hK; exact wkK.keep (by simpa using hK)
    · rcases Nat.lt_succ_iff_lt_or_eq.1 hji with h2 | rfl
      · exact ha j hj h2
      · exact h1
    · rw [wk_int, i64_id (by omega) (by omega)]; simp
  · have hi : i = xs.length := by omega
    have h2 : xs.any p = false := by
      rw [List.any_eq_false]
      intro x hx
      obtain ⟨j, hj, rfl⟩ := List.mem_iff_getElem.1 hx
      rw [ha j hj (by omega)]; simp
    rw [h2] at hK; exact wkK.keep (by simpa using hK)
theorem ContainsFuncNs_at (xs : List (List Nd)) (g : Nat) (caps : List AV) (p : List Nd → Bool) {H : Heap} (hl : xs.length ≤ 1000000000) (hp : ∀ x ∈ xs, PuAt Tryz.prog g (Ns x :: caps) H (B (p x))) :
    PuAt Tryz.prog 46 [Nss xs, .fn g caps] H (B (xs.any p)) := by
  intro K hK
  refine W46_ok ?_; simp (maxSteps := 1000000) (disch := first | assumption | (apply ν6; assumption)) only [W46, vz, vu, vv, eqS, eF_, ↓c1_, ↓c2_, tabs, reduceCtorEq, ι5, ↓reduceIte, ν1, ν2, ν3, ν4, ν5, ι1, ι2, ι3, ι4]
  refine PuAt.use (IndexFuncNs_at xs g caps p hl hp) ?_
  (try simp (maxSteps := 1000000) (disch := first | assumption | (apply ν6; assumption)) only [vz, vu, vv, eqS, eF_, ↓c1_, ↓c2_, tabs, reduceCtorEq, ι5, ↓reduceIte, ν1, ν2, ν3, ν4, ν5, ι1, ι2, ι3, ι4])
  cases h : xs.any p <;> simp [h] at hK ⊢ <;> exact hK
end Go.Proofs.YtgcklgeifdefhaaGreat
namespace Go.Sep
open Go Go.RowKit Go.Sort Go.Proofs.YtgcklgeifdefhaaGreat
theorem Sim.ahead {Z : Fro} {φ : Pm} {B0 : Nat} {w0 w : World} {H : Heap} (s : Sim Z φ B0 w0 H w) (n : Nat) : Sim Z φ B0 w0 H (Go.Sort.ahead w n) :=
  ⟨s.b0, ⟨⟨s.below.os, s.below.tape, s.below.output, s.below.size, s.below.block⟩, s.below.drawn.trans (.of (Nat.le_add_right _ _))⟩, s.bnd, fun r blk e => let ⟨pl, hp, hl⟩ := s.live r blk e; ⟨pl, hp, hl.world fun _ h => h⟩, s.disj, fun b i v hz => s.froz b i v hz, s.zsep⟩
theorem mapBlock_setRow {w : World} {b : Nat} {cur : Array Value} {e : TypeId} {fr : Nat × Nat} (h : w.heap[b]? = some (.cells cur e fr)) (f : Array Value → Array Value) : mapBlock w b f = w.setRow b (f cur) := by
  unfold mapBlock World.setRow
  congr 1
  apply Array.ext_getElem?
  intro k
  simp only [Array.getElem?_modify]
  by_cases hk : b = k
  · subst hk; simp [h, onCells]
  · simp [hk]
theorem Sim.grow {Z : Fro} {φ : Pm} {B0 : Nat} {w0 w : World} {H : Heap} (s : Sim Z φ B0 w0 H w) (os : Array Obj) : Sim Z φ B0 w0 H (Go.Sort.grow w os) :=
  s.later ⟨⟨rfl, rfl, rfl, by simp, fun k hk => heap_grow_old w os hk⟩, .of (Nat.le_refl _)⟩
theorem Sim.putInts {Z : Fro} {φ : Pm} {B0 : Nat} {w0 w : World} {H : Heap} (s : Sim Z φ B0 w0 H w) {r : Nat} {zs zs' : List Int} (hr : H r = some (zs.map fun n => AV.p (.int .i64 n))) (hl : zs'.length = zs.length) (hpos : 0 < zs.length) {pl : Place} (hp : φ r = some pl) (n : Nat) (os : Array Obj) :
    Sim Z φ B0 w0 (H.set r (zs'.map fun n => AV.p (.int .i64 n))) (Go.Sort.grow (putRow (Value.int .i64) (Go.Sort.ahead w n) pl.b pl.o zs'.toArray) os) := by
  obtain ⟨pl', hp', hlive⟩ := s.live r _ hr
  rw [hp] at hp'; cases hp'
  rcases hlive with ⟨_, h0⟩ | ⟨cur, e, h1, h2, h3, h4, h5⟩
  · cases zs with
    | nil => simp at hpos
    | cons a zs => simp at h0
  rw [List.length_map] at h3
  refine Sim.grow ?_ os
  have s1 := s.ahead n
  have h1' : (Go.Sort.ahead w n).heap[pl.b]? = some (.cells cur e (0, 0)) := h1
  rw [putRow, mapBlock_setRow h1']
  refine s1.setRow hr hp h1' (by omega) _ (by simp [putCells]) ?_ _ (by rw [List.length_map]; omega) ?_
  · intro i hi
    simp only [putCells, Array.getElem?_mapIdx]
    cases cur[i]? with
    | none => rfl
    | some v => simp only [Option.map_some]; rw [if_neg (by simp; omega)]
  · intro i av hi
    rw [List.getElem?_map] at hi
    cases hz : zs'[i]? with
    | none => rw [hz] at hi; cases hi
    | some x =>
      rw [hz] at hi
      cases hi
      have hlt : i < zs'.length := (List.getElem?_eq_some_iff.1 hz).1
      refine ⟨.int .i64 x, ?_, .p (.int _ _)⟩
      have hc : pl.o + i < cur.size := by omega
      simp only [putCells, Array.getElem?_mapIdx, Array.getElem?_eq_getElem hc, Option.map_some]
      rw [if_pos (by simp; omega)]
      have : (List.toArray zs')[pl.o + i - pl.o]! = x := by
        rw [Nat.add_sub_cancel_left]
        have := (List.getElem?_eq_some_iff.1 hz).2
        simp [hlt, this]
      rw [this]
theorem Sim.holdsInts {Z : Fro} {φ : Pm} {B0 : Nat} {w0 w : World} {H : Heap} (s : Sim Z φ B0 w0 H w) {r : Nat} {zs : List Int} (hr : H r = some (zs.map fun n => AV.p (.int .i64 n))) (hpos : 0 < zs.length) {pl : Place} (hp : φ r = some pl) :
    Holds (Value.int .i64) w pl.b pl.o zs.toArray ∧ pl.b < w.heap.size := by
  obtain ⟨pl', hp', hlive⟩ := s.live r _ hr
  rw [hp] at hp'; cases hp'
  rcases hlive with ⟨_, h0⟩ | ⟨cur, e, h1, h2, h3, h4, h5⟩
  · cases zs with
    | nil => simp at hpos
    | cons a zs => simp at h0
  refine ⟨fun j hj => ⟨?_, ?_⟩, (Array.getElem?_eq_some_iff.1 h1).1⟩
  · have hj' : j < zs.length := by simpa using hj
    have hz : zs[j]? = some zs[j] := List.getElem?_eq_getElem hj'
    obtain ⟨x, hx, hc⟩ := h5 j (.p (.int .i64 zs[j])) (by rw [List.getElem?_map, hz]; rfl)
    have ex : x = .int .i64 zs[j] := by
      cases hc with
      | p h => cases h; rfl
    rw [cell_of_row w pl.b _ cur e _ h1, hx, ex]
    simp [hj']
  · unfold World.frozen?
    rw [h1]; simp
theorem CallT.inPlace {P : Program} {f : Nat} (hb : HasBody P f) {H : Heap} {q : Nat} {zs : List Int} (hq : H q = some (zs.map fun n => AV.p (.int .i64 n))) (g : List Int) (hg : g.length = zs.length)
    (hc : ∀ blk off cap w, zs.length ≤ cap → Holds (Value.int .i64) w blk off zs.toArray → blk < w.heap.size → Calls P f #[.slice (some ⟨blk, off, none⟩) zs.length cap] w fun e w' =>
      e = .returned (.tuple #[]) ∧ ∃ n os, w' = Go.Sort.grow (putRow (Value.int .i64) (Go.Sort.ahead w n) blk off g.toArray) os)
    (hn : zs = [] → ∀ p cap w, Calls P f #[.slice p 0 cap] w fun e w' => e = .returned (.tuple #[]) ∧ w' = w)
    {K : AV → Heap → Prop} (h : K (.tup []) (H.set q (g.map fun n => AV.p (.int .i64 n)))) : CallT P f [.sl q 1 0 zs.length] H K := by
  refine ⟨hb, ?_⟩
  intro B0 w0 F Z φ w xs hd hs ha
  obtain ⟨hsz, hrel⟩ := ha
  obtain ⟨x, rfl⟩ : ∃ x, xs = #[x] := by
    have h1 : xs.size = 1 := hsz
    exact ⟨xs[0], by
      apply Array.ext
      · simp [h1]
      · intro i hi1 hi2
        have : i = 0 := by simp at hi2; omega
        subst this; simp⟩
  have hx := hrel 0 (.sl q 1 0 zs.length) x rfl rfl
  have hq' : (H.or F) q = some (zs.map fun n => AV.p (.int .i64 n)) := Heap.or_left hq
  have hFq : F q = none := hd q (by rw [hq]; simp)
  have empty : zs = [] → ∀ a c, x = .slice a 0 c → Calls P f #[x] w (fun e w' => ∃ x, e = .returned x ∧ UpV B0 w0 F Z φ K x w') := by
    rintro rfl a c rfl
    refine (hn rfl a c w).mono ?_
    rintro e w' ⟨rfl, rfl⟩
    have hg0 : g = [] := List.eq_nil_of_length_eq_zero hg
    subst hg0
    have hset : H.set q [] = H := by
      funext y
      by_cases e : y = q
      · subst e; rw [Heap.set_same]; exact hq.symm
      · rw [Heap.set_other e]
    refine ⟨_, rfl, .tup [], H, Z, φ, ?_, Fro.le_refl _, Pm.le_refl _, hd, hs, .tup [] #[] rfl (fun i av x h => by simp at h)⟩
    rw [← hset]; exact h
  generalize hm : zs.length = m at hx
  cases hx with
  | slz _ _ _ a => exact empty (List.eq_nil_of_length_eq_zero hm) a 0 rfl
  | sl hp hl hC =>
    rename_i c pl
    subst hm
    by_cases h0 : zs.length = 0
    · exact empty (List.eq_nil_of_length_eq_zero h0) _ _ (by rw [h0])
    have hh := hs.holdsInts hq' (by omega) hp
    refine (hc pl.b pl.o c w hl hh.1 hh.2).mono ?_
    rintro e w' ⟨rfl, n, os, rfl⟩
    have s2 := hs.putInts (zs' := g) hq' hg (by omega) hp n os
    refine ⟨_, rfl, .tup [], H.set q (g.map fun n => AV.p (.int .i64 n)), Z, φ, h, Fro.le_refl _, Pm.le_refl _, hd.set hFq, ?_, .tup [] #[] rfl (fun i av x h => by simp at h)⟩
    rw [Heap.or_set]; exact s2
theorem CallT.inPlaceC {P : Program} {f : Nat} (hb : HasBody P f) {H : Heap} {q : Nat} {zs : List Int} (hq : H q = some (zs.map fun n => AV.p (.int .i64 n))) (g tl : List Int) (hg : (g ++ tl).length = zs.length)
    (hc : ∀ blk off cap w, zs.length ≤ cap → Holds (Value.int .i64) w blk off zs.toArray → blk < w.heap.size → Calls P f #[.slice (some ⟨blk, off, none⟩) zs.length cap] w fun e w' =>
      e = .returned (.slice (some ⟨blk, off, none⟩) g.length cap) ∧ ∃ n, w' = putRow (Value.int .i64) (Go.Sort.ahead w n) blk off (g ++ tl).toArray)
    (hn : zs = [] → ∀ p cap w, Calls P f #[.slice p 0 cap] w fun e w' => e = .returned (.slice p 0 cap) ∧ w' = w)
    {K : AV → Heap → Prop} (h : K (.sl q 1 0 g.length) (H.set q ((g ++ tl).map fun n => AV.p (.int .i64 n)))) : CallT P f [.sl q 1 0 zs.length] H K := by
  refine ⟨hb, ?_⟩
  intro B0 w0 F Z φ w xs hd hs ha
  obtain ⟨hsz, hrel⟩ := ha
  obtain ⟨x, rfl⟩ : ∃ x, xs = #[x] := by
    have h1 : xs.size = 1 := hsz
    exact ⟨xs[0], by
      apply Array.ext
      · simp [h1]
      · intro i hi1 hi2
        have : i = 0 := by simp at hi2; omega
        subst this; simp⟩
  have hx := hrel 0 (.sl q 1 0 zs.length) x rfl rfl
  have hq' : (H.or F) q = some (zs.map fun n => AV.p (.int .i64 n)) := Heap.or_left hq
  have hFq : F q = none := hd q (by rw [hq]; simp)
  have empty : zs = [] → ∀ a c, x = .slice a 0 c → Cv Z φ (.sl q 1 0 0) x → Calls P f #[x] w (fun e w' => ∃ x, e = .returned x ∧ UpV B0 w0 F Z φ K x w') := by
    rintro rfl a c rfl hcv
    refine (hn rfl a c w).mono ?_
    rintro e w' ⟨rfl, rfl⟩
    have hg0 := List.eq_nil_of_length_eq_zero hg
    rw [List.append_eq_nil_iff] at hg0
    obtain ⟨rfl, rfl⟩ := hg0
    have hset : H.set q [] = H := by
      funext y
      by_cases e : y = q
      · subst e; rw [Heap.set_same]; exact hq.symm
      · rw [Heap.set_other e]
    refine ⟨_, rfl, _, H, Z, φ, ?_, Fro.le_refl _, Pm.le_refl _, hd, hs, hcv⟩
    rw [← hset]; exact h
  have hx0 := hx
  generalize hm : zs.length = m at hx
  cases hx with
  | slz _ _ _ a => exact empty (List.eq_nil_of_length_eq_zero hm) a 0 rfl (.slz _ _ _ _)
  | sl hp hl hC =>
    rename_i c pl
    subst hm
    by_cases h0 : zs.length = 0
    · exact empty (List.eq_nil_of_length_eq_zero h0) _ _ (by rw [h0]) (by rw [h0] at hx0; rw [h0]; exact hx0)
    have hh := hs.holdsInts hq' (by omega) hp
    refine (hc pl.b pl.o c w hl hh.1 hh.2).mono ?_
    rintro e w' ⟨rfl, n, rfl⟩
    have s2 := hs.putInts (zs' := g ++ tl) hq' hg (by omega) hp n #[]
    rw [Go.Sort.grow_empty] at s2
    rw [List.length_append] at hg
    refine ⟨_, rfl, .sl q 1 0 g.length, H.set q ((g ++ tl).map fun n => AV.p (.int .i64 n)), Z, φ, h, Fro.le_refl _, Pm.le_refl _, hd.set hFq, ?_, .sl hp (by omega) hC⟩
    rw [Heap.or_set]; exact s2
end Go.Sep
/-
  DERIVED: THE SHELF's CONTRACTS AT THIS DUMP, IN PLAIN WORDS (tools/lay-plain.mjs out of 'YtgcklgeifdefhaaGreatLay.lean', which tools/lay-shelf.mjs wrote): THE SAME DECLARATIONS UNDER THE SAME NAMES: 'import', 'namespace', 'open', 'def', 'theorem' AND NOTHING ELSE: no command of the shelf's: FOR A HAND-IN. Each laying: the table of numbers ('.._ren') and one theorem, a field a fact of the dump's own or the kernel's comparison; each contract: ONE APPLICATION.
-/
namespace Go.Proofs
open Go.Shelf
def Tryz.laySort_ren : Go.Shelf.Ren := ⟨fun | 53 => 137 | 64 => 171 | 63 => 170 | 78 => 194 | 79 => 195 | 70 => 185 | 71 => 186 | 72 => 187 | 73 => 188 | 74 => 189 | 75 => 190 | 59 => 191 | 76 => 192 | 77 => 193 | 88 => 207 | 89 => 208 | 90 => 209 | 91 => 210 | 92 => 211 | 68 => 212 | 96 => 216 | n => n, fun | 22 => 46 | 23 => 3 | 3 => 3 | 51 => 114 | 0 => 0 | 67 => 211 | 69 => 153 | 4 => 4 | 61 => 205 | 60 => 204 | 44 => 43 | 5 => 5 | 9 => 9 | 75 => 219 | 79 => 223 | 83 => 228 | 84 => 229 | n => n, fun | n => n⟩
theorem Tryz.laySort : Go.Proofs.SlLaysN.n53 Tryz.prog Tryz.laySort_ren := {
  mixed := by kernel_rfl
  f53 := ⟨Tryz.f137.name, by decide, Tryz.func137.trans (congrArg some (by kernel_rfl))⟩
  f59 := ⟨Tryz.f191.name, by decide, Tryz.func191.trans (congrArg some (by kernel_rfl))⟩
  f63 := ⟨Tryz.f170.name, by decide, Tryz.func170.trans (congrArg some (by kernel_rfl))⟩
  f64 := Tryz.func171.trans (congrArg some (by kernel_rfl))
  f68 := ⟨Tryz.f212.name, by decide, Tryz.func212.trans (congrArg some (by kernel_rfl))⟩
  f70 := ⟨Tryz.f185.name, by decide, Tryz.func185.trans (congrArg some (by kernel_rfl))⟩
  f71 := ⟨Tryz.f186.name, by decide, Tryz.func186.trans (congrArg some (by kernel_rfl))⟩
  f72 := ⟨Tryz.f187.name, by decide, Tryz.func187.trans (congrArg some (by kernel_rfl))⟩
  f73 := ⟨Tryz.f188.name, by decide, Tryz.func188.trans (congrArg some (by kernel_rfl))⟩
  f74 := ⟨Tryz.f189.name, by decide, Tryz.func189.trans (congrArg some (by kernel_rfl))⟩
  f75 := ⟨Tryz.f190.name, by decide, Tryz.func190.trans (congrArg some (by kernel_rfl))⟩
  f76 := ⟨Tryz.f192.name, by decide, Tryz.func192.trans (congrArg some (by kernel_rfl))⟩
  f77 := ⟨Tryz.f193.name, by decide, Tryz.func193.trans (congrArg some (by kernel_rfl))⟩
  f78 := Tryz.func194.trans (congrArg some (by kernel_rfl))
  f79 := Tryz.func195.trans (congrArg some (by kernel_rfl))
  f88 := ⟨Tryz.f207.name, by decide, Tryz.func207.trans (congrArg some (by kernel_rfl))⟩
  f89 := Tryz.func208.trans (congrArg some (by kernel_rfl))
  f90 := Tryz.func209.trans (congrArg some (by kernel_rfl))
  f91 := ⟨Tryz.f210.name, by decide, Tryz.func210.trans (congrArg some (by kernel_rfl))⟩
  f92 := ⟨Tryz.f211.name, by decide, Tryz.func211.trans (congrArg some (by kernel_rfl))⟩
  f96 := ⟨Tryz.f216.name, by decide, Tryz.func216.trans (congrArg some (by kernel_rfl))⟩
  t0 := Tryz.underlying0
  a0 := Tryz.isAgg0
  z0 := Tryz.sizeOf0
  v0 := Tryz.zeroValue0
  t3 := Tryz.underlying3
  a3 := Tryz.isAgg3
  z3 := Tryz.sizeOf3
  v3 := Tryz.zeroValue3
  t4 := Tryz.underlying4
  a4 := Tryz.isAgg4
  z4 := Tryz.sizeOf4
  v4 := Tryz.zeroValue4
  t5 := Tryz.underlying5
  a5 := Tryz.isAgg5
  z5 := Tryz.sizeOf5
  v5 := Tryz.zeroValue5
  t9 := Tryz.underlying9
  a9 := Tryz.isAgg9
  z9 := Tryz.sizeOf9
  v9 := Tryz.zeroValue9
  t22 := Tryz.underlying46
  a22 := Tryz.isAgg46
  z22 := Tryz.sizeOf46
  v22 := Tryz.zeroValue46
  t23 := Tryz.underlying3
  a23 := Tryz.isAgg3
  z23 := Tryz.sizeOf3
  v23 := Tryz.zeroValue3
  t44 := Tryz.underlying43
  a44 := Tryz.isAgg43
  z44 := Tryz.sizeOf43
  v44 := Tryz.zeroValue43
  t51 := Tryz.underlying114
  a51 := Tryz.isAgg114
  z51 := Tryz.sizeOf114
  v51 := Tryz.zeroValue114
  t60 := Tryz.underlying204
  a60 := Tryz.isAgg204
  z60 := Tryz.sizeOf204
  v60 := Tryz.zeroValue204
  t61 := Tryz.underlying205
  a61 := Tryz.isAgg205
  z61 := Tryz.sizeOf205
  v61 := Tryz.zeroValue205
  t67 := Tryz.underlying211
  a67 := Tryz.isAgg211
  z67 := Tryz.sizeOf211
  v67 := Tryz.zeroValue211
  t69 := Tryz.underlying153
  a69 := Tryz.isAgg153
  z69 := Tryz.sizeOf153
  v69 := Tryz.zeroValue153
  t75 := Tryz.underlying219
  a75 := Tryz.isAgg219
  z75 := Tryz.sizeOf219
  v75 := Tryz.zeroValue219
  t79 := Tryz.underlying223
  a79 := Tryz.isAgg223
  z79 := Tryz.sizeOf223
  v79 := Tryz.zeroValue223
  t83 := Tryz.underlying228
  a83 := Tryz.isAgg228
  z83 := Tryz.sizeOf228
  v83 := Tryz.zeroValue228
  t84 := Tryz.underlying229
  a84 := Tryz.isAgg229
  z84 := Tryz.sizeOf229
  v84 := Tryz.zeroValue229 }
def Tryz.layCompact_ren : Go.Shelf.Ren := ⟨fun | 43 => 138 | n => n, fun | 22 => 46 | 23 => 3 | 3 => 3 | 4 => 4 | 0 => 0 | n => n, fun | n => n⟩
theorem Tryz.layCompact : Go.Proofs.SlLaysN.n43 Tryz.prog Tryz.layCompact_ren := {
  mixed := by kernel_rfl
  f43 := ⟨Tryz.f138.name, by decide, Tryz.func138.trans (congrArg some (by kernel_rfl))⟩
  t0 := Tryz.underlying0
  a0 := Tryz.isAgg0
  z0 := Tryz.sizeOf0
  v0 := Tryz.zeroValue0
  t3 := Tryz.underlying3
  a3 := Tryz.isAgg3
  z3 := Tryz.sizeOf3
  v3 := Tryz.zeroValue3
  t4 := Tryz.underlying4
  a4 := Tryz.isAgg4
  z4 := Tryz.sizeOf4
  v4 := Tryz.zeroValue4
  t22 := Tryz.underlying46
  a22 := Tryz.isAgg46
  z22 := Tryz.sizeOf46
  v22 := Tryz.zeroValue46
  t23 := Tryz.underlying3
  a23 := Tryz.isAgg3
  z23 := Tryz.sizeOf3
  v23 := Tryz.zeroValue3
  i23 := by kernel_rfl }
end Go.Proofs
namespace Go.Pt
def sc (zs : List Int) : List Int := Lib.compact (zs.mergeSort fun x y => decide (x ≤ y))
theorem srt_perm (zs : List Int) : List.Perm (zs.mergeSort fun x y => decide (x ≤ y)) zs := List.mergeSort_perm zs _
theorem srt_sorted (zs : List Int) : (zs.mergeSort fun x y => decide (x ≤ y)).Pairwise (· ≤ ·) := by
  have := List.pairwise_mergeSort (le := fun x y : Int => decide (x ≤ y)) (fun a b c h1 h2 => by simp only [decide_eq_true_eq] at *; omega) (fun a b => by simp only [Bool.or_eq_true, decide_eq_true_eq]; omega) zs
  exact this.imp fun h => by simpa using h
theorem keeps_iff (ys : List Int) (j : Nat) (hj : j < ys.length) : Lib.keeps ys.toArray j = true ↔ j = 0 ∨ ys[j - 1]'(by omega) ≠ ys[j] := by
  unfold Lib.keeps
  by_cases h0 : j = 0
  · simp [h0]
  · have h1 : j - 1 < ys.length := by omega
    simp [h0, hj, h1]
    omega
theorem compact_mem {ys : List Int} (hs : ys.Pairwise (· ≤ ·)) (x : Int) : x ∈ Lib.compact ys ↔ x ∈ ys := by
  unfold Lib.compact Lib.compactUpTo
  simp only [List.mem_map, List.mem_filter, List.mem_range]
  constructor
  · rintro ⟨j, ⟨hj, _⟩, rfl⟩
    simp [hj]
  · intro hx
    obtain ⟨j, hj, rfl⟩ := List.mem_iff_getElem.1 hx
    have key : ∀ n j (hj : j < ys.length), j ≤ n → ∃ i, ∃ hi : i < ys.length, Lib.keeps ys.toArray i = true ∧ ys[i] = ys[j] := by
      intro n
      induction n with
      | zero => intro j hj h; exact ⟨j, hj, (keeps_iff ys j hj).2 (.inl (by omega)), rfl⟩
      | succ n ih =>
        intro j hj h
        by_cases hk : Lib.keeps ys.toArray j = true
        · exact ⟨j, hj, hk, rfl⟩
        · rw [keeps_iff ys j hj] at hk
          have h1 : j ≠ 0 := fun e => hk (.inl e)
          have h2 : ys[j - 1]'(by omega) = ys[j] := by
            by_cases e : ys[j - 1]'(by omega) = ys[j]
            · exact e
            · exact absurd (.inr e) hk
          obtain ⟨i, hi, hki, e⟩ := ih (j - 1) (by omega) (by omega)
          exact ⟨i, hi, hki, by rw [e, h2]⟩
    obtain ⟨i, hi, hk, e⟩ := key j j hj (Nat.le_refl _)
    exact ⟨i, ⟨hi, hk⟩, by simp [hi, e]⟩
theorem compact_lt {ys : List Int} (hs : ys.Pairwise (· ≤ ·)) : (Lib.compact ys).Pairwise (· < ·) := by
  unfold Lib.compact Lib.compactUpTo
  rw [List.pairwise_map]
  have hr : ((List.range ys.length).filter (Lib.keeps ys.toArray)).Pairwise (· < ·) := List.Pairwise.filter _ List.pairwise_lt_range
  refine List.Pairwise.imp_of_mem ?_ hr
  intro i j hi hj hij
  rw [List.mem_filter, List.mem_range] at hi hj
  have hle := List.pairwise_iff_getElem.1 hs
  have h1 := (keeps_iff ys j hj.1).1 hj.2
  have e1 : ys.toArray[i]! = ys[i]'hi.1 := by simp [hi.1]
  have e2 : ys.toArray[j]! = ys[j]'hj.1 := by simp [hj.1]
  rw [e1, e2]
  rcases h1 with h1 | h1
  · omega
  · have h2 := hle (j - 1) j (by omega) hj.1 (by omega)
    by_cases e : i = j - 1
    · subst e
      omega
    · have h3 := hle i (j - 1) hi.1 (by omega) (by omega)
      omega
theorem sc_mem (zs : List Int) (x : Int) : x ∈ sc zs ↔ x ∈ zs := by
  unfold sc
  rw [compact_mem (srt_sorted zs)]
  exact (srt_perm zs).mem_iff
theorem sc_lt (zs : List Int) : (sc zs).Pairwise (· < ·) := compact_lt (srt_sorted zs)
theorem rise_ext : ∀ {xs ys : List Int}, xs.Pairwise (· < ·) → ys.Pairwise (· < ·) → (∀ x, x ∈ xs ↔ x ∈ ys) → xs = ys
  | [], [], _, _, _ => rfl
  | [], b :: ys, _, _, h => absurd ((h b).2 (by simp)) (by simp)
  | a :: xs, [], _, _, h => absurd ((h a).1 (by simp)) (by simp)
  | a :: xs, b :: ys, h1, h2, h => by
    rw [List.pairwise_cons] at h1 h2
    have e : a = b := by
      rcases List.mem_cons.1 ((h a).1 (by simp)) with e | e
      · exact e
      · have k1 := h2.1 a e
        rcases List.mem_cons.1 ((h b).2 (by simp)) with e' | e'
        · omega
        · have k2 := h1.1 b e'; omega
    subst e
    refine congrArg _ (rise_ext h1.2 h2.2 fun x => ?_)
    constructor
    · intro hx
      rcases List.mem_cons.1 ((h x).1 (by simp [hx])) with e | e
      · have := h1.1 x hx; omega
      · exact e
    · intro hx
      rcases List.mem_cons.1 ((h x).2 (by simp [hx])) with e | e
      · have := h2.1 x hx; omega
      · exact e
theorem compact_len (ys : List Int) : (Lib.compact ys).length ≤ ys.length := by
  unfold Lib.compact Lib.compactUpTo
  rw [List.length_map]
  exact Nat.le_trans (List.length_filter_le _ _) (by simp)
theorem sc_len (zs : List Int) : (sc zs).length ≤ zs.length := by
  unfold sc
  exact Nat.le_trans (compact_len _) (by rw [List.length_mergeSort]; exact Nat.le_refl _)
def put (l : List Int) (n : Int) : List Int := if n ∈ l then l else l.takeWhile (· < n) ++ n :: l.dropWhile (· < n)
theorem put_mem (l : List Int) (n x : Int) : x ∈ put l n ↔ x = n ∨ x ∈ l := by
  unfold put
  split
  · rename_i h
    exact ⟨.inr, fun h' => by rcases h' with rfl | h'; exact h; exact h'⟩
  · rw [List.mem_append, List.mem_cons]
    have : x ∈ l ↔ x ∈ l.takeWhile (· < n) ∨ x ∈ l.dropWhile (· < n) := by
      rw [← List.mem_append, List.takeWhile_append_dropWhile]
    rw [this]
    constructor
    · rintro (h | h | h)
      · exact .inr (.inl h)
      · exact .inl h
      · exact .inr (.inr h)
    · rintro (h | h | h)
      · exact .inr (.inl h)
      · exact .inl h
      · exact .inr (.inr h)
theorem drop_ge {l : List Int} {n : Int} (hs : l.Pairwise (· < ·)) : ∀ x ∈ l.dropWhile (· < n), n ≤ x := by
  induction l with
  | nil => intro x hx; simp at hx
  | cons a l ih =>
    rw [List.pairwise_cons] at hs
    intro x hx
    rw [List.dropWhile_cons] at hx
    split at hx
    · exact ih hs.2 x hx
    · rename_i h
      simp only [decide_eq_true_eq] at h
      rcases List.mem_cons.1 hx with rfl | hx
      · omega
      · have := hs.1 x hx; omega
theorem take_lt {l : List Int} {n : Int} : ∀ x ∈ l.takeWhile (· < n), x < n := by
  induction l with
  | nil => intro x hx; simp at hx
  | cons a l ih =>
    intro x hx
    rw [List.takeWhile_cons] at hx
    split at hx
    · rename_i h
      rcases List.mem_cons.1 hx with rfl | hx
      · simpa using h
      · exact ih x hx
    · simp at hx
theorem put_lt {l : List Int} (n : Int) (hs : l.Pairwise (· < ·)) : (put l n).Pairwise (· < ·) := by
  unfold put
  split
  · exact hs
  · rename_i hn
    rw [List.pairwise_append, List.pairwise_cons]
    have h2 := drop_ge (n := n) hs
    have h3 : ∀ x ∈ l.dropWhile (· < n), n < x := fun x hx => by
      have := h2 x hx
      have hm : x ∈ l := (List.dropWhile_suffix _).subset hx
      have : x ≠ n := fun e => hn (e ▸ hm)
      omega
    refine ⟨List.Pairwise.sublist (List.takeWhile_prefix _).sublist hs, ⟨h3, List.Pairwise.sublist (List.dropWhile_suffix _).sublist hs⟩, fun a ha b hb => ?_⟩
    have h4 := take_lt a ha
    rcases List.mem_cons.1 hb with rfl | hb
    · exact h4
    · have := h3 b hb; omega
theorem put_len (l : List Int) (n : Int) : (put l n).length ≤ l.length + 1 := by
  unfold put
  split
  · omega
  · have : (l.takeWhile (· < n)).length + (l.dropWhile (· < n)).length = l.length := by rw [← List.length_append, List.takeWhile_append_dropWhile]
    rw [List.length_append, List.length_cons]; omega
theorem foldl_put (xs : List Int) : ∀ (l : List Int), l.Pairwise (· < ·) → (xs.foldl put l).Pairwise (· < ·) ∧ ∀ x, x ∈ xs.foldl put l ↔ x ∈ l ∨ x ∈ xs := by
  induction xs with
  | nil => intro l hl; exact ⟨hl, fun x => by simp⟩
  | cons a xs ih =>
    intro l hl
    obtain ⟨h1, h2⟩ := ih (put l a) (put_lt a hl)
    refine ⟨h1, fun x => ?_⟩
    rw [List.foldl_cons, h2, put_mem, List.mem_cons]
    constructor
    · rintro ((h | h) | h)
      · exact .inr (.inl h)
      · exact .inl h
      · exact .inr (.inr h)
    · rintro (h | h | h)
      · exact .inl (.inr h)
      · exact .inl (.inl h)
      · exact .inr h
theorem puts_sc (xs : List Int) : xs.foldl put [] = sc xs := by
  have := foldl_put xs [] List.Pairwise.nil
  exact rise_ext this.1 (sc_lt xs) fun x => by rw [this.2, sc_mem]; simp
end Go.Pt
namespace Go.Proofs.YtgcklgeifdefhaaGreat
open Go Go.Sep Go.Pt Go.RowKit
abbrev srt (zs : List Int) : List Int := zs.mergeSort fun x y => decide (x ≤ y)
theorem Sort_hb : HasBody Tryz.prog 137 := ⟨_, bodyOf Tryz.f137, Tryz.func137, by kernel_rfl, rfl⟩
theorem Compact_hb : HasBody Tryz.prog 138 := ⟨_, bodyOf Tryz.f138, Tryz.func138, by kernel_rfl, rfl⟩
theorem Sort_row {H : Heap} {q : Nat} {zs : List Int} {K : AV → Heap → Prop} (hq : H q = some (zs.map fun n => AV.p (.int .i64 n))) (hl : zs.length ≤ 1000000000) (h : K (.tup []) (H.set q ((srt zs).map fun n => AV.p (.int .i64 n)))) : CallT Tryz.prog 137 [.sl q 1 0 zs.length] H K :=
  CallT.inPlace Sort_hb hq (srt zs) (List.length_mergeSort ..) (fun blk off cap w _ hH hb => AnyG.slices_Sort_int Tryz.laySort blk off cap zs w hH hb (by omega)) (fun _ p cap w => AnyG.slices_Sort_int_none Tryz.laySort p cap w) h
theorem Compact_row {H : Heap} {q : Nat} {zs : List Int} {K : AV → Heap → Prop} (hq : H q = some (zs.map fun n => AV.p (.int .i64 n))) (hl : zs.length ≤ 1000000000) (h : K (.sl q 1 0 (Lib.compact zs).length) (H.set q ((Lib.compact zs).map fun n => AV.p (.int .i64 n)))) : CallT Tryz.prog 138 [.sl q 1 0 zs.length] H K := by
  refine CallT.fin ?_
  refine CallT.inPlaceC Compact_hb hq (Lib.compact zs) (List.replicate (zs.length - (Lib.compact zs).length) 0) (by have := compact_len zs; rw [List.length_append, List.length_replicate]; omega) (fun blk off cap w hc hH hb => AnyG.slices_Compact_int Tryz.layCompact blk off cap zs w hH (by omega) hc) (fun _ p cap w => AnyG.slices_Compact_int_empty Tryz.layCompact p cap w) ?_
  refine ⟨_, _, .cell (cs' := (Lib.compact zs).map fun n => AV.p (.int .i64 n)) (Heap.set_same _ _ _) (by rw [List.map_append, List.length_append]; omega) (fun i a a' h1 h2 => ?_), ?_⟩
  · rw [List.map_append, List.getElem?_append_left (List.getElem?_eq_some_iff.1 h2).1, h2] at h1
    cases h1; exact .refl _
  · rw [Heap.set_set]; exact h
end Go.Proofs.YtgcklgeifdefhaaGreat
namespace Go.Proofs.YtgcklgeifdefhaaGreat
open Go Go.Sep Go.Pt
attribute [local irreducible] CallT
theorem tw_split {l : List Int} {n : Int} : ∀ {k : Nat}, k ≤ l.length → (∀ j, j < k → l.getD j default < n) → (k = l.length ∨ ¬ l.getD k default < n) → l.takeWhile (· < n) = l.take k ∧ l.dropWhile (· < n) = l.drop k := by
  induction l with
  | nil => intro k hk _ _; simp
  | cons a l ih =>
    intro k hk h1 h2
    cases k with
    | zero =>
      have : ¬ a < n := by
        rcases h2 with h2 | h2
        · simp at h2
        · simpa using h2
      simp [this]
    | succ k =>
      have h0 : a < n := by simpa using h1 0 (by omega)
      have := ih (k := k) (by simpa using hk) (fun j hj => by simpa using h1 (j + 1) (by omega)) (by
        rcases h2 with h2 | h2
        · left; simpa using h2
        · right; simpa using h2)
      simp [h0, this.1, this.2]
theorem l1Put_spec (l : List Int) (n : Int) (hs : l.Pairwise (· < ·)) (hl : l.length ≤ 100000) : Pu Tryz.prog 123 [Is l, I n] (Is (put l n)) := by
  refine ⟨fun H => CallT.fin ?_⟩
  refine W123_ok ?_; simp (maxSteps := 1000000) (disch := first | assumption | (apply ν6; assumption)) only [W123, vz, vu, vv, eqS, eF_, ↓c1_, ↓c2_, tabs, reduceCtorEq, ι5, ↓reduceIte, ν1, ν2, ν3, ν4, ν5, ι1, ι2, ι3, ι4]
  refine L123_0_rule (0 : Nat) (fun i => I i) (fun _ => H) (fun k => k ≤ l.length ∧ ∀ j, j < k → l.getD j default < n) (fun k => l.length - k) ⟨⟨by omega, by intros; omega⟩, .refl _, Heap.le_refl _⟩ ?_
  rintro k ⟨hk, ha⟩
  have ins : ((k = l.length ∨ ¬ l.getD k default < n) ∧ n ∉ l) → J123_1 (wkK fun r H' => r = Is (put l n) ∧ H' = H) (Is l) (I n) (I k) H := by
    rintro ⟨h2, hn⟩
    have ht := tw_split hk ha h2
    (try simp (maxSteps := 1000000) (disch := first | assumption | (apply ν6; assumption)) only [vz, vu, vv, eqS, eF_, ↓c1_, ↓c2_, tabs, reduceCtorEq, ι5, ↓reduceIte, ν1, ν2, ν3, ν4, ν5, ι1, ι2, ι3, ι4, J123_1])
    refine lit0I fun q0 hq0 => ?_
    (try simp (maxSteps := 1000000) (disch := first | assumption | (apply ν6; assumption)) only [vz, vu, vv, eqS, eF_, ↓c1_, ↓c2_, tabs, reduceCtorEq, ι5, ↓reduceIte, ν1, ν2, ν3, ν4, ν5, ι1, ι2, ι3, ι4, sliceV])
    refine ⟨by omega, by omega, by omega, szI l, ?_⟩
    have hlt : (l.take k).length = k := by rw [List.length_take, Nat.min_eq_left hk]
    refine app_topI (xs := []) (ys := l.take k) hq0 (by simp only [List.length_nil, hlt]; omega) fun q1 hq1 => ?_
    rw [List.nil_append]
    refine push_topI hq1 (by omega) fun q2 hq2 => ?_
    (try simp (maxSteps := 1000000) (disch := first | assumption | (apply ν6; assumption)) only [vz, vu, vv, eqS, eF_, ↓c1_, ↓c2_, tabs, reduceCtorEq, ι5, ↓reduceIte, ν1, ν2, ν3, ν4, ν5, ι1, ι2, ι3, ι4, sliceV])
    refine ⟨by omega, by omega, by omega, szI l, ?_⟩
    have e1 : List.take ((l.length : Int) - k).toNat (l.drop k) = l.drop k := List.take_of_length_le (by rw [List.length_drop]; omega)
    rw [e1]
    have e2 : l.take k ++ [n] ++ l.drop k = put l n := by rw [put, if_neg hn, ht.1, ht.2]; simp
    refine app_topI (xs := l.take k ++ [n]) (ys := l.drop k) hq2 (by simp only [List.length_append, hlt, List.length_drop, List.length_singleton]; omega) fun q3 hq3 => ?_
    rw [e2]
    exact fin_int hq3 (Heap.le_refl _)
  have here : (k = l.length ∨ ¬ l.getD k default < n) → J123_2 (wkK fun r H' => r = Is (put l n) ∧ H' = H) (Is l) (I n) (I k) H := by
    intro h2
    have ht := tw_split hk ha h2
    have ge : ∀ x ∈ l.drop k, n ≤ x := by rw [← ht.2]; exact drop_ge hs
    have lt : ∀ x ∈ l.take k, x < n := by rw [← ht.1]; exact take_lt
    (try simp (maxSteps := 1000000) (disch := first | assumption | (apply ν6; assumption)) only [vz, vu, vv, eqS, eF_, ↓c1_, ↓c2_, tabs, reduceCtorEq, ι5, ↓reduceIte, ν1, ν2, ν3, ν4, ν5, ι1, ι2, ι3, ι4, J123_2])
    refine ⟨fun h3 => ⟨by omega, h3, fun h4 => ?_, fun h4 => ins ⟨h2, fun hm => ?_⟩⟩, fun h3 => ins ⟨h2, fun hm => ?_⟩⟩
    · have hkl : k < l.length := by omega
      have hm : n ∈ l := by rw [← h4]; exact getD_all (p := fun x => x ∈ l) (fun _ h => h) hkl
      exact wkK.keep ⟨by rw [put, if_pos hm], rfl⟩
    · have hkl : k < l.length := by omega
      rw [← List.take_append_drop k l] at hm
      rcases List.mem_append.1 hm with hm | hm
      · have := lt n hm; omega
      · rw [drop_cons hkl] at hm ge
        rcases List.mem_cons.1 hm with hm | hm
        · exact h4 hm.symm
        · have h5 := ge _ (List.mem_cons_self ..)
          have h6 : (l.drop k).Pairwise (· < ·) := List.Pairwise.sublist (List.drop_sublist k l) hs
          rw [drop_cons hkl, List.pairwise_cons] at h6
          have := h6.1 n hm
          omega
    · rw [← List.take_append_drop k l, List.drop_of_length_le (by omega), List.append_nil] at hm
      have := lt n hm; omega
  (try simp (maxSteps := 1000000) (disch := first | assumption | (apply ν6; assumption)) only [vz, vu, vv, eqS, eF_, ↓c1_, ↓c2_, tabs, reduceCtorEq, ι5, ↓reduceIte, ν1, ν2, ν3, ν4, ν5, ι1, ι2, ι3, ι4, B123_0])
  refine ⟨fun h1 => ⟨by omega, h1, fun h2 => ⟨k + 1, ⟨by omega, fun j hj => ?_⟩, by omega, ?_⟩, fun h2 => here (.inr h2)⟩, fun h1 => here (.inl (by omega))⟩
  · rcases Nat.lt_succ_iff_lt_or_eq.1 hj with h | rfl
    · exact ha j h
    · exact h2
  · rw [wk_int, i64_id (by omega) (by omega)]; simp
abbrev rnG (x : AV) (gs : List (List Int)) (D : List Nat) : Th := rnT LIc.local LIc.has 1 x gs D
theorem rn_pushL {H G : Heap} {Ts : List Th} {qn ql : Nat} {x : AV} {gs : List (List Int)} {l : List Int} {D : List Nat} (s : St H (cellT ql [rowP qn l] :: cellT qn (cP fI l) :: Ts) G) (i : Nat) (hi : Ts[i]? = some (rnG x gs D)) (hlen : gs.length ≤ 100000) {K : AV → Heap → Prop}
    (h : ∀ q' D' G', G q' = none → St H (Ts.set i (rnG (.sl q' 1 0 (gs.length + 1)) (gs ++ [l]) D')) G' → K (.sl q' 1 0 (gs.length + 1)) G') : appendV tab 60 60 x (.sl ql 1 0 1) G (wkK K) := by
  have s1 := (s.pick (i + 2) hi).perm (Us := [rnG x gs D, cellT ql [rowP qn l], cellT qn (cP fI l)] ++ Ts.eraseIdx i) (List.Perm.refl _)
  have hrz : RN LIc 1 x gs G D := s1.get 0 rfl
  have hql : G ql = some [rowP qn l] := s1.get 1 rfl
  have hqn : G qn = some (cP fI l) := s1.get 2 rfl
  have fin : ∀ q' D' G', G q' = none → LRow LIc 1 (gs ++ [l]) (.sl q' 1 0 (gs.length + 1)) G' D' → D'.Nodup → (∀ y ∈ D', y ∈ D ∨ y = qn ∨ y = q') → (∀ y b, G y = some b → y ∉ D → y ≠ ql → y ≠ qn → G' y = some b) → K (.sl q' 1 0 (gs.length + 1)) G' := by
    intro q' D' G' hq' hrow hnd hsub hfr
    refine h q' D' G' hq' ?_
    have s2 := s1.step [rnG (.sl q' 1 0 (gs.length + 1)) (gs ++ [l]) D'] (by simpa [rnT] using hnd) (fun t ht y hy => by
      rw [List.mem_singleton] at ht; subst ht
      rcases hsub y hy with h1 | h1 | h1
      · exact .inl ⟨rnG x gs D, by simp, h1⟩
      · exact .inl ⟨cellT qn (cP fI l), by simp, by rw [h1]; simp [cellT]⟩
      · exact .inr (by rw [h1]; exact hq')) (fun y b hb hy => hfr y b hb (hy (rnG x gs D) (by simp)) (fun e => hy (cellT ql [rowP qn l]) (by simp) (by rw [e]; simp [cellT])) (fun e => hy (cellT qn (cP fI l)) (by simp) (by rw [e]; simp [cellT]))) (fun t ht => by
      rw [List.mem_singleton] at ht; subst ht; exact .inr hrow)
    obtain ⟨hi', -⟩ := List.getElem?_eq_some_iff.1 hi
    exact s2.perm (perm_set Ts i hi' _).symm
  have nqn : ∀ {q'}, G q' = none → q' ≠ qn := fun hq' e => by rw [e, hqn] at hq'; cases hq'
  have nql : ∀ {q'}, G q' = none → q' ≠ ql := fun hq' e => by rw [e, hql] at hq'; cases hq'
  have dq : qn ∉ D := fun hm => (s1.disjI 0 2 rfl rfl (by decide)) qn hm (by simp [cellT])
  have nnl : qn ≠ ql := fun e => by
    have := (s1.disjI 1 2 rfl rfl (by decide)) ql (by simp [cellT])
    exact this (by simp [cellT, e])
  have nd := s1.ndT 0 rfl
  simp only [appendV, tab_60, tab_46, srcV, hql]
  rcases hrz with ⟨rfl, rfl, rfl⟩ | ⟨q, cs, D', rfl, hq, hll, rfl⟩
  · simp only [baseV]
    refine ⟨trivial, by simp, by omega, by omega, rfl, fun q' hq' => wkK.keep ?_⟩
    refine fin q' [q', qn] _ hq' ⟨q', [rowP qn l], [qn], rfl, Heap.set_same _ _ _, ⟨[rowP qn l], [], [qn], [], rfl, by simp, ⟨_, rfl, LI_mk' (by rw [Heap.set_other (Ne.symm (nqn hq'))]; exact hqn)⟩, ⟨rfl, rfl⟩⟩, rfl⟩ (by simp [nqn hq']) (fun y hy => ?_) (fun y b hb _ _ _ => Heap.le_set hq' y b hb)
    simp only [List.mem_cons, List.not_mem_nil, or_false] at hy
    rcases hy with rfl | rfl <;> simp
  · have hcl : cs.length = gs.length := by rw [LL.size LIc.size hll, Nat.mul_one]
    simp only [baseV, hq]
    have e1 : List.take (gs.length * 1) (List.drop 0 cs) = cs := by rw [List.drop_zero, Nat.mul_one, ← hcl, List.take_length]
    have e2 : List.take (1 * 1) (List.drop 0 [rowP qn l]) = [rowP qn l] := rfl
    refine ⟨trivial, by simp, trivial, by omega, by omega, by omega, rfl, fun q' hq' => wkK.keep ?_⟩
    rw [e1, e2]
    have nq : q' ≠ q := fun e => by rw [e, hq] at hq'; cases hq'
    have old : ∀ y b, G y = some b → y ≠ q → ((G.del q).set q' (cs ++ [rowP qn l])) y = some b := fun y b hb hy => by
      rw [Heap.set_other (fun e => by rw [e, hq'] at hb; cases hb), Heap.del_other hy]; exact hb
    simp only [rnT, List.nodup_cons] at nd
    simp only [List.mem_cons, not_or] at dq
    have hq'D : q' ∉ D' := fun hm => LL.has LIc.has hll q' hm hq'
    refine fin q' (q' :: (D' ++ [qn])) _ hq' ⟨q', cs ++ [rowP qn l], D' ++ [qn], by simp, Heap.set_same _ _ _, LL.snoc ⟨_, rfl, LI_mk' (old _ _ hqn dq.1)⟩ (LL.local LIc.local hll fun y hy b hb => old y b hb (fun e => nd.1 (e ▸ hy))), rfl⟩ ?_ (fun y hy => ?_) (fun y b hb hy h5 h6 => ?_)
    · rw [List.nodup_cons, List.nodup_append]
      refine ⟨by simp only [List.mem_append, List.mem_singleton, not_or]; exact ⟨hq'D, nqn hq'⟩, nd.2, by simp, fun a ha b hb e => ?_⟩
      rw [List.mem_singleton] at hb
      exact dq.2 (by rw [← hb, ← e]; exact ha)
    · simp only [List.mem_cons, List.mem_append, List.not_mem_nil, or_false] at hy ⊢
      rcases hy with rfl | hy | rfl
      · exact .inr (.inr rfl)
      · exact .inl (.inr hy)
      · exact .inr (.inl rfl)
    · rw [List.mem_cons, not_or] at hy
      exact old y b hb hy.1
end Go.Proofs.YtgcklgeifdefhaaGreat
namespace Go.Proofs.YtgcklgeifdefhaaGreat
open Go Go.Sep Go.Pt
attribute [local irreducible] CallT
theorem need_impl.operandsOfSaid_spec (op : Int) : Pu Tryz.prog 134 [I op] (I (need op)) := by
  refine Pu.of fun H => ?_
  refine W134_ok ?_; simp (maxSteps := 1000000) (disch := first | assumption | (apply ν6; assumption)) only [W134, vz, vu, vv, eqS, eF_, ↓c1_, ↓c2_, tabs, reduceCtorEq, ι5, ↓reduceIte, ν1, ν2, ν3, ν4, ν5, ι1, ι2, ι3, ι4, J134_0, J134_1]
  by_cases h1 : op = 1
  · subst h1; simp [need]
  by_cases h2 : op = 2
  · subst h2; simp [need]
  by_cases h3 : op = 3
  · subst h3; simp [need]
  by_cases h4 : op = 4
  · subst h4; simp [need]
  by_cases h5 : op = 5
  · subst h5; simp [need]
  by_cases h6 : op = 6
  · subst h6; simp [need]
  by_cases h7 : op = 7
  · subst h7; simp [need]
  by_cases h8 : op = 8
  · subst h8; simp [need]
  simp [need, h1, h2, h3, h4, h5, h6, h7, h8]
theorem need_spec.l10Need_spec (op : Int) : Pu Tryz.prog 121 [I op] (I (need op)) := by
  refine Pu.of fun H => ?_
  refine W121_ok ?_; simp (maxSteps := 1000000) (disch := first | assumption | (apply ν6; assumption)) only [W121, vz, vu, vv, eqS, eF_, ↓c1_, ↓c2_, tabs, reduceCtorEq, ι5, ↓reduceIte, ν1, ν2, ν3, ν4, ν5, ι1, ι2, ι3, ι4, J121_0, J121_1]
  by_cases h1 : op = 1
  · subst h1; simp [need]
  by_cases h2 : op = 2
  · subst h2; simp [need]
  by_cases h3 : op = 3
  · subst h3; simp [need]
  by_cases h4 : op = 4
  · subst h4; simp [need]
  by_cases h5 : op = 5
  · subst h5; simp [need]
  by_cases h6 : op = 6
  · subst h6; simp [need]
  by_cases h7 : op = 7
  · subst h7; simp [need]
  by_cases h8 : op = 8
  · subst h8; simp [need]
  simp [need, h1, h2, h3, h4, h5, h6, h7, h8]
theorem isSaid_spec (x : Sd) : Pu Tryz.prog 135 [aD x] (B (sdOk x)) := by
  refine Pu.of fun H => ?_
  refine W135_ok ?_; simp (maxSteps := 1000000) (disch := first | assumption | (apply ν6; assumption)) only [W135, vz, vu, vv, eqS, eF_, ↓c1_, ↓c2_, tabs, reduceCtorEq, ι5, ↓reduceIte, ν1, ν2, ν3, ν4, ν5, ι1, ι2, ι3, ι4]
  intro r hr
  have hle := Heap.le_set (b := [I x.op, I x.n]) hr
  refine ⟨fun h1 => ?_, fun h1 => ⟨fun h2 => ?_, fun h2 => ?_⟩⟩
  · rw [sdOk, if_pos h1]
    exact ⟨fun h3 => ⟨by rw [decide_eq_true h3, Bool.true_and], hle⟩, fun h3 => ⟨by rw [decide_eq_false h3, Bool.false_and], hle⟩⟩
  · rw [sdOk, if_neg h1, if_pos h2]
    exact ⟨fun h3 => ⟨by rw [decide_eq_true h3, Bool.true_or], hle⟩, fun h3 => ⟨by rw [decide_eq_false h3, Bool.false_or], hle⟩⟩
  · refine Pu.use (need_impl.operandsOfSaid_spec x.op) ?_
    rw [sdOk, if_neg h1, if_neg h2]
    (try simp (maxSteps := 1000000) (disch := first | assumption | (apply ν6; assumption)) only [vz, vu, vv, eqS, eF_, ↓c1_, ↓c2_, tabs, reduceCtorEq, ι5, ↓reduceIte, ν1, ν2, ν3, ν4, ν5, ι1, ι2, ι3, ι4])
    exact ⟨fun h3 => ⟨by rw [decide_eq_true h3, Bool.true_and], hle⟩, fun h3 => ⟨by rw [decide_eq_false h3, Bool.false_and], hle⟩⟩
theorem l10N_spec (x : Sd) (h : 0 ≤ need x.op) : Pu Tryz.prog 122 [aD x] (B (sdOk x)) := by
  refine Pu.of fun H => ?_
  refine W122_ok ?_; simp (maxSteps := 1000000) (disch := first | assumption | (apply ν6; assumption)) only [W122, vz, vu, vv, eqS, eF_, ↓c1_, ↓c2_, tabs, reduceCtorEq, ι5, ↓reduceIte, ν1, ν2, ν3, ν4, ν5, ι1, ι2, ι3, ι4]
  intro r hr
  have hle := Heap.le_set (b := [I x.op, I x.n]) hr
  refine ⟨fun h1 => ?_, fun h1 => ⟨fun h2 => ?_, fun h2 => ?_⟩⟩
  · rw [sdOk, if_pos h1]
    refine Pu.use (l1In_spec x.n 0 2) ⟨?_, hle⟩
    exact congrArg (fun b : Bool => B b) (by rw [Bool.eq_iff_iff]; simp only [Bool.and_eq_true, decide_eq_true_eq]; omega)
  · rw [sdOk, if_neg h1, if_pos h2]
    refine Pu.use (l1In_spec x.n 0 1) ⟨?_, hle⟩
    exact congrArg (fun b : Bool => B b) (by rw [Bool.eq_iff_iff]; simp only [Bool.and_eq_true, Bool.or_eq_true, decide_eq_true_eq]; omega)
  · rw [sdOk, if_neg h1, if_neg h2]
    have : 0 < need x.op := by
      rcases need_cases x.op with h3 | h3 | h3 | h3 <;> omega
    exact ⟨by rw [decide_eq_true this, Bool.true_and], hle⟩
theorem goodF_false {f : List Sd} {i : Nat} (hi : i < f.length) (h : sdAt f i = false) : goodF f = false := by
  rw [goodF, Bool.and_eq_false_iff, Bool.and_eq_false_iff]
  exact .inl (.inr (range_all_false hi h))
theorem vals_bd {f : List Sd} : ∀ i, (∀ j, j < i → sdAt f j = true) → 0 ≤ vals f i ∧ vals f i ≤ i := by
  intro i
  induction i with
  | zero => intro _; exact ⟨Int.le_refl _, Int.le_refl _⟩
  | succ i ih =>
    intro h
    have h1 := ih fun j hj => h j (by omega)
    have h2 := h i (by omega)
    simp only [sdAt, Bool.and_eq_true, decide_eq_true_eq] at h2
    have h3 := sdOk_need h2.1
    have h4 := h2.2
    simp only [vals]
    omega
theorem GoodSaid_impl (f : List Sd) (hl : f.length ≤ 1048576) : Pu Tryz.prog 84 [Ds f] (B (goodF f)) := by
  refine Pu.of fun H => ?_
  refine W84_ok ?_; simp (maxSteps := 1000000) (disch := first | assumption | (apply ν6; assumption)) only [W84, vz, vu, vv, eqS, eF_, ↓c1_, ↓c2_, tabs, reduceCtorEq, ι5, ↓reduceIte, ν1, ν2, ν3, ν4, ν5, ι1, ι2, ι3, ι4]
  refine ⟨fun h1 => by rw [goodF, decide_eq_false (by omega)]; rfl, fun h1 => ⟨fun h2 => by rw [goodF, decide_eq_false (show ¬ f.length ≤ 16 by omega), Bool.and_false]; rfl, fun h2 => ?_⟩⟩
  refine L84_0_rule (0 : Nat) (fun i => I (vals f i)) (fun i => I i) (fun _ => H) (fun i => i ≤ f.length ∧ ∀ j, j < i → sdAt f j = true) (fun i => f.length - i) ⟨⟨by omega, by intros; omega⟩, .refl _, .refl _, Heap.le_refl _⟩ ?_
  rintro i ⟨hi, ha⟩
  have hv := vals_bd i ha
  (try simp (maxSteps := 1000000) (disch := first | assumption | (apply ν6; assumption)) only [vz, vu, vv, eqS, eF_, ↓c1_, ↓c2_, tabs, reduceCtorEq, ι5, ↓reduceIte, ν1, ν2, ν3, ν4, ν5, ι1, ι2, ι3, ι4, B84_0])
  refine ⟨fun h3 => ⟨by omega, h3, ?_⟩, fun h3 => ?_⟩
  · have hlt : i < f.length := by omega
    have hat : sdAt f i = (sdOk (f.getD i default) && decide (need (f.getD i default).op ≤ vals f i)) := rfl
    have hvs : vals f (i + 1) = vals f i + (1 - need (f.getD i default).op) := rfl
    generalize f.getD i default = x at hat hvs ⊢
    intro r hr
    have hle := Heap.le_set (b := [I x.op, I x.n]) hr
    refine Pu.use (need_impl.operandsOfSaid_spec x.op) ?_
    (try simp (maxSteps := 1000000) (disch := first | assumption | (apply ν6; assumption)) only [vz, vu, vv, eqS, eF_, ↓c1_, ↓c2_, tabs, reduceCtorEq, ι5, ↓reduceIte, ν1, ν2, ν3, ν4, ν5, ι1, ι2, ι3, ι4])
    refine Pu.use (isSaid_spec x) ?_
    cases hok : sdOk x
    · (try simp (maxSteps := 1000000) (disch := first | assumption | (apply ν6; assumption)) only [vz, vu, vv, eqS, eF_, ↓c1_, ↓c2_, tabs, reduceCtorEq, ι5, ↓reduceIte, ν1, ν2, ν3, ν4, ν5, ι1, ι2, ι3, ι4])
      exact ⟨by rw [goodF_false hlt (by rw [hat, hok]; rfl)], hle⟩
    · have hnd := sdOk_need hok
      (try simp (maxSteps := 1000000) (disch := first | assumption | (apply ν6; assumption)) only [vz, vu, vv, eqS, eF_, ↓c1_, ↓c2_, tabs, reduceCtorEq, ι5, ↓reduceIte, ν1, ν2, ν3, ν4, ν5, ι1, ι2, ι3, ι4])
      refine ⟨fun h4 => ⟨by rw [goodF_false hlt (by rw [hat, hok, Bool.true_and, decide_eq_false (by omega)])], hle⟩, fun h4 => ⟨i + 1, ⟨by omega, fun j hj => ?_⟩, by omega, ?_, ?_, hle⟩⟩
      · rcases Nat.lt_succ_iff_lt_or_eq.1 hj with h | rfl
        · exact ha j h
        · rw [hat, hok, Bool.true_and, decide_eq_true (by omega)]
      · rw [wk_int, i64_id (n := 1 - need x.op) (by omega) (by omega), i64_id (by omega) (by omega), hvs]
      · rw [wk_int, i64_id (by omega) (by omega)]; simp
  · have : i = f.length := by omega
    subst this
    refine congrArg (fun b : Bool => B b) ?_
    have hall : (List.range f.length).all (sdAt f) = true := List.all_eq_true.2 fun j hj => ha j (List.mem_range.1 hj)
    rw [goodF, hall, decide_eq_true (show 1 ≤ f.length by omega), decide_eq_true (show f.length ≤ 16 by omega)]; rfl
theorem GoodSaid_spec (f : List Sd) (hl : f.length ≤ 1048576) : Pu Tryz.prog 77 [Ds f] (B (goodF f)) := by
  refine Pu.of fun H => ?_
  refine W77_ok ?_; simp (maxSteps := 1000000) (disch := first | assumption | (apply ν6; assumption)) only [W77, vz, vu, vv, eqS, eF_, ↓c1_, ↓c2_, tabs, reduceCtorEq, ι5, ↓reduceIte, ν1, ν2, ν3, ν4, ν5, ι1, ι2, ι3, ι4]
  refine Pu.use (l1In_spec f.length 1 16) ?_
  cases hin : (decide ((1 : Int) ≤ f.length) && decide ((f.length : Int) ≤ 16))
  · (try simp (maxSteps := 1000000) (disch := first | assumption | (apply ν6; assumption)) only [vz, vu, vv, eqS, eF_, ↓c1_, ↓c2_, tabs, reduceCtorEq, ι5, ↓reduceIte, ν1, ν2, ν3, ν4, ν5, ι1, ι2, ι3, ι4])
    rw [Bool.and_eq_false_iff, decide_eq_false_iff_not, decide_eq_false_iff_not] at hin
    rcases hin with h | h
    · rw [goodF, decide_eq_false (by omega)]; rfl
    · rw [goodF, decide_eq_false (show ¬ f.length ≤ 16 by omega), Bool.and_false]; rfl
  rw [Bool.and_eq_true, decide_eq_true_eq, decide_eq_true_eq] at hin
  (try simp (maxSteps := 1000000) (disch := first | assumption | (apply ν6; assumption)) only [vz, vu, vv, eqS, eF_, ↓c1_, ↓c2_, tabs, reduceCtorEq, ι5, ↓reduceIte, ν1, ν2, ν3, ν4, ν5, ι1, ι2, ι3, ι4])
  refine L77_0_rule (0 : Nat) (fun i => I (vals f i)) (fun i => I i) (fun _ => H) (fun i => i ≤ f.length ∧ ∀ j, j < i → sdAt f j = true) (fun i => f.length - i) ⟨⟨by omega, by intros; omega⟩, .refl _, .refl _, Heap.le_refl _⟩ ?_
  rintro i ⟨hi, ha⟩
  have hv := vals_bd i ha
  (try simp (maxSteps := 1000000) (disch := first | assumption | (apply ν6; assumption)) only [vz, vu, vv, eqS, eF_, ↓c1_, ↓c2_, tabs, reduceCtorEq, ι5, ↓reduceIte, ν1, ν2, ν3, ν4, ν5, ι1, ι2, ι3, ι4, B77_0])
  refine ⟨fun h3 => ⟨by omega, h3, ?_⟩, fun h3 => ?_⟩
  · have hlt : i < f.length := by omega
    have hat : sdAt f i = (sdOk (f.getD i default) && decide (need (f.getD i default).op ≤ vals f i)) := rfl
    have hvs : vals f (i + 1) = vals f i + (1 - need (f.getD i default).op) := rfl
    generalize f.getD i default = x at hat hvs ⊢
    intro r hr
    have hle := Heap.le_set (b := [I x.op, I x.n]) hr
    refine Pu.use (need_spec.l10Need_spec x.op) ?_
    (try simp (maxSteps := 1000000) (disch := first | assumption | (apply ν6; assumption)) only [vz, vu, vv, eqS, eF_, ↓c1_, ↓c2_, tabs, reduceCtorEq, ι5, ↓reduceIte, ν1, ν2, ν3, ν4, ν5, ι1, ι2, ι3, ι4])
    refine ⟨fun h0 => ⟨?_, hle⟩, fun h0 => ?_⟩
    · have : sdOk x = false := by
        cases hok : sdOk x
        · rfl
        · have := sdOk_need hok; omega
      rw [goodF_false hlt (by rw [hat, this]; rfl)]
    refine Pu.use (l10N_spec x (by omega)) ?_
    cases hok : sdOk x
    · (try simp (maxSteps := 1000000) (disch := first | assumption | (apply ν6; assumption)) only [vz, vu, vv, eqS, eF_, ↓c1_, ↓c2_, tabs, reduceCtorEq, ι5, ↓reduceIte, ν1, ν2, ν3, ν4, ν5, ι1, ι2, ι3, ι4])
      exact ⟨by rw [goodF_false hlt (by rw [hat, hok]; rfl)], hle⟩
    · have hnd := sdOk_need hok
      (try simp (maxSteps := 1000000) (disch := first | assumption | (apply ν6; assumption)) only [vz, vu, vv, eqS, eF_, ↓c1_, ↓c2_, tabs, reduceCtorEq, ι5, ↓reduceIte, ν1, ν2, ν3, ν4, ν5, ι1, ι2, ι3, ι4])
      refine ⟨fun h4 => ⟨by rw [goodF_false hlt (by rw [hat, hok, Bool.true_and, decide_eq_false (by omega)])], hle⟩, fun h4 => ⟨i + 1, ⟨by omega, fun j hj => ?_⟩, by omega, ?_, ?_, hle⟩⟩
      · rcases Nat.lt_succ_iff_lt_or_eq.1 hj with h | rfl
        · exact ha j h
        · rw [hat, hok, Bool.true_and, decide_eq_true (by omega)]
      · rw [wk_int, i64_id (n := 1 - need x.op) (by omega) (by omega), i64_id (by omega) (by omega), hvs]
      · rw [wk_int, i64_id (by omega) (by omega)]; simp
  · have : i = f.length := by omega
    subst this
    refine congrArg (fun b : Bool => B b) ?_
    have hall : (List.range f.length).all (sdAt f) = true := List.all_eq_true.2 fun j hj => ha j (List.mem_range.1 hj)
    rw [goodF, hall, decide_eq_true (show 1 ≤ f.length by omega), decide_eq_true (show f.length ≤ 16 by omega)]; rfl
end Go.Proofs.YtgcklgeifdefhaaGreat
namespace Go.Proofs.YtgcklgeifdefhaaGreat
open Go Go.Sep Go.Pt
attribute [local irreducible] CallT
theorem lit0G {G : Heap} {K : AV → Heap → Prop} (h : ∀ q, G q = none → K (.sl q 1 0 0) (G.set q [])) : buildSliceV tab 60 0 [] G (wkK K) := by
  simp only [buildSliceV, tab_60, tab_46]
  refine ⟨by omega, ?_⟩
  simp only [fillV, zerosA, List.replicate_zero, List.flatten_nil]
  exact fun r hr => wkK.keep (h r hr)
theorem rg_new {H G : Heap} {Ts : List Th} {q : Nat} (s : St H Ts G) (hq : G q = none) : St H (rnG (.sl q 1 0 0) [] [q] :: Ts) (G.set q []) :=
  s.push (rnG (.sl q 1 0 0) [] [q]) (New.cell hq) (.inr ⟨q, [], [], rfl, Heap.set_same _ _ _, ⟨rfl, rfl⟩, rfl⟩)
theorem fin_rows {H G : Heap} {Ts : List Th} {x : AV} {gs : List (List Int)} {D : List Nat} (s : St H Ts G) (i : Nat) (hi : Ts[i]? = some (rnG x gs D)) : wkK (fun r H' => r = Ls gs ∧ H' = H) x G := by
  have hr : RN LIc 1 x gs G D := s.get i hi
  rcases hr with ⟨rfl, rfl, rfl⟩ | hr
  · exact ⟨_, _, .trans (.val .nil) (.forget s.le), rfl, rfl⟩
  · obtain ⟨q, rfl⟩ := LRow.sl hr
    obtain ⟨G', w, f⟩ := LRow.frzV (e := eL) (sz := 1) (v := .sl q 1 0 gs.length) (v' := Ls gs) (by omega) (fun _ => rfl) LIc.local LIc.frz hr (s.ndT i hi) (fun q _ hr => hr)
    refine ⟨_, _, .trans w (.forget (H' := H) fun y b hb => ?_), rfl, rfl⟩
    rw [f y (fun hm => by have := s.fr _ (List.mem_of_getElem? hi) y hm; rw [this] at hb; cases hb)]
    exact s.le y b hb
def RowR (l : List Int) (r : AV) (G : Heap) (D : List Nat) : Prop := ∃ q, r = rowP q l ∧ G q = some (cP fI l) ∧ D = [q]
theorem RowR.res (l : List Int) : ResT (RowR l) := by
  refine ⟨?_, ?_, ?_⟩
  · rintro r G G' D ⟨q, rfl, hq, rfl⟩ hf
    exact ⟨q, rfl, hf q (by simp) _ hq, rfl⟩
  · rintro r G D ⟨q, rfl, hq, rfl⟩
    refine ⟨.inr ⟨.inr ⟨.inl ⟨_, _, _, _, rfl⟩, fun _ => rfl⟩, fun _ => rfl⟩, fun y hy bs hb c hc => ?_⟩
    rw [List.mem_singleton.1 hy, hq] at hb
    cases hb
    obtain ⟨x, _, rfl⟩ := List.mem_map.1 hc
    exact .p (.int _ _)
  · rintro r G D n G0 h0 ⟨q, rfl, hq, rfl⟩
    refine ⟨q + n, rfl, ?_, rfl⟩
    have hr := LRow.sh (LPl.sh eI) h0 (LI_mk' hq)
    obtain ⟨q', cs, D', e1, e2, e3, e4⟩ := hr
    obtain ⟨rfl, -⟩ := LL.plain' e3
    have e : q' = q + n := by
      have h1 : shC n (rowP q l) = .sl (q + n) 1 0 l.length := rfl
      rw [h1] at e1
      injection e1 with e1; exact e1.symm
    subst e
    have e5 : cells (l.map eI) = cP fI l := cells_P fI l
    rw [← e5]; exact e2
theorem Clone_part {q off n : Nat} {l : List Int} {G : Heap} (hq : G q = some (cP fI l)) (hb : off + n ≤ l.length) (hl : l.length ≤ 100000) {K : AV → Heap → Prop} (h : ∀ qn G', RowR ((l.drop off).take n) (rowP qn ((l.drop off).take n)) G' [qn] → New G G' [qn] → K (rowP qn ((l.drop off).take n)) G') : CallT Tryz.prog 169 [.sl q 1 off n] G K := by
  refine thawR (R := RowR ((l.drop off).take n)) (RowR.res _) (args' := [Is ((l.drop off).take n)]) (G1 := G.del q) (fun {K} h => CloneI_row _ (by rw [List.length_take, List.length_drop]; omega) fun q hq => h _ _ [q] ⟨q, rfl, Heap.set_same _ _ _, rfl⟩ (New.cell hq)) ?_ ?_
  · refine Wk.frzS (es := l.map fI) (by rw [hq, List.map_map]; rfl) (.tup (.cons ?_ .nil))
    have := FrzS.part (r := q) (es := l.map fI) off n (by rw [List.length_map]; exact hb)
    have e : (((l.map fI).drop off).take n).map (fun v => [v]) = ((l.drop off).take n).map eI := by rw [← List.map_drop, ← List.map_take, List.map_map]; rfl
    rw [e] at this
    exact this
  · rintro r G' D ⟨qn, rfl, h1, rfl⟩ hn
    exact h qn G' ⟨qn, rfl, h1, rfl⟩ hn
def opsA (f : List Sd) (i : Nat) : List (List Int) := (List.range i).map (opsF f)
theorem opsA_succ (f : List Sd) (i : Nat) : opsA f (i + 1) = opsA f i ++ [opsF f i] := by simp [opsA, List.range_succ]
theorem opsA_len (f : List Sd) (i : Nat) : (opsA f i).length = i := by simp [opsA]
theorem opsA_get (f : List Sd) {n i : Nat} (h : i < n) : (opsA f n).getD i default = opsF f i := by simp [opsA, List.getD, h]
theorem roots_len {f : List Sd} (g : GoodFm f) (i : Nat) (hi : i ≤ f.length) : (roots f i).length = (vals f i).toNat ∧ vals f i ≤ 16 ∧ 0 ≤ vals f i := by
  have h := stk_len g i hi
  have h2 : vals f i ≤ i := (vals_bd i fun j hj => by
    have := g.ok j (by omega)
    rw [sdAt, this.1, decide_eq_true this.2]; rfl).2
  have := g.l1
  rw [roots, List.length_map, List.length_reverse]
  omega
theorem operandIndexes_spec (f : List Sd) (g : GoodFm f) : Pu Tryz.prog 136 [Ds f] (Ls (opsA f f.length)) := by
  have hl := g.l1
  refine ⟨fun H => CallT.fin ?_⟩
  refine W136_ok ?_; simp (maxSteps := 1000000) (disch := first | assumption | (apply ν6; assumption)) only [W136, vz, vu, vv, eqS, eF_, ↓c1_, ↓c2_, tabs, reduceCtorEq, ι5, ↓reduceIte, ν1, ν2, ν3, ν4, ν5, ι1, ι2, ι3, ι4]
  refine lit0G fun q0 hq0 => ?_
  have st := rg_new (St.nil H) hq0
  generalize H.set q0 [] = G at st ⊢
  refine lit0I fun q1 hq1 => ?_
  replace st := st.cell hq1 (cP fI [])
  generalize G.set q1 (cP fI []) = G1 at st ⊢
  (try simp (maxSteps := 1000000) (disch := first | assumption | (apply ν6; assumption)) only [vz, vu, vv, eqS, eF_, ↓c1_, ↓c2_, tabs, reduceCtorEq, ι5, ↓reduceIte, ν1, ν2, ν3, ν4, ν5, ι1, ι2, ι3, ι4])
  refine L136_0_rule ((0 : Nat), (.sl q0 1 0 0 : AV), [q0], q1, G1) (fun s => s.2.1) (fun s => rowP s.2.2.2.1 (roots f s.1)) (fun s => I s.1) (fun s => s.2.2.2.2)
    (fun s => s.1 ≤ f.length ∧ St H [cellT s.2.2.2.1 (cP fI (roots f s.1)), rnG s.2.1 (opsA f s.1) s.2.2.1] s.2.2.2.2) (fun s => f.length - s.1)
    ⟨⟨by simp, st⟩, .refl _, .refl _, .refl _, Heap.le_refl _⟩ ?_
  clear st
  rintro ⟨i, x, D, q, G⟩ ⟨hi, st⟩
  dsimp only at hi st
  (try simp (maxSteps := 1000000) (disch := first | assumption | (apply ν6; assumption)) only [vz, vu, vv, eqS, eF_, ↓c1_, ↓c2_, tabs, reduceCtorEq, ι5, ↓reduceIte, ν1, ν2, ν3, ν4, ν5, ι1, ι2, ι3, ι4, B136_0])
  refine ⟨fun h1 => ⟨by omega, h1, ?_⟩, fun h1 => ?_⟩
  · have hlt : i < f.length := by omega
    obtain ⟨rr, e1, e2, e3⟩ := roots_succ g hlt
    have hok := g.ok i hlt
    have hnd := sdOk_need hok.1
    have hrl := roots_len g i hi
    have hlen : (roots f i).length = rr.length + (opsF f i).length := by rw [e1, List.length_append]
    have hsucc := opsA_succ f i
    generalize f.getD i default = y at e3 hok hnd ⊢
    intro r hr
    replace st := st.cell hr [I y.op, I y.n]
    generalize G.set r [I y.op, I y.n] = G2 at st ⊢
    (try simp (maxSteps := 1000000) (disch := first | assumption | (apply ν6; assumption)) only [vz, vu, vv, eqS, eF_, ↓c1_, ↓c2_, tabs, reduceCtorEq, ι5, ↓reduceIte, ν1, ν2, ν3, ν4, ν5, ι1, ι2, ι3, ι4, load_at (st.get 0 rfl)])
    refine Pu.use (need_impl.operandsOfSaid_spec y.op) ?_
    have ew : IntKind.i64.wrap ((roots f i).length - need y.op) = (rr.length : Nat) := by rw [i64_id (by omega) (by omega)]; omega
    (try simp (maxSteps := 1000000) (disch := first | assumption | (apply ν6; assumption)) only [vz, vu, vv, eqS, eF_, ↓c1_, ↓c2_, tabs, reduceCtorEq, ι5, ↓reduceIte, ν1, ν2, ν3, ν4, ν5, ι1, ι2, ι3, ι4, sliceV, ew])
    refine ⟨by omega, by omega, by omega, ?_⟩
    have en : ((roots f i).length - (rr.length : Int)).toNat = (opsF f i).length := by omega
    have ep : ((roots f i).drop (rr.length * 1)).take (opsF f i).length = opsF f i := by rw [e1, Nat.mul_one, List.drop_left, List.take_length]
    rw [en]
    refine Clone_part (st.get 1 rfl) (by omega) (by omega) fun qn G3 hrow hn => ?_
    rw [ep] at hrow ⊢
    obtain ⟨qn', e4, hqn, _⟩ := hrow
    injection e4 with e4; subst e4
    replace st := st.push (cellT qn (cP fI (opsF f i))) hn hqn
    refine lit_live1 fun ql hql => ?_
    replace st := st.cell hql [rowP qn (opsF f i)]
    generalize G3.set ql [.sl qn 1 0 (opsF f i).length] = G4 at st ⊢
    refine rn_pushL st 2 rfl (by rw [opsA_len]; omega) fun q' D' G5 hq' st => ?_
    rw [← hsucc] at st
    simp only [List.set_cons_succ, List.set_cons_zero] at st
    have hq5 := (st.get 1 rfl : G5 q = _)
    rw [e1, cI_app] at hq5
    refine ⟨by omega, by omega, by omega, ?_⟩
    refine lit1 tab_46 rfl tab_3 ⟨rfl, rfl⟩ ?_
    refine app_intsX (xs := rr) (ys := [(i : Int)]) hq5 (by simp only [List.length_singleton]; omega) fun q2 hq2 hne => ?_
    rw [← e2]
    refine ⟨(i + 1, .sl q' 1 0 ((opsA f i).length + 1), D', q2, _), ⟨by simp only; omega, (st.moved 1 rfl hq2 (c := cP fI (roots f (i + 1)))).drop⟩, by simp only; omega, .refl _, .refl _, ?_, Heap.le_refl _⟩
    rw [wk_int, i64_id (by omega) (by omega)]; simp
  · have : i = f.length := by omega
    subst this
    exact fin_rows st 1 rfl
theorem lit1r {G : Heap} {K : AV → Heap → Prop} {n : Int} (h : ∀ q, G q = none → K (rowP q [n]) (G.set q (cP fI [n]))) : buildSliceV tab 46 1 [(0, I n)] G (wkK K) := by
  simp only [buildSliceV, tab_46, tab_3]
  refine ⟨by omega, ?_⟩
  simp only [fillV, zerosA, List.replicate_succ, List.replicate_zero, List.flatten_cons, List.flatten_nil, List.append_nil, AV.cells, splice]
  simp only [List.length_cons, List.length_nil, Nat.reduceAdd, Nat.zero_mul, Nat.zero_add, Nat.le_refl, and_self, if_true, List.take_zero, List.nil_append, List.drop_succ_cons, List.drop_zero, List.append_nil]
  exact fun r hr => wkK.keep (h r hr)
def tr (f : List Sd) : List Int := sc (trL f f.length)
theorem tracked_row (f : List Sd) (g : GoodFm f) {H : Heap} {K : AV → Heap → Prop} (h : ∀ q G, RowR (tr f) (rowP q (tr f)) G [q] → New H G [q] → K (rowP q (tr f)) G) : CallT Tryz.prog 85 [Ds f] H K := by
  have hl := g.l1
  have hl0 := g.l0
  refine CallT.fin ?_
  have e0 : IntKind.i64.wrap ((f.length : Int) - 1) = f.length - 1 := i64_id (by omega) (by omega)
  refine W85_ok ?_; simp (maxSteps := 1000000) (disch := first | assumption | (apply ν6; assumption)) only [W85, vz, vu, vv, eqS, eF_, ↓c1_, ↓c2_, tabs, reduceCtorEq, ι5, ↓reduceIte, ν1, ν2, ν3, ν4, ν5, ι1, ι2, ι3, ι4, e0]
  refine lit1r (n := (f.length : Int) - 1) fun q0 hq0 => ?_
  have st := (St.nil H).cell hq0 (cP fI (trL f 0))
  have ez : [(f.length : Int) - 1] = trL f 0 := by simp [trL]
  rw [ez]
  generalize H.set q0 (cP fI (trL f 0)) = G at st ⊢
  refine Pu.use (operandIndexes_spec f g) ?_
  (try simp (maxSteps := 1000000) (disch := first | assumption | (apply ν6; assumption)) only [vz, vu, vv, eqS, eF_, ↓c1_, ↓c2_, tabs, reduceCtorEq, ι5, ↓reduceIte, ν1, ν2, ν3, ν4, ν5, ι1, ι2, ι3, ι4])
  refine L85_0_rule ((0 : Nat), q0, G) (fun s => rowP s.2.1 (trL f s.1)) (fun s => I s.1) (fun s => s.2.2)
    (fun s => s.1 ≤ f.length ∧ St H [cellT s.2.1 (cP fI (trL f s.1))] s.2.2) (fun s => f.length - s.1)
    ⟨⟨by simp, st⟩, .refl _, .refl _, Heap.le_refl _⟩ ?_
  clear st
  rintro ⟨i, q, G⟩ ⟨hi, st⟩
  dsimp only at hi st
  have htl := trL_len f i
  (try simp (maxSteps := 1000000) (disch := first | assumption | (apply ν6; assumption)) only [vz, vu, vv, eqS, eF_, ↓c1_, ↓c2_, tabs, reduceCtorEq, ι5, ↓reduceIte, ν1, ν2, ν3, ν4, ν5, ι1, ι2, ι3, ι4, B85_0])
  refine ⟨fun h1 => ⟨by omega, h1, ?_⟩, fun h1 => ?_⟩
  · have hlt : i < f.length := by omega
    have hok := g.ok i hlt
    have hsucc := trL_succ f i
    have e5 : IntKind.i64.wrap ((i : Int) + 1) = ((i + 1 : Nat) : Int) := by rw [i64_id (by omega) (by omega)]; simp
    have hog := opsA_get f hlt
    have hol := opsA_len f f.length
    have hat : trAt f i = if (f.getD i default).op = 7 ∨ (f.getD i default).op = 8 then [(i : Int), (i : Int) - 1] else if (f.getD i default).op = 4 then [(i : Int) - 1] else [] := rfl
    have hop2 : (f.getD i default).op = 7 ∨ (f.getD i default).op = 8 → opsF f i = [(tst f (i - 1) : Int) - 1, (i : Int) - 1] := fun h => by
      have : need (f.getD i default).op = 2 := by rcases h with h | h <;> rw [h] <;> rfl
      rw [opsF, if_neg (by omega), if_neg (by omega)]
    have hop1 : (f.getD i default).op = 4 → opsF f i = [(i : Int) - 1] := fun h => by
      have : need (f.getD i default).op = 1 := by rw [h]; rfl
      rw [opsF, if_neg (by omega), if_pos this]
    generalize f.getD i default = y at hat hop1 hop2 hok ⊢
    intro r hr
    replace st := st.cell hr [I y.op, I y.n]
    generalize G.set r [I y.op, I y.n] = G2 at st ⊢
    (try simp (maxSteps := 1000000) (disch := first | assumption | (apply ν6; assumption)) only [vz, vu, vv, eqS, eF_, ↓c1_, ↓c2_, tabs, reduceCtorEq, ι5, ↓reduceIte, ν1, ν2, ν3, ν4, ν5, ι1, ι2, ι3, ι4, load_at (st.get 0 rfl)])
    have key : ∀ b : Bool, (b = true ↔ (y.op = 7 ∨ y.op = 8)) → ∀ N : AV → AV → Heap → Prop, (∀ q' G', St H [cellT q' (cP fI (trL f (i + 1)))] G' → N (rowP q' (trL f (i + 1))) (I ((i + 1 : Nat) : Int)) G') →
        J85_1 (wkK K) N (rowP q (trL f i)) (Ls (opsA f f.length)) (I i) (Ds f) (I f.length) (I i) (I y.op) (B b) G2 := by
      intro b hb N hN
      (try simp (maxSteps := 1000000) (disch := first | assumption | (apply ν6; assumption)) only [vz, vu, vv, eqS, eF_, ↓c1_, ↓c2_, tabs, reduceCtorEq, ι5, ↓reduceIte, ν1, ν2, ν3, ν4, ν5, ι1, ι2, ι3, ι4, J85_1, e5])
      have e6 : trL f i ++ trAt f i = trL f (i + 1) := hsucc.symm
      refine ⟨fun h2 => ?_, fun h2 => ⟨fun h4 => ?_, fun h4 => ?_⟩⟩
      · have h7 := hb.1 h2
        have ho := hop2 h7
        rw [hat, if_pos h7] at e6
        rw [hog, ho]
        refine ⟨by omega, by rw [hol]; omega, by omega, by simp, ?_⟩
        refine lit2 tab_46 rfl tab_3 ⟨rfl, rfl⟩ ?_
        refine st_appI (ys := [(i : Int), (i : Int) - 1]) st 1 rfl (by simp only [List.length_cons, List.length_nil]; omega) fun q' G' hq' st => ?_
        rw [e6] at st ⊢
        exact hN _ _ st.drop
      · have h7 : ¬ (y.op = 7 ∨ y.op = 8) := fun h => by rw [hb.2 h] at h2; cases h2
        rw [hat, if_neg h7, if_pos h4] at e6
        rw [hog, hop1 h4]
        refine ⟨by omega, by rw [hol]; omega, by omega, by simp, ?_⟩
        refine lit1 tab_46 rfl tab_3 ⟨rfl, rfl⟩ ?_
        refine st_appI (ys := [(i : Int) - 1]) st 1 rfl (by simp only [List.length_cons, List.length_nil]; omega) fun q' G' hq' st => ?_
        rw [e6] at st ⊢
        exact hN _ _ st.drop
      · have h7 : ¬ (y.op = 7 ∨ y.op = 8) := fun h => by rw [hb.2 h] at h2; cases h2
        rw [hat, if_neg h7, if_neg h4, List.append_nil] at e6
        rw [e6] at st ⊢
        exact hN _ _ st.drop
    refine ⟨fun h7 => key (decide (y.op = 7)) (by simp [h7]) _ fun q' G' st => ⟨(i + 1, q', G'), ⟨by simp only; omega, st⟩, by simp only; omega, .refl _, .refl _, Heap.le_refl _⟩, fun h7 => key (decide (y.op = 8)) (by simp [h7]) _ fun q' G' st => ⟨(i + 1, q', G'), ⟨by simp only; omega, st⟩, by simp only; omega, .refl _, .refl _, Heap.le_refl _⟩⟩
  · have : i = f.length := by omega
    subst this
    have hq : G q = some (cP fI (trL f f.length)) := st.get 0 rfl
    have hsl : (srt (trL f f.length)).length = (trL f f.length).length := List.length_mergeSort ..
    refine Sort_row hq (by omega) ?_
    replace st := st.put 0 rfl (cP fI (srt (trL f f.length)))
    have hq : (G.set q (cP fI (srt (trL f f.length)))) q = some (cP fI (srt (trL f f.length))) := Heap.set_same _ _ _
    generalize G.set q (cP fI (srt (trL f f.length))) = G2 at st hq ⊢
    rw [show rowP q (trL f f.length) = rowP q (srt (trL f f.length)) by simp only [rowP, hsl]]
    refine Compact_row hq (by omega) ?_
    replace st := st.put 0 rfl (cP fI (tr f))
    exact wkK.keep (h q _ ⟨q, rfl, st.get 0 rfl, rfl⟩ ⟨st.ndT 0 rfl, st.fr _ (List.mem_cons_self ..), st.le⟩)
end Go.Proofs.YtgcklgeifdefhaaGreat
namespace Go.Proofs.YtgcklgeifdefhaaGreat
open Go Go.Sep Go.Pt
attribute [local irreducible] CallT
def trQ (f : List Sd) (i : Nat) : List Int := (((List.range i).map (trAt f)).flatten).foldl put [(f.length : Int) - 1]
theorem trQ_succ (f : List Sd) (i : Nat) : trQ f (i + 1) = (trAt f i).foldl put (trQ f i) := by simp [trQ, List.range_succ, List.foldl_append]
theorem trQ_lt (f : List Sd) (i : Nat) : (trQ f i).Pairwise (· < ·) := (foldl_put _ _ (by simp)).1
theorem foldl_putlen (xs : List Int) : ∀ l, (xs.foldl put l).length ≤ l.length + xs.length := by
  induction xs with
  | nil => intro l; simp
  | cons a xs ih => intro l; have := ih (put l a); have := put_len l a; rw [List.foldl_cons, List.length_cons]; omega
theorem trQ_len (f : List Sd) (i : Nat) : (trQ f i).length ≤ 2 * i + 1 := by
  have h1 := foldl_putlen (((List.range i).map (trAt f)).flatten) [(f.length : Int) - 1]
  have h2 := trL_len f i
  rw [trL, List.length_cons] at h2
  rw [List.length_singleton] at h1
  unfold trQ; omega
theorem trQ_all (f : List Sd) : trQ f f.length = tr f := by
  have h := foldl_put (((List.range f.length).map (trAt f)).flatten) [(f.length : Int) - 1] (by simp)
  refine rise_ext h.1 (sc_lt _) fun x => ?_
  unfold trQ tr
  rw [h.2, sc_mem, trL, List.mem_cons]
  simp
theorem l13Tracked_spec (f : List Sd) (g : GoodFm f) : Pu Tryz.prog 78 [Ds f] (Is (tr f)) := by
  have hl := g.l1
  have hl0 := g.l0
  refine Pu.of fun H => ?_
  have e0 : IntKind.i64.wrap ((f.length : Int) - 1) = f.length - 1 := i64_id (by omega) (by omega)
  refine W78_ok ?_; simp (maxSteps := 1000000) (disch := first | assumption | (apply ν6; assumption)) only [W78, vz, vu, vv, eqS, eF_, ↓c1_, ↓c2_, tabs, reduceCtorEq, ι5, ↓reduceIte, ν1, ν2, ν3, ν4, ν5, ι1, ι2, ι3, ι4, e0]
  refine lit1 tab_46 rfl tab_3 ⟨rfl, rfl⟩ ?_
  (try simp (maxSteps := 1000000) (disch := first | assumption | (apply ν6; assumption)) only [vz, vu, vv, eqS, eF_, ↓c1_, ↓c2_, tabs, reduceCtorEq, ι5, ↓reduceIte, ν1, ν2, ν3, ν4, ν5, ι1, ι2, ι3, ι4])
  refine L78_0_rule (0 : Nat) (fun i => Is (trQ f i)) (fun i => I i) (fun _ => H) (fun i => i ≤ f.length) (fun i => f.length - i) ⟨by omega, .refl _, .refl _, Heap.le_refl _⟩ ?_
  intro i hi
  have htl := trQ_len f i
  have hlt := trQ_lt f i
  (try simp (maxSteps := 1000000) (disch := first | assumption | (apply ν6; assumption)) only [vz, vu, vv, eqS, eF_, ↓c1_, ↓c2_, tabs, reduceCtorEq, ι5, ↓reduceIte, ν1, ν2, ν3, ν4, ν5, ι1, ι2, ι3, ι4, B78_0])
  refine ⟨fun h1 => ⟨by omega, h1, ?_⟩, fun h1 => ?_⟩
  · have hlt : i < f.length := by omega
    have e5 : IntKind.i64.wrap ((i : Int) + 1) = ((i + 1 : Nat) : Int) := by rw [i64_id (by omega) (by omega)]; simp
    have e7 : IntKind.i64.wrap ((i : Int) - 1) = (i : Int) - 1 := i64_id (by omega) (by omega)
    have hsucc := trQ_succ f i
    have hat : trAt f i = if (f.getD i default).op = 7 ∨ (f.getD i default).op = 8 then [(i : Int), (i : Int) - 1] else if (f.getD i default).op = 4 then [(i : Int) - 1] else [] := rfl
    generalize f.getD i default = y at hat ⊢
    intro r hr
    have hle := Heap.le_set (b := [I y.op, I y.n]) hr
    generalize H.set r [I y.op, I y.n] = G at hle ⊢
    have key : ∀ b : Bool, (b = true ↔ (y.op = 7 ∨ y.op = 8)) → ∀ (K N), (∀ G', Heap.le G G' → N (Is (trQ f (i + 1))) (I ((i + 1 : Nat) : Int)) G') →
        J78_1 K N (Is (trQ f i)) (I i) (Ds f) (I f.length) (I i) (I y.op) (B b) G := by
      intro b hb K N hN
      (try simp (maxSteps := 1000000) (disch := first | assumption | (apply ν6; assumption)) only [vz, vu, vv, eqS, eF_, ↓c1_, ↓c2_, tabs, reduceCtorEq, ι5, ↓reduceIte, ν1, ν2, ν3, ν4, ν5, ι1, ι2, ι3, ι4, J78_1, e5, e7])
      refine ⟨fun h2 => ?_, fun h2 => ⟨fun h4 => ?_, fun h4 => ?_⟩⟩
      · rw [hat, if_pos (hb.1 h2)] at hsucc
        refine Pu.use (l1Put_spec _ (i : Int) ‹_› (by omega)) ?_
        have hpl := put_len (trQ f i) (i : Int)
        refine Pu.use (l1Put_spec _ ((i : Int) - 1) (put_lt _ ‹_›) (by omega)) ?_
        rw [show put (put (trQ f i) i) (i - 1) = trQ f (i + 1) by rw [hsucc]; rfl]
        (try simp (maxSteps := 1000000) (disch := first | assumption | (apply ν6; assumption)) only [vz, vu, vv, eqS, eF_, ↓c1_, ↓c2_, tabs, reduceCtorEq, ι5, ↓reduceIte, ν1, ν2, ν3, ν4, ν5, ι1, ι2, ι3, ι4, e5])
        exact hN G (Heap.le_refl _)
      · have h7 : ¬ (y.op = 7 ∨ y.op = 8) := fun h => by rw [hb.2 h] at h2; cases h2
        rw [hat, if_neg h7, if_pos h4] at hsucc
        refine Pu.use (l1Put_spec _ ((i : Int) - 1) ‹_› (by omega)) ?_
        rw [show put (trQ f i) (i - 1) = trQ f (i + 1) by rw [hsucc]; rfl]
        (try simp (maxSteps := 1000000) (disch := first | assumption | (apply ν6; assumption)) only [vz, vu, vv, eqS, eF_, ↓c1_, ↓c2_, tabs, reduceCtorEq, ι5, ↓reduceIte, ν1, ν2, ν3, ν4, ν5, ι1, ι2, ι3, ι4, e5])
        exact hN G (Heap.le_refl _)
      · have h7 : ¬ (y.op = 7 ∨ y.op = 8) := fun h => by rw [hb.2 h] at h2; cases h2
        rw [hat, if_neg h7, if_neg h4] at hsucc
        rw [show trQ f i = trQ f (i + 1) by rw [hsucc]; rfl]
        exact hN G (Heap.le_refl _)
    refine ⟨fun h7 => key (decide (y.op = 7)) (by simp [h7]) _ _ fun G' hg => ⟨i + 1, by omega, by omega, .refl _, .refl _, Heap.le_trans hle hg⟩, fun h7 => key (decide (y.op = 8)) (by simp [h7]) _ _ fun G' hg => ⟨i + 1, by omega, by omega, .refl _, .refl _, Heap.le_trans hle hg⟩⟩
  · have : i = f.length := by omega
    subst this
    rw [trQ_all]
def goodT (f : List Sd) : Bool := goodF f && decide ((tr f).length ≤ 5)
theorem isTracked_spec (f : List Sd) (hl : f.length ≤ 1048576) : Pu Tryz.prog 45 [Ds f] (B (goodT f)) := by
  refine Pu.of fun H => ?_
  refine W45_ok ?_; simp (maxSteps := 1000000) (disch := first | assumption | (apply ν6; assumption)) only [W45, vz, vu, vv, eqS, eF_, ↓c1_, ↓c2_, tabs, reduceCtorEq, ι5, ↓reduceIte, ν1, ν2, ν3, ν4, ν5, ι1, ι2, ι3, ι4]
  refine Pu.use (GoodSaid_impl f hl) ?_
  cases hg : goodF f
  · (try simp (maxSteps := 1000000) (disch := first | assumption | (apply ν6; assumption)) only [vz, vu, vv, eqS, eF_, ↓c1_, ↓c2_, tabs, reduceCtorEq, ι5, ↓reduceIte, ν1, ν2, ν3, ν4, ν5, ι1, ι2, ι3, ι4])
    rw [goodT, hg]
    first | rfl | exact ⟨rfl, Heap.le_refl _⟩
  · (try simp (maxSteps := 1000000) (disch := first | assumption | (apply ν6; assumption)) only [vz, vu, vv, eqS, eF_, ↓c1_, ↓c2_, tabs, reduceCtorEq, ι5, ↓reduceIte, ν1, ν2, ν3, ν4, ν5, ι1, ι2, ι3, ι4])
    refine tracked_row f (goodF_iff.1 hg) fun q G hr hn => ?_
    (try simp (maxSteps := 1000000) (disch := first | assumption | (apply ν6; assumption)) only [vz, vu, vv, eqS, eF_, ↓c1_, ↓c2_, tabs, reduceCtorEq, ι5, ↓reduceIte, ν1, ν2, ν3, ν4, ν5, ι1, ι2, ι3, ι4])
    refine ⟨?_, hn.le⟩
    refine congrArg (fun b : Bool => B b) ?_
    rw [goodT, hg, Bool.true_and]
    rw [Bool.eq_iff_iff]; simp only [decide_eq_true_eq]; omega
theorem l13Good_spec (f : List Sd) (hl : f.length ≤ 1048576) : Pu Tryz.prog 39 [Ds f] (B (goodT f)) := by
  refine Pu.of fun H => ?_
  refine W39_ok ?_; simp (maxSteps := 1000000) (disch := first | assumption | (apply ν6; assumption)) only [W39, vz, vu, vv, eqS, eF_, ↓c1_, ↓c2_, tabs, reduceCtorEq, ι5, ↓reduceIte, ν1, ν2, ν3, ν4, ν5, ι1, ι2, ι3, ι4]
  refine Pu.use (GoodSaid_spec f hl) ?_
  cases hg : goodF f
  · (try simp (maxSteps := 1000000) (disch := first | assumption | (apply ν6; assumption)) only [vz, vu, vv, eqS, eF_, ↓c1_, ↓c2_, tabs, reduceCtorEq, ι5, ↓reduceIte, ν1, ν2, ν3, ν4, ν5, ι1, ι2, ι3, ι4])
    rw [goodT, hg]
    first | rfl | exact ⟨rfl, Heap.le_refl _⟩
  · (try simp (maxSteps := 1000000) (disch := first | assumption | (apply ν6; assumption)) only [vz, vu, vv, eqS, eF_, ↓c1_, ↓c2_, tabs, reduceCtorEq, ι5, ↓reduceIte, ν1, ν2, ν3, ν4, ν5, ι1, ι2, ι3, ι4])
    refine Pu.use (l13Tracked_spec f (goodF_iff.1 hg)) ?_
    (try simp (maxSteps := 1000000) (disch := first | assumption | (apply ν6; assumption)) only [vz, vu, vv, eqS, eF_, ↓c1_, ↓c2_, tabs, reduceCtorEq, ι5, ↓reduceIte, ν1, ν2, ν3, ν4, ν5, ι1, ι2, ι3, ι4])
    refine congrArg (fun b : Bool => B b) ?_
    rw [goodT, hg, Bool.true_and]
    rw [Bool.eq_iff_iff]; simp only [decide_eq_true_eq]; omega
def RowB (l : List Int) (ok : Bool) (r : AV) (G : Heap) (D : List Nat) : Prop := ∃ q, r = .tup [rowP q l, B ok] ∧ G q = some (cP fI l) ∧ D = [q]
theorem RowB.res (l : List Int) (ok : Bool) : ResT (RowB l ok) := by
  refine ⟨?_, ?_, ?_⟩
  · rintro r G G' D ⟨q, rfl, hq, rfl⟩ hf
    exact ⟨q, rfl, hf q (by simp) _ hq, rfl⟩
  · rintro r G D ⟨q, rfl, hq, rfl⟩
    refine ⟨.inl ⟨_, rfl, fun u hu => ?_⟩, fun y hy bs hb c hc => ?_⟩
    · rcases List.mem_cons.1 hu with rfl | hu
      · exact .inr ⟨.inl ⟨_, _, _, _, rfl⟩, fun _ => rfl⟩
      · rw [List.mem_singleton] at hu; rw [hu]; exact .inr ⟨.p (.bool ok), fun _ => rfl⟩
    · rw [List.mem_singleton.1 hy, hq] at hb
      cases hb
      obtain ⟨x, _, rfl⟩ := List.mem_map.1 hc
      exact .p (.int _ _)
  · rintro r G D n G0 h0 ⟨q, rfl, hq, rfl⟩
    obtain ⟨q', e, h1, _⟩ := (RowR.res l).sh h0 ⟨q, rfl, hq, rfl⟩
    have e2 : q' = q + n := by
      have h1 : sh2 n (rowP q l) = .sl (q + n) 1 0 l.length := rfl
      rw [h1] at e
      injection e with e; exact e.symm
    subst e2
    exact ⟨q + n, rfl, h1, rfl⟩
end Go.Proofs.YtgcklgeifdefhaaGreat
namespace Go.Proofs.YtgcklgeifdefhaaGreat
open Go Go.Sep Go.Pt
attribute [local irreducible] CallT
structure Qn where
  prog : Pg
  asks : List (List Nd)
  say : List Sd
abbrev aQ (q : Qn) : AV := .agg [I q.prog.wide, I q.prog.vars, Ns q.prog.start, Cms q.prog.cmds, Nss q.asks, Ds q.say]
def okQ (q : Qn) : Prop := okPg q.prog ∧ okNss q.asks ∧ ok q.say.length
def nQ (q : Qn) : Prop := nPg q.prog ∧ nTs q.asks
def totQ (q : Qn) : Nat := totPg q.prog + totNss q.asks + q.say.length
def smQ (q : Qn) : Prop := smPg q.prog ∧ smNss q.asks ∧ q.say.length ≤ 1048576
theorem smQ_of_tot {q : Qn} (h : (totQ q : Int) ≤ 1048576) : smQ q := by
  have h0 : totQ q ≤ 1048576 := by omega
  unfold totQ at h0
  exact ⟨sm_of_tot (by omega), smNss_of_tot (by omega), by omega⟩
theorem szQuestion_spec (q : Qn) (left : Int) (h0 : 0 ≤ left) (h1 : left ≤ 1048576) (hl : okQ q) : Pu Tryz.prog 8 [aQ q, I left] (I (szR left (totQ q))) := by
  refine Pu.of fun H => ?_
  refine W8_ok ?_; simp (maxSteps := 1000000) (disch := first | assumption | (apply ν6; assumption)) only [W8, vz, vu, vv, eqS, eF_, ↓c1_, ↓c2_, tabs, reduceCtorEq, ι5, ↓reduceIte, ν1, ν2, ν3, ν4, ν5, ι1, ι2, ι3, ι4]
  intro r hr
  refine Pu.use (szProgram_spec q.prog left h0 h1 hl.1) ?_
  (try simp (maxSteps := 1000000) (disch := first | assumption | (apply ν6; assumption)) only [vz, vu, vv, eqS, eF_, ↓c1_, ↓c2_, tabs, reduceCtorEq, ι5, ↓reduceIte, ν1, ν2, ν3, ν4, ν5, ι1, ι2, ι3, ι4])
  refine ⟨fun h => ⟨?_, Heap.le_set hr⟩, fun h => ?_⟩
  · unfold szR at h
    rw [szR_neg]
    unfold totQ
    split at h <;> omega
  obtain ⟨t1, e1⟩ := szR_nonneg h
  rw [e1]
  refine Pu.use (szNodeSS_spec q.asks _ (by omega) (by omega) hl.2.1) ?_
  (try simp (maxSteps := 1000000) (disch := first | assumption | (apply ν6; assumption)) only [vz, vu, vv, eqS, eF_, ↓c1_, ↓c2_, tabs, reduceCtorEq, ι5, ↓reduceIte, ν1, ν2, ν3, ν4, ν5, ι1, ι2, ι3, ι4])
  refine ⟨fun h => ⟨?_, Heap.le_set hr⟩, fun h => ?_⟩
  · unfold szR at h
    rw [szR_neg]
    unfold totQ
    split at h <;> omega
  obtain ⟨t2, e2⟩ := szR_nonneg h
  rw [e2]
  refine Pu.use (szSaidS_spec q.say _ (by omega) (by omega) hl.2.2) ?_
  (try simp (maxSteps := 1000000) (disch := first | assumption | (apply ν6; assumption)) only [vz, vu, vv, eqS, eF_, ↓c1_, ↓c2_, tabs, reduceCtorEq, ι5, ↓reduceIte, ν1, ν2, ν3, ν4, ν5, ι1, ι2, ι3, ι4])
  refine ⟨fun h => ⟨?_, Heap.le_set hr⟩, fun h => ⟨?_, Heap.le_set hr⟩⟩
  · unfold szR at h
    rw [szR_neg]
    unfold totQ
    split at h <;> omega
  · obtain ⟨t3, e3⟩ := szR_nonneg h
    rw [e3, szR_pos (by unfold totQ; omega)]
    unfold totQ
    exact congrArg (fun n : Int => I n) (by omega)
theorem toQuestion_spec (q : Qn) (h : smQ q) : Pu Tryz.prog 10 [aQ q] (aQ q) := by
  refine Pu.of fun H => ?_
  refine W10_ok ?_; simp (maxSteps := 1000000) (disch := first | assumption | (apply ν6; assumption)) only [W10, vz, vu, vv, eqS, eF_, ↓c1_, ↓c2_, tabs, reduceCtorEq, ι5, ↓reduceIte, ν1, ν2, ν3, ν4, ν5, ι1, ι2, ι3, ι4]
  intro r hr r1 n1 hr1 r2 n21 n2 hr2
  have nn1 : r ≠ r1 := Ne.symm n1
  have nn2 : r ≠ r2 := Ne.symm n2
  have nn21 : r1 ≠ r2 := Ne.symm n21
  (try simp (maxSteps := 1000000) (disch := first | assumption | (apply ν6; assumption)) only [vz, vu, vv, eqS, eF_, ↓c1_, ↓c2_, tabs, reduceCtorEq, ι5, ↓reduceIte, ν1, ν2, ν3, ν4, ν5, ι1, ι2, ι3, ι4])
  refine Pu.use (toProgram_spec q.prog h.1) ?_
  (try simp (maxSteps := 1000000) (disch := first | assumption | (apply ν6; assumption)) only [vz, vu, vv, eqS, eF_, ↓c1_, ↓c2_, tabs, reduceCtorEq, ι5, ↓reduceIte, ν1, ν2, ν3, ν4, ν5, ι1, ι2, ι3, ι4])
  refine Pu.use (toNodeSS_spec q.asks h.2.1) ?_
  (try simp (maxSteps := 1000000) (disch := first | assumption | (apply ν6; assumption)) only [vz, vu, vv, eqS, eF_, ↓c1_, ↓c2_, tabs, reduceCtorEq, ι5, ↓reduceIte, ν1, ν2, ν3, ν4, ν5, ι1, ι2, ι3, ι4])
  refine Pu.use (toSaidS_spec q.say h.2.2) ?_
  (try simp (maxSteps := 1000000) (disch := first | assumption | (apply ν6; assumption)) only [vz, vu, vv, eqS, eF_, ↓c1_, ↓c2_, tabs, reduceCtorEq, ι5, ↓reduceIte, ν1, ν2, ν3, ν4, ν5, ι1, ι2, ι3, ι4])
  (intro y b hy; simp only [Heap.set, Heap.del] at hy ⊢; (repeat' split at hy) <;> (repeat' split) <;> simp_all [cells])
theorem eqQuestion_spec (q : Qn) (h : smQ q) : Pu Tryz.prog 12 [aQ q, aQ q] (B true) := by
  refine Pu.of fun H => ?_
  refine W12_ok ?_; simp (maxSteps := 1000000) (disch := first | assumption | (apply ν6; assumption)) only [W12, vz, vu, vv, eqS, eF_, ↓c1_, ↓c2_, tabs, reduceCtorEq, ι5, ↓reduceIte, ν1, ν2, ν3, ν4, ν5, ι1, ι2, ι3, ι4]
  intro r hr r2 n2 hr2
  have nn2 : r ≠ r2 := Ne.symm n2
  (try simp (maxSteps := 1000000) (disch := first | assumption | (apply ν6; assumption)) only [vz, vu, vv, eqS, eF_, ↓c1_, ↓c2_, tabs, reduceCtorEq, ι5, ↓reduceIte, ν1, ν2, ν3, ν4, ν5, ι1, ι2, ι3, ι4])
  refine Pu.use (eqProgram_spec q.prog h.1) ?_
  (try simp (maxSteps := 1000000) (disch := first | assumption | (apply ν6; assumption)) only [vz, vu, vv, eqS, eF_, ↓c1_, ↓c2_, tabs, reduceCtorEq, ι5, ↓reduceIte, ν1, ν2, ν3, ν4, ν5, ι1, ι2, ι3, ι4])
  refine Pu.use (eqNodeSS_spec q.asks h.2.1) ?_
  (try simp (maxSteps := 1000000) (disch := first | assumption | (apply ν6; assumption)) only [vz, vu, vv, eqS, eF_, ↓c1_, ↓c2_, tabs, reduceCtorEq, ι5, ↓reduceIte, ν1, ν2, ν3, ν4, ν5, ι1, ι2, ι3, ι4])
  refine Pu.use (eqSaidS_spec q.say h.2.2) ?_
  (try simp (maxSteps := 1000000) (disch := first | assumption | (apply ν6; assumption)) only [vz, vu, vv, eqS, eF_, ↓c1_, ↓c2_, tabs, reduceCtorEq, ι5, ↓reduceIte, ν1, ν2, ν3, ν4, ν5, ι1, ι2, ι3, ι4])
  exact Heap.le_setN (Heap.le_set hr) hr2
def goodQ (q : Qn) : Bool := smallP q.prog && (decide (q.asks.length = 3) && (goodT q.say && q.asks.all fun t => decide (kind q.prog.wide q.prog.vars t = 2)))
def vQ (q : Qn) : Prop := vPg q.prog ∧ (∀ t ∈ q.asks, vT t) ∧ q.asks.length ≤ 1048576 ∧ q.say.length ≤ 1048576
theorem vQ_of {q : Qn} (h : smQ q) (hn : nQ q) : vQ q := ⟨v_of h.1 hn.1, vT_of h.2.1 hn.2, h.2.1.1, h.2.2⟩
theorem GoodQuestion1_at (p : Pg) (t : List Nd) (ht : vT t) (r : Nat) {cs : List AV} {H : Heap} (hr : H r = some (I p.wide :: I p.vars :: Ns p.start :: Cms p.cmds :: cs)) : PuAt Tryz.prog 47 [Ns t, .ptr r 0] H (B (!decide (kind p.wide p.vars t = 2))) := by
  intro K hK
  refine W47_ok ?_; simp (maxSteps := 1000000) (disch := first | assumption | (apply ν6; assumption)) only [W47, vz, vu, vv, eqS, eF_, ↓c1_, ↓c2_, tabs, reduceCtorEq, ι5, ↓reduceIte, ν1, ν2, ν3, ν4, ν5, ι1, ι2, ι3, ι4, load_at hr]
  refine Pu.use (isCondition_spec p t ht) ?_
  (try simp (maxSteps := 1000000) (disch := first | assumption | (apply ν6; assumption)) only [vz, vu, vv, eqS, eF_, ↓c1_, ↓c2_, tabs, reduceCtorEq, ι5, ↓reduceIte, ν1, ν2, ν3, ν4, ν5, ι1, ι2, ι3, ι4])
  cases h : decide (kind p.wide p.vars t = 2) <;> simp_all
theorem GoodQuestion_impl (q : Qn) (h : vQ q) : Pu Tryz.prog 11 [aQ q] (B (goodQ q)) := by
  refine Pu.of fun H => ?_
  refine W11_ok ?_; simp (maxSteps := 1000000) (disch := first | assumption | (apply ν6; assumption)) only [W11, vz, vu, vv, eqS, eF_, ↓c1_, ↓c2_, tabs, reduceCtorEq, ι5, ↓reduceIte, ν1, ν2, ν3, ν4, ν5, ι1, ι2, ι3, ι4]
  intro r hr
  refine Pu.use (isSmall_spec q.prog h.1) ?_
  have hle : ∀ z, Heap.le H (H.set r z) := fun z => Heap.le_set hr
  cases h1 : smallP q.prog
  · (try simp (maxSteps := 1000000) (disch := first | assumption | (apply ν6; assumption)) only [vz, vu, vv, eqS, eF_, ↓c1_, ↓c2_, tabs, reduceCtorEq, ι5, ↓reduceIte, ν1, ν2, ν3, ν4, ν5, ι1, ι2, ι3, ι4])
    exact ⟨by simp only [goodQ, h1, Bool.false_and], hle _⟩
  (try simp (maxSteps := 1000000) (disch := first | assumption | (apply ν6; assumption)) only [vz, vu, vv, eqS, eF_, ↓c1_, ↓c2_, tabs, reduceCtorEq, ι5, ↓reduceIte, ν1, ν2, ν3, ν4, ν5, ι1, ι2, ι3, ι4])
  refine ⟨fun h2 => ⟨?_, hle _⟩, fun h2 => ?_⟩
  · have : decide (q.asks.length = 3) = false := by simp; omega
    simp only [goodQ, this, Bool.false_and, Bool.and_false]
  have h2' : decide (q.asks.length = 3) = true := by simp; omega
  refine Pu.use (isTracked_spec q.say h.2.2.2) ?_
  cases h3 : goodT q.say
  · (try simp (maxSteps := 1000000) (disch := first | assumption | (apply ν6; assumption)) only [vz, vu, vv, eqS, eF_, ↓c1_, ↓c2_, tabs, reduceCtorEq, ι5, ↓reduceIte, ν1, ν2, ν3, ν4, ν5, ι1, ι2, ι3, ι4])
    exact ⟨by simp only [goodQ, h3, Bool.false_and, Bool.and_false], hle _⟩
  (try simp (maxSteps := 1000000) (disch := first | assumption | (apply ν6; assumption)) only [vz, vu, vv, eqS, eF_, ↓c1_, ↓c2_, tabs, reduceCtorEq, ι5, ↓reduceIte, ν1, ν2, ν3, ν4, ν5, ι1, ι2, ι3, ι4])
  refine PuAt.use (ContainsFuncNs_at q.asks _ _ (fun t => !decide (kind q.prog.wide q.prog.vars t = 2)) (by have := h.2.2.1; omega) fun t ht => GoodQuestion1_at q.prog t (h.2.1 t ht) r (Heap.set_same _ _ _)) ?_
  (try simp (maxSteps := 1000000) (disch := first | assumption | (apply ν6; assumption)) only [vz, vu, vv, eqS, eF_, ↓c1_, ↓c2_, tabs, reduceCtorEq, ι5, ↓reduceIte, ν1, ν2, ν3, ν4, ν5, ι1, ι2, ι3, ι4])
  refine ⟨?_, hle _⟩
  simp only [goodQ, h1, h2', h3, Bool.true_and]
  congr 2
  rw [List.all_eq_not_any_not]
theorem allK_f {q : Qn} {i : Nat} (hi : i < q.asks.length) (h : kind q.prog.wide q.prog.vars (q.asks.getD i default) ≠ 2) : B false = B (goodQ q) := by
  have : (q.asks.all fun t => decide (kind q.prog.wide q.prog.vars t = 2)) = false := by
    rw [List.all_eq_false]
    exact ⟨_, getD_all (p := fun x => x ∈ q.asks) (fun _ h => h) hi, by simpa using h⟩
  simp only [goodQ, this, Bool.and_false]
theorem GoodQuestion_ref (q : Qn) (h : vQ q) : Pu Tryz.prog 9 [aQ q] (B (goodQ q)) := by
  refine Pu.of fun H => ?_
  refine W9_ok ?_; simp (maxSteps := 1000000) (disch := first | assumption | (apply ν6; assumption)) only [W9, vz, vu, vv, eqS, eF_, ↓c1_, ↓c2_, tabs, reduceCtorEq, ι5, ↓reduceIte, ν1, ν2, ν3, ν4, ν5, ι1, ι2, ι3, ι4]
  intro r hr
  refine Pu.use (l7Small_spec q.prog h.1) ?_
  have hle : ∀ z, Heap.le H (H.set r z) := fun z => Heap.le_set hr
  cases h1 : smallP q.prog
  · (try simp (maxSteps := 1000000) (disch := first | assumption | (apply ν6; assumption)) only [vz, vu, vv, eqS, eF_, ↓c1_, ↓c2_, tabs, reduceCtorEq, ι5, ↓reduceIte, ν1, ν2, ν3, ν4, ν5, ι1, ι2, ι3, ι4])
    exact ⟨by simp only [goodQ, h1, Bool.false_and], hle _⟩
  (try simp (maxSteps := 1000000) (disch := first | assumption | (apply ν6; assumption)) only [vz, vu, vv, eqS, eF_, ↓c1_, ↓c2_, tabs, reduceCtorEq, ι5, ↓reduceIte, ν1, ν2, ν3, ν4, ν5, ι1, ι2, ι3, ι4])
  refine ⟨fun h2 => ⟨?_, hle _⟩, fun h2 => ?_⟩
  · have : decide (q.asks.length = 3) = false := by simp; omega
    simp only [goodQ, this, Bool.false_and, Bool.and_false]
  have h2' : decide (q.asks.length = 3) = true := by simp; omega
  refine Pu.use (l13Good_spec q.say h.2.2.2) ?_
  cases h3 : goodT q.say
  · (try simp (maxSteps := 1000000) (disch := first | assumption | (apply ν6; assumption)) only [vz, vu, vv, eqS, eF_, ↓c1_, ↓c2_, tabs, reduceCtorEq, ι5, ↓reduceIte, ν1, ν2, ν3, ν4, ν5, ι1, ι2, ι3, ι4])
    exact ⟨by simp only [goodQ, h3, Bool.false_and, Bool.and_false], hle _⟩
  (try simp (maxSteps := 1000000) (disch := first | assumption | (apply ν6; assumption)) only [vz, vu, vv, eqS, eF_, ↓c1_, ↓c2_, tabs, reduceCtorEq, ι5, ↓reduceIte, ν1, ν2, ν3, ν4, ν5, ι1, ι2, ι3, ι4])
  refine L9_0_rule (0 : Nat) (fun i => I i) (fun _ => H.set r [I q.prog.wide, I q.prog.vars, Ns q.prog.start, Cms q.prog.cmds, Nss q.asks, Ds q.say]) (fun i => i ≤ q.asks.length ∧ ∀ j, j < i → kind q.prog.wide q.prog.vars (q.asks.getD j default) = 2) (fun i => q.asks.length - i) ⟨⟨by omega, fun j hj => by omega⟩, .refl _, Heap.le_refl _⟩ ?_
  rintro i ⟨hi, ha⟩
  have hl := h.2.2.1
  (try simp (maxSteps := 1000000) (disch := first | assumption | (apply ν6; assumption)) only [vz, vu, vv, eqS, eF_, ↓c1_, ↓c2_, tabs, reduceCtorEq, ι5, ↓reduceIte, ν1, ν2, ν3, ν4, ν5, ι1, ι2, ι3, ι4, B9_0])
  refine ⟨fun h4 => ⟨by omega, h4, ?_⟩, fun h4 => ?_⟩
  · have hlt : i < q.asks.length := by omega
    have hm : q.asks.getD i default ∈ q.asks := getD_all (p := fun x => x ∈ q.asks) (fun _ h => h) hlt
    refine Pu.use (l7Asks_spec q.prog _ (h.2.1 _ hm)) ?_
    (try simp (maxSteps := 1000000) (disch := first | assumption | (apply ν6; assumption)) only [vz, vu, vv, eqS, eF_, ↓c1_, ↓c2_, tabs, reduceCtorEq, ι5, ↓reduceIte, ν1, ν2, ν3, ν4, ν5, ι1, ι2, ι3, ι4])
    refine ⟨fun h5 => ⟨allK_f hlt h5, hle _⟩, fun h5 => ⟨i + 1, ⟨by omega, fun j hj => ?_⟩, by omega, ?_⟩⟩
    · rcases Nat.lt_succ_iff_lt_or_eq.1 hj with h6 | rfl
      · exact ha j h6
      · exact h5
    · rw [wk_int, i64_id (by omega) (by omega)]; simp
  · refine ⟨?_, hle _⟩
    have : (q.asks.all fun t => decide (kind q.prog.wide q.prog.vars t = 2)) = true := by
      rw [List.all_eq_true]
      intro x hx
      obtain ⟨j, hj, rfl⟩ := List.mem_iff_getElem.1 hx
      have := ha j (by omega)
      rw [getD_lt hj] at this
      exact decide_eq_true this
    simp only [goodQ, h1, h2', h3, this, Bool.true_and]
end Go.Proofs.YtgcklgeifdefhaaGreat
namespace Go.Proofs.YtgcklgeifdefhaaGreat
open Go Go.Sep Go.Pt Go.RowKit
theorem arg_ints {v : AV} (h : ArgT Tryz.prog 46 v) : ∃ t : List Int, ok t.length ∧ v = Is t := by
  have hu := sliceIs_ok (P := Tryz.prog) (t := 46) (e := 3) (by kernel_rfl)
  obtain ⟨p, g, rfl⟩ := arg_cell (fun fs h => by rw [hu] at h; cases h) h
  obtain ⟨t, ht, e⟩ := typed_ints g
  injection e with e
  exact ⟨t, ht, by rw [e]⟩
end Go.Proofs.YtgcklgeifdefhaaGreat
namespace Go.Proofs.YtgcklgeifdefhaaGreat
open Go Go.Sep Go.Pt Go.RowKit
theorem typed_nodess {x : List PV} (h : Typed Tryz.prog 26 x) : ∃ t : List (List Nd), (okNss t ∧ nTs t) ∧ x = [.sl (t.map eNN)] := by
  obtain ⟨es, rfl, hl, he⟩ := typed_slice (e := 22) (by kernel_rfl) h
  obtain ⟨t, h1, rfl, h3⟩ := rows_of (Q := fun a => ok a.length ∧ nT a) (e := eNN) es fun y hy => typed_nodes (he y hy)
  exact ⟨t, ⟨⟨by unfold ok; omega, fun c hc => (h1 c hc).1⟩, fun c hc => (h1 c hc).2⟩, rfl⟩
end Go.Proofs.YtgcklgeifdefhaaGreat
namespace Go.Proofs.YtgcklgeifdefhaaGreat
open Go Go.Sep Go.Pt Go.RowKit
theorem arg_question {v : AV} (h : ArgT Tryz.prog 29 v) : ∃ q : Qn, okQ q ∧ nQ q ∧ v = aQ q := by
  obtain ⟨pvs, g, rfl⟩ := arg_struct (ts := [25, 26, 27]) (by kernel_rfl) h
  clear h
  have h := g
  obtain ⟨pp, b, rfl, hp, h⟩ := typedAll_cons h
  obtain ⟨b, c, rfl, h5, h⟩ := typedAll_cons h
  obtain ⟨c, d, rfl, h6, h⟩ := typedAll_cons h
  cases typedAll_nil h
  have h := typed_fields (ts := [3, 3, 22, 23]) (by kernel_rfl) hp
  obtain ⟨a, b, rfl, h1, h⟩ := typedAll_cons h
  obtain ⟨b, c, rfl, h2, h⟩ := typedAll_cons h
  obtain ⟨c, d, rfl, h3, h⟩ := typedAll_cons h
  obtain ⟨d, e, rfl, h4, h⟩ := typedAll_cons h
  cases typedAll_nil h
  obtain ⟨n, _, rfl⟩ := typed_int (k := .i64) (by kernel_rfl) h1
  obtain ⟨m, _, rfl⟩ := typed_int (k := .i64) (by kernel_rfl) h2
  obtain ⟨t, ht, rfl⟩ := typed_nodes h3
  obtain ⟨cs, hc, rfl⟩ := typed_commands h4
  obtain ⟨ak, ha, rfl⟩ := typed_nodess h5
  obtain ⟨ss, hs, rfl⟩ := typed_saids h6
  exact ⟨⟨⟨n, m, t, cs⟩, ak, ss⟩, ⟨⟨ht.1, hc.1⟩, ha.1, hs⟩, ⟨⟨ht.2, hc.2⟩, ha.2⟩, rfl⟩
end Go.Proofs.YtgcklgeifdefhaaGreat
