/- Texts laid together: Tg3 Tg10 Lt5 Lu0 Tg11 Tg12 Mg2 Ma7 Ma8 Tg13 Tp7 Ql2 Mk0 Mk1 Mk2 Tv1 Tv2 Tv3. -/
import Derived.Test.YtolffbcnbcjeaaaPkt8
set_option linter.unusedVariables false
set_option linter.unusedSimpArgs false
open Nat renaming reduceAdd → ν1, reduceLeDiff → ν2, reduceLT → ν3, reduceMul → ν4, reduceSub → ν5
open Int renaming reduceToNat → ι1, reduceSub → ι2, reduceAdd → ι3, reduceNeg → ι4
open Array renaming toList → ι5
open Ne renaming symm → ν6
open List renaming forall_mem_cons → ν7
namespace Go.Proofs.Ytolffbcnbcjeaaa
open Go Go.Sep Go.Pt
attribute [local irreducible] CallT
theorem sp_l11Far (g : List (List Nat)) (hg : GrB g) (some : List Nat) (hs : ∀ v ∈ some, v < g.length) (hsl : some.length ≤ 100000) : Pu Try.prog 59 [Ls (gI g), Is (nI some)] (Is (mpI (farF (rwF g) g.length some) g.length)) := by
  refine ⟨fun H => CallT.fin ?_⟩
  have hn := hg.n
  have hgl := gI_len g
  have hil := nI_len some
  have hrow := hg.gr.lt
  have hml : ∀ f, (mpI f g.length).length = g.length := fun f => mpI_len f g.length
  have lnm : ∀ f, (cP fI (mpI f g.length)).length = g.length := fun f => by rw [cI_len, mpI_len]
  refine W59_ok ?_; simp (maxSteps := 1000000) (disch := first | assumption | (apply ν6; assumption)) only [W59, vz, vu, vv, eqS, eF_, ↓c1_, ↓c2_, tabs, reduceCtorEq, ι5, ↓reduceIte, ν1, ν2, ν3, ν4, ν5, ι1, ι2, ι3, ι4, makeSliceV, hgl, hil]
  refine ⟨by omega, by omega, by omega, by omega, fun q hq => ?_⟩
  have st := (St.nil H).cell hq (cP fI (mpI (fun v => if v < 0 then -1 else 0) g.length))
  have ez : zerosA g.length [I 0] = cP fI (mpI (fun v => if v < 0 then -1 else 0) g.length) := by
    rw [cP_rep, mpI_const]; simp
  rw [ez]
  generalize H.set q (cP fI (mpI (fun v => if v < 0 then -1 else 0) g.length)) = G1 at st ⊢
  have rounds : ∀ q2 G, St H [cellT q2 (cP fI (nI some)), cellT q (cP fI (mpI (sI0 some some.length) g.length))] G →
      L59_2 (wkK fun r H' => r = Is (mpI (farF (rwF g) g.length some) g.length) ∧ H' = H) (Ls (gI g)) (.sl q 1 0 g.length) (rowP q2 (nI some)) G := by
    intro q2 G st
    refine L59_2_rule ((0 : Nat), ([] : List Nat), q2, G) (fun s => .sl s.2.2.1 1 s.2.1.length (bst (rwF g) some s.1).q.length) (fun s => s.2.2.2)
      (fun s => BInv (rwF g) g.length some s.1 (bst (rwF g) some s.1) ∧ St H [cellT s.2.2.1 (cP fI (nI s.2.1 ++ nI (bst (rwF g) some s.1).q)), cellT q (cP fI (mpI (bst (rwF g) some s.1).s g.length))] s.2.2.2)
      (fun s => g.length + some.length - s.1) ⟨⟨B_ini hs, by rw [sI0_all] at st; exact st⟩, by simp [rowP, nI_len, bst, bini]; exact .refl _, Heap.le_refl _⟩ ?_
    clear st G q2
    rintro ⟨i, J, q2, G⟩ ⟨hb, st⟩
    dsimp only at hb st
    generalize hbe : bst (rwF g) some i = b at hb st
    simp only [hbe]
    have hms := hb.ms
    (try simp (maxSteps := 1000000) (disch := first | assumption | (apply ν6; assumption)) only [vz, vu, vv, eqS, eF_, ↓c1_, ↓c2_, tabs, reduceCtorEq, ι5, ↓reduceIte, ν1, ν2, ν3, ν4, ν5, ι1, ι2, ι3, ι4, B59_2])
    refine ⟨fun h1 => ?_, fun h1 => ?_⟩
    · obtain ⟨k, bq, hbq⟩ : ∃ k bq, b.q = k :: bq := by
        cases e : b.q with
        | nil => rw [e] at h1; simp at h1
        | cons k bq => exact ⟨k, bq, rfl⟩
      have hstep : bst (rwF g) some (i + 1) = bstep (rwF g) b := by rw [bst, hbe]
      have hnxt := B_step hrow hb (by rw [hbq]; simp)
      rw [bstep_cons hbq] at hstep hnxt
      have hk0 : 0 ≤ b.s k := hb.qs k (by rw [hbq]; simp)
      have hkn := hb.lt k hk0
      have hki := hb.hi k
      rw [hbq] at st hms
      simp only [List.length_cons] at hms
      have rdk : ∀ (J l : List Nat), (List.take 1 (List.drop J.length (cP fI (nI J ++ nI (k :: l))))).headD AV.any = I k := by
        intro J l
        have e : nI (k :: l) = (k : Int) :: nI l := rfl
        rw [cI_app, List.drop_left' (by rw [cI_len, nI_len]), e]; rfl
      have ln : ∀ (J l : List Nat), (cP fI (nI J ++ nI (k :: l))).length = J.length + (l.length + 1) := by
        intro J l; rw [cI_len, List.length_append, nI_len, nI_len, List.length_cons]
      have hrl := hg.row hkn
      have hrn := nI_len (rwF g k)
      have hlq : b.q.length = bq.length + 1 := by rw [hbq]; rfl
      (try simp (maxSteps := 1000000) (disch := first | assumption | (apply ν6; assumption)) only [vz, vu, vv, eqS, eF_, ↓c1_, ↓c2_, tabs, reduceCtorEq, ι5, ↓reduceIte, ν1, ν2, ν3, ν4, ν5, ι1, ι2, ι3, ι4, load_at (st.get 0 rfl), rdk, ln, hgl, hlq])
      refine ⟨by omega, by omega, by omega, by omega, by omega, ?_⟩
      rw [gI_get hkn]
      (try simp (maxSteps := 1000000) (disch := first | assumption | (apply ν6; assumption)) only [vz, vu, vv, eqS, eF_, ↓c1_, ↓c2_, tabs, reduceCtorEq, ι5, ↓reduceIte, ν1, ν2, ν3, ν4, ν5, ι1, ι2, ι3, ι4, hrn])
      have eJ : ∀ (J l : List Nat), nI J ++ nI (k :: l) = nI (J ++ [k]) ++ nI l := fun J l => by rw [← nI_app, ← nI_app]; simp
      rw [eJ] at st
      have et : (((bq.length + 1 : Nat) : Int) - 1).toNat = bq.length := by omega
      refine ⟨by omega, by omega, by omega, ?_⟩
      refine L59_3_rule ((0 : Nat), J ++ [k], q2, G) (fun s => .sl s.2.2.1 1 s.2.1.length (((rwF g k).take s.1).foldl (bput (b.s k + 1)) ⟨b.s, bq⟩).q.length) (fun s => I s.1) (fun s => s.2.2.2)
        (fun s => s.1 ≤ (rwF g k).length ∧ St H [cellT s.2.2.1 (cP fI (nI s.2.1 ++ nI ((((rwF g k).take s.1).foldl (bput (b.s k + 1)) ⟨b.s, bq⟩).q))), cellT q (cP fI (mpI (((rwF g k).take s.1).foldl (bput (b.s k + 1)) ⟨b.s, bq⟩).s g.length))] s.2.2.2)
        (fun s => (rwF g k).length - s.1) ⟨⟨by simp, st⟩, by simp only [List.length_append, List.length_singleton, et, List.take_zero, List.foldl_nil]; exact .refl _, .refl _, Heap.le_refl _⟩ ?_
      clear st J q2 G
      rintro ⟨j, J, q2, G⟩ ⟨hj, st⟩
      dsimp only at hj st
      have hbr := BRow.fold (n := g.length) (k := k) (d := b.s k + 1) (b0 := ⟨b.s, bq⟩) (by omega) (l := (rwF g k).take j) fun w hw => hrow k w (List.mem_of_mem_take hw)
      generalize hc : ((rwF g k).take j).foldl (bput (b.s k + 1)) ⟨b.s, bq⟩ = c at hbr st
      have hcm := hbr.ms
      simp only at hcm
      have hck : c.s k = b.s k := hbr.old k hk0
      have e5 : IntKind.i64.wrap ((j : Int) + 1) = ((j + 1 : Nat) : Int) := by rw [i64_id (by omega) (by omega)]; simp
      simp only [hc]
      (try simp (maxSteps := 1000000) (disch := first | assumption | (apply ν6; assumption)) only [vz, vu, vv, eqS, eF_, ↓c1_, ↓c2_, tabs, reduceCtorEq, ι5, ↓reduceIte, ν1, ν2, ν3, ν4, ν5, ι1, ι2, ι3, ι4, B59_3, hrn])
      refine ⟨fun h2 => ?_, fun h2 => ?_⟩
      · have hlj : j < (rwF g k).length := by omega
        refine ⟨by omega, h2, ?_⟩
        rw [nI_get hlj]
        have hw := hg.lt hlj
        have hsc := fold_take_succ (bput (b.s k + 1)) ⟨b.s, bq⟩ hlj
        rw [hc] at hsc
        have edf : (rwF g k).getD j default = (rwF g k).getD j 0 := rfl
        rw [edf] at hsc
        generalize (rwF g k).getD j 0 = w at hw hsc ⊢
        have rdw := fun (f : Nat → Int) (v : Nat) (hv : v < g.length) => (cI_rd (l := mpI f g.length) (i := v) (by rw [mpI_len]; exact hv)).trans (by rw [mpI_get f hv])
        have lnm : ∀ f, (cP fI (mpI f g.length)).length = g.length := fun f => by rw [cI_len, mpI_len]
        have hwb := rdw c.s w hw
        have hkb := rdw c.s k hkn
        (try simp (maxSteps := 1000000) (disch := first | assumption | (apply ν6; assumption)) only [vz, vu, vv, eqS, eF_, ↓c1_, ↓c2_, tabs, reduceCtorEq, ι5, ↓reduceIte, ν1, ν2, ν3, ν4, ν5, ι1, ι2, ι3, ι4, load_at (st.get 1 rfl), lnm, hwb, Int.toNat_natCast])
        refine ⟨by omega, by omega, by omega, fun h3 => ?_, fun h3 => ?_⟩
        · have hsc2 : bput (b.s k + 1) c w = ⟨updI c.s w (b.s k + 1), c.q ++ [w]⟩ := by rw [bput, if_pos h3]
          rw [hsc2] at hsc
          have e6 : IntKind.i64.wrap (b.s k + 1) = b.s k + 1 := i64_id (by omega) (by omega)
          (try simp (maxSteps := 1000000) (disch := first | assumption | (apply ν6; assumption)) only [vz, vu, vv, eqS, eF_, ↓c1_, ↓c2_, tabs, reduceCtorEq, ι5, ↓reduceIte, ν1, ν2, ν3, ν4, ν5, ι1, ι2, ι3, ι4, load_at (st.get 1 rfl), store_at (st.get 1 rfl), lnm, hkb, hck, e6, Int.toNat_natCast])
          refine ⟨by omega, by omega, by omega, by omega, by omega, by omega, ?_⟩
          have hset := cI_set (l := mpI c.s g.length) (t := w) (by rw [mpI_len]; exact hw) (b.s k + 1)
          rw [hset, mpI_set]
          replace st := st.put 1 rfl (cP fI (mpI (updI c.s w (b.s k + 1)) g.length))
          generalize G.set q (cP fI (mpI (updI c.s w (b.s k + 1)) g.length)) = G2 at st ⊢
          refine lit1 tab_22 rfl tab_3 ⟨rfl, rfl⟩ ?_
          refine st_appN (w := w) st 0 rfl rfl (by omega) fun q' G' hq' st => ?_
          (try simp (maxSteps := 1000000) (disch := first | assumption | (apply ν6; assumption)) only [vz, vu, vv, eqS, eF_, ↓c1_, ↓c2_, tabs, reduceCtorEq, ι5, ↓reduceIte, ν1, ν2, ν3, ν4, ν5, ι1, ι2, ι3, ι4, e5])
          refine ⟨(j + 1, [], q', G'), ⟨by simp only; omega, by simp only [hsc]; exact st⟩, by simp only; omega, ?_, .refl _, Heap.le_refl _⟩
          simp only [hsc, List.length_append, List.length_singleton]; exact .refl _
        · have hsc2 : bput (b.s k + 1) c w = c := by rw [bput, if_neg h3]
          rw [hsc2] at hsc
          (try simp (maxSteps := 1000000) (disch := first | assumption | (apply ν6; assumption)) only [vz, vu, vv, eqS, eF_, ↓c1_, ↓c2_, tabs, reduceCtorEq, ι5, ↓reduceIte, ν1, ν2, ν3, ν4, ν5, ι1, ι2, ι3, ι4, e5])
          refine ⟨(j + 1, J, q2, G), ⟨by simp only; omega, by simp only [hsc]; exact st⟩, by simp only; omega, ?_, .refl _, Heap.le_refl _⟩
          simp only [hsc]; exact .refl _
      · have : j = (rwF g k).length := by omega
        subst this
        rw [List.take_length] at hc
        rw [hc] at hstep hnxt
        (try simp (maxSteps := 1000000) (disch := first | assumption | (apply ν6; assumption)) only [vz, vu, vv, eqS, eF_, ↓c1_, ↓c2_, tabs, reduceCtorEq, ι5, ↓reduceIte, ν1, ν2, ν3, ν4, ν5, ι1, ι2, ι3, ι4])
        refine ⟨(i + 1, J, q2, G), ⟨by simp only [hstep]; exact hnxt, by simp only [hstep]; exact st⟩, by simp only; omega, ?_, Heap.le_refl _⟩
        simp only [hstep]; exact .refl _
    · have hq0 : b.q = [] := List.eq_nil_of_length_eq_zero (by omega)
      rw [hq0] at hms
      have hfar := far_of (row := rwF g) (n := g.length) (some := some) (i := i) (by simp at hms; omega) (by rw [hbe]; exact hq0)
      rw [hbe] at hfar
      rw [hfar]
      have := st_int st 1 rfl
      rw [rowP, mpI_len] at this
      exact this
  have seeds : ∀ G, St H [cellT q (cP fI (mpI (sI0 some 0) g.length))] G → L59_1 (wkK fun r H' => r = Is (mpI (farF (rwF g) g.length some) g.length) ∧ H' = H) (Ls (gI g)) (Is (nI some)) (.sl q 1 0 g.length) (Is (nI some)) (I some.length) (I 0) G := by
    intro G st
    refine L59_1_rule ((0 : Nat), G) (fun s => I s.1) (fun s => s.2) (fun s => s.1 ≤ some.length ∧ St H [cellT q (cP fI (mpI (sI0 some s.1) g.length))] s.2) (fun s => some.length - s.1)
      ⟨⟨by simp, st⟩, .refl _, Heap.le_refl _⟩ ?_
    clear st G
    rintro ⟨k, G⟩ ⟨hk, st⟩
    dsimp only at hk st
    (try simp (maxSteps := 1000000) (disch := first | assumption | (apply ν6; assumption)) only [vz, vu, vv, eqS, eF_, ↓c1_, ↓c2_, tabs, reduceCtorEq, ι5, ↓reduceIte, ν1, ν2, ν3, ν4, ν5, ι1, ι2, ι3, ι4, B59_1, hil])
    refine ⟨fun h1 => ?_, fun h1 => ?_⟩
    · have hlt : k < some.length := by omega
      refine ⟨by omega, h1, ?_⟩
      rw [nI_get hlt]
      have hv := hs (some.getD k 0) (by simp [List.getD, hlt])
      have hsc := sI0_succ hlt
      generalize some.getD k 0 = v at hv hsc ⊢
      have e5 : IntKind.i64.wrap ((k : Int) + 1) = ((k + 1 : Nat) : Int) := by rw [i64_id (by omega) (by omega)]; simp
      (try simp (maxSteps := 1000000) (disch := first | assumption | (apply ν6; assumption)) only [vz, vu, vv, eqS, eF_, ↓c1_, ↓c2_, tabs, reduceCtorEq, ι5, ↓reduceIte, ν1, ν2, ν3, ν4, ν5, ι1, ι2, ι3, ι4, store_at (st.get 0 rfl), lnm, e5, Int.toNat_natCast])
      refine ⟨by omega, by omega, by omega, ?_⟩
      have hset := cI_set (l := mpI (sI0 some k) g.length) (t := v) (by rw [mpI_len]; exact hv) 0
      rw [hset, mpI_set, hsc]
      exact ⟨(k + 1, _), ⟨by simp only; omega, st.put 0 rfl (cP fI (mpI (sI0 some (k + 1)) g.length))⟩, by simp only; omega, .refl _, Heap.le_refl _⟩
    · have : k = some.length := by omega
      subst this
      refine l1Own_row (nI some) (by omega) fun q2 hq2 => ?_
      replace st := st.cell hq2 (cP fI (nI some))
      exact rounds q2 _ st
  refine L59_0_rule ((0 : Nat), G1) (fun s => I s.1) (fun s => s.2) (fun s => s.1 ≤ g.length ∧ St H [cellT q (cP fI (mpI (fun v => if v < s.1 then -1 else 0) g.length))] s.2) (fun s => g.length - s.1)
    ⟨⟨by simp, st⟩, .refl _, Heap.le_refl _⟩ ?_
  clear st G1
  rintro ⟨k, G⟩ ⟨hk, st⟩
  dsimp only at hk st
  (try simp (maxSteps := 1000000) (disch := first | assumption | (apply ν6; assumption)) only [vz, vu, vv, eqS, eF_, ↓c1_, ↓c2_, tabs, reduceCtorEq, ι5, ↓reduceIte, ν1, ν2, ν3, ν4, ν5, ι1, ι2, ι3, ι4, B59_0, hil])
  refine ⟨fun h1 => ?_, fun h1 => ?_⟩
  · have hlt : k < g.length := by omega
    have e5 : IntKind.i64.wrap ((k : Int) + 1) = ((k + 1 : Nat) : Int) := by rw [i64_id (by omega) (by omega)]; simp
    (try simp (maxSteps := 1000000) (disch := first | assumption | (apply ν6; assumption)) only [vz, vu, vv, eqS, eF_, ↓c1_, ↓c2_, tabs, reduceCtorEq, ι5, ↓reduceIte, ν1, ν2, ν3, ν4, ν5, ι1, ι2, ι3, ι4, store_at (st.get 0 rfl), lnm, e5, Int.toNat_natCast])
    refine ⟨by omega, by omega, by omega, ?_⟩
    have hset := cI_set (l := mpI (fun v => if v < k then -1 else 0) g.length) (t := k) (by rw [mpI_len]; exact hlt) (-1)
    have hup : updI (fun v => if v < k then -1 else 0) k (-1) = fun v => if v < k + 1 then -1 else 0 := by
      funext v
      unfold updI
      by_cases e : v = k
      · subst e; simp
      · have : v < k + 1 ↔ v < k := by omega
        simp [e, this]
    rw [hset, mpI_set, hup]
    exact ⟨(k + 1, _), ⟨by simp only; omega, st.put 0 rfl (cP fI (mpI (fun v => if v < k + 1 then -1 else 0) g.length))⟩, by simp only; omega, .refl _, Heap.le_refl _⟩
  · have : k = g.length := by omega
    subst this
    have e0 : mpI (fun v => if v < g.length then -1 else 0) g.length = mpI (sI0 some 0) g.length := by
      rw [sI0_zero]
      unfold mpI
      apply List.map_congr_left
      intro v hv
      rw [if_pos (List.mem_range.1 hv)]
    rw [e0] at st
    exact seeds G st
end Go.Proofs.Ytolffbcnbcjeaaa
namespace Go.Proofs.Ytolffbcnbcjeaaa
open Go Go.Sep Go.Pt
attribute [local irreducible] CallT
theorem filter_range_succ (p : Nat → Bool) (k : Nat) : (List.range (k + 1)).filter p = if p k = true then (List.range k).filter p ++ [k] else (List.range k).filter p := by
  rw [List.range_succ, List.filter_append]
  by_cases h : p k = true <;> simp [h]
theorem filter_range_len (p : Nat → Bool) (k : Nat) : ((List.range k).filter p).length ≤ k := by
  have := List.length_filter_le p (List.range k)
  rwa [List.length_range] at this
theorem l11Fair_spec (g : List (List Nat)) (hg : GrB g) (hg2 : GrB (turnG g)) (goals : List (List Nat)) (hgo : GoB goals g.length) : Pu Try.prog 42 [Ls (gI g), Ls (gI goals)] (Is (nI ((List.range g.length).filter (fairF (rwF g) goals)))) := by
  refine ⟨fun H => CallT.fin ?_⟩
  have hn := hg.n
  have hgl := gI_len g
  have hol := gI_len goals
  have hon := hgo.len
  have hpl := prtI_len g
  have hig := gI_len (inG g)
  rw [inG_len] at hig
  have hpf : ∀ v, v < g.length → partF (ArcOf (rwF g)) v < g.length := fun v hv => by have := partF_le (ArcOf (rwF g)) v; omega
  have hfair := fun v hv => fair_ref (goals := goals) hg.gr (v := v) hv
  have hpg := fun v (h : v < g.length) => prtI_get h
  have haw := aw1_succ (rwF g)
  have hgi : ∀ k, k < g.length → (gI (inG g)).getD k default = nI (inF (rwF g) k) := fun k h => by rw [gI_get (by rw [inG_len]; exact h), inG_row hg]
  have hil : ∀ k, (inF (rwF g) k).length ≤ (rwF g k).length := fun k => by rw [inF_cB]; exact List.length_filter_le _ _
  refine W42_ok ?_; simp (maxSteps := 1000000) (disch := first | assumption | (apply ν6; assumption)) only [W42, vz, vu, vv, eqS, eF_, ↓c1_, ↓c2_, tabs, reduceCtorEq, ι5, ↓reduceIte, ν1, ν2, ν3, ν4, ν5, ι1, ι2, ι3, ι4, hgl]
  refine Pu.use (l11Parts_spec g hg hg2) ?_
  refine Pu.use (within_spec g hg) ?_
  generalize partF (ArcOf (rwF g)) = pf at hpf hfair hpg haw
  generalize prtI g = pr at hpl hpg ⊢
  have ez : zerosA g.length [B false] = cP fB (mpB (aw1 (rwF g) 0) g.length) := by rw [cB_zero]; rfl
  have ez3 : zerosA g.length [I 0] = cP fI (mpI (fun p => ((mtF pf goals 0 p : Nat) : Int)) g.length) := by rw [cP_rep, mpI_const]; rfl
  (try simp (maxSteps := 1000000) (disch := first | assumption | (apply ν6; assumption)) only [vz, vu, vv, eqS, eF_, ↓c1_, ↓c2_, tabs, reduceCtorEq, ι5, ↓reduceIte, ν1, ν2, ν3, ν4, ν5, ι1, ι2, ι3, ι4, makeSliceV, hig])
  refine ⟨by omega, by omega, by omega, by omega, fun q1 hq1 => ?_⟩
  refine ⟨by omega, by omega, by omega, by omega, fun q2 hq21 hq2 => ?_⟩
  rw [ez, ez3] at *
  have st := ((St.nil H).cell hq1 (cP fB (mpB (aw1 (rwF g) 0) g.length))).cell (r := q2) (by rw [Heap.set_other hq21]; exact hq2) (cP fI (mpI (fun p => ((mtF pf goals 0 p : Nat) : Int)) g.length))
  generalize (H.set q1 (cP fB (mpB (aw1 (rwF g) 0) g.length))).set q2 (cP fI (mpI (fun p => ((mtF pf goals 0 p : Nat) : Int)) g.length)) = G1 at st ⊢
  clear hq1 hq21 hq2
  have last : ∀ G, St H [cellT q2 (cP fI (mpI (fun p => ((mtF pf goals goals.length p : Nat) : Int)) g.length)), cellT q1 (cP fB (mpB (aw1 (rwF g) g.length) g.length))] G →
      L42_3 (wkK fun r H' => r = Is (nI ((List.range g.length).filter (fairF (rwF g) goals))) ∧ H' = H) (Ls (gI goals)) (Is pr) (.sl q1 1 0 g.length) (.sl q2 1 0 g.length) (.p .nil) (I g.length) (I 0) G := by
    intro G st
    have st := (st.push (skT (.p .nil) [] []) ⟨.nil, fun y hy => (by cases hy), Heap.le_refl _⟩ (.inl ⟨rfl, rfl, rfl⟩))
    refine L42_3_rule ((0 : Nat), (.p .nil : AV), ([] : List Nat), G) (fun z => z.2.1) (fun z => I z.1) (fun z => z.2.2.2) (fun z => z.1 ≤ g.length ∧ St H [skT z.2.1 ((List.range z.1).filter (fairF (rwF g) goals)) z.2.2.1, cellT q2 (cP fI (mpI (fun p => ((mtF pf goals goals.length p : Nat) : Int)) g.length)), cellT q1 (cP fB (mpB (aw1 (rwF g) g.length) g.length))] z.2.2.2) (fun z => g.length - z.1)
      ⟨⟨by simp, by simpa using st⟩, .refl _, .refl _, Heap.le_refl _⟩ ?_
    clear st
    rintro ⟨i, x, D, G⟩ ⟨hi, st⟩
    dsimp only at hi st
    have e5 : IntKind.i64.wrap ((i : Int) + 1) = ((i + 1 : Nat) : Int) := by rw [i64_id (by omega) (by omega)]; simp
    have hfl := filter_range_len (fairF (rwF g) goals) i
    (try simp (maxSteps := 1000000) (disch := first | assumption | (apply ν6; assumption)) only [vz, vu, vv, eqS, eF_, ↓c1_, ↓c2_, tabs, reduceCtorEq, ι5, ↓reduceIte, ν1, ν2, ν3, ν4, ν5, ι1, ι2, ι3, ι4, B42_3, hpl, hol])
    refine ⟨fun h1 => ?_, fun h1 => ?_⟩
    · have hlt : i < g.length := by omega
      have hp := hpf i hlt
      have hr1 := rdB (aw1 (rwF g) g.length) hp
      have hr2 := rdN (fun p => ((mtF pf goals goals.length p : Nat) : Int)) hp
      have hf := hfair i hlt
      have hsc := filter_range_succ (fairF (rwF g) goals) i
      rw [hpg i hlt]
      (try simp (maxSteps := 1000000) (disch := first | assumption | (apply ν6; assumption)) only [vz, vu, vv, eqS, eF_, ↓c1_, ↓c2_, tabs, reduceCtorEq, ι5, ↓reduceIte, ν1, ν2, ν3, ν4, ν5, ι1, ι2, ι3, ι4, load_at (st.get 2 rfl), lnB, mpB_len, hr1, Int.toNat_natCast])
      refine ⟨by omega, by omega, by omega, by omega, by omega, ?_⟩
      have no : fairF (rwF g) goals i = false → ∃ z : Nat × AV × List Nat × Heap, (z.1 ≤ g.length ∧ St H [skT z.2.1 ((List.range z.1).filter (fairF (rwF g) goals)) z.2.2.1, cellT q2 (cP fI (mpI (fun p => ((mtF pf goals goals.length p : Nat) : Int)) g.length)), cellT q1 (cP fB (mpB (aw1 (rwF g) g.length) g.length))] z.2.2.2) ∧ g.length - z.1 < g.length - i ∧ x.wk z.2.1 ∧ (I ((i + 1 : Nat) : Int)).wk (I z.1) ∧ z.2.2.2.le G := by
        intro h
        rw [if_neg (by rw [h]; simp)] at hsc
        exact ⟨(i + 1, x, D, G), ⟨by simp only; omega, by simp only [hsc]; exact st⟩, by simp only; omega, .refl _, .refl _, Heap.le_refl _⟩
      cases ha : aw1 (rwF g) g.length (pf i)
      · rw [ha, Bool.false_and] at hf
        (try simp (maxSteps := 1000000) (disch := first | assumption | (apply ν6; assumption)) only [vz, vu, vv, eqS, eF_, ↓c1_, ↓c2_, tabs, reduceCtorEq, ι5, ↓reduceIte, ν1, ν2, ν3, ν4, ν5, ι1, ι2, ι3, ι4, e5])
        exact no hf.symm
      · rw [ha, Bool.true_and] at hf
        (try simp (maxSteps := 1000000) (disch := first | assumption | (apply ν6; assumption)) only [vz, vu, vv, eqS, eF_, ↓c1_, ↓c2_, tabs, reduceCtorEq, ι5, ↓reduceIte, ν1, ν2, ν3, ν4, ν5, ι1, ι2, ι3, ι4, load_at (st.get 1 rfl), lnN, mpI_len, hr2, e5, Int.toNat_natCast])
        refine ⟨by omega, by omega, by omega, by omega, by omega, fun h2 => ?_, fun h2 => ?_⟩
        · have ht : fairF (rwF g) goals i = true := by rw [← hf, decide_eq_true_eq]; omega
          rw [if_pos ht] at hsc
          refine lit1 tab_22 rfl tab_3 ⟨rfl, rfl⟩ ?_
          refine sk_app (w := i) st 0 rfl (by omega) fun q' G' st => ?_
          simp only [List.set_cons_zero] at st
          rw [← hsc] at st
          (try simp (maxSteps := 1000000) (disch := first | assumption | (apply ν6; assumption)) only [vz, vu, vv, eqS, eF_, ↓c1_, ↓c2_, tabs, reduceCtorEq, ι5, ↓reduceIte, ν1, ν2, ν3, ν4, ν5, ι1, ι2, ι3, ι4, e5])
          exact ⟨(i + 1, _, [q'], G'), ⟨by simp only; omega, st⟩, by simp only; omega, .refl _, .refl _, Heap.le_refl _⟩
        · refine no ?_
          rw [← hf, decide_eq_false_iff_not]
          omega
    · have : i = g.length := by omega
      subst this
      exact sk_val st 0 rfl
  have gos : ∀ G, St H [cellT q2 (cP fI (mpI (fun p => ((mtF pf goals 0 p : Nat) : Int)) g.length)), cellT q1 (cP fB (mpB (aw1 (rwF g) g.length) g.length))] G →
      L42_1 (wkK fun r H' => r = Is (nI ((List.range g.length).filter (fairF (rwF g) goals))) ∧ H' = H) (Ls (gI g)) (Ls (gI goals)) (Is pr) (.sl q1 1 0 g.length) (.sl q2 1 0 g.length) (Ls (gI goals)) (I goals.length) (I 0) G := by
    intro G st
    refine L42_1_rule ((0 : Nat), G) (fun z => I z.1) (fun z => z.2) (fun z => z.1 ≤ goals.length ∧ St H [cellT q2 (cP fI (mpI (fun p => ((mtF pf goals z.1 p : Nat) : Int)) g.length)), cellT q1 (cP fB (mpB (aw1 (rwF g) g.length) g.length))] z.2) (fun z => goals.length - z.1)
      ⟨⟨by simp, st⟩, .refl _, Heap.le_refl _⟩ ?_
    clear st G
    rintro ⟨t, G⟩ ⟨ht, st⟩
    dsimp only at ht st
    have e5 : IntKind.i64.wrap ((t : Int) + 1) = ((t + 1 : Nat) : Int) := by rw [i64_id (by omega) (by omega)]; simp
    (try simp (maxSteps := 1000000) (disch := first | assumption | (apply ν6; assumption)) only [vz, vu, vv, eqS, eF_, ↓c1_, ↓c2_, tabs, reduceCtorEq, ι5, ↓reduceIte, ν1, ν2, ν3, ν4, ν5, ι1, ι2, ι3, ι4, B42_1, hol, hgl])
    refine ⟨fun h1 => ?_, fun h1 => ?_⟩
    · have hlt : t < goals.length := by omega
      refine ⟨by omega, h1, ?_⟩
      rw [gI_get hlt]
      obtain ⟨hsz, hxlt⟩ := hgo.get hlt
      have hnl := nI_len (rwF goals t)
      have hgd : goals.getD t [] = rwF goals t := rfl
      (try simp (maxSteps := 1000000) (disch := first | assumption | (apply ν6; assumption)) only [vz, vu, vv, eqS, eF_, ↓c1_, ↓c2_, tabs, reduceCtorEq, ι5, ↓reduceIte, ν1, ν2, ν3, ν4, ν5, ι1, ι2, ι3, ι4, hnl])
      refine L42_2_rule ((0 : Nat), G) (fun z => I z.1) (fun z => z.2) (fun z => z.1 ≤ (rwF goals t).length ∧ St H [cellT q2 (cP fI (mpI (fun p => ((mtP pf goals t z.1 p : Nat) : Int)) g.length)), cellT q1 (cP fB (mpB (aw1 (rwF g) g.length) g.length))] z.2) (fun z => (rwF goals t).length - z.1)
        ⟨⟨by simp, by rw [mtP_zero]; exact st⟩, .refl _, Heap.le_refl _⟩ ?_
      clear st G
      rintro ⟨j, G⟩ ⟨hj, st⟩
      dsimp only at hj st
      have e6 : IntKind.i64.wrap ((j : Int) + 1) = ((j + 1 : Nat) : Int) := by rw [i64_id (by omega) (by omega)]; simp
      (try simp (maxSteps := 1000000) (disch := first | assumption | (apply ν6; assumption)) only [vz, vu, vv, eqS, eF_, ↓c1_, ↓c2_, tabs, reduceCtorEq, ι5, ↓reduceIte, ν1, ν2, ν3, ν4, ν5, ι1, ι2, ι3, ι4, B42_2, hnl, hpl])
      refine ⟨fun h2 => ?_, fun h2 => ?_⟩
      · have hlj : j < (rwF goals t).length := by omega
        refine ⟨by omega, h2, ?_⟩
        rw [nI_get hlj]
        have hx := hxlt j hlj
        have hs := mtP_succ pf goals (j := t) (t := j) hlj
        rw [hgd] at hs
        generalize (rwF goals t).getD j 0 = w at hx hs ⊢
        have hp := hpf w hx
        have hr := rdN (fun p => ((mtP pf goals t j p : Nat) : Int)) hp
        rw [Int.toNat_natCast, hpg w hx]
        (try simp (maxSteps := 1000000) (disch := first | assumption | (apply ν6; assumption)) only [vz, vu, vv, eqS, eF_, ↓c1_, ↓c2_, tabs, reduceCtorEq, ι5, ↓reduceIte, ν1, ν2, ν3, ν4, ν5, ι1, ι2, ι3, ι4, load_at (st.get 0 rfl), lnN, mpI_len, hr, e6, Int.toNat_natCast])
        refine ⟨by omega, by omega, by omega, by omega, by omega, fun h3 => ?_, fun h3 => ?_⟩
        · have hset := setN (fun p => ((mtP pf goals t j p : Nat) : Int)) hp ((t + 1 : Nat) : Int)
          have hup : updI (fun p => ((mtP pf goals t j p : Nat) : Int)) (pf w) ((t + 1 : Nat) : Int) = fun p => ((mtP pf goals t (j + 1) p : Nat) : Int) := by
            funext p
            rw [hs]
            unfold updI
            by_cases e : p = pf w
            · subst e
              have h3' : mtP pf goals t j (pf w) = t := by omega
              simp only [if_pos, h3', and_self]
            · simp only [e, false_and, if_false]
          (try simp (maxSteps := 1000000) (disch := first | assumption | (apply ν6; assumption)) only [vz, vu, vv, eqS, eF_, ↓c1_, ↓c2_, tabs, reduceCtorEq, ι5, ↓reduceIte, ν1, ν2, ν3, ν4, ν5, ι1, ι2, ι3, ι4, store_at (st.get 0 rfl), lnN, mpI_len, e5, e6, Int.toNat_natCast])
          repeat refine ⟨by omega, ?_⟩
          rw [hset, hup]
          exact ⟨(j + 1, _), ⟨by simp only; omega, st.put 0 rfl (cP fI (mpI (fun p => ((mtP pf goals t (j + 1) p : Nat) : Int)) g.length))⟩, by simp only; omega, .refl _, Heap.le_refl _⟩
        · have e : mtP pf goals t (j + 1) = mtP pf goals t j := by
            funext p
            rw [hs]
            simp only
            by_cases h : p = pf w ∧ mtP pf goals t j p = t
            · obtain ⟨rfl, h⟩ := h
              exact absurd (by omega) h3
            · rw [if_neg h]
          exact ⟨(j + 1, G), ⟨by simp only; omega, by simp only [e]; exact st⟩, by simp only; omega, .refl _, Heap.le_refl _⟩
      · have : j = (rwF goals t).length := by omega
        subst this
        have hal := mtP_all pf goals t
        rw [hgd] at hal
        rw [hal] at st
        (try simp (maxSteps := 1000000) (disch := first | assumption | (apply ν6; assumption)) only [vz, vu, vv, eqS, eF_, ↓c1_, ↓c2_, tabs, reduceCtorEq, ι5, ↓reduceIte, ν1, ν2, ν3, ν4, ν5, ι1, ι2, ι3, ι4, e5])
        exact ⟨(t + 1, G), ⟨by simp only; omega, st⟩, by simp only; omega, .refl _, Heap.le_refl _⟩
    · have : t = goals.length := by omega
      subst this
      exact last G st
  refine L42_0_rule ((0 : Nat), G1) (fun z => I z.1) (fun z => z.2) (fun z => z.1 ≤ g.length ∧ St H [cellT q2 (cP fI (mpI (fun p => ((mtF pf goals 0 p : Nat) : Int)) g.length)), cellT q1 (cP fB (mpB (aw1 (rwF g) z.1) g.length))] z.2) (fun z => g.length - z.1)
    ⟨⟨by simp, st⟩, .refl _, Heap.le_refl _⟩ ?_
  clear st
  rintro ⟨k, G⟩ ⟨hk, st⟩
  dsimp only at hk st
  have e5 : IntKind.i64.wrap ((k : Int) + 1) = ((k + 1 : Nat) : Int) := by rw [i64_id (by omega) (by omega)]; simp
  (try simp (maxSteps := 1000000) (disch := first | assumption | (apply ν6; assumption)) only [vz, vu, vv, eqS, eF_, ↓c1_, ↓c2_, tabs, reduceCtorEq, ι5, ↓reduceIte, ν1, ν2, ν3, ν4, ν5, ι1, ι2, ι3, ι4, B42_0, hig, hol, hpl])
  refine ⟨fun h1 => ?_, fun h1 => ?_⟩
  · have hlt : k < g.length := by omega
    have hrl := hg.row hlt
    have hikl := hil k
    have hp := hpf k hlt
    have hr := rdB (aw1 (rwF g) k) hp
    have hnl := nI_len (inF (rwF g) k)
    have hup : updB (aw1 (rwF g) k) (pf k) (aw1 (rwF g) k (pf k) || decide (0 < (inF (rwF g) k).length)) = aw1 (rwF g) (k + 1) := by
      rw [haw]; funext p; unfold updB
      by_cases e : p = pf k
      · subst e; simp
      · simp [e]
    have hset := setB (aw1 (rwF g) k) hp (aw1 (rwF g) k (pf k) || decide (0 < (inF (rwF g) k).length))
    rw [hup] at hset
    have hput := st.put 1 rfl (cP fB (mpB (aw1 (rwF g) (k + 1)) g.length))
    rw [hgi k hlt, hpg k hlt]
    (try simp (maxSteps := 1000000) (disch := first | assumption | (apply ν6; assumption)) only [vz, vu, vv, eqS, eF_, ↓c1_, ↓c2_, tabs, reduceCtorEq, ι5, ↓reduceIte, ν1, ν2, ν3, ν4, ν5, ι1, ι2, ι3, ι4, load_at (st.get 1 rfl), lnB, mpB_len, hr, hnl, Int.toNat_natCast])
    refine ⟨by omega, by omega, by omega, by omega, by omega, by omega, by omega, ?_⟩
    cases ha : aw1 (rwF g) k (pf k)
    · have ed : decide ((0 : Int) < ((inF (rwF g) k).length : Int)) = decide (0 < (inF (rwF g) k).length) := by rw [decide_eq_decide]; omega
      rw [ha, Bool.false_or] at hset
      (try simp (maxSteps := 1000000) (disch := first | assumption | (apply ν6; assumption)) only [vz, vu, vv, eqS, eF_, ↓c1_, ↓c2_, tabs, reduceCtorEq, ι5, ↓reduceIte, ν1, ν2, ν3, ν4, ν5, ι1, ι2, ι3, ι4, store_at (st.get 1 rfl), lnB, mpB_len, e5, ed, gt_iff_lt, Int.toNat_natCast])
      repeat refine ⟨by omega, ?_⟩
      rw [hset]
      exact ⟨(k + 1, _), ⟨by simp only; omega, hput⟩, by simp only; omega, .refl _, Heap.le_refl _⟩
    · rw [ha, Bool.true_or] at hset
      (try simp (maxSteps := 1000000) (disch := first | assumption | (apply ν6; assumption)) only [vz, vu, vv, eqS, eF_, ↓c1_, ↓c2_, tabs, reduceCtorEq, ι5, ↓reduceIte, ν1, ν2, ν3, ν4, ν5, ι1, ι2, ι3, ι4, store_at (st.get 1 rfl), lnB, mpB_len, e5, Int.toNat_natCast])
      repeat refine ⟨by omega, ?_⟩
      rw [hset]
      exact ⟨(k + 1, _), ⟨by simp only; omega, hput⟩, by simp only; omega, .refl _, Heap.le_refl _⟩
  · have : k = g.length := by omega
    subst this
    exact gos G st
end Go.Proofs.Ytolffbcnbcjeaaa
namespace Go.Proofs.Ytolffbcnbcjeaaa
open Go Go.Sep Go.Pt
attribute [local irreducible] CallT
end Go.Proofs.Ytolffbcnbcjeaaa
namespace Go.Sep
open Go Go.RowKit Go.Proofs.Ytolffbcnbcjeaaa
structure ResU (R : AV → Heap → List Nat → Prop) : Prop where
  loc : ∀ {r G G' D}, R r G D → (∀ y ∈ D, ∀ b, G y = some b → G' y = some b) → R r G' D
  gd : ∀ {r G D}, R r G D → Gd2 r ∧ ∀ y ∈ D, ∀ bs, G y = some bs → ∀ c ∈ bs, GdC c
  sh : ∀ {r G D n G0}, (∀ q, n ≤ q → G0 q = none) → R r G D → R (sh2 n r) (Heap.or G0 (shH n G)) (D.map (· + n))
end Go.Sep
namespace Go.Proofs.Ytolffbcnbcjeaaa
open Go Go.Sep Go.Pt
attribute [local irreducible] CallT
theorem LPg.sl {p : Pg} {v : AV} {G : Heap} {D : List Nat} (h : LPg p v G D) : ∃ q1 q2, v = .agg [I p.wide, I p.vars, .sl q1 2 0 p.start.length, .sl q2 2 0 p.cmds.length] := by
  obtain ⟨x, y, E1, E2, rfl, rfl, hx, hy⟩ := h
  obtain ⟨qx, rfl⟩ := LRow.sl hx
  obtain ⟨qy, rfl⟩ := LRow.sl hy
  exact ⟨qx, qy, rfl⟩
end Go.Proofs.Ytolffbcnbcjeaaa
namespace Go.Proofs.Ytolffbcnbcjeaaa
open Go Go.Sep Go.Pt
attribute [local irreducible] CallT
end Go.Proofs.Ytolffbcnbcjeaaa
namespace Go.Proofs.Ytolffbcnbcjeaaa
open Go Go.Sep Go.Pt
attribute [local irreducible] CallT
theorem turnG_B {g : List (List Nat)} (hg : GrB g) : GrB (turnG g) := by
  have ht := turn_ok hg.gr
  refine ⟨?_, by rw [turnG_len]; exact hg.n, ?_⟩
  · intro l hl x hx
    obtain ⟨v, _, rfl⟩ := List.mem_map.1 hl
    rw [turnG_len]
    exact ht.lt v x hx
  · rw [prT_sum, turnG_len, turnG_row hg.gr]
    have e : turnF (rwF g) g.length = rowP' (prT g g.length 0) := by funext w; exact (prT_turn g w).symm
    rw [e, sumN_rows (prT_lt hg.gr)]
    exact hg.arcs
noncomputable def laS (row : Nat → List Nat) (n : Nat) (some : List Nat) (goals : List (List Nat)) : List Nat := if meetF row n some goals < 0 then [] else stemF row n (meetF row n some goals).toNat some
noncomputable def laL (row : Nat → List Nat) (n : Nat) (some : List Nat) (goals : List (List Nat)) : List Nat := if meetF row n some goals < 0 then [] else ringF row n (meetF row n some goals).toNat goals
noncomputable def laB (row : Nat → List Nat) (n : Nat) (some : List Nat) (goals : List (List Nat)) : Bool := !decide (meetF row n some goals < 0)
noncomputable def lassoV (row : Nat → List Nat) (n : Nat) (some : List Nat) (goals : List (List Nat)) : AV := .tup [Is (nI (laS row n some goals)), Is (nI (laL row n some goals)), B (laB row n some goals)]
end Go.Proofs.Ytolffbcnbcjeaaa
namespace Go.Proofs.Ytolffbcnbcjeaaa
open Go Go.Sep Go.Pt
attribute [local irreducible] CallT
end Go.Proofs.Ytolffbcnbcjeaaa
namespace Go.Proofs.Ytolffbcnbcjeaaa
open Go Go.Sep Go.Pt
attribute [local irreducible] CallT
def markE (k : Int) (n : Nat) : List Ed := (List.range n).map fun (i : Nat) => ⟨k + 3 * (i : Int), k + 3 * (i : Int) + 1, k + 3 * (i : Int) + 2⟩
theorem markE_len (k : Int) (n : Nat) : (markE k n).length = n := by simp [markE]
theorem heldEdgeS_spec (n : Nat) (hl : n ≤ 1048576) {k : Int} (h0 : 0 ≤ k) (h1 : k ≤ 1000000000) : Pu Try.prog 53 [Es (markE k n), I k] (I (k + 3 * n)) := by
  refine Pu.of fun H => ?_
  have hml := markE_len k n
  refine W53_ok ?_; simp (maxSteps := 1000000) (disch := first | assumption | (apply ν6; assumption)) only [W53, vz, vu, vv, eqS, eF_, ↓c1_, ↓c2_, tabs, reduceCtorEq, ι5, ↓reduceIte, ν1, ν2, ν3, ν4, ν5, ι1, ι2, ι3, ι4]
  refine L53_0_rule (0 : Nat) (fun i => I (k + 3 * i)) (fun i => I i) (fun _ => H) (fun i => i ≤ n) (fun i => n - i) ⟨by omega, ?_, .refl _, Heap.le_refl _⟩ ?_
  · rw [wk_int]; simp
  intro i hi
  (try simp (maxSteps := 1000000) (disch := first | assumption | (apply ν6; assumption)) only [vz, vu, vv, eqS, eF_, ↓c1_, ↓c2_, tabs, reduceCtorEq, ι5, ↓reduceIte, ν1, ν2, ν3, ν4, ν5, ι1, ι2, ι3, ι4, B53_0, hml])
  refine ⟨fun h5 => ?_, fun h5 => ?_⟩
  · have hlt : i < n := by omega
    have e : (markE k n).getD i default = ⟨k + 3 * i, k + 3 * i + 1, k + 3 * i + 2⟩ := by simp [markE, List.getD, hlt]
    have w1 : IntKind.i64.wrap (k + 3 * ↑i + 1) = k + 3 * i + 1 := i64_id (by omega) (by omega)
    have w2 : IntKind.i64.wrap (k + 3 * ↑i + 1 + 1) = k + 3 * i + 2 := by rw [i64_id (by omega) (by omega)]; omega
    have w3 : IntKind.i64.wrap (k + 3 * ↑i + 2 + 1) = k + 3 * i + 3 := by rw [i64_id (by omega) (by omega)]; omega
    simp only [e, w1, w2, w3]
    refine ⟨by omega, h5, fun h6 => absurd trivial h6, fun _ => ⟨by omega, h5, fun h6 => absurd trivial h6, fun _ => ⟨by omega, h5, fun h6 => absurd trivial h6, fun _ => ⟨i + 1, by omega, by omega, ?_, ?_⟩⟩⟩⟩
    · rw [wk_int]; omega
    · rw [wk_int, i64_id (by omega) (by omega)]; simp
  · have : i = n := by omega
    subst this; rfl
def mkL (k : Int) (gs : List (List Int)) (i : Nat) : List Int := marked (k + psum totL gs i) (gs.getD i default).length
def mkLs (k : Int) (gs : List (List Int)) (n : Nat) : List (List Int) := (List.range n).map (mkL k gs)
theorem mkLs_len (k : Int) (gs : List (List Int)) (n : Nat) : (mkLs k gs n).length = n := by simp [mkLs]
theorem mkLs_get (k : Int) (gs : List (List Int)) {n i : Nat} (h : i < n) : (mkLs k gs n).getD i default = mkL k gs i := by simp [mkLs, List.getD, h]
theorem heldIntSS_spec (xs : List (List Int)) (hl : totLs xs ≤ 1048576) {k : Int} (h0 : 0 ≤ k) (hk : k ≤ 800000000) : Pu Try.prog 54 [Ls (mkLs k xs xs.length), I k] (I (k + psum totL xs xs.length)) := by
  have hlen : xs.length ≤ 1048576 := by unfold totLs at hl; omega
  have hml := mkLs_len k xs xs.length
  refine Pu.of fun H => ?_
  refine W54_ok ?_; simp (maxSteps := 1000000) (disch := first | assumption | (apply ν6; assumption)) only [W54, vz, vu, vv, eqS, eF_, ↓c1_, ↓c2_, tabs, reduceCtorEq, ι5, ↓reduceIte, ν1, ν2, ν3, ν4, ν5, ι1, ι2, ι3, ι4]
  refine L54_0_rule (0 : Nat) (fun i => I (k + psum totL xs i)) (fun i => I i) (fun _ => H) (fun i => i ≤ xs.length) (fun i => xs.length - i) ⟨by omega, ?_, .refl _, Heap.le_refl _⟩ ?_
  · rw [wk_int]; simp [psum]
  intro i hi
  have hps := psum_le (f := totL) (xs := xs) i
  have htd : totLs xs = xs.length + psum totL xs xs.length := rfl
  (try simp (maxSteps := 1000000) (disch := first | assumption | (apply ν6; assumption)) only [vz, vu, vv, eqS, eF_, ↓c1_, ↓c2_, tabs, reduceCtorEq, ι5, ↓reduceIte, ν1, ν2, ν3, ν4, ν5, ι1, ι2, ι3, ι4, B54_0, hml])
  refine ⟨fun h5 => ⟨by omega, h5, ?_⟩, fun h5 => ?_⟩
  · have hlt : i < xs.length := by omega
    have hsucc := psum_succ (f := totL) hlt
    have hps2 := psum_le (f := totL) (xs := xs) (i + 1)
    have htl : totL (xs.getD i default) = (xs.getD i default).length := rfl
    rw [mkLs_get k xs hlt]
    refine Pu.use (heldIntS_spec (xs.getD i default).length (by omega) (by omega) (by omega)) ?_
    (try simp (maxSteps := 1000000) (disch := first | assumption | (apply ν6; assumption)) only [vz, vu, vv, eqS, eF_, ↓c1_, ↓c2_, tabs, reduceCtorEq, ι5, ↓reduceIte, ν1, ν2, ν3, ν4, ν5, ι1, ι2, ι3, ι4])
    refine ⟨fun h => by omega, fun _ => ⟨i + 1, by omega, by omega, ?_, ?_⟩⟩
    · rw [wk_int]; omega
    · rw [wk_int, i64_id (by omega) (by omega)]; simp
  · have : i = xs.length := by omega
    subst this; rfl
def mkAu (k : Int) (a : Au) : Au := ⟨a.states, marked k a.first.length, markE (k + a.first.length) a.edges.length, mkLs (k + a.first.length + 3 * a.edges.length) a.goals a.goals.length⟩
def totM (a : Au) : Int := a.first.length + 3 * a.edges.length + psum totL a.goals a.goals.length
theorem heldAuto_spec (a : Au) (hl : totAu a ≤ 1048576) {k : Int} (h0 : 0 ≤ k) (hk : k ≤ 600000000) : Pu Try.prog 19 [aAu (mkAu k a), I k] (I (k + totM a)) := by
  have hta : totAu a = a.first.length + a.edges.length + totLs a.goals := rfl
  refine Pu.of fun H => ?_
  refine W19_ok ?_; simp (maxSteps := 1000000) (disch := first | assumption | (apply ν6; assumption)) only [W19, vz, vu, vv, eqS, eF_, ↓c1_, ↓c2_, tabs, reduceCtorEq, ι5, ↓reduceIte, ν1, ν2, ν3, ν4, ν5, ι1, ι2, ι3, ι4]
  intro r hr
  refine Pu.use (heldIntS_spec a.first.length (by omega) h0 (by omega)) ?_
  (try simp (maxSteps := 1000000) (disch := first | assumption | (apply ν6; assumption)) only [vz, vu, vv, eqS, eF_, ↓c1_, ↓c2_, tabs, reduceCtorEq, ι5, ↓reduceIte, ν1, ν2, ν3, ν4, ν5, ι1, ι2, ι3, ι4])
  refine ⟨fun h => by omega, fun _ => ?_⟩
  refine Pu.use (heldEdgeS_spec a.edges.length (by omega) (by omega) (by omega)) ?_
  (try simp (maxSteps := 1000000) (disch := first | assumption | (apply ν6; assumption)) only [vz, vu, vv, eqS, eF_, ↓c1_, ↓c2_, tabs, reduceCtorEq, ι5, ↓reduceIte, ν1, ν2, ν3, ν4, ν5, ι1, ι2, ι3, ι4])
  refine ⟨fun h => by omega, fun _ => ?_⟩
  refine Pu.use (heldIntSS_spec a.goals (by omega) (by omega) (by omega)) ?_
  (try simp (maxSteps := 1000000) (disch := first | assumption | (apply ν6; assumption)) only [vz, vu, vv, eqS, eF_, ↓c1_, ↓c2_, tabs, reduceCtorEq, ι5, ↓reduceIte, ν1, ν2, ν3, ν4, ν5, ι1, ι2, ι3, ι4])
  refine ⟨fun h => by omega, fun _ => ⟨?_, Heap.le_set hr⟩⟩
  exact congrArg (fun n : Int => I n) (by unfold totM; omega)
theorem toAuto_live (a : Au) (ha : smAu a) {H : Heap} {K : AV → Heap → Prop} (h : ∀ v G D, LAu a v G D → New H G D → K v G) : CallT Try.prog 8 [aAu a] H K := by
  refine W8_ok ?_; simp (maxSteps := 1000000) (disch := first | assumption | (apply ν6; assumption)) only [W8, vz, vu, vv, eqS, eF_, ↓c1_, ↓c2_, tabs, reduceCtorEq, ι5, ↓reduceIte, ν1, ν2, ν3, ν4, ν5, ι1, ι2, ι3, ι4]
  intro r hr r2 n1 h2 r3 n2 n3 h3
  have nn1 : r ≠ r2 := Ne.symm n1
  have n2' : r2 ≠ r3 := Ne.symm n2
  have n3' : r ≠ r3 := Ne.symm n3
  (try simp (maxSteps := 1000000) (disch := first | assumption | (apply ν6; assumption)) only [vz, vu, vv, eqS, eF_, ↓c1_, ↓c2_, tabs, reduceCtorEq, ι5, ↓reduceIte, ν1, ν2, ν3, ν4, ν5, ι1, ι2, ι3, ι4])
  refine toIntS_live a.first ha.1 fun x G D hx hn => ?_
  obtain ⟨q, rfl⟩ := LRow.sl hx
  have g3 := hn.le r3 _ (Heap.set_same _ _ _)
  have g2 := hn.le r2 [I 0, .p .nil, .p .nil, .p .nil] (by rw [Heap.set_other n2', Heap.set_same])
  have g1 := hn.le r [I a.states, Is a.first, Es a.edges, Ls a.goals] (by rw [Heap.set_other n3', Heap.set_other nn1, Heap.set_same])
  have m3 := ne_of_new hn (Heap.set_same _ _ _)
  have m2 := ne_of_new hn (y := r2) (b := [I 0, .p .nil, .p .nil, .p .nil]) (by rw [Heap.set_other n2', Heap.set_same])
  have hn0 := hn.base (Heap.le_setN (Heap.le_setN (Heap.le_set hr) h2) h3)
  (try simp (maxSteps := 1000000) (disch := first | assumption | (apply ν6; assumption)) only [vz, vu, vv, eqS, eF_, ↓c1_, ↓c2_, tabs, reduceCtorEq, ι5, ↓reduceIte, ν1, ν2, ν3, ν4, ν5, ι1, ι2, ι3, ι4, store_at g3, load_at g1])
  refine toEdgeS_live a.edges ha.2.1 fun y G2 D2 hy hn2 => ?_
  obtain ⟨q2, rfl⟩ := LRow.sl hy
  have k3 := hn2.le r3 _ (Heap.set_same _ _ _)
  have k2 := hn2.le r2 [I 0, .p .nil, .p .nil, .p .nil] (by rw [Heap.set_other n2']; exact g2)
  have k1 := hn2.le r [I a.states, Is a.first, Es a.edges, Ls a.goals] (by rw [Heap.set_other n3']; exact g1)
  have l3 := ne_of_new hn2 (Heap.set_same _ _ _)
  have l2 := ne_of_new hn2 (y := r2) (b := [I 0, .p .nil, .p .nil, .p .nil]) (by rw [Heap.set_other n2']; exact g2)
  have hx3 : LI a.first (.sl q 1 0 a.first.length) (G.set r3 [I a.states, .sl q 1 0 a.first.length, .p .nil, .p .nil]) D := LRow.local (LPl.local eI) hx fun z hz b hb => by rw [Heap.set_other (ne_mem hz m3)]; exact hb
  have hn' := (hn0.put h3 [I a.states, .sl q 1 0 a.first.length, .p .nil, .p .nil]).trans hn2 (LRow.has (LPl.has eI) hx3)
  have hx2 := LRow.local (LPl.local eI) hx3 (G' := G2) fun z hz b hb => hn2.le z b hb
  (try simp (maxSteps := 1000000) (disch := first | assumption | (apply ν6; assumption)) only [vz, vu, vv, eqS, eF_, ↓c1_, ↓c2_, tabs, reduceCtorEq, ι5, ↓reduceIte, ν1, ν2, ν3, ν4, ν5, ι1, ι2, ι3, ι4, store_at k3, load_at k1])
  refine toIntSS_live a.goals ha.2.2 fun z G3 D3 hz hn3 => ?_
  obtain ⟨q3, rfl⟩ := LRow.sl hz
  have j3 := hn3.le r3 _ (Heap.set_same _ _ _)
  have j2 := hn3.le r2 [I 0, .p .nil, .p .nil, .p .nil] (by rw [Heap.set_other n2']; exact k2)
  have i3 := ne_of_new hn3 (Heap.set_same _ _ _)
  have i2 := ne_of_new hn3 (y := r2) (b := [I 0, .p .nil, .p .nil, .p .nil]) (by rw [Heap.set_other n2']; exact k2)
  have hx4 : LI a.first (.sl q 1 0 a.first.length) (G2.set r3 [I a.states, .sl q 1 0 a.first.length, .sl q2 3 0 a.edges.length, .p .nil]) D := LRow.local (LPl.local eI) hx2 fun z hz b hb => by rw [Heap.set_other (ne_mem hz m3)]; exact hb
  have hy4 : LE a.edges (.sl q2 3 0 a.edges.length) (G2.set r3 [I a.states, .sl q 1 0 a.first.length, .sl q2 3 0 a.edges.length, .p .nil]) D2 := LRow.local (LPl.local eE) hy fun z hz b hb => by rw [Heap.set_other (ne_mem hz l3)]; exact hb
  have hn'' := (hn'.put h3 [I a.states, .sl q 1 0 a.first.length, .sl q2 3 0 a.edges.length, .p .nil]).trans hn3 (fun z hz => by
    rcases List.mem_append.1 hz with hz | hz
    · exact LRow.has (LPl.has eI) hx4 z hz
    · exact LRow.has (LPl.has eE) hy4 z hz)
  have hx5 := LRow.local (LPl.local eI) hx4 (G' := G3) fun z hz b hb => hn3.le z b hb
  have hy5 := LRow.local (LPl.local eE) hy4 (G' := G3) fun z hz b hb => hn3.le z b hb
  rw [List.append_assoc] at hn''
  (try simp (maxSteps := 1000000) (disch := first | assumption | (apply ν6; assumption)) only [vz, vu, vv, eqS, eF_, ↓c1_, ↓c2_, tabs, reduceCtorEq, ι5, ↓reduceIte, ν1, ν2, ν3, ν4, ν5, ι1, ι2, ι3, ι4, store_at j3])
  (try simp (maxSteps := 1000000) (disch := first | assumption | (apply ν6; assumption)) only [vz, vu, vv, eqS, eF_, ↓c1_, ↓c2_, tabs, reduceCtorEq, ι5, ↓reduceIte, ν1, ν2, ν3, ν4, ν5, ι1, ι2, ι3, ι4, store_at j2])
  refine h _ _ (D ++ (D2 ++ D3)) ⟨_, _, _, D, D2, D3, rfl, rfl, LRow.local (LPl.local eI) hx5 fun z hz b hb => ?_, LRow.local (LPl.local eE) hy5 fun z hz b hb => ?_, LRow.local LIc.local hz fun z hz b hb => ?_⟩ ((hn''.put h2 _).put h3 _)
  · rw [Heap.set_other (ne_mem hz m3), Heap.set_other (ne_mem hz m2)]; exact hb
  · rw [Heap.set_other (ne_mem hz l3), Heap.set_other (ne_mem hz l2)]; exact hb
  · rw [Heap.set_other (ne_mem hz i3), Heap.set_other (ne_mem hz i2)]; exact hb
end Go.Proofs.Ytolffbcnbcjeaaa
namespace Go.Proofs.Ytolffbcnbcjeaaa
open Go Go.Sep Go.Pt
attribute [local irreducible] CallT
theorem eI_gd : Lay.Gd (LPl eI) := LPl.gd fun a x hx => by
  simp only [List.mem_singleton] at hx; subst hx; exact .int _ _
theorem eE_gd : Lay.Gd (LPl eE) := LPl.gd fun a x hx => by
  simp only [List.mem_cons, List.not_mem_nil, or_false] at hx
  rcases hx with rfl | rfl | rfl <;> exact .int _ _
theorem LIc.gd : Lay.Gd LIc := by
  rintro a cs G D ⟨x, rfl, h⟩
  obtain ⟨h1, h2⟩ := LRow.gd eI_gd h
  exact ⟨fun c hc => by rw [List.mem_singleton] at hc; subst hc; exact h1, h2⟩
theorem LIc.sh : Lay.Sh LIc := by
  rintro a cs G D n G0 h0 ⟨x, rfl, h⟩
  exact ⟨shC n x, rfl, LRow.sh (LPl.sh eI) h0 h⟩
theorem LAu.gd {a : Au} {v : AV} {G : Heap} {D : List Nat} (h : LAu a v G D) : Gd1 v ∧ ∀ y ∈ D, ∀ bs, G y = some bs → ∀ c ∈ bs, GdC c := by
  obtain ⟨x, y, z, D1, D2, D3, rfl, rfl, h1, h2, h3⟩ := h
  have a1 := LRow.gd eI_gd h1
  have a2 := LRow.gd eE_gd h2
  have a3 := LRow.gd LIc.gd h3
  refine ⟨.inl ⟨_, rfl, fun c hc => ?_⟩, fun u hu => ?_⟩
  · simp only [List.mem_cons, List.not_mem_nil, or_false] at hc
    rcases hc with rfl | rfl | rfl | rfl
    · exact .p (.int _ _)
    · exact a1.1
    · exact a2.1
    · exact a3.1
  · simp only [List.mem_append] at hu
    rcases hu with hu | hu | hu
    · exact a1.2 u hu
    · exact a2.2 u hu
    · exact a3.2 u hu
theorem LAu.sh {a : Au} {v : AV} {G : Heap} {D : List Nat} {n : Nat} {G0 : Heap} (h0 : ∀ q, n ≤ q → G0 q = none) (h : LAu a v G D) : LAu a (sh1 n v) (Heap.or G0 (shH n G)) (D.map (· + n)) := by
  obtain ⟨x, y, z, D1, D2, D3, rfl, rfl, h1, h2, h3⟩ := h
  exact ⟨shC n x, shC n y, shC n z, _, _, _, rfl, by rw [List.map_append, List.map_append], LRow.sh (LPl.sh eI) h0 h1, LRow.sh (LPl.sh eE) h0 h2, LRow.sh LIc.sh h0 h3⟩
theorem LAu.eq {a : Au} {v : AV} {G : Heap} {D : List Nat} (g : LAu a v G D) (hD : D.Nodup) (hs : smAu a) {K : AV → Heap → Prop} (h : K (B true) G) : CallT Try.prog 10 [v, aAu a] G K := by
  obtain ⟨G1, w1, _⟩ := g.wk hD (fun v => .tup [v, aAu a]) (fun h => .tup (.cons h (.cons (.same _) .nil)))
  exact Pu.thaw (eqAuto_spec a hs) (.bool _) w1 h
theorem LAu.held {a : Au} {v : AV} {G : Heap} {D : List Nat} (g : LAu (mkAu 1 a) v G D) (hD : D.Nodup) (hs : totAu a ≤ 1048576) {K : AV → Heap → Prop} (h : K (I (1 + totM a)) G) : CallT Try.prog 19 [v, I 1] G K := by
  obtain ⟨G1, w1, _⟩ := g.wk hD (fun v => .tup [v, I 1]) (fun h => .tup (.cons h (.cons (.same _) .nil)))
  exact Pu.thaw (heldAuto_spec a hs (by omega) (by omega)) (.int _ _) w1 h
theorem aAu_cells {a : Au} {v : AV} {G : Heap} {D : List Nat} (h : LAu a v G D) : ∃ q1 q2 q3, v = .agg [I a.states, .sl q1 1 0 a.first.length, .sl q2 3 0 a.edges.length, .sl q3 1 0 a.goals.length] := by
  obtain ⟨x, y, z, D1, D2, D3, rfl, e, h1, h2, h3⟩ := h
  obtain ⟨q1, rfl⟩ := LRow.sl h1
  obtain ⟨q2, rfl⟩ := LRow.sl h2
  obtain ⟨q3, rfl⟩ := LRow.sl h3
  exact ⟨q1, q2, q3, rfl⟩
end Go.Proofs.Ytolffbcnbcjeaaa
namespace Go.Proofs.Ytolffbcnbcjeaaa
open Go Go.Sep Go.Pt
attribute [local irreducible] CallT
def nN (l : List Int) : List Nat := l.map Int.toNat
theorem nN_len (l : List Int) : (nN l).length = l.length := by simp [nN]
theorem nN_lt {l : List Int} {n : Nat} (h : ∀ x ∈ l, 0 ≤ x ∧ x < n) : ∀ v ∈ nN l, v < n := by
  intro v hv
  obtain ⟨x, hx, rfl⟩ := List.mem_map.1 hv
  have := h x hx; omega
theorem nI_of {l : List Int} {n : Nat} (h : ∀ x ∈ l, 0 ≤ x ∧ x < n) : nI (nN l) = l := nI_nN fun x hx => (h x hx).1
def gA (a : Au) : List (List Nat) := (nextG a).map nN
theorem gI_of {g : List (List Int)} {n : Nat} (h : ∀ l ∈ g, ∀ x ∈ l, 0 ≤ x ∧ x < n) : gI (g.map nN) = g := by
  unfold gI
  rw [List.map_map]
  conv => rhs; rw [← List.map_id g]
  apply List.map_congr_left
  intro l hl
  exact nI_of (h l hl)
theorem gA_len (a : Au) : (gA a).length = a.states.toNat := by simp [gA, nextG_len]
theorem rising_in {l : List Int} {n : Int} (h : rising l n = true) : ∀ x ∈ l, 0 ≤ x ∧ x < n := by
  intro x hx
  obtain ⟨i, hi, rfl⟩ := List.mem_iff_getElem.1 hx
  have := rising_at h i hi
  rw [getD_lt hi] at this
  omega
structure AutoN (a : Au) : Prop where
  f : GoodF a
  fr : ∀ x ∈ a.first, 0 ≤ x ∧ x < a.states.toNat
  go : ∀ l ∈ a.goals, ∀ x ∈ l, 0 ≤ x ∧ x < a.states.toNat
theorem autoN {a : Au} (h : goodA a = true) : AutoN a := by
  have f := good_facts h
  have hst := f.st
  rw [goodA_def] at h
  simp only [goalsOk, Bool.and_eq_true, decide_eq_true_eq, List.all_eq_true] at h
  obtain ⟨h1, h2, h3, ⟨h4, h5⟩, h6⟩ := h
  refine ⟨f, fun x hx => ?_, fun l hl x hx => ?_⟩
  · have := rising_in h2 x hx; omega
  · have := rising_in (h5 l hl) x hx; omega
def goN (gs : List (List Int)) : List (List Nat) := gs.map nN
theorem AutoN.gob {a : Au} (h : AutoN a) : GoB (goN a.goals) (gA a).length ∧ (∀ l ∈ goN a.goals, l.length ≤ 96) ∧ ((goN a.goals).length + 1) * ((gA a).length + 96 + 2) ≤ 800000 := by
  have hgl := h.f.gl
  have hst := h.f.st
  have hl := gA_len a
  have e : (goN a.goals).length = a.goals.length := by simp [goN]
  have h96 : ∀ l ∈ goN a.goals, l.length ≤ 96 := by
    intro l hl2
    obtain ⟨r, hr, rfl⟩ := List.mem_map.1 hl2
    rw [nN_len]; exact (h.f.gi r hr).2
  refine ⟨⟨fun l hl2 x hx => ?_, by omega, fun l hl2 => by have := h96 l hl2; omega⟩, h96, ?_⟩
  · obtain ⟨r, hr, rfl⟩ := List.mem_map.1 hl2
    rw [hl]; exact nN_lt (h.go r hr) x hx
  · rw [e, hl]
    exact Nat.le_trans (Nat.mul_le_mul (show a.goals.length + 1 ≤ 7 by omega) (show a.states.toNat + 96 + 2 ≤ 194 by omega)) (by decide)
noncomputable def fairA (a : Au) : Bool := laB (rwF (gA a)) (gA a).length (nN a.first) (goN a.goals)
noncomputable def ieR (a : Au) : Bool × Bool := if goodA a then (!fairA a, true) else (false, false)
end Go.Proofs.Ytolffbcnbcjeaaa
namespace Go.Proofs.Ytolffbcnbcjeaaa
open Go Go.Sep Go.Pt
attribute [local irreducible] CallT
theorem filt_sum (L : List Ed) (n : Nat) : sumN (fun v => (L.filter fun e => decide (e.src = (v : Int))).length) n ≤ L.length := by
  induction L with
  | nil => 
    have : ∀ n, sumN (fun _ => 0) n = 0 := fun n => by
      induction n with
      | zero => rfl
      | succ n ih => rw [sumN_succ, ih]
    simp only [List.filter_nil, List.length_nil, this]; exact Nat.le_refl _
  | cons e L ih =>
    have h1 : ∀ n, sumN (fun v => ((e :: L).filter fun e => decide (e.src = (v : Int))).length) n = sumN (fun v => (L.filter fun e => decide (e.src = (v : Int))).length) n + sumN (fun v => if e.src = (v : Int) then 1 else 0) n := by
      intro n
      induction n with
      | zero => rfl
      | succ n ih2 =>
        rw [sumN_succ, sumN_succ, sumN_succ, ih2, List.filter_cons]
        by_cases h : e.src = (n : Int)
        · simp only [h, decide_true, if_true, List.length_cons]; omega
        · simp only [h, decide_false, if_false, Bool.false_eq_true]; omega
    have h2 : ∀ n : Nat, sumN (fun v => if e.src = (v : Int) then 1 else 0) n ≤ if e.src < (n : Int) then 1 else 0 := by
      intro n
      induction n with
      | zero => simp [sumN]
      | succ n ih2 =>
        rw [sumN_succ]
        by_cases h : e.src = (n : Int)
        · rw [if_pos h, if_pos (by omega)]; rw [if_neg (by omega)] at ih2; omega
        · rw [if_neg h]
          by_cases h3 : e.src < (n : Int)
          · rw [if_pos h3] at ih2; rw [if_pos (by omega)]; omega
          · rw [if_neg h3] at ih2; rw [if_neg (by omega)]; omega
    rw [h1, List.length_cons]
    have := h2 n
    split at this <;> omega
def gO (a : Au) : List (List Nat) := (outR a a.edges.length).map nN
theorem gO_len (a : Au) : (gO a).length = a.states.toNat := by simp [gO, outR_len]
theorem gO_row (a : Au) {s : Nat} (h : s < a.states.toNat) : rwF (gO a) s = nN (outN a a.edges.length s) := by
  simp [rwF, gO, outR, List.getD, h]
theorem outN_bd {a : Au} (fa : GoodX a) {s : Nat} : ∀ x ∈ outN a a.edges.length s, 0 ≤ x ∧ x < a.states.toNat := by
  intro x hx
  simp only [outN, List.mem_map, List.mem_filter] at hx
  obtain ⟨e, ⟨he, _⟩, rfl⟩ := hx
  have := edIn_iff.1 (fa.ei e (List.mem_of_mem_take he))
  have := fa.st
  omega
theorem GrB_sum {g : List (List Nat)} (h1 : ∀ v, v < g.length → ∀ x ∈ rwF g v, x < g.length) (hn : g.length ≤ 100000) (hs : sumN (fun v => (rwF g v).length) g.length ≤ 500000) : GrB g := by
  refine ⟨fun l hl x hx => ?_, hn, ?_⟩
  · obtain ⟨v, hv, rfl⟩ := List.mem_iff_getElem.1 hl
    refine h1 v hv x ?_
    simpa [rwF, List.getD, hv] using hx
  · rw [prT_sum]; exact hs
theorem sumN_mono {f g : Nat → Nat} {n : Nat} (h : ∀ v, v < n → f v ≤ g v) : sumN f n ≤ sumN g n := by
  induction n with
  | zero => exact Nat.le_refl _
  | succ n ih => rw [sumN_succ, sumN_succ]; have := ih fun v hv => h v (by omega); have := h n (by omega); omega
theorem gO_B {a : Au} (fa : GoodX a) : GrB (gO a) := by
  have hst := fa.st
  have hed := fa.ed
  have hl := gO_len a
  refine GrB_sum (fun v hv x hx => ?_) (by omega) ?_
  · rw [hl] at hv ⊢
    rw [gO_row a hv] at hx
    exact nN_lt (outN_bd fa) x hx
  · refine Nat.le_trans (sumN_mono (g := fun v => (a.edges.filter fun e => decide (e.src = (v : Int))).length) fun v hv => ?_) (Nat.le_trans (filt_sum _ _) (by omega))
    rw [gO_row a (by omega), nN_len, outN, List.take_length, List.length_map]; exact Nat.le_refl _
structure PrB (p : Au) : Prop where
  x : GoodX p
  n : p.states ≤ 4608
  fr : ∀ x ∈ p.first, 0 ≤ x ∧ x < p.states.toNat
  fl : p.first.length ≤ 9216
  gl : p.goals.length ≤ 12
  go : ∀ l ∈ p.goals, ∀ x ∈ l, 0 ≤ x ∧ x < p.states.toNat
  gs : ∀ l ∈ p.goals, l.length ≤ 9216
theorem PrB.gob {p : Au} (h : PrB p) {n : Nat} (hn : n = p.states.toNat) : GoB (goN p.goals) n ∧ (∀ l ∈ goN p.goals, l.length ≤ 9216) ∧ ((goN p.goals).length + 1) * (n + 9216 + 2) ≤ 800000 := by
  have hgl := h.gl
  have hst := h.x.st
  have hs := h.n
  have e : (goN p.goals).length = p.goals.length := by simp [goN]
  have h96 : ∀ l ∈ goN p.goals, l.length ≤ 9216 := by
    intro l hl2
    obtain ⟨r, hr, rfl⟩ := List.mem_map.1 hl2
    rw [nN_len]; exact h.gs r hr
  refine ⟨⟨fun l hl2 x hx => ?_, by omega, fun l hl2 => by have := h96 l hl2; omega⟩, h96, ?_⟩
  · obtain ⟨r, hr, rfl⟩ := List.mem_map.1 hl2
    rw [hn]; exact nN_lt (h.go r hr) x hx
  · rw [e]
    exact Nat.le_trans (Nat.mul_le_mul (show p.goals.length + 1 ≤ 13 by omega) (show n + 9216 + 2 ≤ 13826 by omega)) (by decide)
noncomputable def impF (p : Au) : Bool := decide (meetF (rwF (gA p)) (gA p).length (nN p.first) (goN p.goals) < 0)
theorem gO_I {p : Au} (h : GoodX p) : gI (gO p) = outR p p.edges.length := gI_of (n := p.states.toNat) fun l hl x hx => by
  obtain ⟨s, hs, rfl⟩ := List.mem_map.1 hl
  exact outN_bd h x hx
theorem meeting_O {p : Au} (h : PrB p) : Pu Try.prog 30 [Ls (outR p p.edges.length), Is p.first, Ls p.goals] (I (meetF (rwF (gO p)) (gO p).length (nN p.first) (goN p.goals))) := by
  have hl := gO_len p
  obtain ⟨h1, h2, h3⟩ := h.gob hl
  have hf := h.fl
  have := meeting_spec (gO p) (gO_B h.x) (nN p.first) (by rw [hl]; exact nN_lt h.fr) (by rw [nN_len]; omega) (goN p.goals) h1
  rwa [gO_I h.x, nI_of h.fr, goN, gI_of h.go] at this
theorem fair_O {p : Au} (h : PrB p) : Pu Try.prog 42 [Ls (outR p p.edges.length), Ls p.goals] (Is (nI ((List.range (gO p).length).filter (fairF (rwF (gO p)) (goN p.goals))))) := by
  have hl := gO_len p
  obtain ⟨h1, h2, h3⟩ := h.gob hl
  have := l11Fair_spec (gO p) (gO_B h.x) (turnG_B (gO_B h.x)) (goN p.goals) h1
  rwa [gO_I h.x, goN, gI_of h.go] at this
theorem far_O {p : Au} (h : PrB p) : Pu Try.prog 59 [Ls (outR p p.edges.length), Is p.first] (Is (mpI (farF (rwF (gO p)) (gO p).length (nN p.first)) (gO p).length)) := by
  have hl := gO_len p
  have hf := h.fl
  have := sp_l11Far (gO p) (gO_B h.x) (nN p.first) (by rw [hl]; exact nN_lt h.fr) (by rw [nN_len]; omega)
  rwa [gO_I h.x, nI_of h.fr] at this
end Go.Proofs.Ytolffbcnbcjeaaa
namespace Go.Proofs.Ytolffbcnbcjeaaa
open Go Go.Sep Go.Pt
attribute [local irreducible] CallT
theorem RL.local {s l : List Int} {v : AV} {G G' : Heap} {D : List Nat} (h : RL s l v G D) (hf : ∀ y ∈ D, ∀ b, G y = some b → G' y = some b) : RL s l v G' D := by
  rcases h with h | ⟨q1, q2, rfl, h1, h2, rfl, hne⟩
  · exact .inl h
  · exact .inr ⟨q1, q2, rfl, hf q1 (by simp) _ h1, hf q2 (by simp) _ h2, rfl, hne⟩
theorem RL.has {s l : List Int} {v : AV} {G : Heap} {D : List Nat} (h : RL s l v G D) : ∀ y ∈ D, G y ≠ none := by
  rcases h with ⟨_, _, _, rfl⟩ | ⟨q1, q2, rfl, h1, h2, rfl, hne⟩
  · intro y hy; cases hy
  · intro y hy
    simp only [List.mem_cons, List.not_mem_nil, or_false] at hy
    rcases hy with rfl | rfl
    · rw [h1]; simp
    · rw [h2]; simp
theorem RL.ag {s l : List Int} {v : AV} {G : Heap} {D : List Nat} (h : RL s l v G D) : ∃ x y, v = .agg [x, y] ∧ x.isCell = true ∧ y.isCell = true := by
  rcases h with ⟨_, _, rfl, _⟩ | ⟨q1, q2, rfl, _⟩
  · exact ⟨_, _, rfl, rfl, rfl⟩
  · exact ⟨_, _, rfl, rfl, rfl⟩
def tRL (s l : List Int) (v : AV) (D : List Nat) : Th := ⟨D, fun G => RL s l v G D, fun h f => h.local f, fun h => h.has⟩
theorem eqLassoQ (s l : List Int) (h1 : s.length ≤ 1048576) (h2 : l.length ≤ 1048576) : Pu Try.prog 15 [aL2 s l, aL2 s l] (B true) := by
  refine Pu.of fun H => ?_
  refine W15_ok ?_; simp (maxSteps := 1000000) (disch := first | assumption | (apply ν6; assumption)) only [W15, vz, vu, vv, eqS, eF_, ↓c1_, ↓c2_, tabs, reduceCtorEq, ι5, ↓reduceIte, ν1, ν2, ν3, ν4, ν5, ι1, ι2, ι3, ι4]
  intro r hr r2 n2 hr2
  have hle := Heap.le_setN (b := [Is s, Is l]) (Heap.le_set (b := [Is s, Is l]) hr) hr2
  have nn2 := Ne.symm n2
  (try simp (maxSteps := 1000000) (disch := first | assumption | (apply ν6; assumption)) only [vz, vu, vv, eqS, eF_, ↓c1_, ↓c2_, tabs, reduceCtorEq, ι5, ↓reduceIte, ν1, ν2, ν3, ν4, ν5, ι1, ι2, ι3, ι4])
  refine Pu.use (eqIntS_spec s h1) ?_
  (try simp (maxSteps := 1000000) (disch := first | assumption | (apply ν6; assumption)) only [vz, vu, vv, eqS, eF_, ↓c1_, ↓c2_, tabs, reduceCtorEq, ι5, ↓reduceIte, ν1, ν2, ν3, ν4, ν5, ι1, ι2, ι3, ι4])
  refine Pu.use (eqIntS_spec l h2) ?_
  (try simp (maxSteps := 1000000) (disch := first | assumption | (apply ν6; assumption)) only [vz, vu, vv, eqS, eF_, ↓c1_, ↓c2_, tabs, reduceCtorEq, ι5, ↓reduceIte, ν1, ν2, ν3, ν4, ν5, ι1, ι2, ι3, ι4])
  exact hle
theorem RL.eq {s l : List Int} {v : AV} {G : Heap} {D : List Nat} (h : RL s l v G D) (hs : s.length ≤ 1048576) (hl : l.length ≤ 1048576) {K : AV → Heap → Prop} (k : K (B true) G) : CallT Try.prog 15 [v, aL2 s l] G K := by
  rcases h with ⟨rfl, rfl, rfl, rfl⟩ | ⟨q1, q2, rfl, h1, h2, rfl, hne⟩
  · exact CallT.args (args' := [aL2 [] [], aL2 [] []]) ((eqLassoQ [] [] (by simp) (by simp)).use k) ⟨wk_agg ⟨.nil, .nil, trivial⟩, .refl _, trivial⟩
  · exact Pu.thaw (eqLassoQ s l hs hl) (.bool _) (wkL2 h1 h2 hne (fun v => .tup [v, aL2 s l]) (fun h => .tup (.cons h (.cons (.same _) .nil)))) k
end Go.Proofs.Ytolffbcnbcjeaaa
namespace Go.Proofs.Ytolffbcnbcjeaaa
open Go Go.Sep Go.Pt
def prs (us bs : List Int) (m : Int) : List Int := us.flatMap fun i => bs.map fun j => i * m + j
theorem prs_succ (us bs : List Int) (m : Int) {i : Nat} (h : i < us.length) : prs (us.take (i + 1)) bs m = prs (us.take i) bs m ++ bs.map fun j => us.getD i default * m + j := by
  unfold prs
  rw [take_succ_snoc h, List.flatMap_append]
  simp
theorem prs_len (us bs : List Int) (m : Int) : (prs us bs m).length = us.length * bs.length := by
  induction us with
  | nil => simp [prs]
  | cons a us ih => rw [prs, List.flatMap_cons, List.length_append, List.length_map]; rw [prs] at ih; rw [ih, List.length_cons, Nat.add_mul, Nat.one_mul, Nat.add_comm]
theorem prs_mem {us bs : List Int} {m x : Int} : x ∈ prs us bs m ↔ ∃ i ∈ us, ∃ j ∈ bs, i * m + j = x := by
  simp only [prs, List.mem_flatMap, List.mem_map]
theorem lex_bd {m n i j : Int} (hi : 0 ≤ i ∧ i < n) (hj : 0 ≤ j ∧ j < m) : 0 ≤ i * m + j ∧ i * m + j < n * m := by
  have h1 : 0 ≤ i * m := Int.mul_nonneg hi.1 (by omega)
  have : (i + 1) * m ≤ n * m := Int.mul_le_mul_of_nonneg_right (by omega) (by omega)
  rw [Int.add_mul, Int.one_mul] at this
  omega
end Go.Proofs.Ytolffbcnbcjeaaa
namespace Go.Proofs.Ytolffbcnbcjeaaa
open Go Go.Sep Go.Pt
attribute [local irreducible] CallT
def anyP {α : Type} (xs : List α) (p : α → Nat → Bool) (i n : Nat) : List Bool := (List.range n).map fun t => (xs.take i).any fun x => p x t
theorem anyP_len {α : Type} (xs : List α) (p : α → Nat → Bool) (i n : Nat) : (anyP xs p i n).length = n := by simp [anyP]
theorem anyP_succ {α : Type} [Inhabited α] (xs : List α) (p : α → Nat → Bool) {i n : Nat} (h : i < xs.length) : anyP xs p (i + 1) n = (List.range n).map fun t => p (xs.getD i default) t || (xs.take i).any fun x => p x t := by
  unfold anyP
  rw [take_succ_snoc h]
  congr 1
  funext t
  rw [List.any_append, Bool.or_comm]
  simp
theorem anyP_get {α : Type} (xs : List α) (p : α → Nat → Bool) (i : Nat) {n t : Nat} (h : t < n) : (anyP xs p i n).getD t default = (xs.take i).any fun x => p x t := by
  simp [anyP, List.getD, h]
theorem l11Marks_row (n : Nat) (l : List Int) (hn : n ≤ 100000) (hll : l.length ≤ 100000) (hl : ∀ x ∈ l, 0 ≤ x ∧ x < n) {H : Heap} {K : AV → Heap → Prop}
    (h : ∀ q G, New H G [q] → G q = some (cP fB (anyP l (fun x t => decide (x = (t : Int))) l.length n)) → K (.sl q 1 0 n) G) : CallT Try.prog 74 [I n, Is l] H K := by
  refine CallT.fin ?_
  refine W74_ok ?_; simp (maxSteps := 1000000) (disch := first | assumption | (apply ν6; assumption)) only [W74, vz, vu, vv, eqS, eF_, ↓c1_, ↓c2_, tabs, reduceCtorEq, ι5, ↓reduceIte, ν1, ν2, ν3, ν4, ν5, ι1, ι2, ι3, ι4, makeSliceV]
  refine ⟨by omega, by omega, by omega, by omega, fun q hq => ?_⟩
  have st := (St.nil H).cell hq (zerosA n [B false])
  generalize H.set q (zerosA n [B false]) = G at st ⊢
  rw [cB_zero] at st
  refine L74_0_rule ((0 : Nat), G) (fun s => I s.1) (fun s => s.2) (fun s => s.1 ≤ l.length ∧ St H [cellT q (cP fB (anyP l (fun x t => decide (x = (t : Int))) s.1 n))] s.2) (fun s => l.length - s.1) ⟨⟨by simp, by simpa [anyP] using st⟩, .refl _, Heap.le_refl _⟩ ?_
  clear st
  rintro ⟨i, G⟩ ⟨hi, st⟩
  dsimp only at hi st
  (try simp (maxSteps := 1000000) (disch := first | assumption | (apply ν6; assumption)) only [vz, vu, vv, eqS, eF_, ↓c1_, ↓c2_, tabs, reduceCtorEq, ι5, ↓reduceIte, ν1, ν2, ν3, ν4, ν5, ι1, ι2, ι3, ι4, B74_0])
  refine ⟨fun h1 => ⟨by omega, h1, ?_⟩, fun h1 => ?_⟩
  · have hlti : i < l.length := by omega
    have hx := getD_all (p := fun x => 0 ≤ x ∧ x < (n : Int)) (d := default) hl hlti
    have hsucc := anyP_succ l (fun x t => decide (x = (t : Int))) (n := n) hlti
    generalize l.getD i default = x at hx hsucc ⊢
    have hlen := anyP_len l (fun x t => decide (x = (t : Int))) i n
    have hset := cB_set (l := anyP l (fun x t => decide (x = (t : Int))) i n) (t := x.toNat) (by omega) true
    have hms : (anyP l (fun x t => decide (x = (t : Int))) i n).set x.toNat true = anyP l (fun x t => decide (x = (t : Int))) (i + 1) n := by
      rw [hsucc]
      unfold anyP
      rw [mapB_set]
      congr 1
      funext t
      congr 1
      rw [decide_eq_decide]
      omega
    rw [hms] at hset
    have e3 : IntKind.i64.wrap ((i : Int) + 1) = ((i + 1 : Nat) : Int) := by rw [i64_id (by omega) (by omega)]; simp
    (try simp (maxSteps := 1000000) (disch := first | assumption | (apply ν6; assumption)) only [vz, vu, vv, eqS, eF_, ↓c1_, ↓c2_, tabs, reduceCtorEq, ι5, ↓reduceIte, ν1, ν2, ν3, ν4, ν5, ι1, ι2, ι3, ι4, store_at (st.get 0 rfl), hset, e3])
    exact ⟨hx.1, hx.2, by rw [hlen]; omega, (i + 1, G.set q (cP fB (anyP l (fun x t => decide (x = (t : Int))) (i + 1) n))), ⟨by simp only; omega, st.put 0 rfl (cP fB (anyP l (fun x t => decide (x = (t : Int))) (i + 1) n))⟩, by simp only; omega, .refl _, Heap.le_refl _⟩
  · have : i = l.length := by omega
    subst this
    exact wkK.keep (h q G (by simpa [cellT] using st.new) (st.get 0 rfl))
end Go.Proofs.Ytolffbcnbcjeaaa
namespace Go.Proofs.Ytolffbcnbcjeaaa
open Go Go.Sep Go.Pt
attribute [local irreducible] CallT
theorem LIn.frz : Lay.Frz LIn eL := by
  rintro c cs G D v s pre post ⟨x, rfl, h⟩ hD hs hG
  rcases h with ⟨rfl, rfl, rfl⟩ | h
  · refine ⟨G.set s (pre ++ ([.p (.sl [])] ++ post)), .cell hG (by simp) (fun j a a' e1 e2 => ?_), Heap.set_same _ _ _, fun y hy _ => Heap.set_other hy⟩
    rw [List.getElem?_append] at e1 e2
    split at e1
    · rename_i hlt
      rw [if_pos hlt] at e2
      rw [e1] at e2; cases e2; exact .refl _
    · rename_i hge
      rw [if_neg hge] at e2
      cases hj : j - pre.length with
      | zero =>
        rw [hj] at e1 e2
        simp at e1 e2
        subst e1; subst e2
        exact .nil
      | succ k =>
        rw [hj] at e1 e2
        simp at e1 e2
        rw [e1] at e2; cases e2; exact .refl _
  · obtain ⟨G', w, k, f⟩ := LRow.frzIn (e := eI) (sz := 1) (pre := pre) (post := post) (v := v) (by omega) (fun _ => rfl) (LPl.local eI) (LPl.frz eI) h hD hs (by rw [hG])
    exact ⟨G', w, by rw [k]; rfl, f⟩
def outL (n : Nat) (L : List Ed) : List (List Int) := (List.range n).map fun s => (L.filter fun e => decide (e.src = ((s : Nat) : Int))).map (·.dst)
theorem outL_len (n : Nat) (L : List Ed) : (outL n L).length = n := by simp [outL]
theorem outL_nil (n : Nat) : outL n [] = List.replicate n [] := by
  apply List.ext_getElem
  · simp [outL]
  · intro i h1 h2; simp [outL]
theorem outL_get (n : Nat) (L : List Ed) {s : Nat} (h : s < n) : (outL n L).getD s default = (L.filter fun e => decide (e.src = (s : Int))).map (·.dst) := by simp [outL, List.getD, h]
theorem outL_push (n : Nat) (L : List Ed) (e : Ed) {w : Nat} (hw : e.src = (w : Int)) (h : w < n) : outL n (L ++ [e]) = (outL n L).set w ((outL n L).getD w default ++ [e.dst]) := by
  apply List.ext_getElem
  · simp [outL]
  · intro i h1 h2
    have hi : i < n := by simpa [outL] using h1
    rw [List.getElem_set]
    by_cases e1 : w = i
    · subst e1
      rw [if_pos rfl, outL_get n L h]
      simp [outL, hw]
    · rw [if_neg e1]
      have : ¬ e.src = (i : Int) := by omega
      simp [outL, this]
theorem outL_row (n : Nat) (L : List Ed) (s : Nat) (h : s < n) : ((outL n L).getD s default).length ≤ L.length := by
  rw [outL_get n L h, List.length_map]; exact List.length_filter_le ..
end Go.Proofs.Ytolffbcnbcjeaaa
namespace Go.Proofs.Ytolffbcnbcjeaaa
open Go Go.Sep Go.Pt
attribute [local irreducible] CallT
theorem below_mem' {n : Nat} {x : Int} : x ∈ below n ↔ 0 ≤ x ∧ x < n := by
  simp only [below, List.mem_map, List.mem_range]
  constructor
  · rintro ⟨a, ha, rfl⟩; omega
  · rintro ⟨h1, h2⟩; exact ⟨x.toNat, by omega, by omega⟩
def letW (s l : List Int) (t : Nat) : Int := (s ++ l).getD t default
def nxW (s l : List Int) (t : Nat) : Nat := if t + 1 < s.length + l.length then t + 1 else s.length
theorem letW_1 {s l : List Int} {t : Nat} (h : t < s.length) : letW s l t = s.getD t default := by simp [letW, List.getD, List.getElem?_append_left h]
theorem letW_2 {s l : List Int} {t : Nat} (h : s.length ≤ t) : letW s l t = l.getD (t - s.length) default := by simp [letW, List.getD, List.getElem?_append_right h]
theorem l9At_spec (s l : List Int) (h1 : s.length ≤ 24) (h2 : 1 ≤ l.length ∧ l.length ≤ 24) {t : Nat} (ht : t < s.length + l.length) : Pu Try.prog 91 [aL2 s l, I t] (I (letW s l t)) := by
  refine Pu.of fun H => ?_
  have e1 : IntKind.i64.wrap ((t : Int) - (s.length : Int)) = (t : Int) - s.length := i64_id (by omega) (by omega)
  refine W91_ok ?_; simp (maxSteps := 1000000) (disch := first | assumption | (apply ν6; assumption)) only [W91, vz, vu, vv, eqS, eF_, ↓c1_, ↓c2_, tabs, reduceCtorEq, ι5, ↓reduceIte, ν1, ν2, ν3, ν4, ν5, ι1, ι2, ι3, ι4]
  intro r hr
  have hle := Heap.le_set (b := [Is s, Is l]) hr
  (try simp (maxSteps := 1000000) (disch := first | assumption | (apply ν6; assumption)) only [vz, vu, vv, eqS, eF_, ↓c1_, ↓c2_, tabs, reduceCtorEq, ι5, ↓reduceIte, ν1, ν2, ν3, ν4, ν5, ι1, ι2, ι3, ι4, e1])
  refine ⟨fun h => ?_, fun h => ?_⟩
  · rw [letW_1 (by omega)]
    exact ⟨by omega, h, rfl, hle⟩
  · have e2 : ((t : Int) - (s.length : Int)).tmod (l.length : Int) = (t : Int) - s.length := Int.tmod_eq_of_lt (by omega) (by omega)
    have e3 : ((t : Int) - (s.length : Int)).toNat = t - s.length := by omega
    rw [e2, e3, letW_2 (by omega)]
    exact ⟨by omega, by omega, by omega, rfl, hle⟩
theorem letterAt_spec (s l : List Int) (h1 : s.length ≤ 24) (h2 : 1 ≤ l.length ∧ l.length ≤ 24) {t : Nat} (ht : t < s.length + l.length) : Pu Try.prog 38 [aL2 s l, I t] (I (letW s l t)) := by
  refine Pu.of fun H => ?_
  have e1 : IntKind.i64.wrap ((t : Int) - (s.length : Int)) = (t : Int) - s.length := i64_id (by omega) (by omega)
  refine W38_ok ?_; simp (maxSteps := 1000000) (disch := first | assumption | (apply ν6; assumption)) only [W38, vz, vu, vv, eqS, eF_, ↓c1_, ↓c2_, tabs, reduceCtorEq, ι5, ↓reduceIte, ν1, ν2, ν3, ν4, ν5, ι1, ι2, ι3, ι4]
  intro r hr
  have hle := Heap.le_set (b := [Is s, Is l]) hr
  (try simp (maxSteps := 1000000) (disch := first | assumption | (apply ν6; assumption)) only [vz, vu, vv, eqS, eF_, ↓c1_, ↓c2_, tabs, reduceCtorEq, ι5, ↓reduceIte, ν1, ν2, ν3, ν4, ν5, ι1, ι2, ι3, ι4, e1])
  refine ⟨fun h => ?_, fun h => ?_⟩
  · rw [letW_1 (by omega)]
    exact ⟨by omega, h, rfl, hle⟩
  · have e2 : ((t : Int) - (s.length : Int)).tmod (l.length : Int) = (t : Int) - s.length := Int.tmod_eq_of_lt (by omega) (by omega)
    have e3 : ((t : Int) - (s.length : Int)).toNat = t - s.length := by omega
    rw [e2, e3, letW_2 (by omega)]
    exact ⟨by omega, by omega, by omega, rfl, hle⟩
theorem nextPlace_spec (s l : List Int) (h1 : s.length ≤ 24) (h2 : 1 ≤ l.length ∧ l.length ≤ 24) {t : Nat} (ht : t < s.length + l.length) : Pu Try.prog 39 [aL2 s l, I t] (I (nxW s l t : Nat)) := by
  refine Pu.of fun H => ?_
  have e1 : IntKind.i64.wrap ((t : Int) + 1) = ((t + 1 : Nat) : Int) := by rw [i64_id (by omega) (by omega)]; simp
  have e2 : IntKind.i64.wrap ((s.length : Int) + (l.length : Int)) = (s.length : Int) + l.length := i64_id (by omega) (by omega)
  refine W39_ok ?_; simp (maxSteps := 1000000) (disch := first | assumption | (apply ν6; assumption)) only [W39, vz, vu, vv, eqS, eF_, ↓c1_, ↓c2_, tabs, reduceCtorEq, ι5, ↓reduceIte, ν1, ν2, ν3, ν4, ν5, ι1, ι2, ι3, ι4]
  intro r hr
  have hle := Heap.le_set (b := [Is s, Is l]) hr
  (try simp (maxSteps := 1000000) (disch := first | assumption | (apply ν6; assumption)) only [vz, vu, vv, eqS, eF_, ↓c1_, ↓c2_, tabs, reduceCtorEq, ι5, ↓reduceIte, ν1, ν2, ν3, ν4, ν5, ι1, ι2, ι3, ι4, e1, e2])
  refine ⟨fun h => ?_, fun h => ?_⟩
  · rw [nxW, if_pos (by omega)]; exact ⟨rfl, hle⟩
  · rw [nxW, if_neg (by omega)]; exact ⟨rfl, hle⟩
def wpS (m : Int) (s l : List Int) (t : Nat) (e : Ed) : Ed := ⟨(t : Int) * m + e.src, e.lt, ((nxW s l t : Nat) : Int) * m + e.dst⟩
def wpR (m : Int) (s l : List Int) (t : Nat) (es : List Ed) : List Ed := (es.filter fun e => decide (e.lt = letW s l t)).map (wpS m s l t)
def wpE (a : Au) (s l : List Int) (n : Nat) : List Ed := (List.range n).flatMap fun t => wpR a.states s l t a.edges
theorem wpR_succ (m : Int) (s l : List Int) (t : Nat) (es : List Ed) {j : Nat} (h : j < es.length) : wpR m s l t (es.take (j + 1)) = if (es.getD j default).lt = letW s l t then wpR m s l t (es.take j) ++ [wpS m s l t (es.getD j default)] else wpR m s l t (es.take j) := by
  unfold wpR
  rw [take_succ_snoc h, List.filter_append]
  generalize es.getD j default = e
  by_cases hc : e.lt = letW s l t
  · rw [if_pos hc]; simp [hc]
  · rw [if_neg hc]; simp [hc]
theorem wpE_succ (a : Au) (s l : List Int) (n : Nat) : wpE a s l (n + 1) = wpE a s l n ++ wpR a.states s l n a.edges := by simp [wpE, List.range_succ, List.flatMap_append]
theorem wpR_len (m : Int) (s l : List Int) (t : Nat) (es : List Ed) : (wpR m s l t es).length ≤ es.length := by
  rw [wpR, List.length_map]; exact List.length_filter_le ..
theorem wpE_len (a : Au) (s l : List Int) (n : Nat) : (wpE a s l n).length ≤ n * a.edges.length := by
  induction n with
  | zero => simp [wpE]
  | succ n ih => rw [wpE_succ, List.length_append, Nat.add_mul]; have := wpR_len a.states s l n a.edges; omega
def wpG (a : Au) (T k : Nat) : List (List Int) := (a.goals.take k).map fun g => prs (below T) g a.states
theorem wpG_succ (a : Au) (T : Nat) {k : Nat} (h : k < a.goals.length) : wpG a T (k + 1) = wpG a T k ++ [prs (below T) (a.goals.getD k default) a.states] := by
  unfold wpG; rw [take_succ_snoc h, List.map_append]; rfl
theorem wpG_len (a : Au) (T k : Nat) : (wpG a T k).length ≤ k := by rw [wpG, List.length_map, List.length_take]; omega
def wpA (a : Au) (s l : List Int) : Au := ⟨((s.length + l.length : Nat) : Int) * a.states, a.first, wpE a s l (s.length + l.length), wpG a (s.length + l.length) a.goals.length⟩
theorem goodL_f {s l : List Int} (h : goodL s l = true) : s.length ≤ 24 ∧ (1 ≤ l.length ∧ l.length ≤ 24) := by
  simp only [goodL, Bool.and_eq_true, decide_eq_true_eq] at h
  exact ⟨h.1.1, h.1.2⟩
theorem nxW_lt {s l : List Int} {t : Nat} (h : 1 ≤ l.length) (ht : t < s.length + l.length) : nxW s l t < s.length + l.length := by
  unfold nxW; split <;> omega
theorem wpA_pr {a : Au} (ga : goodA a = true) {s l : List Int} (hs : s.length ≤ 24) (hl : 1 ≤ l.length ∧ l.length ≤ 24) : PrB (wpA a s l) := by
  have fa := good_facts ga
  have na := autoN ga
  have sa := fa.st
  have hed := fa.ed
  have hm := mul_bd (a := ((s.length + l.length : Nat) : Int)) (A := 48) (b := a.states) (B := 96) (by omega) (by omega)
  have hpos : 1 * a.states ≤ ((s.length + l.length : Nat) : Int) * a.states := Int.mul_le_mul_of_nonneg_right (by omega) (by omega)
  have hst : ((wpA a s l).states.toNat : Int) = ((s.length + l.length : Nat) : Int) * a.states := by show ((((s.length + l.length : Nat) : Int) * a.states).toNat : Int) = _; omega
  have hgo : ∀ g ∈ (wpA a s l).goals, ∃ g0 ∈ a.goals, g = prs (below (s.length + l.length)) g0 a.states := by
    intro g hg
    obtain ⟨g0, h0, rfl⟩ := List.mem_map.1 (show g ∈ wpG a (s.length + l.length) a.goals.length from hg)
    exact ⟨g0, List.mem_of_mem_take h0, rfl⟩
  refine ⟨⟨⟨by show 1 ≤ ((s.length + l.length : Nat) : Int) * a.states; omega, by show ((s.length + l.length : Nat) : Int) * a.states ≤ _; omega⟩, ?_, fun e he => ?_⟩, by show ((s.length + l.length : Nat) : Int) * a.states ≤ _; omega, fun x hx => ?_, ?_, ?_, fun g hg x hx => ?_, fun g hg => ?_⟩
  · show (wpE a s l (s.length + l.length)).length ≤ _
    have h1 := wpE_len a s l (s.length + l.length)
    have : (s.length + l.length) * a.edges.length ≤ 48 * 2400 := Nat.mul_le_mul (by omega) hed
    omega
  · simp only [wpA, wpE, wpR, List.mem_flatMap, List.mem_map, List.mem_filter, List.mem_range] at he
    obtain ⟨t, ht, e, ⟨h1, h2⟩, rfl⟩ := he
    have i1 := edIn_iff.1 (fa.ei e h1)
    have hn := nxW_lt hl.1 ht
    have l1 := lex_bd (i := (t : Int)) (n := ((s.length + l.length : Nat) : Int)) (j := e.src) (m := a.states) (by omega) (by omega)
    have l2 := lex_bd (i := ((nxW s l t : Nat) : Int)) (n := ((s.length + l.length : Nat) : Int)) (j := e.dst) (m := a.states) (by omega) (by omega)
    exact edIn_iff.2 ⟨⟨l1.1, l1.2⟩, ⟨l2.1, l2.2⟩, i1.2.2⟩
  · have := na.fr x hx
    rw [hst]; omega
  · have := fa.fi.2
    show a.first.length ≤ _; omega
  · show (wpG a (s.length + l.length) a.goals.length).length ≤ _
    have := wpG_len a (s.length + l.length) a.goals.length
    have := fa.gl
    omega
  · obtain ⟨g0, h0, rfl⟩ := hgo g hg
    obtain ⟨i, hi, j, hj, rfl⟩ := prs_mem.1 hx
    have := below_mem'.1 hi
    have h3 := na.go g0 h0 j hj
    rw [hst]
    exact lex_bd (by omega) (by omega)
  · obtain ⟨g0, h0, rfl⟩ := hgo g hg
    rw [prs_len, below_len]
    exact Nat.mul_le_mul (show s.length + l.length ≤ 96 by omega) (fa.gi g0 h0).2
end Go.Proofs.Ytolffbcnbcjeaaa
namespace Go.Proofs.Ytolffbcnbcjeaaa
open Go Go.Sep Go.Pt
attribute [local irreducible] CallT
theorem tab_val {rows : List (List Int)} {q : Nat} {H G : Heap} {D : List Nat} (h : LRow LIn 1 rows (.sl q 1 0 rows.length) G D) (hn : New H G D) : wkK (fun r H' => r = Ls rows ∧ H' = H) (.sl q 1 0 rows.length) G := by
  obtain ⟨G', w, f⟩ := LRow.frzV (e := eL) (sz := 1) (v := .sl q 1 0 rows.length) (v' := Ls rows) (by omega) (fun _ => rfl) LIn.local LIn.frz h hn.nd (fun q _ hr => hr)
  refine ⟨_, H, .trans w (.forget fun y b hb => ?_), rfl, rfl⟩
  rw [f y (fun hy => by rw [hn.fr y hy] at hb; cases hb)]
  exact hn.le y b hb
theorem l12Beside_spec (a : Au) (ga : goodA a = true) (s l : List Int) (hs : s.length ≤ 24) (hl : 1 ≤ l.length ∧ l.length ≤ 24) : Pu Try.prog 73 [aAu a, aL2 s l] (Ls (outR (wpA a s l) (wpA a s l).edges.length)) := by
  refine ⟨fun H => CallT.fin ?_⟩
  have fa := good_facts ga
  have sa := fa.st
  have hed := fa.ed
  have e0 : IntKind.i64.wrap ((s.length : Int) + (l.length : Int)) = ((s.length + l.length : Nat) : Int) := by rw [i64_id (by omega) (by omega)]; simp
  have hm := mul_bd (a := ((s.length + l.length : Nat) : Int)) (A := 48) (b := a.states) (B := 96) (by omega) (by omega)
  have e1 : IntKind.i64.wrap (((s.length + l.length : Nat) : Int) * a.states) = ((s.length + l.length : Nat) : Int) * a.states := i64_id (by omega) (by omega)
  refine W73_ok ?_; simp (maxSteps := 1000000) (disch := first | assumption | (apply ν6; assumption)) only [W73, vz, vu, vv, eqS, eF_, ↓c1_, ↓c2_, tabs, reduceCtorEq, ι5, ↓reduceIte, ν1, ν2, ν3, ν4, ν5, ι1, ι2, ι3, ι4, makeSliceV]
  intro r hr r3 n3 hr3
  have st := ((St.nil H).cell hr [I a.states, Is a.first, Es a.edges, Ls a.goals]).cell (r := r3) (by rw [Heap.set_other n3]; exact hr3) [Is s, Is l]
  have hfr : ∀ q, ¬ q = r3 → ¬ q = r → H q = none → ((H.set r [I a.states, Is a.first, Es a.edges, Ls a.goals]).set r3 [Is s, Is l]) q = none := fun q h1 h2 h3 => by rw [Heap.set_other h1, Heap.set_other h2]; exact h3
  generalize (H.set r [I a.states, Is a.first, Es a.edges, Ls a.goals]).set r3 [Is s, Is l] = G at st hfr ⊢
  clear hr hr3 n3
  (try simp (maxSteps := 1000000) (disch := first | assumption | (apply ν6; assumption)) only [vz, vu, vv, eqS, eF_, ↓c1_, ↓c2_, tabs, reduceCtorEq, ι5, ↓reduceIte, ν1, ν2, ν3, ν4, ν5, ι1, ι2, ι3, ι4, load_at (st.get 1 rfl), e0, e1, numV])
  refine ⟨by omega, by omega, by omega, by omega, fun q q1 q2 hq => ?_⟩
  replace st := tab_new (n := (((s.length + l.length : Nat) : Int) * a.states).toNat) st (q := q) (hfr q q1 q2 hq)
  clear hfr q1 q2 hq
  rw [← outL_nil] at st
  generalize G.set q (zerosA (((s.length + l.length : Nat) : Int) * a.states).toNat [.p .nil]) = G3 at st ⊢
  have hwE : ∀ t j, t ≤ s.length + l.length → (wpE a s l t ++ wpR a.states s l t (a.edges.take j)).length ≤ 200000 := fun t j ht => by
    have h1 := wpE_len a s l t
    have h2 := wpR_len a.states s l t (a.edges.take j)
    rw [List.length_take] at h2
    have h3 : t * a.edges.length ≤ 48 * 2400 := Nat.mul_le_mul (by omega) hed
    rw [List.length_append]; omega
  have hT0 : outL (((s.length + l.length : Nat) : Int) * a.states).toNat (wpE a s l (s.length + l.length)) = outR (wpA a s l) (wpA a s l).edges.length := by
    rw [outL, outR]
    show _ = (List.range (((s.length + l.length : Nat) : Int) * a.states).toNat).map (outN (wpA a s l) (wpA a s l).edges.length)
    congr 1
    funext t
    rw [outN, List.take_length]; rfl
  rw [← hT0]
  clear hT0
  have hN : ∀ t : Nat, t < s.length + l.length → ∀ x : Int, 0 ≤ x ∧ x < a.states → 0 ≤ (t : Int) * a.states + x ∧ (t : Int) * a.states + x < ((s.length + l.length : Nat) : Int) * a.states := fun t ht x hx => lex_bd (by omega) hx
  obtain ⟨N, hNe⟩ : ∃ N, (((s.length + l.length : Nat) : Int) * a.states).toNat = N := ⟨_, rfl⟩
  rw [hNe] at st ⊢
  have hNi : (N : Int) = ((s.length + l.length : Nat) : Int) * a.states := by omega
  refine L73_0_rule ((0 : Nat), [q], G3) (fun z => I z.1) (fun z => z.2.2)
    (fun z => z.1 ≤ s.length + l.length ∧ St H [tabT q (outL N (wpE a s l z.1)) z.2.1, cellT r3 [Is s, Is l], cellT r [I a.states, Is a.first, Es a.edges, Ls a.goals]] z.2.2) (fun z => s.length + l.length - z.1)
    ⟨⟨by simp, by simpa [wpE] using st⟩, .refl _, Heap.le_refl _⟩ ?_
  clear st G3
  rintro ⟨t, D, G⟩ ⟨ht, st⟩
  dsimp only at ht st
  have e5 : IntKind.i64.wrap ((t : Int) + 1) = ((t + 1 : Nat) : Int) := by rw [i64_id (by omega) (by omega)]; simp
  (try simp (maxSteps := 1000000) (disch := first | assumption | (apply ν6; assumption)) only [vz, vu, vv, eqS, eF_, ↓c1_, ↓c2_, tabs, reduceCtorEq, ι5, ↓reduceIte, ν1, ν2, ν3, ν4, ν5, ι1, ι2, ι3, ι4, B73_0, e5])
  refine ⟨fun h1 => ?_, fun h1 => ?_⟩
  · have hlt : t < s.length + l.length := by omega
    have hnx := nxW_lt (s := s) hl.1 hlt
    have key : L73_1 (wkK fun r H' => r = Ls (outL N (wpE a s l (s.length + l.length))) ∧ H' = H) (fun w7 H' => ∃ z : Nat × List Nat × Heap, (z.1 ≤ s.length + l.length ∧ St H [tabT q (outL N (wpE a s l z.1)) z.2.1, cellT r3 [Is s, Is l], cellT r [I a.states, Is a.first, Es a.edges, Ls a.goals]] z.2.2) ∧ s.length + l.length - z.1 < s.length + l.length - t ∧ AV.wk w7 (I z.1) ∧ Heap.le z.2.2 H') (.ptr r 0) (.ptr r3 0) (I ((s.length + l.length : Nat) : Int)) (.sl q 1 0 N) (I t) (I (nxW s l t : Nat)) (Es a.edges) (I a.edges.length) (I 0) G := by
      refine L73_1_rule ((0 : Nat), D, G) (fun z => I z.1) (fun z => z.2.2)
        (fun z => z.1 ≤ a.edges.length ∧ St H [tabT q (outL N (wpE a s l t ++ wpR a.states s l t (a.edges.take z.1))) z.2.1, cellT r3 [Is s, Is l], cellT r [I a.states, Is a.first, Es a.edges, Ls a.goals]] z.2.2) (fun z => a.edges.length - z.1)
        ⟨⟨by simp, by simpa [wpR] using st⟩, .refl _, Heap.le_refl _⟩ ?_
      clear st D G
      rintro ⟨j, D, G⟩ ⟨hj, st⟩
      dsimp only at hj st
      have e6 : IntKind.i64.wrap ((j : Int) + 1) = ((j + 1 : Nat) : Int) := by rw [i64_id (by omega) (by omega)]; simp
      (try simp (maxSteps := 1000000) (disch := first | assumption | (apply ν6; assumption)) only [vz, vu, vv, eqS, eF_, ↓c1_, ↓c2_, tabs, reduceCtorEq, ι5, ↓reduceIte, ν1, ν2, ν3, ν4, ν5, ι1, ι2, ι3, ι4, B73_1, e6])
      refine ⟨fun h2 => ⟨by omega, h2, ?_⟩, fun h2 => ?_⟩
      · have hltj : j < a.edges.length := by omega
        have hdi := edIn_iff.1 (fa.ei _ (getD_all (p := fun x => x ∈ a.edges) (d := default) (fun _ h => h) hltj))
        have hs2 := wpR_succ a.states s l t a.edges hltj
        have hbj := hwE t j ht
        generalize a.edges.getD j default = d at hdi hs2 ⊢
        intro r12 hr12
        replace st := st.cell hr12 [I d.src, I d.lt, I d.dst]
        generalize G.set r12 [I d.src, I d.lt, I d.dst] = G5 at st ⊢
        clear hr12
        (try simp (maxSteps := 1000000) (disch := first | assumption | (apply ν6; assumption)) only [vz, vu, vv, eqS, eF_, ↓c1_, ↓c2_, tabs, reduceCtorEq, ι5, ↓reduceIte, ν1, ν2, ν3, ν4, ν5, ι1, ι2, ι3, ι4, load_at (st.get 0 rfl), load_at (st.get 2 rfl)])
        refine Pu.use (l9At_spec s l hs hl hlt) ?_
        (try simp (maxSteps := 1000000) (disch := first | assumption | (apply ν6; assumption)) only [vz, vu, vv, eqS, eF_, ↓c1_, ↓c2_, tabs, reduceCtorEq, ι5, ↓reduceIte, ν1, ν2, ν3, ν4, ν5, ι1, ι2, ι3, ι4, load_at (st.get 0 rfl), load_at (st.get 2 rfl), load_at (st.get 3 rfl), e6])
        refine ⟨fun h3 => ?_, fun h3 => ?_⟩
        · rw [if_pos h3] at hs2
          have x1 := hN t hlt d.src (by omega)
          have x2 := hN (nxW s l t) hnx d.dst (by omega)
          have y1 : 0 ≤ (t : Int) * a.states := Int.mul_nonneg (by omega) (by omega)
          have y2 : 0 ≤ ((nxW s l t : Nat) : Int) * a.states := Int.mul_nonneg (by omega) (by omega)
          have w1 : IntKind.i64.wrap ((t : Int) * a.states) = (t : Int) * a.states := i64_id (by omega) (by omega)
          have w2 : IntKind.i64.wrap ((t : Int) * a.states + d.src) = (t : Int) * a.states + d.src := i64_id (by omega) (by omega)
          have w3 : IntKind.i64.wrap (((nxW s l t : Nat) : Int) * a.states) = ((nxW s l t : Nat) : Int) * a.states := i64_id (by omega) (by omega)
          obtain ⟨xd, hxd⟩ : ∃ xd, ((nxW s l t : Nat) : Int) * a.states + d.dst = xd := ⟨_, rfl⟩
          have w4 : IntKind.i64.wrap (((nxW s l t : Nat) : Int) * a.states + d.dst) = xd := by rw [← hxd]; exact i64_id (by omega) (by omega)
          obtain ⟨w, hw⟩ : ∃ w : Nat, (t : Int) * a.states + d.src = (w : Int) := ⟨((t : Int) * a.states + d.src).toNat, by omega⟩
          have hwN : w < N := by omega
          have hpush := outL_push N (wpE a s l t ++ wpR a.states s l t (a.edges.take j)) (wpS a.states s l t d) (w := w) hw hwN
          rw [List.append_assoc, ← hs2] at hpush
          have hrl := outL_row N (wpE a s l t ++ wpR a.states s l t (a.edges.take j)) w hwN
          have htl := outL_len N (wpE a s l t ++ wpR a.states s l t (a.edges.take j))
          have hdst : (wpS a.states s l t d).dst = ((nxW s l t : Nat) : Int) * a.states + d.dst := rfl
          rw [hdst, hxd] at hpush
          rw [hw] at w2
          obtain ⟨pre, c, post, Di, Dr, hpl, hpp, st⟩ := tab_take st 1 rfl (i := w) (by omega)
          rw [htl] at hpp
          simp only [List.eraseIdx_cons_succ, List.eraseIdx_cons_zero] at st
          generalize outL N (wpE a s l t ++ wpR a.states s l t (a.edges.take j)) = rows at st hpush hrl htl
          generalize hr0 : rows.getD w default = row at st hpush hrl
          have hG := (st.get 1 rfl : (holeT q pre c post _ _ Dr).P G5).1
          have hrd := tab_rd (c := c) (post := post) hpl
          have hb : w * 1 + 1 ≤ pre.length + (post.length + 1) := by omega
          have hsp : ∀ c', List.take (w * 1) (pre ++ (c :: post)) ++ [c'] ++ List.drop (w * 1 + 1) (pre ++ (c :: post)) = pre ++ (c' :: post) := fun c' => tab_sp hpl
          (try simp (maxSteps := 1000000) (disch := first | assumption | (apply ν6; assumption)) only [vz, vu, vv, eqS, eF_, ↓c1_, ↓c2_, tabs, reduceCtorEq, ι5, ↓reduceIte, ν1, ν2, ν3, ν4, ν5, ι1, ι2, ι3, ι4, load_at (st.get 2 rfl), load_at (st.get 4 rfl), w1, w2, w3, w4, hw, load_at hG, hrd, Int.toNat_natCast])
          refine ⟨by omega, by omega, hb, ?_⟩
          refine lit1 tab_22 rfl tab_3 ⟨rfl, rfl⟩ ?_
          (try simp (maxSteps := 1000000) (disch := first | assumption | (apply ν6; assumption)) only [vz, vu, vv, eqS, eF_, ↓c1_, ↓c2_, tabs, reduceCtorEq, ι5, ↓reduceIte, ν1, ν2, ν3, ν4, ν5, ι1, ι2, ι3, ι4, load_at (st.get 2 rfl), load_at (st.get 3 rfl), load_at (st.get 4 rfl), load_at hG, hrd])
          refine ⟨hb, ?_⟩
          refine rn_appI (ys := [xd]) st 0 rfl (by simp only [List.length_cons, List.length_nil]; omega) fun q' G' hq' st => ?_
          simp only [List.set_cons_zero] at st
          have hG := (st.get 1 rfl : (holeT q pre c post _ _ Dr).P G').1
          (try simp (maxSteps := 1000000) (disch := first | assumption | (apply ν6; assumption)) only [vz, vu, vv, eqS, eF_, ↓c1_, ↓c2_, tabs, reduceCtorEq, ι5, ↓reduceIte, ν1, ν2, ν3, ν4, ν5, ι1, ι2, ι3, ι4, load_at (st.get 2 rfl), load_at (st.get 3 rfl), load_at (st.get 4 rfl), store_at hG])
          refine ⟨by omega, by omega, hb, ?_⟩
          obtain ⟨D', st⟩ := tab_put st (by omega)
          rw [← hpush] at st
          rw [hsp]
          simp only [rowP, List.length_append, List.length_singleton] at st
          exact ⟨(j + 1, D', _), ⟨by simp only; omega, st.erase 1⟩, by simp only; omega, .refl _, Heap.le_refl _⟩
        · rw [if_neg h3] at hs2
          exact ⟨(j + 1, D, _), ⟨by simp only; omega, by rw [hs2]; exact st.drop⟩, by simp only; omega, .refl _, Heap.le_refl _⟩
      · have : j = a.edges.length := by omega
        subst this
        rw [List.take_length, ← wpE_succ] at st
        (try simp (maxSteps := 1000000) (disch := first | assumption | (apply ν6; assumption)) only [vz, vu, vv, eqS, eF_, ↓c1_, ↓c2_, tabs, reduceCtorEq, ι5, ↓reduceIte, ν1, ν2, ν3, ν4, ν5, ι1, ι2, ι3, ι4, e5])
        exact ⟨(t + 1, D, G), ⟨by simp only; omega, st⟩, by simp only; omega, .refl _, Heap.le_refl _⟩
    refine ⟨fun h3 => ?_, fun h3 => ?_⟩
    · rw [nxW, if_neg (by omega)] at key
      (try simp (maxSteps := 1000000) (disch := first | assumption | (apply ν6; assumption)) only [vz, vu, vv, eqS, eF_, ↓c1_, ↓c2_, tabs, reduceCtorEq, ι5, ↓reduceIte, ν1, ν2, ν3, ν4, ν5, ι1, ι2, ι3, ι4, load_at (st.get 1 rfl), load_at (st.get 2 rfl)])
      exact key
    · rw [nxW, if_pos (by omega)] at key
      (try simp (maxSteps := 1000000) (disch := first | assumption | (apply ν6; assumption)) only [vz, vu, vv, eqS, eF_, ↓c1_, ↓c2_, tabs, reduceCtorEq, ι5, ↓reduceIte, ν1, ν2, ν3, ν4, ν5, ι1, ι2, ι3, ι4, load_at (st.get 1 rfl), load_at (st.get 2 rfl)])
      exact key
  · have : t = s.length + l.length := by omega
    subst this
    have htl := outL_len N (wpE a s l (s.length + l.length))
    generalize outL N (wpE a s l (s.length + l.length)) = T0 at st htl ⊢
    subst htl
    exact tab_val (st.get 0 rfl) ⟨st.ndT 0 rfl, st.fr _ (List.mem_of_getElem? (i := 0) rfl), st.le⟩
end Go.Proofs.Ytolffbcnbcjeaaa
namespace Go.Proofs.Ytolffbcnbcjeaaa
open Go Go.Sep Go.Pt
attribute [local irreducible] CallT
def gwB (n : Nat) (p : Nat → Bool) : List Nat := (List.range n).filter p
theorem gwB_succ (n : Nat) (p : Nat → Bool) : gwB (n + 1) p = if p n then gwB n p ++ [n] else gwB n p := by
  simp only [gwB, List.range_succ, List.filter_append, List.filter_cons, List.filter_nil]
  cases p n <;> simp
theorem gwB_len (n : Nat) (p : Nat → Bool) : (gwB n p).length ≤ n := by
  have := List.length_filter_le p (List.range n); simpa [gwB] using this
theorem reach_O {p : Au} (h : PrB p) : Pu Try.prog 40 [Ls (outR p p.edges.length), Is p.first] (Is (nI (gwB (gO p).length fun v => decide (0 ≤ farF (rwF (gO p)) (gO p).length (nN p.first) v)))) := by
  refine ⟨fun H => CallT.fin ?_⟩
  refine CallT.ghost W40_hb fun z hz => ?_
  have st := lent (LPl.local eI) (LPl.has eI) 1 ((St.nil H).cell hz []) 0 rfl
  generalize H.set z [] = G at st ⊢
  clear hz
  refine W40_ok ?_; simp (maxSteps := 1000000) (disch := first | assumption | (apply ν6; assumption)) only [W40, vz, vu, vv, eqS, eF_, ↓c1_, ↓c2_, tabs, reduceCtorEq, ι5, ↓reduceIte, ν1, ν2, ν3, ν4, ν5, ι1, ι2, ι3, ι4]
  refine Pu.use (far_O h) ?_
  have hn : (gO p).length ≤ 4608 := by have := gO_len p; have := h.n; omega
  generalize farF (rwF (gO p)) (gO p).length (nN p.first) = F
  generalize (gO p).length = n at hn ⊢
  have hml := mpI_len F n
  (try simp (maxSteps := 1000000) (disch := first | assumption | (apply ν6; assumption)) only [vz, vu, vv, eqS, eF_, ↓c1_, ↓c2_, tabs, reduceCtorEq, ι5, ↓reduceIte, ν1, ν2, ν3, ν4, ν5, ι1, ι2, ι3, ι4, hml])
  refine L40_0_rule ((0 : Nat), (.p .nil : AV), [z], G) (fun s => s.2.1) (fun s => I s.1) (fun s => s.2.2.2)
    (fun s => s.1 ≤ n ∧ St H [riT z s.2.1 (nI (gwB s.1 fun v => decide (0 ≤ F v))) s.2.2.1] s.2.2.2) (fun s => n - s.1)
    ⟨⟨by simp, st⟩, .refl _, .refl _, Heap.le_refl _⟩ ?_
  clear st G
  rintro ⟨i, x, D, G⟩ ⟨hi, st⟩
  dsimp only at hi st
  have e5 : IntKind.i64.wrap ((i : Int) + 1) = ((i + 1 : Nat) : Int) := by rw [i64_id (by omega) (by omega)]; simp
  have hs := gwB_succ i fun v => decide (0 ≤ F v)
  have hgl := gwB_len i fun v => decide (0 ≤ F v)
  have hnl := nI_len (gwB i fun v => decide (0 ≤ F v))
  (try simp (maxSteps := 1000000) (disch := first | assumption | (apply ν6; assumption)) only [vz, vu, vv, eqS, eF_, ↓c1_, ↓c2_, tabs, reduceCtorEq, ι5, ↓reduceIte, ν1, ν2, ν3, ν4, ν5, ι1, ι2, ι3, ι4, B40_0, hml, e5])
  refine ⟨fun h1 => ⟨by omega, h1, ?_⟩, fun h1 => ?_⟩
  · have hg := mpI_get F (n := n) (v := i) (by omega)
    rw [hg]
    refine ⟨fun h2 => ?_, fun h2 => ?_⟩
    · simp only [h2, decide_true, if_true] at hs
      refine lit1 tab_22 rfl tab_3 ⟨rfl, rfl⟩ ?_
      refine rz_appI (ys := [(i : Int)]) st 0 rfl (by simp only [List.length_singleton]; omega) fun q' G' hq' st => ?_
      have e : nI (gwB i fun v => decide (0 ≤ F v)) ++ [(i : Int)] = nI (gwB (i + 1) fun v => decide (0 ≤ F v)) := by rw [hs, nI_app]; rfl
      rw [e] at st ⊢
      (try simp (maxSteps := 1000000) (disch := first | assumption | (apply ν6; assumption)) only [vz, vu, vv, eqS, eF_, ↓c1_, ↓c2_, tabs, reduceCtorEq, ι5, ↓reduceIte, ν1, ν2, ν3, ν4, ν5, ι1, ι2, ι3, ι4, e5])
      exact ⟨(i + 1, _, [q'], _), ⟨by simp only; omega, st⟩, by simp only; omega, .refl _, .refl _, Heap.le_refl _⟩
    · simp only [h2, decide_false, Bool.false_eq_true, if_false] at hs
      exact ⟨(i + 1, x, D, G), ⟨by simp only; omega, by rw [hs]; exact st⟩, by simp only; omega, .refl _, .refl _, Heap.le_refl _⟩
  · have : i = n := by omega
    subst this
    obtain ⟨x', hx, lx⟩ := (st.get 0 rfl : RZ (LPl eI) 1 z x _ G D).row
    obtain ⟨q, c, E, rfl, hq, ll, rfl⟩ := lx
    obtain ⟨rfl, rfl⟩ := LL.plain' ll
    have := fin_own (sz := 1) (es := (nI (gwB i fun v => decide (0 ≤ F v))).map eI) (q := q) (H := H) (H' := G) (K := fun r H' => r = Is (nI (gwB i fun v => decide (0 ≤ F v))) ∧ H' = H) (by omega) (szI _) (st.fr _ (List.mem_of_getElem? (i := 0) rfl) q (by simp [rzT])) (fun y b hy => by
      by_cases e : y = q
      · subst e; rw [Heap.set_same] at hy; rw [← hy]; exact hq
      · rw [Heap.set_other e] at hy; exact st.le y b hy) ⟨rfl, rfl⟩
    obtain ⟨v, H2, w, k⟩ := this
    refine ⟨v, H2, .trans (.val hx) ?_, k⟩
    simpa only [Go.Sep.own, List.length_map] using w
noncomputable def twF (p : Au) : Bool := decide (0 ≤ meetF (rwF (gO p)) (gO p).length (nN p.first) (goN p.goals))
theorem twF_iff (p : Au) : twF p = true ↔ ∃ v, v < (gO p).length ∧ 0 ≤ farF (rwF (gO p)) (gO p).length (nN p.first) v ∧ fairF (rwF (gO p)) (goN p.goals) v = true := by
  rw [twF, decide_eq_true_eq, meetF]
  rcases bestF_cases (farF (rwF (gO p)) (gO p).length (nN p.first)) ((List.range (gO p).length).filter (fairF (rwF (gO p)) (goN p.goals))) with ⟨h1, h2⟩ | ⟨v, hv, h1, h2, _⟩
  · rw [h1]
    constructor
    · intro h; omega
    · rintro ⟨v, hv, h3, h4⟩
      have := h2 v (List.mem_filter.2 ⟨List.mem_range.2 hv, h4⟩)
      omega
  · rw [h1]
    constructor
    · intro _
      obtain ⟨h3, h4⟩ := List.mem_filter.1 hv
      exact ⟨v, List.mem_range.1 h3, h2, h4⟩
    · intro _; omega
theorem below_takeW (n : Nat) {i : Nat} (h : i ≤ n) : (below n).take i = below i := by
  unfold below
  rw [← List.map_take, List.take_range, Nat.min_eq_left h]
theorem below_getW {n i : Nat} (h : i < n) : (below n).getD i default = (i : Int) := by
  unfold below; simp [List.getD, h]
theorem goalsT (a : Au) (s l : List Int) : (wpA a s l).goals = wpG a (s.length + l.length) a.goals.length := rfl
theorem l12Takes_spec (a : Au) (ga : goodA a = true) (s l : List Int) (hs : s.length ≤ 24) (hl : 1 ≤ l.length ∧ l.length ≤ 24) : Pu Try.prog 36 [aAu a, aL2 s l] (B (twF (wpA a s l))) := by
  refine Pu.of fun H => ?_
  have fa := good_facts ga
  have sa := fa.st
  have hgl := fa.gl
  have hpr := wpA_pr ga hs hl
  have e0 : IntKind.i64.wrap ((s.length : Int) + (l.length : Int)) = ((s.length + l.length : Nat) : Int) := by rw [i64_id (by omega) (by omega)]; simp
  refine CallT.ghost W36_hb fun z hz => ?_
  have st := lent LIc.local LIc.has 1 ((St.nil H).cell hz []) 0 rfl
  generalize H.set z [] = G at st ⊢
  clear hz
  refine W36_ok ?_; simp (maxSteps := 1000000) (disch := first | assumption | (apply ν6; assumption)) only [W36, vz, vu, vv, eqS, eF_, ↓c1_, ↓c2_, tabs, reduceCtorEq, ι5, ↓reduceIte, ν1, ν2, ν3, ν4, ν5, ι1, ι2, ι3, ι4, e0]
  intro r hr r3 n3 hr3
  replace st := (st.cell hr [I a.states, Is a.first, Es a.edges, Ls a.goals]).cell (r := r3) (by rw [Heap.set_other n3]; exact hr3) [Is s, Is l]
  generalize (G.set r [I a.states, Is a.first, Es a.edges, Ls a.goals]).set r3 [Is s, Is l] = G1 at st ⊢
  clear hr hr3 n3
  obtain ⟨T, hT⟩ : ∃ T, s.length + l.length = T := ⟨_, rfl⟩
  have hgo := goalsT a s l
  rw [hT] at hgo ⊢
  replace st : St H [cellT r3 [Is s, Is l], cellT r [I a.states, Is a.first, Es a.edges, Ls a.goals], rgT z (.p .nil) [] [z]] G1 := st
  (try simp (maxSteps := 1000000) (disch := first | assumption | (apply ν6; assumption)) only [vz, vu, vv, eqS, eF_, ↓c1_, ↓c2_, tabs, reduceCtorEq, ι5, ↓reduceIte, ν1, ν2, ν3, ν4, ν5, ι1, ι2, ι3, ι4, load_at (st.get 1 rfl)])
  refine L36_0_ruleG ((0 : Nat), (.p .nil : AV), [z], G1) (fun s => s.2.1) (fun s => I s.1) (fun s => s.2.2.2)
    (fun k => k.1 ≤ a.goals.length ∧ St H [cellT r3 [Is s, Is l], cellT r [I a.states, Is a.first, Es a.edges, Ls a.goals], rgT z k.2.1 (wpG a T k.1) k.2.2.1] k.2.2.2) (fun k => a.goals.length - k.1)
    ⟨⟨by simp, by simpa [wpG] using st⟩, .refl _, .refl _, Heap.le_refl _⟩ ?_
  clear st G1 G
  rintro ⟨k, x, Dz, G⟩ ⟨hk, st⟩ z2 hz2
  dsimp only at hk st hz2 ⊢
  replace st := st.cell hz2 (cP fI [])
  change St H (cellT z2 (cP fI []) :: _) (G.set z2 []) at st
  generalize G.set z2 [] = G at st ⊢
  have e5 : IntKind.i64.wrap ((k : Int) + 1) = ((k + 1 : Nat) : Int) := by rw [i64_id (by omega) (by omega)]; simp
  have hwl := wpG_len a T k
  (try simp (maxSteps := 1000000) (disch := first | assumption | (apply ν6; assumption)) only [vz, vu, vv, eqS, eF_, ↓c1_, ↓c2_, tabs, reduceCtorEq, ι5, ↓reduceIte, ν1, ν2, ν3, ν4, ν5, ι1, ι2, ι3, ι4, B36_0, e5])
  refine ⟨fun h1 => ⟨by omega, h1, ?_⟩, fun h1 => ?_⟩
  · have hltk : k < a.goals.length := by omega
    have hgk := getD_all (p := fun x => smI x ∧ x.length ≤ 96) (d := default) fa.gi hltk
    have hsucc := wpG_succ a T hltk
    generalize a.goals.getD k default = gk at hgk hsucc ⊢
    have hTb : T ≤ 48 := by omega
    refine L36_1_rule ((0 : Nat), z2, G) (fun s => rowP s.2.1 (prs (below s.1) gk a.states)) (fun s => I s.1) (fun s => s.2.2)
      (fun k2 => k2.1 ≤ T ∧ St H [cellT k2.2.1 (cP fI (prs (below k2.1) gk a.states)), cellT r3 [Is s, Is l], cellT r [I a.states, Is a.first, Es a.edges, Ls a.goals], rgT z x (wpG a T k) Dz] k2.2.2) (fun k2 => T - k2.1)
      ⟨⟨by simp, by simpa [below, prs] using st⟩, by simp [below, prs]; exact .nilo _ _ _, .refl _, Heap.le_refl _⟩ ?_
    clear st hz2
    rintro ⟨i, q, G⟩ ⟨hi, st⟩
    dsimp only at hi st
    have hpl := prs_len (below i) gk a.states
    rw [below_len] at hpl
    have hml : i * gk.length ≤ 48 * 96 := Nat.mul_le_mul (by omega) hgk.2
    (try simp (maxSteps := 1000000) (disch := first | assumption | (apply ν6; assumption)) only [vz, vu, vv, eqS, eF_, ↓c1_, ↓c2_, tabs, reduceCtorEq, ι5, ↓reduceIte, ν1, ν2, ν3, ν4, ν5, ι1, ι2, ι3, ι4, B36_1])
    refine ⟨fun h2 => ?_, fun h2 => ?_⟩
    · have hlti : i < T := by omega
      have hps : prs (below (i + 1)) gk a.states = prs (below i) gk a.states ++ gk.map fun j => (i : Int) * a.states + j := by
        have := prs_succ (below (i + 1)) gk a.states (i := i) (by rw [below_len]; omega)
        rw [below_takeW _ (Nat.le_succ i), below_getW (Nat.lt_succ_self i)] at this
        rw [← this, List.take_of_length_le (by rw [below_len]; omega)]
      refine L36_2_rule ((0 : Nat), q, G) (fun s => rowP s.2.1 (prs (below i) gk a.states ++ (gk.take s.1).map fun j => (i : Int) * a.states + j)) (fun s => I s.1) (fun s => s.2.2)
        (fun k3 => k3.1 ≤ gk.length ∧ St H [cellT k3.2.1 (cP fI (prs (below i) gk a.states ++ (gk.take k3.1).map fun j => (i : Int) * a.states + j)), cellT r3 [Is s, Is l], cellT r [I a.states, Is a.first, Es a.edges, Ls a.goals], rgT z x (wpG a T k) Dz] k3.2.2) (fun k3 => gk.length - k3.1)
        ⟨⟨by simp, by simpa using st⟩, by simp; exact .refl _, .refl _, Heap.le_refl _⟩ ?_
      clear st
      rintro ⟨j, q, G⟩ ⟨hj, st⟩
      dsimp only at hj st
      (try simp (maxSteps := 1000000) (disch := first | assumption | (apply ν6; assumption)) only [vz, vu, vv, eqS, eF_, ↓c1_, ↓c2_, tabs, reduceCtorEq, ι5, ↓reduceIte, ν1, ν2, ν3, ν4, ν5, ι1, ι2, ι3, ι4, B36_2, load_at (st.get 2 rfl)])
      refine ⟨fun h3 => ⟨by omega, h3, ?_⟩, fun h3 => ?_⟩
      · have hltj : j < gk.length := by omega
        have hx := getD_all (p := fun x => 0 ≤ x ∧ x ≤ 100000) (d := default) hgk.1.2 hltj
        have ht : (gk.take (j + 1)).map (fun j => (i : Int) * a.states + j) = (gk.take j).map (fun j => (i : Int) * a.states + j) ++ [(i : Int) * a.states + gk.getD j default] := by
          rw [take_succ_snoc hltj, List.map_append]; rfl
        have hlt : ((gk.take j).map fun j => (i : Int) * a.states + j).length ≤ 96 := by rw [List.length_map, List.length_take]; omega
        generalize gk.getD j default = e at hx ht ⊢
        have m1 := mul_bd (a := i) (A := 48) (b := a.states) (B := 96) (by omega) (by omega)
        have e1 : IntKind.i64.wrap ((i : Int) * a.states) = (i : Int) * a.states := i64_id (by omega) (by omega)
        have e2 : IntKind.i64.wrap ((i : Int) * a.states + e) = (i : Int) * a.states + e := i64_id (by omega) (by omega)
        have e3 : IntKind.i64.wrap ((j : Int) + 1) = ((j + 1 : Nat) : Int) := by rw [i64_id (by omega) (by omega)]; simp
        (try simp (maxSteps := 1000000) (disch := first | assumption | (apply ν6; assumption)) only [vz, vu, vv, eqS, eF_, ↓c1_, ↓c2_, tabs, reduceCtorEq, ι5, ↓reduceIte, ν1, ν2, ν3, ν4, ν5, ι1, ι2, ι3, ι4, e1, e2, e3])
        refine lit1 tab_22 rfl tab_3 ⟨rfl, rfl⟩ ?_
        refine st_appI (ys := [(i : Int) * a.states + e]) st 0 rfl (by rw [List.length_append]; simp only [List.length_singleton]; omega) fun q' G' hq' st => ?_
        rw [List.append_assoc, ← ht] at st ⊢
        exact ⟨(j + 1, q', G'), ⟨by simp only; omega, st⟩, by simp only; omega, .refl _, .refl _, Heap.le_refl _⟩
      · have : j = gk.length := by omega
        subst this
        rw [List.take_length, ← hps] at st ⊢
        have e3 : IntKind.i64.wrap ((i : Int) + 1) = ((i + 1 : Nat) : Int) := by rw [i64_id (by omega) (by omega)]; simp
        (try simp (maxSteps := 1000000) (disch := first | assumption | (apply ν6; assumption)) only [vz, vu, vv, eqS, eF_, ↓c1_, ↓c2_, tabs, reduceCtorEq, ι5, ↓reduceIte, ν1, ν2, ν3, ν4, ν5, ι1, ι2, ι3, ι4, e3])
        exact ⟨(i + 1, q, G), ⟨by simp only; omega, st⟩, by simp only; omega, .refl _, .refl _, Heap.le_refl _⟩
    · have : i = T := by omega
      subst this
      (try simp (maxSteps := 1000000) (disch := first | assumption | (apply ν6; assumption)) only [vz, vu, vv, eqS, eF_, ↓c1_, ↓c2_, tabs, reduceCtorEq, ι5, ↓reduceIte, ν1, ν2, ν3, ν4, ν5, ι1, ι2, ι3, ι4, e5])
      refine lit_live1 fun ql hql => ?_
      replace st := st.cell hql [rowP q (prs (below i) gk a.states)]
      generalize G.set ql [.sl q 1 0 (prs (below i) gk a.states).length] = G4 at st ⊢
      (try simp (maxSteps := 1000000) (disch := first | assumption | (apply ν6; assumption)) only [vz, vu, vv, eqS, eF_, ↓c1_, ↓c2_, tabs, reduceCtorEq, ι5, ↓reduceIte, ν1, ν2, ν3, ν4, ν5, ι1, ι2, ι3, ι4])
      refine rz_pushL st 2 rfl (by omega) fun q' D' G5 hq' st => ?_
      rw [← hsucc] at st
      (try simp (maxSteps := 1000000) (disch := first | assumption | (apply ν6; assumption)) only [vz, vu, vv, eqS, eF_, ↓c1_, ↓c2_, tabs, reduceCtorEq, ι5, ↓reduceIte, ν1, ν2, ν3, ν4, ν5, ι1, ι2, ι3, ι4, e5])
      exact ⟨(k + 1, _, D', _), ⟨by simp only; omega, st⟩, by simp only; omega, .refl _, .refl _, Heap.le_refl _⟩
  · have : k = a.goals.length := by omega
    subst this
    rw [← hgo] at st
    have hbe := l12Beside_spec a ga s l hs hl
    have hre := reach_O hpr
    have hfa := fair_O hpr
    have hfst : (wpA a s l).first = a.first := rfl
    have hlen : (outR (wpA a s l) (wpA a s l).edges.length).length = (gO (wpA a s l)).length := by rw [outR_len, gO_len]
    have hn : (gO (wpA a s l)).length ≤ 4608 := by have := gO_len (wpA a s l); have := hpr.n; omega
    have htw := twF_iff (wpA a s l)
    generalize outR (wpA a s l) (wpA a s l).edges.length = T0 at hbe hre hfa hlen
    generalize hF : farF (rwF (gO (wpA a s l))) (gO (wpA a s l)).length (nN (wpA a s l).first) = F at hre htw
    rw [hfst] at hre
    generalize fairF (rwF (gO (wpA a s l))) (goN (wpA a s l).goals) = fr at hfa htw
    generalize (gO (wpA a s l)).length = n at hre hfa hlen hn htw
    generalize twF (wpA a s l) = ans at htw ⊢
    generalize (wpA a s l).goals = gs at st hfa
    (try simp (maxSteps := 1000000) (disch := first | assumption | (apply ν6; assumption)) only [vz, vu, vv, eqS, eF_, ↓c1_, ↓c2_, tabs, reduceCtorEq, ι5, ↓reduceIte, ν1, ν2, ν3, ν4, ν5, ι1, ι2, ι3, ι4, load_at (st.get 1 rfl), load_at (st.get 2 rfl)])
    refine Pu.use hbe ?_
    obtain ⟨x', hx, lx⟩ := (st.get 3 rfl : RZ LIc 1 z x gs G Dz).row
    obtain ⟨Gw, w2, f2⟩ := LRow.frzV (e := eL) (sz := 1) (v := .tup [Ls T0, x']) (v' := .tup [Ls T0, Ls gs]) (by omega) (fun _ => rfl) LIc.local LIc.frz lx (st.ndT 3 rfl) (fun q _ hr => .tup (.cons (.same _) (.cons hr .nil)))
    have hwk : Wk (.tup [Ls T0, x]) G (.tup [Ls T0, Ls gs]) Gw := .trans (.val (v' := .tup [Ls T0, x']) (wk_tup ⟨.refl _, hx, trivial⟩)) w2
    have hle : Heap.le H Gw := fun v bb hb => by rw [f2 v (st.wkNone v bb hb _ (List.mem_of_getElem? (i := 3) rfl))]; exact st.le v bb hb
    have g1 : Gw r = some [I a.states, Is a.first, Es a.edges, Ls a.goals] := by
      rw [f2 r (fun hm => st.disjI 3 2 rfl rfl (by decide) r hm (by simp [cellT]))]; exact st.get 2 rfl
    (try simp (maxSteps := 1000000) (disch := first | assumption | (apply ν6; assumption)) only [vz, vu, vv, eqS, eF_, ↓c1_, ↓c2_, tabs, reduceCtorEq, ι5, ↓reduceIte, ν1, ν2, ν3, ν4, ν5, ι1, ι2, ι3, ι4, hlen])
    refine CallT.pre (Pu.use hfa ?_) hwk
    have hfl : (nI ((List.range n).filter fr)).length ≤ 100000 := by
      rw [nI_len]; have := gwB_len n fr; unfold gwB at this; omega
    (try simp (maxSteps := 1000000) (disch := first | assumption | (apply ν6; assumption)) only [vz, vu, vv, eqS, eF_, ↓c1_, ↓c2_, tabs, reduceCtorEq, ι5, ↓reduceIte, ν1, ν2, ν3, ν4, ν5, ι1, ι2, ι3, ι4])
    refine l11Marks_row n (nI ((List.range n).filter fr)) (by omega) hfl (fun x hx => ?_) fun q9 G9 hn9 hq9 => ?_
    · obtain ⟨v, hv, rfl⟩ := nI_mem.1 hx
      have := List.mem_range.1 (List.mem_filter.1 hv).1
      omega
    have g2 := hn9.le _ _ g1
    have hle9 := Heap.le_trans hle hn9.le
    have hany : ∀ v, v < n → (anyP (nI ((List.range n).filter fr)) (fun x t => decide (x = (t : Int))) (nI ((List.range n).filter fr)).length n).getD v default = fr v := fun v hv => by
      rw [anyP_get _ _ _ hv, List.take_length]
      cases hfv : fr v
      · rw [List.any_eq_false]
        intro x hx
        obtain ⟨u, hu, rfl⟩ := nI_mem.1 hx
        have := (List.mem_filter.1 hu).2
        simp only [decide_eq_true_eq]
        intro e
        have : u = v := by omega
        subst this
        rw [hfv] at this; simp_all
      · rw [List.any_eq_true]
        exact ⟨(v : Int), nI_mem.2 ⟨v, List.mem_filter.2 ⟨List.mem_range.2 hv, hfv⟩, rfl⟩, by simp⟩
    have hal := anyP_len (nI ((List.range n).filter fr)) (fun x t => decide (x = (t : Int))) (nI ((List.range n).filter fr)).length n
    generalize anyP (nI ((List.range n).filter fr)) (fun x t => decide (x = (t : Int))) (nI ((List.range n).filter fr)).length n = mk at hq9 hany hal
    (try simp (maxSteps := 1000000) (disch := first | assumption | (apply ν6; assumption)) only [vz, vu, vv, eqS, eF_, ↓c1_, ↓c2_, tabs, reduceCtorEq, ι5, ↓reduceIte, ν1, ν2, ν3, ν4, ν5, ι1, ι2, ι3, ι4, load_at g2])
    refine Pu.use hre ?_
    have hll := nI_len (gwB n fun v => decide (0 ≤ F v))
    have hgb := gwB_len n fun v => decide (0 ≤ F v)
    have hmem : ∀ v, v ∈ gwB n (fun v => decide (0 ≤ F v)) ↔ v < n ∧ 0 ≤ F v := fun v => by simp [gwB]
    generalize gwB n (fun v => decide (0 ≤ F v)) = rl at hll hgb hmem ⊢
    (try simp (maxSteps := 1000000) (disch := first | assumption | (apply ν6; assumption)) only [vz, vu, vv, eqS, eF_, ↓c1_, ↓c2_, tabs, reduceCtorEq, ι5, ↓reduceIte, ν1, ν2, ν3, ν4, ν5, ι1, ι2, ι3, ι4, hll])
    refine L36_3_rule (0 : Nat) (fun i => I i) (fun _ => G9) (fun i => i ≤ rl.length ∧ ∀ j, j < i → fr (rl.getD j 0) = false) (fun i => rl.length - i) ⟨⟨by omega, by intros; omega⟩, .refl _, Heap.le_refl _⟩ ?_
    rintro i ⟨hi, ha⟩
    have e6 : IntKind.i64.wrap ((i : Int) + 1) = ((i + 1 : Nat) : Int) := by rw [i64_id (by omega) (by omega)]; simp
    (try simp (maxSteps := 1000000) (disch := first | assumption | (apply ν6; assumption)) only [vz, vu, vv, eqS, eF_, ↓c1_, ↓c2_, tabs, reduceCtorEq, ι5, ↓reduceIte, ν1, ν2, ν3, ν4, ν5, ι1, ι2, ι3, ι4, B36_3, hll, e6])
    refine ⟨fun h2 => ⟨by omega, h2, ?_⟩, fun h2 => ?_⟩
    · have hlt : i < rl.length := by omega
      rw [nI_get hlt]
      have hv := (hmem (rl.getD i 0)).1 (by simp [List.getD, hlt])
      have hrd := mapB_rd (l := mk) (i := rl.getD i 0) (by omega)
      rw [hany _ hv.1] at hrd
      have hcl : (cP fB mk).length = n := by simp [cP, hal]
      generalize hvi : rl.getD i 0 = v at hv hrd ⊢
      (try simp (maxSteps := 1000000) (disch := first | assumption | (apply ν6; assumption)) only [vz, vu, vv, eqS, eF_, ↓c1_, ↓c2_, tabs, reduceCtorEq, ι5, ↓reduceIte, ν1, ν2, ν3, ν4, ν5, ι1, ι2, ι3, ι4, load_at hq9, hcl, hrd, Int.toNat_natCast])
      refine ⟨by omega, by omega, by omega, ?_⟩
      cases hfv : fr v
      · (try simp (maxSteps := 1000000) (disch := first | assumption | (apply ν6; assumption)) only [vz, vu, vv, eqS, eF_, ↓c1_, ↓c2_, tabs, reduceCtorEq, ι5, ↓reduceIte, ν1, ν2, ν3, ν4, ν5, ι1, ι2, ι3, ι4])
        exact ⟨i + 1, ⟨by omega, fun j hj => by
          rcases Nat.lt_succ_iff_lt_or_eq.1 hj with h | rfl
          · exact ha j h
          · rw [hvi]; exact hfv⟩, by omega, .refl _⟩
      · (try simp (maxSteps := 1000000) (disch := first | assumption | (apply ν6; assumption)) only [vz, vu, vv, eqS, eF_, ↓c1_, ↓c2_, tabs, reduceCtorEq, ι5, ↓reduceIte, ν1, ν2, ν3, ν4, ν5, ι1, ι2, ι3, ι4])
        rw [htw.2 ⟨v, hv.1, hv.2, hfv⟩]
        exact ⟨rfl, hle9⟩
    · have : i = rl.length := by omega
      subst this
      have : ans = false := by
        rw [Bool.eq_false_iff]
        intro h
        obtain ⟨v, h3, h4, h5⟩ := htw.1 h
        obtain ⟨j, hj, e⟩ := List.mem_iff_getElem.1 ((hmem v).2 ⟨h3, h4⟩)
        have := ha j hj
        rw [List.getD, List.getElem?_eq_getElem hj, Option.getD_some, e, h5] at this
        cases this
      rw [this]
      exact ⟨rfl, hle9⟩
noncomputable def twR (a : Au) (s l : List Int) : Bool × Bool := if goodA a && goodL s l then (twF (wpA a s l), true) else (false, false)
theorem TakesWord_ref (a : Au) (sa : smAu a) (s l : List Int) (h1 : s.length ≤ 1048576) (h2 : l.length ≤ 1048576) : Pu Try.prog 12 [aAu a, aL2 s l] (.tup [B (twR a s l).1, B (twR a s l).2]) := by
  refine Pu.of fun H => ?_
  refine W12_ok ?_; simp (maxSteps := 1000000) (disch := first | assumption | (apply ν6; assumption)) only [W12, vz, vu, vv, eqS, eF_, ↓c1_, ↓c2_, tabs, reduceCtorEq, ι5, ↓reduceIte, ν1, ν2, ν3, ν4, ν5, ι1, ι2, ι3, ι4]
  intro r hr r3 n3 hr3
  have st := ((St.nil H).cell hr [I a.states, Is a.first, Es a.edges, Ls a.goals]).cell (r := r3) (by rw [Heap.set_other n3]; exact hr3) [Is s, Is l]
  generalize (H.set r [I a.states, Is a.first, Es a.edges, Ls a.goals]).set r3 [Is s, Is l] = G1 at st ⊢
  clear hr hr3 n3
  (try simp (maxSteps := 1000000) (disch := first | assumption | (apply ν6; assumption)) only [vz, vu, vv, eqS, eF_, ↓c1_, ↓c2_, tabs, reduceCtorEq, ι5, ↓reduceIte, ν1, ν2, ν3, ν4, ν5, ι1, ι2, ι3, ι4, load_at (st.get 1 rfl)])
  refine Pu.use (GoodAuto_spec a sa) ?_
  cases ga : goodA a
  · (try simp (maxSteps := 1000000) (disch := first | assumption | (apply ν6; assumption)) only [vz, vu, vv, eqS, eF_, ↓c1_, ↓c2_, tabs, reduceCtorEq, ι5, ↓reduceIte, ν1, ν2, ν3, ν4, ν5, ι1, ι2, ι3, ι4])
    first | exact ⟨by simp [twR, ga], st.le⟩ | (simp [twR, ga]; exact st.le)
  (try simp (maxSteps := 1000000) (disch := first | assumption | (apply ν6; assumption)) only [vz, vu, vv, eqS, eF_, ↓c1_, ↓c2_, tabs, reduceCtorEq, ι5, ↓reduceIte, ν1, ν2, ν3, ν4, ν5, ι1, ι2, ι3, ι4, load_at (st.get 0 rfl)])
  refine Pu.use (GoodLassoR s l (by omega) (by omega)) ?_
  cases gl : goodL s l
  · (try simp (maxSteps := 1000000) (disch := first | assumption | (apply ν6; assumption)) only [vz, vu, vv, eqS, eF_, ↓c1_, ↓c2_, tabs, reduceCtorEq, ι5, ↓reduceIte, ν1, ν2, ν3, ν4, ν5, ι1, ι2, ι3, ι4])
    first | exact ⟨by simp [twR, ga, gl], st.le⟩ | (simp [twR, ga, gl]; exact st.le)
  obtain ⟨b1, b2⟩ := goodL_f gl
  (try simp (maxSteps := 1000000) (disch := first | assumption | (apply ν6; assumption)) only [vz, vu, vv, eqS, eF_, ↓c1_, ↓c2_, tabs, reduceCtorEq, ι5, ↓reduceIte, ν1, ν2, ν3, ν4, ν5, ι1, ι2, ι3, ι4, load_at (st.get 0 rfl), load_at (st.get 1 rfl)])
  refine Pu.use (l12Takes_spec a ga s l b1 b2) ?_
  (try simp (maxSteps := 1000000) (disch := first | assumption | (apply ν6; assumption)) only [vz, vu, vv, eqS, eF_, ↓c1_, ↓c2_, tabs, reduceCtorEq, ι5, ↓reduceIte, ν1, ν2, ν3, ν4, ν5, ι1, ι2, ι3, ι4])
  first | exact ⟨by simp [twR, ga, gl], st.le⟩ | (simp [twR, ga, gl]; exact st.le)
end Go.Proofs.Ytolffbcnbcjeaaa
