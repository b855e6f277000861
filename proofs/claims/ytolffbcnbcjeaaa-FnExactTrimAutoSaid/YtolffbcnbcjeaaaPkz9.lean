/- Texts laid together: Tg9 Tg3 Tg10 Lt5 Lu0 Tg11 Tg12 Mg2 Ma7 Ma8 Tg13 Tp7 Lf1 Ql1 Ql2 Mk0 Mk1 Mk2 Tv1 Tv2 Tv3 Tz1 Tz2. -/
import Derived.Test.YtolffbcnbcjeaaaPkz8
set_option linter.unusedVariables false
set_option linter.unusedSimpArgs false
open Nat renaming reduceAdd → ν1, reduceLeDiff → ν2, reduceLT → ν3, reduceMul → ν4, reduceSub → ν5
open Int renaming reduceToNat → ι1, reduceSub → ι2, reduceAdd → ι3, reduceNeg → ι4
open Array renaming toList → ι5
open Ne renaming symm → ν6
open List renaming forall_mem_cons → ν7
namespace Go.Proofs.Ytolffbcnbcjeaaa
open Go Go.Sep Go.Pt
attribute [local irreducible] CallT
theorem sk_val {H G : Heap} {Ts : List Th} {x : AV} {l D : List Nat} (s : St H Ts G) (i : Nat) (hi : Ts[i]? = some (skT x l D)) : wkK (fun r H' => r = Is (nI l) ∧ H' = H) x G := by
  have h : SK x l G D := s.get i hi
  rcases h with ⟨rfl, rfl, rfl⟩ | ⟨q, J, rfl, hq, rfl⟩
  · exact ⟨_, _, .trans (.val .nil) (.forget s.le), rfl, rfl⟩
  · have w : Wk (.sl q 1 0 l.length) G (Is (nI l)) (G.del q) := by
      refine Wk.frzS (es := (nI l ++ J).map fI) (by rw [hq, List.map_map]; rfl) ?_
      have := FrzS.part (r := q) (es := (nI l ++ J).map fI) 0 l.length (by rw [List.length_map, List.length_append, nI_len]; omega)
      have e : ((((nI l ++ J).map fI).drop 0).take l.length).map (fun v => [v]) = (nI l).map eI := by
        rw [List.drop_zero, ← List.map_take, List.take_left' (nI_len l), List.map_map]; rfl
      rw [e] at this
      exact this
    refine ⟨_, H, .trans w (.forget fun y b hb => ?_), rfl, rfl⟩
    have := s.fr _ (List.mem_of_getElem? hi)
    rw [Heap.del_other (fun e => by have := this q (by simp [skT]); rw [← e, hb] at this; cases this)]
    exact s.le y b hb
noncomputable def cB (row : Nat → List Nat) (v w : Nat) : Bool := decide (partF (ArcOf row) v = partF (ArcOf row) w)
theorem inF_cB (row : Nat → List Nat) (v : Nat) : inF row v = (row v).filter (cB row v) := by
  unfold inF
  apply List.filter_congr
  intro w _
  rw [cB, decide_eq_decide]
  exact partF_iff.symm
noncomputable def inG (g : List (List Nat)) : List (List Nat) := (List.range g.length).map (inF (rwF g))
theorem inG_len (g : List (List Nat)) : (inG g).length = g.length := by simp [inG]
theorem inG_row {g : List (List Nat)} (hg : GrB g) : rwF (inG g) = inF (rwF g) := by
  have := rwF_mapOk (inF_ok hg.gr)
  exact this
noncomputable def wiR (g : List (List Nat)) (k j : Nat) : List (List Nat) := (List.range g.length).map fun v => if v < k then inF (rwF g) v else if v = k then ((rwF g k).take j).filter (cB (rwF g) k) else []
theorem wiR_len (g : List (List Nat)) (k j : Nat) : (wiR g k j).length = g.length := by simp [wiR]
theorem wiR_zero (g : List (List Nat)) : wiR g 0 0 = List.replicate g.length [] := by
  apply List.ext_getElem
  · simp [wiR]
  · intro i h1 h2; simp [wiR]
theorem wiR_next (g : List (List Nat)) (k : Nat) : wiR g k (rwF g k).length = wiR g (k + 1) 0 := by
  unfold wiR
  apply List.map_congr_left
  intro v _
  rw [List.take_length, ← inF_cB]
  by_cases h1 : v < k
  · rw [if_pos h1, if_pos (by omega)]
  · by_cases h2 : v = k
    · subst h2; simp
    · rw [if_neg h1, if_neg h2, if_neg (by omega)]; simp
theorem wiR_all (g : List (List Nat)) : wiR g g.length 0 = inG g := by
  unfold wiR inG
  apply List.map_congr_left
  intro v hv
  rw [if_pos (List.mem_range.1 hv)]
theorem wiR_get {g : List (List Nat)} {k j : Nat} (h : k < g.length) : rwF (wiR g k j) k = ((rwF g k).take j).filter (cB (rwF g) k) := by simp [rwF, wiR, List.getD, h]
theorem wiR_succ {g : List (List Nat)} {k j : Nat} (hj : j < (rwF g k).length) : wiR g k (j + 1) = if cB (rwF g) k ((rwF g k).getD j 0) = true then (wiR g k j).set k (((rwF g k).take j).filter (cB (rwF g) k) ++ [(rwF g k).getD j 0]) else wiR g k j := by
  have ht : (rwF g k).take (j + 1) = (rwF g k).take j ++ [(rwF g k).getD j 0] := take_succ_snoc hj
  generalize (rwF g k).getD j 0 = w at ht ⊢
  by_cases hc : cB (rwF g) k w = true
  · rw [if_pos hc]
    apply List.ext_getElem
    · simp [wiR]
    · intro v h1 h2
      simp only [wiR, List.getElem_map, List.getElem_range, List.getElem_set, ht, List.filter_append]
      by_cases e : k = v
      · subst e; simp [hc]
      · have : ¬ v = k := fun h => e h.symm
        simp [e, this]
  · rw [if_neg hc]
    unfold wiR
    apply List.map_congr_left
    intro v _
    simp [ht, hc]
theorem within_spec (g : List (List Nat)) (hg : GrB g) : Pu Try.prog 62 [Ls (gI g), Is (prtI g)] (Ls (gI (inG g))) := by
  refine ⟨fun H => CallT.finish ?_⟩
  have hn := hg.n
  have hgl := gI_len g
  have hpl := prtI_len g
  have hpg := fun v (h : v < g.length) => prtI_get h
  refine W62_ok ?_; simp (maxSteps := 1000000) (disch := first | assumption | (apply ν6; assumption)) only [W62, vz, vu, vv, eqS, eF_, ↓c1_, ↓c2_, tabs, reduceCtorEq, ι5, ↓reduceIte, ν1, ν2, ν3, ν4, ν5, ι1, ι2, ι3, ι4, makeSliceV, hgl]
  refine ⟨by omega, by omega, by omega, by omega, fun q hq => ?_⟩
  have st := tab_new (n := g.length) (St.nil H) (q := q) hq
  rw [← gI_nil, ← wiR_zero g] at st
  generalize H.set q (zerosA g.length [.p .nil]) = G1 at st ⊢
  refine L62_0_rule ((0 : Nat), [q], G1) (fun s => I s.1) (fun s => s.2.2) (fun s => s.1 ≤ g.length ∧ St H [tabT q (gI (wiR g s.1 0)) s.2.1] s.2.2) (fun s => g.length - s.1)
    ⟨⟨by simp, st⟩, .refl _, Heap.le_refl _⟩ ?_
  clear st
  rintro ⟨k, D, G⟩ ⟨hk, st⟩
  dsimp only at hk st
  have e5 : IntKind.i64.wrap ((k : Int) + 1) = ((k + 1 : Nat) : Int) := by rw [i64_id (by omega) (by omega)]; simp
  (try simp (maxSteps := 1000000) (disch := first | assumption | (apply ν6; assumption)) only [vz, vu, vv, eqS, eF_, ↓c1_, ↓c2_, tabs, reduceCtorEq, ι5, ↓reduceIte, ν1, ν2, ν3, ν4, ν5, ι1, ι2, ι3, ι4, B62_0, hgl])
  refine ⟨fun h1 => ?_, fun h1 => ?_⟩
  · have hlt : k < g.length := by omega
    have hrl := hg.row hlt
    refine ⟨by omega, h1, ?_⟩
    rw [gI_get hlt]
    have hrn := nI_len (rwF g k)
    (try simp (maxSteps := 1000000) (disch := first | assumption | (apply ν6; assumption)) only [vz, vu, vv, eqS, eF_, ↓c1_, ↓c2_, tabs, reduceCtorEq, ι5, ↓reduceIte, ν1, ν2, ν3, ν4, ν5, ι1, ι2, ι3, ι4, hrn])
    refine L62_1_rule ((0 : Nat), D, G) (fun s => I s.1) (fun s => s.2.2) (fun s => s.1 ≤ (rwF g k).length ∧ St H [tabT q (gI (wiR g k s.1)) s.2.1] s.2.2) (fun s => (rwF g k).length - s.1)
      ⟨⟨by simp, st⟩, .refl _, Heap.le_refl _⟩ ?_
    clear st D
    rintro ⟨j, D, G⟩ ⟨hj, st⟩
    dsimp only at hj st
    have e6 : IntKind.i64.wrap ((j : Int) + 1) = ((j + 1 : Nat) : Int) := by rw [i64_id (by omega) (by omega)]; simp
    (try simp (maxSteps := 1000000) (disch := first | assumption | (apply ν6; assumption)) only [vz, vu, vv, eqS, eF_, ↓c1_, ↓c2_, tabs, reduceCtorEq, ι5, ↓reduceIte, ν1, ν2, ν3, ν4, ν5, ι1, ι2, ι3, ι4, B62_1, hrn, hpl])
    refine ⟨fun h2 => ?_, fun h2 => ?_⟩
    · have hlj : j < (rwF g k).length := by omega
      refine ⟨by omega, h2, ?_⟩
      rw [nI_get hlj]
      have hw := hg.lt hlj
      have hsc := wiR_succ hlj
      generalize (rwF g k).getD j 0 = w at hw hsc ⊢
      have htl : (gI (wiR g k j)).length = g.length := by rw [gI_len, wiR_len]
      have hget : (gI (wiR g k j)).getD k default = nI (((rwF g k).take j).filter (cB (rwF g) k)) := by rw [gI_get (by rw [wiR_len]; exact hlt), wiR_get hlt]
      have hfl : (((rwF g k).take j).filter (cB (rwF g) k)).length ≤ 500000 := Nat.le_trans (List.length_filter_le _ _) (by rw [List.length_take]; omega)
      rw [Int.toNat_natCast, hpg k hlt, hpg w hw]
      have hcb : (((partF (ArcOf (rwF g)) k : Nat) : Int) = ((partF (ArcOf (rwF g)) w : Nat) : Int)) ↔ cB (rwF g) k w = true := by rw [cB, decide_eq_true_eq]; omega
      (try simp (maxSteps := 1000000) (disch := first | assumption | (apply ν6; assumption)) only [vz, vu, vv, eqS, eF_, ↓c1_, ↓c2_, tabs, reduceCtorEq, ι5, ↓reduceIte, ν1, ν2, ν3, ν4, ν5, ι1, ι2, ι3, ι4, e6])
      refine ⟨by omega, by omega, by omega, by omega, fun h3 => ?_, fun h3 => ?_⟩
      · rw [if_pos (hcb.1 h3)] at hsc
        have := fun (K : Heap → Prop) => tab_push (K := K) st 0 rfl htl hlt (w : Int) (by rw [hget, nI_len]; omega)
        refine this _ fun G' D' st => ?_
        rw [hget, ← nI_one, ← nI_app, ← gI_set, ← hsc] at st
        exact ⟨(j + 1, D', G'), ⟨by simp only; omega, st⟩, by simp only; omega, .refl _, Heap.le_refl _⟩
      · rw [if_neg (fun h => h3 (hcb.2 h))] at hsc
        exact ⟨(j + 1, D, G), ⟨by simp only; omega, by rw [hsc]; exact st⟩, by simp only; omega, .refl _, Heap.le_refl _⟩
    · have : j = (rwF g k).length := by omega
      subst this
      rw [wiR_next] at st
      (try simp (maxSteps := 1000000) (disch := first | assumption | (apply ν6; assumption)) only [vz, vu, vv, eqS, eF_, ↓c1_, ↓c2_, tabs, reduceCtorEq, ι5, ↓reduceIte, ν1, ν2, ν3, ν4, ν5, ι1, ι2, ι3, ι4, e5])
      exact ⟨(k + 1, D, G), ⟨by simp only; omega, st⟩, by simp only; omega, .refl _, Heap.le_refl _⟩
  · have : k = g.length := by omega
    subst this
    rw [wiR_all] at st
    have e : (gI (inG g)).length = g.length := by rw [gI_len, inG_len]
    rw [← e]
    exact tab_whole (fun G D s => .ofWkK (lii_val (s.get 0 rfl) ⟨s.ndT 0 rfl, s.fr _ (List.mem_cons_self ..), s.le⟩)) st
end Go.Proofs.Ytolffbcnbcjeaaa
namespace Go.Proofs.Ytolffbcnbcjeaaa
open Go Go.Sep Go.Pt
attribute [local irreducible] CallT
theorem sp_l11Far (g : List (List Nat)) (hg : GrB g) (some : List Nat) (hs : ∀ v ∈ some, v < g.length) (hsl : some.length ≤ 100000) : Pu Try.prog 59 [Ls (gI g), Is (nI some)] (Is (mpI (farF (rwF g) g.length some) g.length)) := by
  refine ⟨fun H => CallT.fin ?_⟩
  have hn := hg.n
  have hgl := gI_len g
  have hil := nI_len some
  have hrow := hg.gr.lt
  have hml : ∀ f, (mpI f g.length).length = g.length := fun f => mpI_len f g.length
  have lnm : ∀ f, (cP fI (mpI f g.length)).length = g.length := fun f => by rw [cI_len, mpI_len]
  refine W59_ok ?_; simp (maxSteps := 1000000) (disch := first | assumption | (apply ν6; assumption)) only [W59, vz, vu, vv, eqS, eF_, ↓c1_, ↓c2_, tabs, reduceCtorEq, ι5, ↓reduceIte, ν1, ν2, ν3, ν4, ν5, ι1, ι2, ι3, ι4, makeSliceV, hgl, hil]
  refine ⟨by omega, by omega, by omega, by omega, fun q hq => ?_⟩
  have st := (St.nil H).cell hq (cP fI (mpI (fun v => if v < 0 then -1 else 0) g.length))
  have ez : zerosA g.length [I 0] = cP fI (mpI (fun v => if v < 0 then -1 else 0) g.length) := by
    rw [cP_rep, mpI_const]; simp
  rw [ez]
  generalize H.set q (cP fI (mpI (fun v => if v < 0 then -1 else 0) g.length)) = G1 at st ⊢
  have rounds : ∀ q2 G, St H [cellT q2 (cP fI (nI some)), cellT q (cP fI (mpI (sI0 some some.length) g.length))] G →
      L59_2 (wkK fun r H' => r = Is (mpI (farF (rwF g) g.length some) g.length) ∧ H' = H) (Ls (gI g)) (.sl q 1 0 g.length) (rowP q2 (nI some)) G := by
    intro q2 G st
    refine L59_2_rule ((0 : Nat), ([] : List Nat), q2, G) (fun s => .sl s.2.2.1 1 s.2.1.length (bst (rwF g) some s.1).q.length) (fun s => s.2.2.2)
      (fun s => BInv (rwF g) g.length some s.1 (bst (rwF g) some s.1) ∧ St H [cellT s.2.2.1 (cP fI (nI s.2.1 ++ nI (bst (rwF g) some s.1).q)), cellT q (cP fI (mpI (bst (rwF g) some s.1).s g.length))] s.2.2.2)
      (fun s => g.length + some.length - s.1) ⟨⟨B_ini hs, by rw [sI0_all] at st; exact st⟩, by simp [rowP, nI_len, bst, bini]; exact .refl _, Heap.le_refl _⟩ ?_
    clear st G q2
    rintro ⟨i, J, q2, G⟩ ⟨hb, st⟩
    dsimp only at hb st
    generalize hbe : bst (rwF g) some i = b at hb st
    simp only [hbe]
    have hms := hb.ms
    (try simp (maxSteps := 1000000) (disch := first | assumption | (apply ν6; assumption)) only [vz, vu, vv, eqS, eF_, ↓c1_, ↓c2_, tabs, reduceCtorEq, ι5, ↓reduceIte, ν1, ν2, ν3, ν4, ν5, ι1, ι2, ι3, ι4, B59_2])
    refine ⟨fun h1 => ?_, fun h1 => ?_⟩
    · obtain ⟨k, bq, hbq⟩ : ∃ k bq, b.q = k :: bq := by
        cases e : b.q with
        | nil => rw [e] at h1; simp at h1
        | cons k bq => exact ⟨k, bq, rfl⟩
      have hstep : bst (rwF g) some (i + 1) = bstep (rwF g) b := by rw [bst, hbe]
      have hnxt := B_step hrow hb (by rw [hbq]; simp)
      rw [bstep_cons hbq] at hstep hnxt
      have hk0 : 0 ≤ b.s k := hb.qs k (by rw [hbq]; simp)
      have hkn := hb.lt k hk0
      have hki := hb.hi k
      rw [hbq] at st hms
      simp only [List.length_cons] at hms
      have rdk : ∀ (J l : List Nat), (List.take 1 (List.drop J.length (cP fI (nI J ++ nI (k :: l))))).headD AV.any = I k := by
        intro J l
        have e : nI (k :: l) = (k : Int) :: nI l := rfl
        rw [cI_app, List.drop_left' (by rw [cI_len, nI_len]), e]; rfl
      have ln : ∀ (J l : List Nat), (cP fI (nI J ++ nI (k :: l))).length = J.length + (l.length + 1) := by
        intro J l; rw [cI_len, List.length_append, nI_len, nI_len, List.length_cons]
      have hrl := hg.row hkn
      have hrn := nI_len (rwF g k)
      have hlq : b.q.length = bq.length + 1 := by rw [hbq]; rfl
      (try simp (maxSteps := 1000000) (disch := first | assumption | (apply ν6; assumption)) only [vz, vu, vv, eqS, eF_, ↓c1_, ↓c2_, tabs, reduceCtorEq, ι5, ↓reduceIte, ν1, ν2, ν3, ν4, ν5, ι1, ι2, ι3, ι4, load_at (st.get 0 rfl), rdk, ln, hgl, hlq])
      refine ⟨by omega, by omega, by omega, by omega, by omega, ?_⟩
      rw [gI_get hkn]
      (try simp (maxSteps := 1000000) (disch := first | assumption | (apply ν6; assumption)) only [vz, vu, vv, eqS, eF_, ↓c1_, ↓c2_, tabs, reduceCtorEq, ι5, ↓reduceIte, ν1, ν2, ν3, ν4, ν5, ι1, ι2, ι3, ι4, hrn])
      have eJ : ∀ (J l : List Nat), nI J ++ nI (k :: l) = nI (J ++ [k]) ++ nI l := fun J l => by rw [← nI_app, ← nI_app]; simp
      rw [eJ] at st
      have et : (((bq.length + 1 : Nat) : Int) - 1).toNat = bq.length := by omega
      refine ⟨by omega, by omega, by omega, ?_⟩
      refine L59_3_rule ((0 : Nat), J ++ [k], q2, G) (fun s => .sl s.2.2.1 1 s.2.1.length (((rwF g k).take s.1).foldl (bput (b.s k + 1)) ⟨b.s, bq⟩).q.length) (fun s => I s.1) (fun s => s.2.2.2)
        (fun s => s.1 ≤ (rwF g k).length ∧ St H [cellT s.2.2.1 (cP fI (nI s.2.1 ++ nI ((((rwF g k).take s.1).foldl (bput (b.s k + 1)) ⟨b.s, bq⟩).q))), cellT q (cP fI (mpI (((rwF g k).take s.1).foldl (bput (b.s k + 1)) ⟨b.s, bq⟩).s g.length))] s.2.2.2)
        (fun s => (rwF g k).length - s.1) ⟨⟨by simp, st⟩, by simp only [List.length_append, List.length_singleton, et, List.take_zero, List.foldl_nil]; exact .refl _, .refl _, Heap.le_refl _⟩ ?_
      clear st J q2 G
      rintro ⟨j, J, q2, G⟩ ⟨hj, st⟩
      dsimp only at hj st
      have hbr := BRow.fold (n := g.length) (k := k) (d := b.s k + 1) (b0 := ⟨b.s, bq⟩) (by omega) (l := (rwF g k).take j) fun w hw => hrow k w (List.mem_of_mem_take hw)
      generalize hc : ((rwF g k).take j).foldl (bput (b.s k + 1)) ⟨b.s, bq⟩ = c at hbr st
      have hcm := hbr.ms
      simp only at hcm
      have hck : c.s k = b.s k := hbr.old k hk0
      have e5 : IntKind.i64.wrap ((j : Int) + 1) = ((j + 1 : Nat) : Int) := by rw [i64_id (by omega) (by omega)]; simp
      simp only [hc]
      (try simp (maxSteps := 1000000) (disch := first | assumption | (apply ν6; assumption)) only [vz, vu, vv, eqS, eF_, ↓c1_, ↓c2_, tabs, reduceCtorEq, ι5, ↓reduceIte, ν1, ν2, ν3, ν4, ν5, ι1, ι2, ι3, ι4, B59_3, hrn])
      refine ⟨fun h2 => ?_, fun h2 => ?_⟩
      · have hlj : j < (rwF g k).length := by omega
        refine ⟨by omega, h2, ?_⟩
        rw [nI_get hlj]
        have hw := hg.lt hlj
        have hsc := fold_take_succ (bput (b.s k + 1)) ⟨b.s, bq⟩ hlj
        rw [hc] at hsc
        have edf : (rwF g k).getD j default = (rwF g k).getD j 0 := rfl
        rw [edf] at hsc
        generalize (rwF g k).getD j 0 = w at hw hsc ⊢
        have rdw := fun (f : Nat → Int) (v : Nat) (hv : v < g.length) => (cI_rd (l := mpI f g.length) (i := v) (by rw [mpI_len]; exact hv)).trans (by rw [mpI_get f hv])
        have lnm : ∀ f, (cP fI (mpI f g.length)).length = g.length := fun f => by rw [cI_len, mpI_len]
        have hwb := rdw c.s w hw
        have hkb := rdw c.s k hkn
        (try simp (maxSteps := 1000000) (disch := first | assumption | (apply ν6; assumption)) only [vz, vu, vv, eqS, eF_, ↓c1_, ↓c2_, tabs, reduceCtorEq, ι5, ↓reduceIte, ν1, ν2, ν3, ν4, ν5, ι1, ι2, ι3, ι4, load_at (st.get 1 rfl), lnm, hwb, Int.toNat_natCast])
        refine ⟨by omega, by omega, by omega, fun h3 => ?_, fun h3 => ?_⟩
        · have hsc2 : bput (b.s k + 1) c w = ⟨updI c.s w (b.s k + 1), c.q ++ [w]⟩ := by rw [bput, if_pos h3]
          rw [hsc2] at hsc
          have e6 : IntKind.i64.wrap (b.s k + 1) = b.s k + 1 := i64_id (by omega) (by omega)
          (try simp (maxSteps := 1000000) (disch := first | assumption | (apply ν6; assumption)) only [vz, vu, vv, eqS, eF_, ↓c1_, ↓c2_, tabs, reduceCtorEq, ι5, ↓reduceIte, ν1, ν2, ν3, ν4, ν5, ι1, ι2, ι3, ι4, load_at (st.get 1 rfl), store_at (st.get 1 rfl), lnm, hkb, hck, e6, Int.toNat_natCast])
          refine ⟨by omega, by omega, by omega, by omega, by omega, by omega, ?_⟩
          have hset := cI_set (l := mpI c.s g.length) (t := w) (by rw [mpI_len]; exact hw) (b.s k + 1)
          rw [hset, mpI_set]
          replace st := st.put 1 rfl (cP fI (mpI (updI c.s w (b.s k + 1)) g.length))
          generalize G.set q (cP fI (mpI (updI c.s w (b.s k + 1)) g.length)) = G2 at st ⊢
          refine lit1 tab_22 rfl tab_3 ⟨rfl, rfl⟩ ?_
          refine st_appN (w := w) st 0 rfl rfl (by omega) fun q' G' hq' st => ?_
          (try simp (maxSteps := 1000000) (disch := first | assumption | (apply ν6; assumption)) only [vz, vu, vv, eqS, eF_, ↓c1_, ↓c2_, tabs, reduceCtorEq, ι5, ↓reduceIte, ν1, ν2, ν3, ν4, ν5, ι1, ι2, ι3, ι4, e5])
          refine ⟨(j + 1, [], q', G'), ⟨by simp only; omega, by simp only [hsc]; exact st⟩, by simp only; omega, ?_, .refl _, Heap.le_refl _⟩
          simp only [hsc, List.length_append, List.length_singleton]; exact .refl _
        · have hsc2 : bput (b.s k + 1) c w = c := by rw [bput, if_neg h3]
          rw [hsc2] at hsc
          (try simp (maxSteps := 1000000) (disch := first | assumption | (apply ν6; assumption)) only [vz, vu, vv, eqS, eF_, ↓c1_, ↓c2_, tabs, reduceCtorEq, ι5, ↓reduceIte, ν1, ν2, ν3, ν4, ν5, ι1, ι2, ι3, ι4, e5])
          refine ⟨(j + 1, J, q2, G), ⟨by simp only; omega, by simp only [hsc]; exact st⟩, by simp only; omega, ?_, .refl _, Heap.le_refl _⟩
          simp only [hsc]; exact .refl _
      · have : j = (rwF g k).length := by omega
        subst this
        rw [List.take_length] at hc
        rw [hc] at hstep hnxt
        (try simp (maxSteps := 1000000) (disch := first | assumption | (apply ν6; assumption)) only [vz, vu, vv, eqS, eF_, ↓c1_, ↓c2_, tabs, reduceCtorEq, ι5, ↓reduceIte, ν1, ν2, ν3, ν4, ν5, ι1, ι2, ι3, ι4])
        refine ⟨(i + 1, J, q2, G), ⟨by simp only [hstep]; exact hnxt, by simp only [hstep]; exact st⟩, by simp only; omega, ?_, Heap.le_refl _⟩
        simp only [hstep]; exact .refl _
    · have hq0 : b.q = [] := List.eq_nil_of_length_eq_zero (by omega)
      rw [hq0] at hms
      have hfar := far_of (row := rwF g) (n := g.length) (some := some) (i := i) (by simp at hms; omega) (by rw [hbe]; exact hq0)
      rw [hbe] at hfar
      rw [hfar]
      have := st_int st 1 rfl
      rw [rowP, mpI_len] at this
      exact this
  have seeds : ∀ G, St H [cellT q (cP fI (mpI (sI0 some 0) g.length))] G → L59_1 (wkK fun r H' => r = Is (mpI (farF (rwF g) g.length some) g.length) ∧ H' = H) (Ls (gI g)) (Is (nI some)) (.sl q 1 0 g.length) (Is (nI some)) (I some.length) (I 0) G := by
    intro G st
    refine L59_1_rule ((0 : Nat), G) (fun s => I s.1) (fun s => s.2) (fun s => s.1 ≤ some.length ∧ St H [cellT q (cP fI (mpI (sI0 some s.1) g.length))] s.2) (fun s => some.length - s.1)
      ⟨⟨by simp, st⟩, .refl _, Heap.le_refl _⟩ ?_
    clear st G
    rintro ⟨k, G⟩ ⟨hk, st⟩
    dsimp only at hk st
    (try simp (maxSteps := 1000000) (disch := first | assumption | (apply ν6; assumption)) only [vz, vu, vv, eqS, eF_, ↓c1_, ↓c2_, tabs, reduceCtorEq, ι5, ↓reduceIte, ν1, ν2, ν3, ν4, ν5, ι1, ι2, ι3, ι4, B59_1, hil])
    refine ⟨fun h1 => ?_, fun h1 => ?_⟩
    · have hlt : k < some.length := by omega
      refine ⟨by omega, h1, ?_⟩
      rw [nI_get hlt]
      have hv := hs (some.getD k 0) (by simp [List.getD, hlt])
      have hsc := sI0_succ hlt
      generalize some.getD k 0 = v at hv hsc ⊢
      have e5 : IntKind.i64.wrap ((k : Int) + 1) = ((k + 1 : Nat) : Int) := by rw [i64_id (by omega) (by omega)]; simp
      (try simp (maxSteps := 1000000) (disch := first | assumption | (apply ν6; assumption)) only [vz, vu, vv, eqS, eF_, ↓c1_, ↓c2_, tabs, reduceCtorEq, ι5, ↓reduceIte, ν1, ν2, ν3, ν4, ν5, ι1, ι2, ι3, ι4, store_at (st.get 0 rfl), lnm, e5, Int.toNat_natCast])
      refine ⟨by omega, by omega, by omega, ?_⟩
      have hset := cI_set (l := mpI (sI0 some k) g.length) (t := v) (by rw [mpI_len]; exact hv) 0
      rw [hset, mpI_set, hsc]
      exact ⟨(k + 1, _), ⟨by simp only; omega, st.put 0 rfl (cP fI (mpI (sI0 some (k + 1)) g.length))⟩, by simp only; omega, .refl _, Heap.le_refl _⟩
    · have : k = some.length := by omega
      subst this
      refine l1Own_row (nI some) (by omega) fun q2 hq2 => ?_
      replace st := st.cell hq2 (cP fI (nI some))
      exact rounds q2 _ st
  refine L59_0_rule ((0 : Nat), G1) (fun s => I s.1) (fun s => s.2) (fun s => s.1 ≤ g.length ∧ St H [cellT q (cP fI (mpI (fun v => if v < s.1 then -1 else 0) g.length))] s.2) (fun s => g.length - s.1)
    ⟨⟨by simp, st⟩, .refl _, Heap.le_refl _⟩ ?_
  clear st G1
  rintro ⟨k, G⟩ ⟨hk, st⟩
  dsimp only at hk st
  (try simp (maxSteps := 1000000) (disch := first | assumption | (apply ν6; assumption)) only [vz, vu, vv, eqS, eF_, ↓c1_, ↓c2_, tabs, reduceCtorEq, ι5, ↓reduceIte, ν1, ν2, ν3, ν4, ν5, ι1, ι2, ι3, ι4, B59_0, hil])
  refine ⟨fun h1 => ?_, fun h1 => ?_⟩
  · have hlt : k < g.length := by omega
    have e5 : IntKind.i64.wrap ((k : Int) + 1) = ((k + 1 : Nat) : Int) := by rw [i64_id (by omega) (by omega)]; simp
    (try simp (maxSteps := 1000000) (disch := first | assumption | (apply ν6; assumption)) only [vz, vu, vv, eqS, eF_, ↓c1_, ↓c2_, tabs, reduceCtorEq, ι5, ↓reduceIte, ν1, ν2, ν3, ν4, ν5, ι1, ι2, ι3, ι4, store_at (st.get 0 rfl), lnm, e5, Int.toNat_natCast])
    refine ⟨by omega, by omega, by omega, ?_⟩
    have hset := cI_set (l := mpI (fun v => if v < k then -1 else 0) g.length) (t := k) (by rw [mpI_len]; exact hlt) (-1)
    have hup : updI (fun v => if v < k then -1 else 0) k (-1) = fun v => if v < k + 1 then -1 else 0 := by
      funext v
      unfold updI
      by_cases e : v = k
      · subst e; simp
      · have : v < k + 1 ↔ v < k := by omega
        simp [e, this]
    rw [hset, mpI_set, hup]
    exact ⟨(k + 1, _), ⟨by simp only; omega, st.put 0 rfl (cP fI (mpI (fun v => if v < k + 1 then -1 else 0) g.length))⟩, by simp only; omega, .refl _, Heap.le_refl _⟩
  · have : k = g.length := by omega
    subst this
    have e0 : mpI (fun v => if v < g.length then -1 else 0) g.length = mpI (sI0 some 0) g.length := by
      rw [sI0_zero]
      unfold mpI
      apply List.map_congr_left
      intro v hv
      rw [if_pos (List.mem_range.1 hv)]
    rw [e0] at st
    exact seeds G st
end Go.Proofs.Ytolffbcnbcjeaaa
namespace Go.Proofs.Ytolffbcnbcjeaaa
open Go Go.Sep Go.Pt
attribute [local irreducible] CallT
theorem filter_range_succ (p : Nat → Bool) (k : Nat) : (List.range (k + 1)).filter p = if p k = true then (List.range k).filter p ++ [k] else (List.range k).filter p := by
  rw [List.range_succ, List.filter_append]
  by_cases h : p k = true <;> simp [h]
theorem filter_range_len (p : Nat → Bool) (k : Nat) : ((List.range k).filter p).length ≤ k := by
  have := List.length_filter_le p (List.range k)
  rwa [List.length_range] at this
theorem l11Fair_spec (g : List (List Nat)) (hg : GrB g) (hg2 : GrB (turnG g)) (goals : List (List Nat)) (hgo : GoB goals g.length) : Pu Try.prog 42 [Ls (gI g), Ls (gI goals)] (Is (nI ((List.range g.length).filter (fairF (rwF g) goals)))) := by
  refine ⟨fun H => CallT.fin ?_⟩
  have hn := hg.n
  have hgl := gI_len g
  have hol := gI_len goals
  have hon := hgo.len
  have hpl := prtI_len g
  have hig := gI_len (inG g)
  rw [inG_len] at hig
  have hpf : ∀ v, v < g.length → partF (ArcOf (rwF g)) v < g.length := fun v hv => by have := partF_le (ArcOf (rwF g)) v; omega
  have hfair := fun v hv => fair_ref (goals := goals) hg.gr (v := v) hv
  have hpg := fun v (h : v < g.length) => prtI_get h
  have haw := aw1_succ (rwF g)
  have hgi : ∀ k, k < g.length → (gI (inG g)).getD k default = nI (inF (rwF g) k) := fun k h => by rw [gI_get (by rw [inG_len]; exact h), inG_row hg]
  have hil : ∀ k, (inF (rwF g) k).length ≤ (rwF g k).length := fun k => by rw [inF_cB]; exact List.length_filter_le _ _
  refine W42_ok ?_; simp (maxSteps := 1000000) (disch := first | assumption | (apply ν6; assumption)) only [W42, vz, vu, vv, eqS, eF_, ↓c1_, ↓c2_, tabs, reduceCtorEq, ι5, ↓reduceIte, ν1, ν2, ν3, ν4, ν5, ι1, ι2, ι3, ι4, hgl]
  refine Pu.use (l11Parts_spec g hg hg2) ?_
  refine Pu.use (within_spec g hg) ?_
  generalize partF (ArcOf (rwF g)) = pf at hpf hfair hpg haw
  generalize prtI g = pr at hpl hpg ⊢
  have ez : zerosA g.length [B false] = cP fB (mpB (aw1 (rwF g) 0) g.length) := by rw [cB_zero]; rfl
  have ez3 : zerosA g.length [I 0] = cP fI (mpI (fun p => ((mtF pf goals 0 p : Nat) : Int)) g.length) := by rw [cP_rep, mpI_const]; rfl
  (try simp (maxSteps := 1000000) (disch := first | assumption | (apply ν6; assumption)) only [vz, vu, vv, eqS, eF_, ↓c1_, ↓c2_, tabs, reduceCtorEq, ι5, ↓reduceIte, ν1, ν2, ν3, ν4, ν5, ι1, ι2, ι3, ι4, makeSliceV, hig])
  refine ⟨by omega, by omega, by omega, by omega, fun q1 hq1 => ?_⟩
  refine ⟨by omega, by omega, by omega, by omega, fun q2 hq21 hq2 => ?_⟩
  rw [ez, ez3] at *
  have st := ((St.nil H).cell hq1 (cP fB (mpB (aw1 (rwF g) 0) g.length))).cell (r := q2) (by rw [Heap.set_other hq21]; exact hq2) (cP fI (mpI (fun p => ((mtF pf goals 0 p : Nat) : Int)) g.length))
  generalize (H.set q1 (cP fB (mpB (aw1 (rwF g) 0) g.length))).set q2 (cP fI (mpI (fun p => ((mtF pf goals 0 p : Nat) : Int)) g.length)) = G1 at st ⊢
  clear hq1 hq21 hq2
  have last : ∀ G, St H [cellT q2 (cP fI (mpI (fun p => ((mtF pf goals goals.length p : Nat) : Int)) g.length)), cellT q1 (cP fB (mpB (aw1 (rwF g) g.length) g.length))] G →
      L42_3 (wkK fun r H' => r = Is (nI ((List.range g.length).filter (fairF (rwF g) goals))) ∧ H' = H) (Ls (gI goals)) (Is pr) (.sl q1 1 0 g.length) (.sl q2 1 0 g.length) (.p .nil) (I g.length) (I 0) G := by
    intro G st
    have st := (st.push (skT (.p .nil) [] []) ⟨.nil, fun y hy => (by cases hy), Heap.le_refl _⟩ (.inl ⟨rfl, rfl, rfl⟩))
    refine L42_3_rule ((0 : Nat), (.p .nil : AV), ([] : List Nat), G) (fun z => z.2.1) (fun z => I z.1) (fun z => z.2.2.2) (fun z => z.1 ≤ g.length ∧ St H [skT z.2.1 ((List.range z.1).filter (fairF (rwF g) goals)) z.2.2.1, cellT q2 (cP fI (mpI (fun p => ((mtF pf goals goals.length p : Nat) : Int)) g.length)), cellT q1 (cP fB (mpB (aw1 (rwF g) g.length) g.length))] z.2.2.2) (fun z => g.length - z.1)
      ⟨⟨by simp, by simpa using st⟩, .refl _, .refl _, Heap.le_refl _⟩ ?_
    clear st
    rintro ⟨i, x, D, G⟩ ⟨hi, st⟩
    dsimp only at hi st
    have e5 : IntKind.i64.wrap ((i : Int) + 1) = ((i + 1 : Nat) : Int) := by rw [i64_id (by omega) (by omega)]; simp
    have hfl := filter_range_len (fairF (rwF g) goals) i
    (try simp (maxSteps := 1000000) (disch := first | assumption | (apply ν6; assumption)) only [vz, vu, vv, eqS, eF_, ↓c1_, ↓c2_, tabs, reduceCtorEq, ι5, ↓reduceIte, ν1, ν2, ν3, ν4, ν5, ι1, ι2, ι3, ι4, B42_3, hpl, hol])
    refine ⟨fun h1 => ?_, fun h1 => ?_⟩
    · have hlt : i < g.length := by omega
      have hp := hpf i hlt
      have hr1 := rdB (aw1 (rwF g) g.length) hp
      have hr2 := rdN (fun p => ((mtF pf goals goals.length p : Nat) : Int)) hp
      have hf := hfair i hlt
      have hsc := filter_range_succ (fairF (rwF g) goals) i
      rw [hpg i hlt]
      (try simp (maxSteps := 1000000) (disch := first | assumption | (apply ν6; assumption)) only [vz, vu, vv, eqS, eF_, ↓c1_, ↓c2_, tabs, reduceCtorEq, ι5, ↓reduceIte, ν1, ν2, ν3, ν4, ν5, ι1, ι2, ι3, ι4, load_at (st.get 2 rfl), lnB, mpB_len, hr1, Int.toNat_natCast])
      refine ⟨by omega, by omega, by omega, by omega, by omega, ?_⟩
      have no : fairF (rwF g) goals i = false → ∃ z : Nat × AV × List Nat × Heap, (z.1 ≤ g.length ∧ St H [skT z.2.1 ((List.range z.1).filter (fairF (rwF g) goals)) z.2.2.1, cellT q2 (cP fI (mpI (fun p => ((mtF pf goals goals.length p : Nat) : Int)) g.length)), cellT q1 (cP fB (mpB (aw1 (rwF g) g.length) g.length))] z.2.2.2) ∧ g.length - z.1 < g.length - i ∧ x.wk z.2.1 ∧ (I ((i + 1 : Nat) : Int)).wk (I z.1) ∧ z.2.2.2.le G := by
        intro h
        rw [if_neg (by rw [h]; simp)] at hsc
        exact ⟨(i + 1, x, D, G), ⟨by simp only; omega, by simp only [hsc]; exact st⟩, by simp only; omega, .refl _, .refl _, Heap.le_refl _⟩
      cases ha : aw1 (rwF g) g.length (pf i)
      · rw [ha, Bool.false_and] at hf
        (try simp (maxSteps := 1000000) (disch := first | assumption | (apply ν6; assumption)) only [vz, vu, vv, eqS, eF_, ↓c1_, ↓c2_, tabs, reduceCtorEq, ι5, ↓reduceIte, ν1, ν2, ν3, ν4, ν5, ι1, ι2, ι3, ι4, e5])
        exact no hf.symm
      · rw [ha, Bool.true_and] at hf
        (try simp (maxSteps := 1000000) (disch := first | assumption | (apply ν6; assumption)) only [vz, vu, vv, eqS, eF_, ↓c1_, ↓c2_, tabs, reduceCtorEq, ι5, ↓reduceIte, ν1, ν2, ν3, ν4, ν5, ι1, ι2, ι3, ι4, load_at (st.get 1 rfl), lnN, mpI_len, hr2, e5, Int.toNat_natCast])
        refine ⟨by omega, by omega, by omega, by omega, by omega, fun h2 => ?_, fun h2 => ?_⟩
        · have ht : fairF (rwF g) goals i = true := by rw [← hf, decide_eq_true_eq]; omega
          rw [if_pos ht] at hsc
          refine lit1 tab_22 rfl tab_3 ⟨rfl, rfl⟩ ?_
          refine sk_app (w := i) st 0 rfl (by omega) fun q' G' st => ?_
          simp only [List.set_cons_zero] at st
          rw [← hsc] at st
          (try simp (maxSteps := 1000000) (disch := first | assumption | (apply ν6; assumption)) only [vz, vu, vv, eqS, eF_, ↓c1_, ↓c2_, tabs, reduceCtorEq, ι5, ↓reduceIte, ν1, ν2, ν3, ν4, ν5, ι1, ι2, ι3, ι4, e5])
          exact ⟨(i + 1, _, [q'], G'), ⟨by simp only; omega, st⟩, by simp only; omega, .refl _, .refl _, Heap.le_refl _⟩
        · refine no ?_
          rw [← hf, decide_eq_false_iff_not]
          omega
    · have : i = g.length := by omega
      subst this
      exact sk_val st 0 rfl
  have gos : ∀ G, St H [cellT q2 (cP fI (mpI (fun p => ((mtF pf goals 0 p : Nat) : Int)) g.length)), cellT q1 (cP fB (mpB (aw1 (rwF g) g.length) g.length))] G →
      L42_1 (wkK fun r H' => r = Is (nI ((List.range g.length).filter (fairF (rwF g) goals))) ∧ H' = H) (Ls (gI g)) (Ls (gI goals)) (Is pr) (.sl q1 1 0 g.length) (.sl q2 1 0 g.length) (Ls (gI goals)) (I goals.length) (I 0) G := by
    intro G st
    refine L42_1_rule ((0 : Nat), G) (fun z => I z.1) (fun z => z.2) (fun z => z.1 ≤ goals.length ∧ St H [cellT q2 (cP fI (mpI (fun p => ((mtF pf goals z.1 p : Nat) : Int)) g.length)), cellT q1 (cP fB (mpB (aw1 (rwF g) g.length) g.length))] z.2) (fun z => goals.length - z.1)
      ⟨⟨by simp, st⟩, .refl _, Heap.le_refl _⟩ ?_
    clear st G
    rintro ⟨t, G⟩ ⟨ht, st⟩
    dsimp only at ht st
    have e5 : IntKind.i64.wrap ((t : Int) + 1) = ((t + 1 : Nat) : Int) := by rw [i64_id (by omega) (by omega)]; simp
    (try simp (maxSteps := 1000000) (disch := first | assumption | (apply ν6; assumption)) only [vz, vu, vv, eqS, eF_, ↓c1_, ↓c2_, tabs, reduceCtorEq, ι5, ↓reduceIte, ν1, ν2, ν3, ν4, ν5, ι1, ι2, ι3, ι4, B42_1, hol, hgl])
    refine ⟨fun h1 => ?_, fun h1 => ?_⟩
    · have hlt : t < goals.length := by omega
      refine ⟨by omega, h1, ?_⟩
      rw [gI_get hlt]
      obtain ⟨hsz, hxlt⟩ := hgo.get hlt
      have hnl := nI_len (rwF goals t)
      have hgd : goals.getD t [] = rwF goals t := rfl
      (try simp (maxSteps := 1000000) (disch := first | assumption | (apply ν6; assumption)) only [vz, vu, vv, eqS, eF_, ↓c1_, ↓c2_, tabs, reduceCtorEq, ι5, ↓reduceIte, ν1, ν2, ν3, ν4, ν5, ι1, ι2, ι3, ι4, hnl])
      refine L42_2_rule ((0 : Nat), G) (fun z => I z.1) (fun z => z.2) (fun z => z.1 ≤ (rwF goals t).length ∧ St H [cellT q2 (cP fI (mpI (fun p => ((mtP pf goals t z.1 p : Nat) : Int)) g.length)), cellT q1 (cP fB (mpB (aw1 (rwF g) g.length) g.length))] z.2) (fun z => (rwF goals t).length - z.1)
        ⟨⟨by simp, by rw [mtP_zero]; exact st⟩, .refl _, Heap.le_refl _⟩ ?_
      clear st G
      rintro ⟨j, G⟩ ⟨hj, st⟩
      dsimp only at hj st
      have e6 : IntKind.i64.wrap ((j : Int) + 1) = ((j + 1 : Nat) : Int) := by rw [i64_id (by omega) (by omega)]; simp
      (try simp (maxSteps := 1000000) (disch := first | assumption | (apply ν6; assumption)) only [vz, vu, vv, eqS, eF_, ↓c1_, ↓c2_, tabs, reduceCtorEq, ι5, ↓reduceIte, ν1, ν2, ν3, ν4, ν5, ι1, ι2, ι3, ι4, B42_2, hnl, hpl])
      refine ⟨fun h2 => ?_, fun h2 => ?_⟩
      · have hlj : j < (rwF goals t).length := by omega
        refine ⟨by omega, h2, ?_⟩
        rw [nI_get hlj]
        have hx := hxlt j hlj
        have hs := mtP_succ pf goals (j := t) (t := j) hlj
        rw [hgd] at hs
        generalize (rwF goals t).getD j 0 = w at hx hs ⊢
        have hp := hpf w hx
        have hr := rdN (fun p => ((mtP pf goals t j p : Nat) : Int)) hp
        rw [Int.toNat_natCast, hpg w hx]
        (try simp (maxSteps := 1000000) (disch := first | assumption | (apply ν6; assumption)) only [vz, vu, vv, eqS, eF_, ↓c1_, ↓c2_, tabs, reduceCtorEq, ι5, ↓reduceIte, ν1, ν2, ν3, ν4, ν5, ι1, ι2, ι3, ι4, load_at (st.get 0 rfl), lnN, mpI_len, hr, e6, Int.toNat_natCast])
        refine ⟨by omega, by omega, by omega, by omega, by omega, fun h3 => ?_, fun h3 => ?_⟩
        · have hset := setN (fun p => ((mtP pf goals t j p : Nat) : Int)) hp ((t + 1 : Nat) : Int)
          have hup : updI (fun p => ((mtP pf goals t j p : Nat) : Int)) (pf w) ((t + 1 : Nat) : Int) = fun p => ((mtP pf goals t (j + 1) p : Nat) : Int) := by
            funext p
            rw [hs]
            unfold updI
            by_cases e : p = pf w
            · subst e
              have h3' : mtP pf goals t j (pf w) = t := by omega
              simp only [if_pos, h3', and_self]
            · simp only [e, false_and, if_false]
          (try simp (maxSteps := 1000000) (disch := first | assumption | (apply ν6; assumption)) only [vz, vu, vv, eqS, eF_, ↓c1_, ↓c2_, tabs, reduceCtorEq, ι5, ↓reduceIte, ν1, ν2, ν3, ν4, ν5, ι1, ι2, ι3, ι4, store_at (st.get 0 rfl), lnN, mpI_len, e5, e6, Int.toNat_natCast])
          repeat refine ⟨by omega, ?_⟩
          rw [hset, hup]
          exact ⟨(j + 1, _), ⟨by simp only; omega, st.put 0 rfl (cP fI (mpI (fun p => ((mtP pf goals t (j + 1) p : Nat) : Int)) g.length))⟩, by simp only; omega, .refl _, Heap.le_refl _⟩
        · have e : mtP pf goals t (j + 1) = mtP pf goals t j := by
            funext p
            rw [hs]
            simp only
            by_cases h : p = pf w ∧ mtP pf goals t j p = t
            · obtain ⟨rfl, h⟩ := h
              exact absurd (by omega) h3
            · rw [if_neg h]
          exact ⟨(j + 1, G), ⟨by simp only; omega, by simp only [e]; exact st⟩, by simp only; omega, .refl _, Heap.le_refl _⟩
      · have : j = (rwF goals t).length := by omega
        subst this
        have hal := mtP_all pf goals t
        rw [hgd] at hal
        rw [hal] at st
        (try simp (maxSteps := 1000000) (disch := first | assumption | (apply ν6; assumption)) only [vz, vu, vv, eqS, eF_, ↓c1_, ↓c2_, tabs, reduceCtorEq, ι5, ↓reduceIte, ν1, ν2, ν3, ν4, ν5, ι1, ι2, ι3, ι4, e5])
        exact ⟨(t + 1, G), ⟨by simp only; omega, st⟩, by simp only; omega, .refl _, Heap.le_refl _⟩
    · have : t = goals.length := by omega
      subst this
      exact last G st
  refine L42_0_rule ((0 : Nat), G1) (fun z => I z.1) (fun z => z.2) (fun z => z.1 ≤ g.length ∧ St H [cellT q2 (cP fI (mpI (fun p => ((mtF pf goals 0 p : Nat) : Int)) g.length)), cellT q1 (cP fB (mpB (aw1 (rwF g) z.1) g.length))] z.2) (fun z => g.length - z.1)
    ⟨⟨by simp, st⟩, .refl _, Heap.le_refl _⟩ ?_
  clear st
  rintro ⟨k, G⟩ ⟨hk, st⟩
  dsimp only at hk st
  have e5 : IntKind.i64.wrap ((k : Int) + 1) = ((k + 1 : Nat) : Int) := by rw [i64_id (by omega) (by omega)]; simp
  (try simp (maxSteps := 1000000) (disch := first | assumption | (apply ν6; assumption)) only [vz, vu, vv, eqS, eF_, ↓c1_, ↓c2_, tabs, reduceCtorEq, ι5, ↓reduceIte, ν1, ν2, ν3, ν4, ν5, ι1, ι2, ι3, ι4, B42_0, hig, hol, hpl])
  refine ⟨fun h1 => ?_, fun h1 => ?_⟩
  · have hlt : k < g.length := by omega
    have hrl := hg.row hlt
    have hikl := hil k
    have hp := hpf k hlt
    have hr := rdB (aw1 (rwF g) k) hp
    have hnl := nI_len (inF (rwF g) k)
    have hup : updB (aw1 (rwF g) k) (pf k) (aw1 (rwF g) k (pf k) || decide (0 < (inF (rwF g) k).length)) = aw1 (rwF g) (k + 1) := by
      rw [haw]; funext p; unfold updB
      by_cases e : p = pf k
      · subst e; simp
      · simp [e]
    have hset := setB (aw1 (rwF g) k) hp (aw1 (rwF g) k (pf k) || decide (0 < (inF (rwF g) k).length))
    rw [hup] at hset
    have hput := st.put 1 rfl (cP fB (mpB (aw1 (rwF g) (k + 1)) g.length))
    rw [hgi k hlt, hpg k hlt]
    (try simp (maxSteps := 1000000) (disch := first | assumption | (apply ν6; assumption)) only [vz, vu, vv, eqS, eF_, ↓c1_, ↓c2_, tabs, reduceCtorEq, ι5, ↓reduceIte, ν1, ν2, ν3, ν4, ν5, ι1, ι2, ι3, ι4, load_at (st.get 1 rfl), lnB, mpB_len, hr, hnl, Int.toNat_natCast])
    refine ⟨by omega, by omega, by omega, by omega, by omega, by omega, by omega, ?_⟩
    cases ha : aw1 (rwF g) k (pf k)
    · have ed : decide ((0 : Int) < ((inF (rwF g) k).length : Int)) = decide (0 < (inF (rwF g) k).length) := by rw [decide_eq_decide]; omega
      rw [ha, Bool.false_or] at hset
      (try simp (maxSteps := 1000000) (disch := first | assumption | (apply ν6; assumption)) only [vz, vu, vv, eqS, eF_, ↓c1_, ↓c2_, tabs, reduceCtorEq, ι5, ↓reduceIte, ν1, ν2, ν3, ν4, ν5, ι1, ι2, ι3, ι4, store_at (st.get 1 rfl), lnB, mpB_len, e5, ed, gt_iff_lt, Int.toNat_natCast])
      repeat refine ⟨by omega, ?_⟩
      rw [hset]
      exact ⟨(k + 1, _), ⟨by simp only; omega, hput⟩, by simp only; omega, .refl _, Heap.le_refl _⟩
    · rw [ha, Bool.true_or] at hset
      (try simp (maxSteps := 1000000) (disch := first | assumption | (apply ν6; assumption)) only [vz, vu, vv, eqS, eF_, ↓c1_, ↓c2_, tabs, reduceCtorEq, ι5, ↓reduceIte, ν1, ν2, ν3, ν4, ν5, ι1, ι2, ι3, ι4, store_at (st.get 1 rfl), lnB, mpB_len, e5, Int.toNat_natCast])
      repeat refine ⟨by omega, ?_⟩
      rw [hset]
      exact ⟨(k + 1, _), ⟨by simp only; omega, hput⟩, by simp only; omega, .refl _, Heap.le_refl _⟩
  · have : k = g.length := by omega
    subst this
    exact gos G st
end Go.Proofs.Ytolffbcnbcjeaaa
namespace Go.Proofs.Ytolffbcnbcjeaaa
open Go Go.Sep Go.Pt
attribute [local irreducible] CallT
end Go.Proofs.Ytolffbcnbcjeaaa
namespace Go.Sep
open Go Go.RowKit Go.Proofs.Ytolffbcnbcjeaaa
structure ResU (R : AV → Heap → List Nat → Prop) : Prop where
  loc : ∀ {r G G' D}, R r G D → (∀ y ∈ D, ∀ b, G y = some b → G' y = some b) → R r G' D
  gd : ∀ {r G D}, R r G D → Gd2 r ∧ ∀ y ∈ D, ∀ bs, G y = some bs → ∀ c ∈ bs, GdC c
  sh : ∀ {r G D n G0}, (∀ q, n ≤ q → G0 q = none) → R r G D → R (sh2 n r) (Heap.or G0 (shH n G)) (D.map (· + n))
end Go.Sep
namespace Go.Proofs.Ytolffbcnbcjeaaa
open Go Go.Sep Go.Pt
attribute [local irreducible] CallT
theorem LPg.sl {p : Pg} {v : AV} {G : Heap} {D : List Nat} (h : LPg p v G D) : ∃ q1 q2, v = .agg [I p.wide, I p.vars, .sl q1 2 0 p.start.length, .sl q2 2 0 p.cmds.length] := by
  obtain ⟨x, y, E1, E2, rfl, rfl, hx, hy⟩ := h
  obtain ⟨qx, rfl⟩ := LRow.sl hx
  obtain ⟨qy, rfl⟩ := LRow.sl hy
  exact ⟨qx, qy, rfl⟩
end Go.Proofs.Ytolffbcnbcjeaaa
namespace Go.Proofs.Ytolffbcnbcjeaaa
open Go Go.Sep Go.Pt
attribute [local irreducible] CallT
end Go.Proofs.Ytolffbcnbcjeaaa
namespace Go.Proofs.Ytolffbcnbcjeaaa
open Go Go.Sep Go.Pt
attribute [local irreducible] CallT
theorem turnG_B {g : List (List Nat)} (hg : GrB g) : GrB (turnG g) := by
  have ht := turn_ok hg.gr
  refine ⟨?_, by rw [turnG_len]; exact hg.n, ?_⟩
  · intro l hl x hx
    obtain ⟨v, _, rfl⟩ := List.mem_map.1 hl
    rw [turnG_len]
    exact ht.lt v x hx
  · rw [prT_sum, turnG_len, turnG_row hg.gr]
    have e : turnF (rwF g) g.length = rowP' (prT g g.length 0) := by funext w; exact (prT_turn g w).symm
    rw [e, sumN_rows (prT_lt hg.gr)]
    exact hg.arcs
noncomputable def laS (row : Nat → List Nat) (n : Nat) (some : List Nat) (goals : List (List Nat)) : List Nat := if meetF row n some goals < 0 then [] else stemF row n (meetF row n some goals).toNat some
noncomputable def laL (row : Nat → List Nat) (n : Nat) (some : List Nat) (goals : List (List Nat)) : List Nat := if meetF row n some goals < 0 then [] else ringF row n (meetF row n some goals).toNat goals
noncomputable def laB (row : Nat → List Nat) (n : Nat) (some : List Nat) (goals : List (List Nat)) : Bool := !decide (meetF row n some goals < 0)
noncomputable def lassoV (row : Nat → List Nat) (n : Nat) (some : List Nat) (goals : List (List Nat)) : AV := .tup [Is (nI (laS row n some goals)), Is (nI (laL row n some goals)), B (laB row n some goals)]
end Go.Proofs.Ytolffbcnbcjeaaa
namespace Go.Proofs.Ytolffbcnbcjeaaa
open Go Go.Sep Go.Pt
attribute [local irreducible] CallT
def cellV (l : List Int) : PV := if l = [] then .nil else .sl (l.map eI)
def refN (a : Au) (k s : Nat) : List Int := (outN a k s).foldl put []
def refR (a : Au) (k : Nat) : List (List Int) := (List.range a.states.toNat).map (refN a k)
theorem refR_len (a : Au) (k : Nat) : (refR a k).length = a.states.toNat := by simp [refR]
theorem refR_zero (a : Au) : refR a 0 = List.replicate a.states.toNat [] := by
  rw [refR]
  apply List.ext_getElem
  · simp
  · intro i h1 h2; simp [refN, outN]
theorem refR_get (a : Au) (k : Nat) {s : Nat} (h : s < a.states.toNat) : (refR a k).getD s default = refN a k s := by simp [refR, List.getD, h]
theorem refN_lt (a : Au) (k s : Nat) : (refN a k s).Pairwise (· < ·) := (foldl_put _ [] List.Pairwise.nil).1
theorem foldl_len (xs : List Int) : ∀ l, (xs.foldl put l).length ≤ l.length + xs.length := by
  induction xs with
  | nil => intro l; simp
  | cons a xs ih => intro l; have := ih (put l a); have := put_len l a; rw [List.foldl_cons, List.length_cons]; omega
theorem refN_len (a : Au) (k s : Nat) : (refN a k s).length ≤ a.edges.length := by
  have := foldl_len (outN a k s) []
  have h2 := outN_len a k s
  rw [List.length_nil] at this
  unfold refN; omega
theorem refR_succ (a : Au) {k : Nat} (hk : k < a.edges.length) (h0 : 0 ≤ (a.edges.getD k default).src) (h1 : (a.edges.getD k default).src < a.states) :
    refR a (k + 1) = (refR a k).set (a.edges.getD k default).src.toNat (put (refN a k (a.edges.getD k default).src.toNat) (a.edges.getD k default).dst) := by
  have hs := take_succ_snoc hk
  generalize a.edges.getD k default = e at hs h0 h1 ⊢
  apply List.ext_getElem
  · simp [refR]
  · intro s h2 h3
    simp only [refR, List.getElem_map, List.getElem_range, List.getElem_set]
    simp only [refN, outN, hs, List.filter_append, List.map_append]
    by_cases he : e.src.toNat = s
    · subst he
      rw [if_pos rfl]
      have : e.src = (e.src.toNat : Int) := by omega
      simp [← this]
    · rw [if_neg he]
      have : ¬ e.src = (s : Int) := by omega
      simp [this]
theorem refR_all (a : Au) : refR a a.edges.length = nextG a := by
  rw [refR, nextG]
  apply List.map_congr_left
  intro s _
  rw [refN, puts_sc]
theorem put_ne (l : List Int) (n : Int) : put l n ≠ [] := by
  intro h
  have := (put_mem l n n).2 (.inl rfl)
  rw [h] at this; cases this
theorem map_rd {α : Type} [Inhabited α] {f : α → AV} {rows : List α} {i : Nat} (h : i < rows.length) : (List.take 1 (List.drop (i * 1) (rows.map f))).headD AV.any = f (rows.getD i default) := by
  rw [Nat.mul_one, ← List.map_drop, drop_cons h]; rfl
theorem map_sp {α : Type} {f : α → AV} {rows : List α} {i : Nat} {l : α} (h : i < rows.length) : List.take (i * 1) (rows.map f) ++ [f l] ++ List.drop (i * 1 + 1) (rows.map f) = (rows.set i l).map f := by
  rw [Nat.mul_one, List.set_eq_take_append_cons_drop, if_pos h, List.map_append, List.map_cons, List.map_take, List.map_drop]; simp
theorem cellV_wk (l : List Int) : AV.wk (.p (cellV l)) (Is l) := by
  unfold cellV
  split
  · rename_i h; subst h; exact .nil
  · exact .refl _
abbrev cG (rows : List (List Int)) : List AV := rows.map fun l => AV.p (cellV l)
theorem fin_tab {q : Nat} {rows : List (List Int)} {H G : Heap} (hq : H q = none) (hG : G q = some (cG rows)) (hle : Heap.le H G) : wkK (fun r H' => r = Ls rows ∧ H' = H) (.sl q 1 0 rows.length) G := by
  have e : cells (rows.map eL) = rows.map fun l => AV.p (.sl (l.map eI)) := cells_P (fun l : List Int => PV.sl (l.map eI)) rows
  have w1 : Wk (.sl q 1 0 rows.length) G (.sl q 1 0 rows.length) (G.set q (cells (rows.map eL))) := .cell hG (by rw [e]; simp) fun i a a' h1 h2 => by
    rw [e] at h2
    rw [List.getElem?_map] at h1 h2
    cases hr : rows[i]? with
    | none => rw [hr] at h1; cases h1
    | some l =>
      rw [hr] at h1 h2
      cases h1; cases h2
      exact cellV_wk l
  have := fin_own (sz := 1) (es := rows.map eL) (q := q) (H := H) (H' := G.set q (cells (rows.map eL))) (K := fun r H' => r = Ls rows ∧ H' = H) (by omega) (sized_map (f := eL) (fun _ => rfl) rows) hq (Heap.set_le hle) ⟨rfl, rfl⟩
  obtain ⟨v', H', w2, h2⟩ := this
  simp only [Go.Sep.own, List.length_map] at w2
  exact ⟨v', H', .trans w1 w2, h2⟩
theorem l12Graph_spec (a : Au) (fa : GoodF a) : Pu Try.prog 25 [aAu a] (Ls (nextG a)) := by
  have hst := fa.st
  have hed := fa.ed
  refine ⟨fun H => CallT.fin ?_⟩
  have hz : ((a.states.toNat : Nat) : Int) = a.states := by omega
  refine W25_ok ?_; simp (maxSteps := 1000000) (disch := first | assumption | (apply ν6; assumption)) only [W25, vz, vu, vv, eqS, eF_, ↓c1_, ↓c2_, tabs, reduceCtorEq, ι5, ↓reduceIte, ν1, ν2, ν3, ν4, ν5, ι1, ι2, ι3, ι4, makeSliceV]
  intro r hr
  refine ⟨by omega, by omega, by omega, by omega, fun q hq1 hq => ?_⟩
  have st := (St.nil H).cell hr [I a.states, Is a.first, Es a.edges, Ls a.goals]
  replace st := st.cell (r := q) (by rw [Heap.set_other hq1]; exact hq) (zerosA a.states.toNat [.p .nil])
  have ez : zerosA a.states.toNat [.p .nil] = cG (refR a 0) := by
    rw [refR_zero]
    apply List.ext_getElem
    · simp [zerosA_len]
    · intro i h1 h2
      have : ∀ (n i : Nat) (h : i < (zerosA n [AV.p .nil]).length), (zerosA n [AV.p .nil])[i] = .p .nil := by
        intro n
        induction n with
        | zero => intro i h; simp [zerosA] at h
        | succ n ih =>
          intro i h
          cases i with
          | zero => simp [zerosA_succ]
          | succ i => simp [zerosA_succ, ih]
      rw [this]; simp [cellV]
  rw [ez] at st ⊢
  generalize (H.set r [I a.states, Is a.first, Es a.edges, Ls a.goals]).set q (cG (refR a 0)) = G1 at st ⊢
  (try simp (maxSteps := 1000000) (disch := first | assumption | (apply ν6; assumption)) only [vz, vu, vv, eqS, eF_, ↓c1_, ↓c2_, tabs, reduceCtorEq, ι5, ↓reduceIte, ν1, ν2, ν3, ν4, ν5, ι1, ι2, ι3, ι4, load_at (st.get 1 rfl)])
  refine L25_0_rule ((0 : Nat), G1) (fun s => I s.1) (fun s => s.2) (fun s => s.1 ≤ a.edges.length ∧ St H [cellT q (cG (refR a s.1)), cellT r [I a.states, Is a.first, Es a.edges, Ls a.goals]] s.2) (fun s => a.edges.length - s.1)
    ⟨⟨by simp, st⟩, .refl _, Heap.le_refl _⟩ ?_
  clear st
  rintro ⟨k, G⟩ ⟨hk, st⟩
  dsimp only at hk st
  (try simp (maxSteps := 1000000) (disch := first | assumption | (apply ν6; assumption)) only [vz, vu, vv, eqS, eF_, ↓c1_, ↓c2_, tabs, reduceCtorEq, ι5, ↓reduceIte, ν1, ν2, ν3, ν4, ν5, ι1, ι2, ι3, ι4, B25_0])
  refine ⟨fun h1 => ⟨by omega, h1, ?_⟩, fun h1 => ?_⟩
  · have hlt : k < a.edges.length := by omega
    have hm : a.edges.getD k default ∈ a.edges := getD_all (p := fun x => x ∈ a.edges) (fun _ h => h) hlt
    have hei := edIn_iff.1 (fa.ei _ hm)
    have hsucc := refR_succ a hlt (by omega) (by omega)
    generalize a.edges.getD k default = e at hei hsucc ⊢
    intro r5 hr5
    replace st := st.cell hr5 [I e.src, I e.lt, I e.dst]
    generalize G.set r5 [I e.src, I e.lt, I e.dst] = G2 at st ⊢
    have hi : e.src.toNat < (refR a k).length := by rw [refR_len]; omega
    have hrd := map_rd (f := fun l => AV.p (cellV l)) hi
    rw [refR_get a k (by omega)] at hrd
    have hln : (refR a k).length = a.states.toNat := refR_len a k
    have hol := refN_len a k e.src.toNat
    have hsp : ∀ l', List.take (e.src.toNat * 1) (cG (refR a k)) ++ [AV.p (cellV l')] ++ List.drop (e.src.toNat * 1 + 1) (cG (refR a k)) = cG ((refR a k).set e.src.toNat l') := fun l' => map_sp hi
    (try simp (maxSteps := 1000000) (disch := first | assumption | (apply ν6; assumption)) only [vz, vu, vv, eqS, eF_, ↓c1_, ↓c2_, tabs, reduceCtorEq, ι5, ↓reduceIte, ν1, ν2, ν3, ν4, ν5, ι1, ι2, ι3, ι4, load_at (st.get 0 rfl)])
    refine ⟨by omega, by omega, ?_⟩
    (try simp (maxSteps := 1000000) (disch := first | assumption | (apply ν6; assumption)) only [vz, vu, vv, eqS, eF_, ↓c1_, ↓c2_, tabs, reduceCtorEq, ι5, ↓reduceIte, ν1, ν2, ν3, ν4, ν5, ι1, ι2, ι3, ι4, load_at (st.get 0 rfl), load_at (st.get 1 rfl), hrd, hln])
    refine ⟨by omega, ?_⟩
    refine CallT.args (args' := [Is (refN a k e.src.toNat), I e.dst]) ?_ ⟨cellV_wk _, .refl _, trivial⟩
    refine Pu.use (l1Put_spec _ e.dst (refN_lt a k _) (by omega)) ?_
    have ec : Is (put (refN a k e.src.toNat) e.dst) = .p (cellV (put (refN a k e.src.toNat) e.dst)) := by rw [cellV, if_neg (put_ne _ _)]
    rw [ec]
    generalize put (refN a k e.src.toNat) e.dst = l' at hsucc ⊢
    (try simp (maxSteps := 1000000) (disch := first | assumption | (apply ν6; assumption)) only [vz, vu, vv, eqS, eF_, ↓c1_, ↓c2_, tabs, reduceCtorEq, ι5, ↓reduceIte, ν1, ν2, ν3, ν4, ν5, ι1, ι2, ι3, ι4, load_at (st.get 0 rfl), store_at (st.get 1 rfl), hln])
    refine ⟨by omega, by omega, by omega, ?_⟩
    rw [hsp, ← hsucc]
    refine ⟨(k + 1, _), ⟨by simp only; omega, (st.put 1 rfl (cG (refR a (k + 1)))).drop⟩, by simp only; omega, ?_, Heap.le_refl _⟩
    rw [wk_int, i64_id (by omega) (by omega)]; simp
  · have : k = a.edges.length := by omega
    subst this
    have hg : G q = some (cG (refR a a.edges.length)) := st.get 0 rfl
    have := fin_tab (H := H) hq hg st.le
    rw [refR_len] at this
    rw [refR_all] at this
    exact this
end Go.Proofs.Ytolffbcnbcjeaaa
namespace Go.Proofs.Ytolffbcnbcjeaaa
open Go Go.Sep Go.Pt
attribute [local irreducible] CallT
def markE (k : Int) (n : Nat) : List Ed := (List.range n).map fun (i : Nat) => ⟨k + 3 * (i : Int), k + 3 * (i : Int) + 1, k + 3 * (i : Int) + 2⟩
theorem markE_len (k : Int) (n : Nat) : (markE k n).length = n := by simp [markE]
theorem markE_succ (k : Int) (n : Nat) : markE k (n + 1) = markE k n ++ [⟨k + 3 * n, k + 3 * n + 1, k + 3 * n + 2⟩] := by simp [markE, List.range_succ]
theorem markEdgeS_row (xs : List Ed) (hl : xs.length ≤ 1048576) {k : Int} (h0 : 0 ≤ k) (h1 : k ≤ 1000000000) {q : Nat} {G : Heap} (hG : G q = some (cE xs)) {K : AV → Heap → Prop}
    (h : K (I (k + 3 * xs.length)) (G.set q (cE (markE k xs.length)))) : CallT Try.prog 50 [rowE q xs, I k] G K := by
  refine W50_ok ?_; simp (maxSteps := 1000000) (disch := first | assumption | (apply ν6; assumption)) only [W50, vz, vu, vv, eqS, eF_, ↓c1_, ↓c2_, tabs, reduceCtorEq, ι5, ↓reduceIte, ν1, ν2, ν3, ν4, ν5, ι1, ι2, ι3, ι4]
  refine L50_0_rule (0 : Nat) (fun i => I (k + 3 * i)) (fun i => I i) (fun i => G.set q (cE (markE k i ++ xs.drop i))) (fun i => i ≤ xs.length) (fun i => xs.length - i) ⟨by omega, ?_, .refl _, ?_⟩ ?_
  · rw [wk_int]; simp
  · intro y b hy
    by_cases e : y = q
    · subst e; rw [Heap.set_same] at hy; rw [hG]; simpa [markE] using hy
    · rw [Heap.set_other e] at hy; exact hy
  intro i hi
  (try simp (maxSteps := 1000000) (disch := first | assumption | (apply ν6; assumption)) only [vz, vu, vv, eqS, eF_, ↓c1_, ↓c2_, tabs, reduceCtorEq, ι5, ↓reduceIte, ν1, ν2, ν3, ν4, ν5, ι1, ι2, ι3, ι4, B50_0])
  refine ⟨fun h5 => ?_, fun h5 => ?_⟩
  · have hlt : i < xs.length := by omega
    have hdl : (cE (markE k i)).length = i * 3 := by rw [cells_map_len (sz := 3) (fun _ => rfl), markE_len]
    have e3 : cE (markE k i ++ xs.drop i) = cE (markE k i) ++ (I (xs.getD i default).src :: I (xs.getD i default).lt :: I (xs.getD i default).dst :: cE (xs.drop (i + 1))) := by
      rw [drop_cons hlt, cE, List.map_append, cells_app]; rfl
    have e4 : cE (markE k (i + 1) ++ xs.drop (i + 1)) = cE (markE k i) ++ (I (k + 3 * i) :: I (k + 3 * i + 1) :: I (k + 3 * i + 2) :: cE (xs.drop (i + 1))) := by
      rw [markE_succ, List.append_assoc, cE, List.map_append, cells_app]; rfl
    generalize cE (xs.drop (i + 1)) = c2 at e3 e4
    generalize xs.getD i default = a at e3
    rw [e3]
    generalize cE (markE k i) = cd at hdl e4
    have p1 : ∀ z, List.take (i * 3) (cd ++ (I a.src :: I a.lt :: I a.dst :: c2)) ++ [z] ++ List.drop (i * 3 + 1) (cd ++ (I a.src :: I a.lt :: I a.dst :: c2)) = cd ++ (z :: I a.lt :: I a.dst :: c2) := fun z => splice_at (c := [I a.src]) (c' := [z]) (post := I a.lt :: I a.dst :: c2) hdl.symm rfl rfl
    have p2 : ∀ z w, List.take (i * 3 + 1) (cd ++ (z :: I a.lt :: I a.dst :: c2)) ++ [w] ++ List.drop (i * 3 + 1 + 1) (cd ++ (z :: I a.lt :: I a.dst :: c2)) = cd ++ (z :: w :: I a.dst :: c2) := fun z w => by
      have := splice_at (pre := cd ++ [z]) (c := [I a.lt]) (c' := [w]) (post := I a.dst :: c2) (off := i * 3 + 1) (n := 1) (by simp [hdl]) rfl rfl
      simpa using this
    have p3 : ∀ z w u, List.take (i * 3 + 2) (cd ++ (z :: w :: I a.dst :: c2)) ++ [u] ++ List.drop (i * 3 + 2 + 1) (cd ++ (z :: w :: I a.dst :: c2)) = cd ++ (z :: w :: u :: c2) := fun z w u => by
      have := splice_at (pre := cd ++ [z, w]) (c := [I a.dst]) (c' := [u]) (post := c2) (off := i * 3 + 2) (n := 1) (by simp [hdl]) rfl rfl
      simpa using this
    have w1 : IntKind.i64.wrap (k + 3 * ↑i + 1) = k + 3 * i + 1 := i64_id (by omega) (by omega)
    have w2 : IntKind.i64.wrap (k + 3 * ↑i + 1 + 1) = k + 3 * i + 2 := by rw [i64_id (by omega) (by omega)]; omega
    have w3 : IntKind.i64.wrap (k + 3 * ↑i + 2 + 1) = k + 3 * i + 3 := by rw [i64_id (by omega) (by omega)]; omega
    (try simp (maxSteps := 1000000) (disch := first | assumption | (apply ν6; assumption)) only [vz, vu, vv, eqS, eF_, ↓c1_, ↓c2_, tabs, reduceCtorEq, ι5, ↓reduceIte, ν1, ν2, ν3, ν4, ν5, ι1, ι2, ι3, ι4, p1, p2, p3, w1, w2, w3])
    refine ⟨by omega, h5, by omega, by omega, h5, by simp only [List.length_take, List.length_drop, List.length_append, List.length_cons, hdl]; omega, by omega, h5, by simp only [List.length_take, List.length_drop, List.length_append, List.length_cons, hdl]; omega, i + 1, by omega, by omega, ?_, ?_, ?_⟩
    · rw [wk_int]; omega
    · rw [wk_int, i64_id (by omega) (by omega)]; simp
    · rw [e4]; exact Heap.le_refl _
  · have : i = xs.length := by omega
    subst this
    simpa using h
theorem heldEdgeS_spec (n : Nat) (hl : n ≤ 1048576) {k : Int} (h0 : 0 ≤ k) (h1 : k ≤ 1000000000) : Pu Try.prog 53 [Es (markE k n), I k] (I (k + 3 * n)) := by
  refine Pu.of fun H => ?_
  have hml := markE_len k n
  refine W53_ok ?_; simp (maxSteps := 1000000) (disch := first | assumption | (apply ν6; assumption)) only [W53, vz, vu, vv, eqS, eF_, ↓c1_, ↓c2_, tabs, reduceCtorEq, ι5, ↓reduceIte, ν1, ν2, ν3, ν4, ν5, ι1, ι2, ι3, ι4]
  refine L53_0_rule (0 : Nat) (fun i => I (k + 3 * i)) (fun i => I i) (fun _ => H) (fun i => i ≤ n) (fun i => n - i) ⟨by omega, ?_, .refl _, Heap.le_refl _⟩ ?_
  · rw [wk_int]; simp
  intro i hi
  (try simp (maxSteps := 1000000) (disch := first | assumption | (apply ν6; assumption)) only [vz, vu, vv, eqS, eF_, ↓c1_, ↓c2_, tabs, reduceCtorEq, ι5, ↓reduceIte, ν1, ν2, ν3, ν4, ν5, ι1, ι2, ι3, ι4, B53_0, hml])
  refine ⟨fun h5 => ?_, fun h5 => ?_⟩
  · have hlt : i < n := by omega
    have e : (markE k n).getD i default = ⟨k + 3 * i, k + 3 * i + 1, k + 3 * i + 2⟩ := by simp [markE, List.getD, hlt]
    have w1 : IntKind.i64.wrap (k + 3 * ↑i + 1) = k + 3 * i + 1 := i64_id (by omega) (by omega)
    have w2 : IntKind.i64.wrap (k + 3 * ↑i + 1 + 1) = k + 3 * i + 2 := by rw [i64_id (by omega) (by omega)]; omega
    have w3 : IntKind.i64.wrap (k + 3 * ↑i + 2 + 1) = k + 3 * i + 3 := by rw [i64_id (by omega) (by omega)]; omega
    simp only [e, w1, w2, w3]
    refine ⟨by omega, h5, fun h6 => absurd trivial h6, fun _ => ⟨by omega, h5, fun h6 => absurd trivial h6, fun _ => ⟨by omega, h5, fun h6 => absurd trivial h6, fun _ => ⟨i + 1, by omega, by omega, ?_, ?_⟩⟩⟩⟩
    · rw [wk_int]; omega
    · rw [wk_int, i64_id (by omega) (by omega)]; simp
  · have : i = n := by omega
    subst this; rfl
def mkL (k : Int) (gs : List (List Int)) (i : Nat) : List Int := marked (k + psum totL gs i) (gs.getD i default).length
def mkLs (k : Int) (gs : List (List Int)) (n : Nat) : List (List Int) := (List.range n).map (mkL k gs)
theorem mkLs_len (k : Int) (gs : List (List Int)) (n : Nat) : (mkLs k gs n).length = n := by simp [mkLs]
theorem mkLs_succ (k : Int) (gs : List (List Int)) (n : Nat) : mkLs k gs (n + 1) = mkLs k gs n ++ [mkL k gs n] := by simp [mkLs, List.range_succ]
theorem mkLs_get (k : Int) (gs : List (List Int)) {n i : Nat} (h : i < n) : (mkLs k gs n).getD i default = mkL k gs i := by simp [mkLs, List.getD, h]
theorem nd3c {q : Nat} {A C E : List Nat} (h : (q :: (A ++ (C ++ E))).Nodup) : (q ∉ A ∧ q ∉ C ∧ q ∉ E) ∧ (∀ y ∈ A, y ∉ C) ∧ (∀ y ∈ E, y ∉ C) ∧ A.Nodup ∧ C.Nodup ∧ E.Nodup := by
  rw [List.nodup_cons, List.nodup_append, List.nodup_append] at h
  simp only [List.mem_append, not_or] at h
  refine ⟨h.1, fun y hy hc => h.2.2.2 y hy y (.inl hc) rfl, fun y hy hc => h.2.2.1.2.2 y hc y hy rfl, h.2.1, h.2.2.1.1, h.2.2.1.2.1⟩
theorem markIntSS_live (xs : List (List Int)) (hl : totLs xs ≤ 1048576) {x : AV} {G : Heap} {D : List Nat} (hx : LII xs x G D) (hD : D.Nodup) {k : Int} (h0 : 0 ≤ k) (hk : k ≤ 800000000) {K : AV → Heap → Prop}
    (h : ∀ G', LII (mkLs k xs xs.length) x G' D → (∀ y, y ∉ D → G' y = G y) → K (I (k + psum totL xs xs.length)) G') : CallT Try.prog 51 [x, I k] G K := by
  obtain ⟨q, cs, D', rfl, hq, hll, rfl⟩ := hx
  have hlen : xs.length ≤ 1048576 := by unfold totLs at hl; omega
  refine W51_ok ?_; simp (maxSteps := 1000000) (disch := first | assumption | (apply ν6; assumption)) only [W51, vz, vu, vv, eqS, eF_, ↓c1_, ↓c2_, tabs, reduceCtorEq, ι5, ↓reduceIte, ν1, ν2, ν3, ν4, ν5, ι1, ι2, ι3, ι4]
  refine L51_0_rule ((0 : Nat), G) (fun s => I (k + psum totL xs s.1)) (fun s => I s.1) (fun s => s.2) (fun s => s.1 ≤ xs.length ∧ Half LIc G q D' xs s.1 s.2 (mkLs k xs s.1)) (fun s => xs.length - s.1)
    ⟨⟨by simp, ⟨⟨[], cs, [], D', by simpa using hq, ⟨rfl, rfl⟩, by simpa using hll, rfl⟩, rfl, fun _ _ => rfl⟩⟩, ?_, .refl _, Heap.le_refl _⟩ ?_
  · rw [wk_int]; simp [psum]
  rintro ⟨i, G1⟩ ⟨hi, ⟨⟨cd, cr, Dd, Dr, e1, e2, e3, e4⟩, e5, e6⟩⟩
  dsimp only at hi e1 e2 e3 e4 e5 e6
  have hps := psum_le (f := totL) (xs := xs) i
  have htd : totLs xs = xs.length + psum totL xs xs.length := rfl
  (try simp (maxSteps := 1000000) (disch := first | assumption | (apply ν6; assumption)) only [vz, vu, vv, eqS, eF_, ↓c1_, ↓c2_, tabs, reduceCtorEq, ι5, ↓reduceIte, ν1, ν2, ν3, ν4, ν5, ι1, ι2, ι3, ι4, B51_0])
  refine ⟨fun h5 => ?_, fun h5 => ?_⟩
  · have hlt : i < xs.length := by omega
    have hsucc := psum_succ (f := totL) hlt
    have hps2 := psum_le (f := totL) (xs := xs) (i + 1)
    have hlast := mkLs_succ k xs i
    rw [drop_cons hlt] at e3
    obtain ⟨c, c2, Di, D2, rfl, rfl, ⟨x, rfl, hx⟩, f2⟩ := e3
    have hdl : cd.length = i * 1 := by rw [LL.size LIc.size e2, e5]
    subst e4
    obtain ⟨⟨q1, q2, q3⟩, dA, dE, nA, nC, nE⟩ := nd3c hD
    have htl : totL (xs.getD i default) = (xs.getD i default).length := rfl
    have hmk : mkL k xs i = marked (k + psum totL xs i) (xs.getD i default).length := rfl
    generalize xs.getD i default = a at e1 hx hsucc htl hmk
    obtain ⟨qx, rfl, gx, rfl⟩ := LI_row hx
    have e1' : G1 q = some (cd ++ (rowP qx a :: c2)) := e1
    have rd : (List.take 1 (List.drop (i * 1) (cd ++ (rowP qx a :: c2)))).headD AV.any = rowP qx a := by
      rw [List.drop_append, hdl, List.drop_of_length_le (by omega)]; simp
    (try simp (maxSteps := 1000000) (disch := first | assumption | (apply ν6; assumption)) only [vz, vu, vv, eqS, eF_, ↓c1_, ↓c2_, tabs, reduceCtorEq, ι5, ↓reduceIte, ν1, ν2, ν3, ν4, ν5, ι1, ι2, ι3, ι4, load_at e1', rd])
    refine ⟨by omega, h5, by omega, ?_⟩
    refine markIntS_live a (by omega) (by omega) (by omega) gx ?_
    have qqx : q ≠ qx := fun e => q2 (by rw [e]; exact List.mem_singleton.2 rfl)
    have hml := marked_len (k + psum totL xs i) a.length
    (try simp (maxSteps := 1000000) (disch := first | assumption | (apply ν6; assumption)) only [vz, vu, vv, eqS, eF_, ↓c1_, ↓c2_, tabs, reduceCtorEq, ι5, ↓reduceIte, ν1, ν2, ν3, ν4, ν5, ι1, ι2, ι3, ι4])
    refine ⟨(i + 1, G1.set qx (cells ((marked (k + psum totL xs i) a.length).map eI))), ⟨by simp only; omega, ⟨⟨cd ++ [rowP qx a], c2, Dd ++ [qx], D2, ?_, ?_, ?_, by simp⟩, by simp only [mkLs_len], fun y hy => ?_⟩⟩, by simp only; omega, ?_, ?_, Heap.le_refl _⟩
    · show (G1.set qx _) q = _
      rw [Heap.set_other qqx, e1]; simp
    · show LL LIc (mkLs k xs (i + 1)) _ _ _
      rw [hlast, hmk]
      refine LL.snoc (L := LIc) (a := marked (k + psum totL xs i) a.length) ⟨rowP qx a, rfl, ?_⟩ (LL.local LIc.local e2 fun y hy b hb => ?_)
      · have := LI_mk (xs := marked (k + psum totL xs i) a.length) (q := qx) (G := G1.set qx (cells ((marked (k + psum totL xs i) a.length).map eI))) (Heap.set_same _ _ _)
        simpa only [rowP, hml] using this
      · show (G1.set qx _) y = _
        rw [Heap.set_other (fun e => dA y hy (by rw [e]; exact List.mem_singleton.2 rfl))]; exact hb
    · refine LL.local LIc.local f2 fun y hy b hb => ?_
      show (G1.set qx _) y = _
      rw [Heap.set_other (fun e => dE y hy (by rw [e]; exact List.mem_singleton.2 rfl))]; exact hb
    · show (G1.set qx _) y = _
      have hy' := hy
      simp only [List.mem_cons, List.mem_append, not_or, List.not_mem_nil, not_false_eq_true, and_true] at hy'
      rw [Heap.set_other (by first | exact hy'.2.2.1 | exact hy'.2.1.2 | exact hy'.2.2)]; exact e6 y hy
    · rw [wk_int]; simp only; omega
    · rw [wk_int, i64_id (by omega) (by omega)]; simp
  · have : i = xs.length := by omega
    subst this
    rw [List.drop_length] at e3
    obtain ⟨rfl, rfl⟩ := e3
    exact h G1 ⟨q, cd, D', by rw [e5], by simpa using e1, by rw [e4]; simpa using e2, rfl⟩ e6
theorem heldIntSS_spec (xs : List (List Int)) (hl : totLs xs ≤ 1048576) {k : Int} (h0 : 0 ≤ k) (hk : k ≤ 800000000) : Pu Try.prog 54 [Ls (mkLs k xs xs.length), I k] (I (k + psum totL xs xs.length)) := by
  have hlen : xs.length ≤ 1048576 := by unfold totLs at hl; omega
  have hml := mkLs_len k xs xs.length
  refine Pu.of fun H => ?_
  refine W54_ok ?_; simp (maxSteps := 1000000) (disch := first | assumption | (apply ν6; assumption)) only [W54, vz, vu, vv, eqS, eF_, ↓c1_, ↓c2_, tabs, reduceCtorEq, ι5, ↓reduceIte, ν1, ν2, ν3, ν4, ν5, ι1, ι2, ι3, ι4]
  refine L54_0_rule (0 : Nat) (fun i => I (k + psum totL xs i)) (fun i => I i) (fun _ => H) (fun i => i ≤ xs.length) (fun i => xs.length - i) ⟨by omega, ?_, .refl _, Heap.le_refl _⟩ ?_
  · rw [wk_int]; simp [psum]
  intro i hi
  have hps := psum_le (f := totL) (xs := xs) i
  have htd : totLs xs = xs.length + psum totL xs xs.length := rfl
  (try simp (maxSteps := 1000000) (disch := first | assumption | (apply ν6; assumption)) only [vz, vu, vv, eqS, eF_, ↓c1_, ↓c2_, tabs, reduceCtorEq, ι5, ↓reduceIte, ν1, ν2, ν3, ν4, ν5, ι1, ι2, ι3, ι4, B54_0, hml])
  refine ⟨fun h5 => ⟨by omega, h5, ?_⟩, fun h5 => ?_⟩
  · have hlt : i < xs.length := by omega
    have hsucc := psum_succ (f := totL) hlt
    have hps2 := psum_le (f := totL) (xs := xs) (i + 1)
    have htl : totL (xs.getD i default) = (xs.getD i default).length := rfl
    rw [mkLs_get k xs hlt]
    refine Pu.use (heldIntS_spec (xs.getD i default).length (by omega) (by omega) (by omega)) ?_
    (try simp (maxSteps := 1000000) (disch := first | assumption | (apply ν6; assumption)) only [vz, vu, vv, eqS, eF_, ↓c1_, ↓c2_, tabs, reduceCtorEq, ι5, ↓reduceIte, ν1, ν2, ν3, ν4, ν5, ι1, ι2, ι3, ι4])
    refine ⟨fun h => by omega, fun _ => ⟨i + 1, by omega, by omega, ?_, ?_⟩⟩
    · rw [wk_int]; omega
    · rw [wk_int, i64_id (by omega) (by omega)]; simp
  · have : i = xs.length := by omega
    subst this; rfl
def mkAu (k : Int) (a : Au) : Au := ⟨a.states, marked k a.first.length, markE (k + a.first.length) a.edges.length, mkLs (k + a.first.length + 3 * a.edges.length) a.goals a.goals.length⟩
def totM (a : Au) : Int := a.first.length + 3 * a.edges.length + psum totL a.goals a.goals.length
theorem totM_le (a : Au) : 0 ≤ totM a ∧ totM a ≤ 3 * totAu a := by
  unfold totM totAu totLs; omega
theorem markAuto_live (a : Au) (hl : totAu a ≤ 1048576) {v : AV} {G : Heap} {D : List Nat} (hx : LAu a v G D) (hD : D.Nodup) {k : Int} (h0 : 0 ≤ k) (hk : k ≤ 600000000) {K : AV → Heap → Prop}
    (h : ∀ G', LAu (mkAu k a) v G' D → (∀ y, y ∉ D → G' y = G y) → K (I (k + totM a)) G') : CallT Try.prog 18 [v, I k] G K := by
  refine CallT.fin ?_
  obtain ⟨x, y, z, D1, D2, D3, rfl, rfl, h1, h2, h3⟩ := hx
  obtain ⟨n1, n2, n3, d12, d13, d23⟩ := nd3' hD
  obtain ⟨q1, rfl, g1, rfl⟩ := LI_row h1
  obtain ⟨q2, rfl, g2, rfl⟩ : ∃ q, y = rowE q a.edges ∧ G q = some (cE a.edges) ∧ D2 = [q] := by
    obtain ⟨q, cs, D', e1, e2, e3, e4⟩ := h2
    have key : ∀ (xs : List Ed) cs D', LL (LPl eE) xs cs G D' → cs = cE xs ∧ D' = [] := by
      intro xs
      induction xs with
      | nil => intro cs D' h; exact h
      | cons a bs ih =>
        rintro cs D' ⟨c1, c2, D1, D2, rfl, rfl, ⟨rfl, rfl⟩, h2⟩
        obtain ⟨rfl, rfl⟩ := ih _ _ h2
        exact ⟨by simp [cells], rfl⟩
    obtain ⟨rfl, rfl⟩ := key _ _ _ e3
    exact ⟨q, e1, e2, e4⟩
  obtain ⟨q3, rfl⟩ := LRow.sl h3
  have hta : totAu a = a.first.length + a.edges.length + totLs a.goals := rfl
  have ne : ∀ {y c}, G y = some c → ∀ {r}, G r = none → r ≠ y := fun h1 _ h2 e => by rw [e, h1] at h2; cases h2
  refine W18_ok ?_; simp (maxSteps := 1000000) (disch := first | assumption | (apply ν6; assumption)) only [W18, vz, vu, vv, eqS, eF_, ↓c1_, ↓c2_, tabs, reduceCtorEq, ι5, ↓reduceIte, ν1, ν2, ν3, ν4, ν5, ι1, ι2, ι3, ι4]
  intro r hr
  have r1 := ne g1 hr
  have r2 := ne g2 hr
  have q12 : q1 ≠ q2 := fun e => d12 q1 (by simp) (by rw [e]; simp)
  have q21 := Ne.symm q12
  have rD3 : r ∉ D3 := fun hm => LRow.has LIc.has h3 r hm hr
  refine markIntS_live a.first (by omega) (by omega) (by omega) (by rw [Heap.set_other (Ne.symm r1)]; exact g1) ?_
  (try simp (maxSteps := 1000000) (disch := first | assumption | (apply ν6; assumption)) only [vz, vu, vv, eqS, eF_, ↓c1_, ↓c2_, tabs, reduceCtorEq, ι5, ↓reduceIte, ν1, ν2, ν3, ν4, ν5, ι1, ι2, ι3, ι4])
  refine markEdgeS_row a.edges (by omega) (by omega) (by omega) (by rw [Heap.set_other q21, Heap.set_other (Ne.symm r2)]; exact g2) ?_
  (try simp (maxSteps := 1000000) (disch := first | assumption | (apply ν6; assumption)) only [vz, vu, vv, eqS, eF_, ↓c1_, ↓c2_, tabs, reduceCtorEq, ι5, ↓reduceIte, ν1, ν2, ν3, ν4, ν5, ι1, ι2, ι3, ι4])
  refine markIntSS_live a.goals (by omega) (D := D3) (LRow.local LIc.local h3 fun y hy b hb => ?_) n3 (by omega) (by omega) fun G' hL hfr => ?_
  · rw [Heap.set_other (fun e => d23 q2 (by simp) (by rw [← e]; exact hy)), Heap.set_other (fun e => d13 q1 (by simp) (by rw [← e]; exact hy)), Heap.set_other (fun e => rD3 (by rw [← e]; exact hy))]; exact hb
  have f1 : G' q1 = some (cells ((marked k a.first.length).map eI)) := by
    rw [hfr q1 (d13 q1 (by simp)), Heap.set_other q12, Heap.set_same]
  have f2 : G' q2 = some (cE (markE (k + a.first.length) a.edges.length)) := by
    rw [hfr q2 (d23 q2 (by simp)), Heap.set_same]
  have hdel : ∀ {y}, y ≠ r → (G'.del r) y = G' y := fun h => Heap.del_other h
  have et : k + a.first.length + 3 * a.edges.length + psum totL a.goals a.goals.length = k + totM a := by unfold totM; omega
  rw [et]
  refine ⟨_, _, .forget (H' := G'.del r) (fun y b hb => ?_), h (G'.del r) ⟨_, _, _, [q1], [q2], D3, rfl, rfl, ?_, ?_, LRow.local LIc.local ?_ fun y hy b hb => by rw [hdel (fun e => rD3 (by rw [← e]; exact hy))]; exact hb⟩ fun y hy => ?_⟩
  · by_cases e : y = r
    · rw [e, Heap.del_same] at hb; cases hb
    · rwa [Heap.del_other e] at hb
  · have := LI_mk (xs := marked k a.first.length) (q := q1) (G := G'.del r) (by rw [hdel (Ne.symm r1)]; exact f1)
    rw [rowP, marked_len] at this
    exact this
  · have := LE_mk (xs := markE (k + a.first.length) a.edges.length) (q := q2) (G := G'.del r) (by rw [hdel (Ne.symm r2)]; exact f2)
    rw [rowE, markE_len] at this
    exact this
  · exact hL
  · simp only [List.mem_append, List.mem_singleton, not_or] at hy
    by_cases e : y = r
    · rw [e, Heap.del_same]; exact hr.symm
    · rw [Heap.del_other e, hfr y hy.2.2, Heap.set_other hy.2.1, Heap.set_other hy.1, Heap.set_other e]
theorem heldAuto_spec (a : Au) (hl : totAu a ≤ 1048576) {k : Int} (h0 : 0 ≤ k) (hk : k ≤ 600000000) : Pu Try.prog 19 [aAu (mkAu k a), I k] (I (k + totM a)) := by
  have hta : totAu a = a.first.length + a.edges.length + totLs a.goals := rfl
  refine Pu.of fun H => ?_
  refine W19_ok ?_; simp (maxSteps := 1000000) (disch := first | assumption | (apply ν6; assumption)) only [W19, vz, vu, vv, eqS, eF_, ↓c1_, ↓c2_, tabs, reduceCtorEq, ι5, ↓reduceIte, ν1, ν2, ν3, ν4, ν5, ι1, ι2, ι3, ι4]
  intro r hr
  refine Pu.use (heldIntS_spec a.first.length (by omega) h0 (by omega)) ?_
  (try simp (maxSteps := 1000000) (disch := first | assumption | (apply ν6; assumption)) only [vz, vu, vv, eqS, eF_, ↓c1_, ↓c2_, tabs, reduceCtorEq, ι5, ↓reduceIte, ν1, ν2, ν3, ν4, ν5, ι1, ι2, ι3, ι4])
  refine ⟨fun h => by omega, fun _ => ?_⟩
  refine Pu.use (heldEdgeS_spec a.edges.length (by omega) (by omega) (by omega)) ?_
  (try simp (maxSteps := 1000000) (disch := first | assumption | (apply ν6; assumption)) only [vz, vu, vv, eqS, eF_, ↓c1_, ↓c2_, tabs, reduceCtorEq, ι5, ↓reduceIte, ν1, ν2, ν3, ν4, ν5, ι1, ι2, ι3, ι4])
  refine ⟨fun h => by omega, fun _ => ?_⟩
  refine Pu.use (heldIntSS_spec a.goals (by omega) (by omega) (by omega)) ?_
  (try simp (maxSteps := 1000000) (disch := first | assumption | (apply ν6; assumption)) only [vz, vu, vv, eqS, eF_, ↓c1_, ↓c2_, tabs, reduceCtorEq, ι5, ↓reduceIte, ν1, ν2, ν3, ν4, ν5, ι1, ι2, ι3, ι4])
  refine ⟨fun h => by omega, fun _ => ⟨?_, Heap.le_set hr⟩⟩
  exact congrArg (fun n : Int => I n) (by unfold totM; omega)
theorem toAuto_live (a : Au) (ha : smAu a) {H : Heap} {K : AV → Heap → Prop} (h : ∀ v G D, LAu a v G D → New H G D → K v G) : CallT Try.prog 8 [aAu a] H K := by
  refine W8_ok ?_; simp (maxSteps := 1000000) (disch := first | assumption | (apply ν6; assumption)) only [W8, vz, vu, vv, eqS, eF_, ↓c1_, ↓c2_, tabs, reduceCtorEq, ι5, ↓reduceIte, ν1, ν2, ν3, ν4, ν5, ι1, ι2, ι3, ι4]
  intro r hr r2 n1 h2 r3 n2 n3 h3
  have nn1 : r ≠ r2 := Ne.symm n1
  have n2' : r2 ≠ r3 := Ne.symm n2
  have n3' : r ≠ r3 := Ne.symm n3
  (try simp (maxSteps := 1000000) (disch := first | assumption | (apply ν6; assumption)) only [vz, vu, vv, eqS, eF_, ↓c1_, ↓c2_, tabs, reduceCtorEq, ι5, ↓reduceIte, ν1, ν2, ν3, ν4, ν5, ι1, ι2, ι3, ι4])
  refine toIntS_live a.first ha.1 fun x G D hx hn => ?_
  obtain ⟨q, rfl⟩ := LRow.sl hx
  have g3 := hn.le r3 _ (Heap.set_same _ _ _)
  have g2 := hn.le r2 [I 0, .p .nil, .p .nil, .p .nil] (by rw [Heap.set_other n2', Heap.set_same])
  have g1 := hn.le r [I a.states, Is a.first, Es a.edges, Ls a.goals] (by rw [Heap.set_other n3', Heap.set_other nn1, Heap.set_same])
  have m3 := ne_of_new hn (Heap.set_same _ _ _)
  have m2 := ne_of_new hn (y := r2) (b := [I 0, .p .nil, .p .nil, .p .nil]) (by rw [Heap.set_other n2', Heap.set_same])
  have hn0 := hn.base (Heap.le_setN (Heap.le_setN (Heap.le_set hr) h2) h3)
  (try simp (maxSteps := 1000000) (disch := first | assumption | (apply ν6; assumption)) only [vz, vu, vv, eqS, eF_, ↓c1_, ↓c2_, tabs, reduceCtorEq, ι5, ↓reduceIte, ν1, ν2, ν3, ν4, ν5, ι1, ι2, ι3, ι4, store_at g3, load_at g1])
  refine toEdgeS_live a.edges ha.2.1 fun y G2 D2 hy hn2 => ?_
  obtain ⟨q2, rfl⟩ := LRow.sl hy
  have k3 := hn2.le r3 _ (Heap.set_same _ _ _)
  have k2 := hn2.le r2 [I 0, .p .nil, .p .nil, .p .nil] (by rw [Heap.set_other n2']; exact g2)
  have k1 := hn2.le r [I a.states, Is a.first, Es a.edges, Ls a.goals] (by rw [Heap.set_other n3']; exact g1)
  have l3 := ne_of_new hn2 (Heap.set_same _ _ _)
  have l2 := ne_of_new hn2 (y := r2) (b := [I 0, .p .nil, .p .nil, .p .nil]) (by rw [Heap.set_other n2']; exact g2)
  have hx3 : LI a.first (.sl q 1 0 a.first.length) (G.set r3 [I a.states, .sl q 1 0 a.first.length, .p .nil, .p .nil]) D := LRow.local (LPl.local eI) hx fun z hz b hb => by rw [Heap.set_other (ne_mem hz m3)]; exact hb
  have hn' := (hn0.put h3 [I a.states, .sl q 1 0 a.first.length, .p .nil, .p .nil]).trans hn2 (LRow.has (LPl.has eI) hx3)
  have hx2 := LRow.local (LPl.local eI) hx3 (G' := G2) fun z hz b hb => hn2.le z b hb
  (try simp (maxSteps := 1000000) (disch := first | assumption | (apply ν6; assumption)) only [vz, vu, vv, eqS, eF_, ↓c1_, ↓c2_, tabs, reduceCtorEq, ι5, ↓reduceIte, ν1, ν2, ν3, ν4, ν5, ι1, ι2, ι3, ι4, store_at k3, load_at k1])
  refine toIntSS_live a.goals ha.2.2 fun z G3 D3 hz hn3 => ?_
  obtain ⟨q3, rfl⟩ := LRow.sl hz
  have j3 := hn3.le r3 _ (Heap.set_same _ _ _)
  have j2 := hn3.le r2 [I 0, .p .nil, .p .nil, .p .nil] (by rw [Heap.set_other n2']; exact k2)
  have i3 := ne_of_new hn3 (Heap.set_same _ _ _)
  have i2 := ne_of_new hn3 (y := r2) (b := [I 0, .p .nil, .p .nil, .p .nil]) (by rw [Heap.set_other n2']; exact k2)
  have hx4 : LI a.first (.sl q 1 0 a.first.length) (G2.set r3 [I a.states, .sl q 1 0 a.first.length, .sl q2 3 0 a.edges.length, .p .nil]) D := LRow.local (LPl.local eI) hx2 fun z hz b hb => by rw [Heap.set_other (ne_mem hz m3)]; exact hb
  have hy4 : LE a.edges (.sl q2 3 0 a.edges.length) (G2.set r3 [I a.states, .sl q 1 0 a.first.length, .sl q2 3 0 a.edges.length, .p .nil]) D2 := LRow.local (LPl.local eE) hy fun z hz b hb => by rw [Heap.set_other (ne_mem hz l3)]; exact hb
  have hn'' := (hn'.put h3 [I a.states, .sl q 1 0 a.first.length, .sl q2 3 0 a.edges.length, .p .nil]).trans hn3 (fun z hz => by
    rcases List.mem_append.1 hz with hz | hz
    · exact LRow.has (LPl.has eI) hx4 z hz
    · exact LRow.has (LPl.has eE) hy4 z hz)
  have hx5 := LRow.local (LPl.local eI) hx4 (G' := G3) fun z hz b hb => hn3.le z b hb
  have hy5 := LRow.local (LPl.local eE) hy4 (G' := G3) fun z hz b hb => hn3.le z b hb
  rw [List.append_assoc] at hn''
  (try simp (maxSteps := 1000000) (disch := first | assumption | (apply ν6; assumption)) only [vz, vu, vv, eqS, eF_, ↓c1_, ↓c2_, tabs, reduceCtorEq, ι5, ↓reduceIte, ν1, ν2, ν3, ν4, ν5, ι1, ι2, ι3, ι4, store_at j3])
  (try simp (maxSteps := 1000000) (disch := first | assumption | (apply ν6; assumption)) only [vz, vu, vv, eqS, eF_, ↓c1_, ↓c2_, tabs, reduceCtorEq, ι5, ↓reduceIte, ν1, ν2, ν3, ν4, ν5, ι1, ι2, ι3, ι4, store_at j2])
  refine h _ _ (D ++ (D2 ++ D3)) ⟨_, _, _, D, D2, D3, rfl, rfl, LRow.local (LPl.local eI) hx5 fun z hz b hb => ?_, LRow.local (LPl.local eE) hy5 fun z hz b hb => ?_, LRow.local LIc.local hz fun z hz b hb => ?_⟩ ((hn''.put h2 _).put h3 _)
  · rw [Heap.set_other (ne_mem hz m3), Heap.set_other (ne_mem hz m2)]; exact hb
  · rw [Heap.set_other (ne_mem hz l3), Heap.set_other (ne_mem hz l2)]; exact hb
  · rw [Heap.set_other (ne_mem hz i3), Heap.set_other (ne_mem hz i2)]; exact hb
end Go.Proofs.Ytolffbcnbcjeaaa
namespace Go.Proofs.Ytolffbcnbcjeaaa
open Go Go.Sep Go.Pt
attribute [local irreducible] CallT
theorem eI_gd : Lay.Gd (LPl eI) := LPl.gd fun a x hx => by
  simp only [List.mem_singleton] at hx; subst hx; exact .int _ _
theorem eE_gd : Lay.Gd (LPl eE) := LPl.gd fun a x hx => by
  simp only [List.mem_cons, List.not_mem_nil, or_false] at hx
  rcases hx with rfl | rfl | rfl <;> exact .int _ _
theorem LIc.gd : Lay.Gd LIc := by
  rintro a cs G D ⟨x, rfl, h⟩
  obtain ⟨h1, h2⟩ := LRow.gd eI_gd h
  exact ⟨fun c hc => by rw [List.mem_singleton] at hc; subst hc; exact h1, h2⟩
theorem LIc.sh : Lay.Sh LIc := by
  rintro a cs G D n G0 h0 ⟨x, rfl, h⟩
  exact ⟨shC n x, rfl, LRow.sh (LPl.sh eI) h0 h⟩
theorem LAu.gd {a : Au} {v : AV} {G : Heap} {D : List Nat} (h : LAu a v G D) : Gd1 v ∧ ∀ y ∈ D, ∀ bs, G y = some bs → ∀ c ∈ bs, GdC c := by
  obtain ⟨x, y, z, D1, D2, D3, rfl, rfl, h1, h2, h3⟩ := h
  have a1 := LRow.gd eI_gd h1
  have a2 := LRow.gd eE_gd h2
  have a3 := LRow.gd LIc.gd h3
  refine ⟨.inl ⟨_, rfl, fun c hc => ?_⟩, fun u hu => ?_⟩
  · simp only [List.mem_cons, List.not_mem_nil, or_false] at hc
    rcases hc with rfl | rfl | rfl | rfl
    · exact .p (.int _ _)
    · exact a1.1
    · exact a2.1
    · exact a3.1
  · simp only [List.mem_append] at hu
    rcases hu with hu | hu | hu
    · exact a1.2 u hu
    · exact a2.2 u hu
    · exact a3.2 u hu
theorem LAu.sh {a : Au} {v : AV} {G : Heap} {D : List Nat} {n : Nat} {G0 : Heap} (h0 : ∀ q, n ≤ q → G0 q = none) (h : LAu a v G D) : LAu a (sh1 n v) (Heap.or G0 (shH n G)) (D.map (· + n)) := by
  obtain ⟨x, y, z, D1, D2, D3, rfl, rfl, h1, h2, h3⟩ := h
  exact ⟨shC n x, shC n y, shC n z, _, _, _, rfl, by rw [List.map_append, List.map_append], LRow.sh (LPl.sh eI) h0 h1, LRow.sh (LPl.sh eE) h0 h2, LRow.sh LIc.sh h0 h3⟩
theorem thawAu {P : Program} {f : Nat} {args args' : List AV} {G G1 : Heap} {o : Au} {ok : Bool} {K : AV → Heap → Prop}
    (hf : ∀ {K : AV → Heap → Prop}, (∀ v G D, LAu o v G D → New (fun _ => none) G D → K (.tup [v, B ok]) G) → CallT P f args' (fun _ => none) K)
    (hw : Wk (.tup args) G (.tup args') G1) (h : ∀ v G' D, LAu o v G' D → New G G' D → K (.tup [v, B ok]) G') : CallT P f args G K := by
  refine CallT.thawX (Q' := fun r H' => ∃ v D, LAu o v H' D ∧ D.Nodup ∧ r = .tup [v, B ok] ∧ ∀ y, y ∉ D → H' y = none) ?_ ?_ hw ?_
  · refine CallT.fin (hf fun v G D hl hn => ⟨_, only D G, .forget (only_le D G), v, D, hl.local fun y hy b hb => by rw [only_in hy]; exact hb, hn.nd, rfl, fun y hy => only_out hy⟩)
  · rintro r H' ⟨v, D, hl, _, rfl, hout⟩
    have gb : Gd1 (B ok) := .inr ⟨.p (.bool ok), fun _ => rfl⟩
    refine ⟨.inl ⟨_, rfl, fun u hu => ?_⟩, fun q cs hq => ?_⟩
    · rcases List.mem_cons.1 hu with rfl | hu
      · exact hl.gd.1
      · rw [List.mem_singleton] at hu; rw [hu]; exact gb
    · by_cases hD : q ∈ D
      · exact hl.gd.2 q hD cs hq
      · rw [hout q hD] at hq; cases hq
  · rintro r H' n ⟨v, D, hl, hnd, rfl, hout⟩ hn
    have e : sh2 n (.tup [v, B ok]) = .tup [sh1 n v, B ok] := rfl
    rw [e]
    refine h _ _ (D.map (· + n)) (hl.sh hn) ⟨?_, fun y hy => ?_, fun y b hb => by simp only [Heap.or, hb]⟩
    · exact List.pairwise_map.2 (hnd.imp fun h e => h (Nat.add_right_cancel e))
    · obtain ⟨z, _, rfl⟩ := List.mem_map.1 hy
      exact hn _ (by omega)
theorem LAu.eq {a : Au} {v : AV} {G : Heap} {D : List Nat} (g : LAu a v G D) (hD : D.Nodup) (hs : smAu a) {K : AV → Heap → Prop} (h : K (B true) G) : CallT Try.prog 10 [v, aAu a] G K := by
  obtain ⟨G1, w1, _⟩ := g.wk hD (fun v => .tup [v, aAu a]) (fun h => .tup (.cons h (.cons (.same _) .nil)))
  exact Pu.thaw (eqAuto_spec a hs) (.bool _) w1 h
theorem LAu.held {a : Au} {v : AV} {G : Heap} {D : List Nat} (g : LAu (mkAu 1 a) v G D) (hD : D.Nodup) (hs : totAu a ≤ 1048576) {K : AV → Heap → Prop} (h : K (I (1 + totM a)) G) : CallT Try.prog 19 [v, I 1] G K := by
  obtain ⟨G1, w1, _⟩ := g.wk hD (fun v => .tup [v, I 1]) (fun h => .tup (.cons h (.cons (.same _) .nil)))
  exact Pu.thaw (heldAuto_spec a hs (by omega) (by omega)) (.int _ _) w1 h
theorem aAu_cells {a : Au} {v : AV} {G : Heap} {D : List Nat} (h : LAu a v G D) : ∃ q1 q2 q3, v = .agg [I a.states, .sl q1 1 0 a.first.length, .sl q2 3 0 a.edges.length, .sl q3 1 0 a.goals.length] := by
  obtain ⟨x, y, z, D1, D2, D3, rfl, e, h1, h2, h3⟩ := h
  obtain ⟨q1, rfl⟩ := LRow.sl h1
  obtain ⟨q2, rfl⟩ := LRow.sl h2
  obtain ⟨q3, rfl⟩ := LRow.sl h3
  exact ⟨q1, q2, q3, rfl⟩
theorem psumL_le {gs : List (List Int)} {m : Nat} (h : ∀ g ∈ gs, g.length ≤ m) : psum totL gs gs.length ≤ m * gs.length := by
  have key : ∀ i, i ≤ gs.length → psum totL gs i ≤ m * i := by
    intro i
    induction i with
    | zero => intro _; simp [psum]
    | succ i ih =>
      intro hi
      rw [psum_succ (by omega)]
      have h1 := ih (by omega)
      have h2 := getD_all (p := fun x : List Int => x.length ≤ m) (d := default) h (i := i) (by omega)
      have e : totL (gs.getD i default) = (gs.getD i default).length := rfl
      rw [Nat.mul_add, Nat.mul_one]
      omega
  exact key _ (Nat.le_refl _)
theorem zeroA_tot : smAu zeroA ∧ totAu zeroA ≤ 10000 := by
  refine ⟨⟨by simp [zeroA], by simp [zeroA], by simp [zeroA], fun c hc => by cases hc⟩, ?_⟩
  simp [totAu, totLs, zeroA, psum]
end Go.Proofs.Ytolffbcnbcjeaaa
namespace Go.Proofs.Ytolffbcnbcjeaaa
open Go Go.Sep Go.Pt
attribute [local irreducible] CallT
theorem next_spec (a : Au) (fa : GoodF a) : Pu Try.prog 31 [aAu a] (Ls (nextG a)) :=
  ⟨fun H => CallT.fin (next_live a fa fun x G D hx hn => lii_val hx hn)⟩
def nN (l : List Int) : List Nat := l.map Int.toNat
theorem nN_len (l : List Int) : (nN l).length = l.length := by simp [nN]
theorem nN_lt {l : List Int} {n : Nat} (h : ∀ x ∈ l, 0 ≤ x ∧ x < n) : ∀ v ∈ nN l, v < n := by
  intro v hv
  obtain ⟨x, hx, rfl⟩ := List.mem_map.1 hv
  have := h x hx; omega
theorem nI_of {l : List Int} {n : Nat} (h : ∀ x ∈ l, 0 ≤ x ∧ x < n) : nI (nN l) = l := nI_nN fun x hx => (h x hx).1
def gA (a : Au) : List (List Nat) := (nextG a).map nN
theorem gI_of {g : List (List Int)} {n : Nat} (h : ∀ l ∈ g, ∀ x ∈ l, 0 ≤ x ∧ x < n) : gI (g.map nN) = g := by
  unfold gI
  rw [List.map_map]
  conv => rhs; rw [← List.map_id g]
  apply List.map_congr_left
  intro l hl
  exact nI_of (h l hl)
theorem gA_len (a : Au) : (gA a).length = a.states.toNat := by simp [gA, nextG_len]
theorem nextG_bd {a : Au} (fa : GoodF a) : ∀ l ∈ nextG a, (∀ x ∈ l, 0 ≤ x ∧ x < a.states.toNat) ∧ l.length ≤ 2400 := by
  intro l hl
  obtain ⟨s, _, rfl⟩ := List.mem_map.1 hl
  have hed := fa.ed
  refine ⟨fun x hx => ?_, ?_⟩
  · rw [sc_mem] at hx
    simp only [outN, List.mem_map, List.mem_filter] at hx
    obtain ⟨e, ⟨he, _⟩, rfl⟩ := hx
    have := edIn_iff.1 (fa.ei e (List.mem_of_mem_take he))
    omega
  · have := sc_len (outN a a.edges.length s)
    have := outN_len a a.edges.length s
    omega
theorem sumN_le {f : Nat → Nat} {b : Nat} (h : ∀ v, f v ≤ b) (n : Nat) : sumN f n ≤ n * b := by
  induction n with
  | zero => simp [sumN]
  | succ n ih => rw [sumN_succ, Nat.add_mul]; have := h n; omega
theorem GrB_of {g : List (List Nat)} {b : Nat} (h1 : ∀ l ∈ g, ∀ x ∈ l, x < g.length) (h2 : ∀ l ∈ g, l.length ≤ b) (hn : g.length ≤ 100000) (hb : g.length * b ≤ 500000) : GrB g := by
  refine ⟨h1, hn, ?_⟩
  rw [prT_sum]
  refine Nat.le_trans (sumN_le (b := b) (fun v => ?_) _) hb
  by_cases hv : v < g.length
  · refine h2 _ ?_
    simp [rwF, List.getD, hv]
  · rw [rwF_out (by omega)]; simp
theorem gA_B {a : Au} (fa : GoodF a) : GrB (gA a) := by
  have hst := fa.st
  have hl := gA_len a
  refine GrB_of (b := 2400) (fun l hl2 x hx => ?_) (fun l hl2 => ?_) (by omega) (by rw [hl]; exact Nat.le_trans (Nat.mul_le_mul_right 2400 (show a.states.toNat ≤ 96 by omega)) (by decide))
  · obtain ⟨r, hr, rfl⟩ := List.mem_map.1 hl2
    rw [hl]
    exact nN_lt (nextG_bd fa r hr).1 x hx
  · obtain ⟨r, hr, rfl⟩ := List.mem_map.1 hl2
    rw [nN_len]; exact (nextG_bd fa r hr).2
theorem gA_I {a : Au} (fa : GoodF a) : gI (gA a) = nextG a := gI_of fun l hl => (nextG_bd fa l hl).1
theorem rising_in {l : List Int} {n : Int} (h : rising l n = true) : ∀ x ∈ l, 0 ≤ x ∧ x < n := by
  intro x hx
  obtain ⟨i, hi, rfl⟩ := List.mem_iff_getElem.1 hx
  have := rising_at h i hi
  rw [getD_lt hi] at this
  omega
structure AutoN (a : Au) : Prop where
  f : GoodF a
  fr : ∀ x ∈ a.first, 0 ≤ x ∧ x < a.states.toNat
  go : ∀ l ∈ a.goals, ∀ x ∈ l, 0 ≤ x ∧ x < a.states.toNat
theorem autoN {a : Au} (h : goodA a = true) : AutoN a := by
  have f := good_facts h
  have hst := f.st
  rw [goodA_def] at h
  simp only [goalsOk, Bool.and_eq_true, decide_eq_true_eq, List.all_eq_true] at h
  obtain ⟨h1, h2, h3, ⟨h4, h5⟩, h6⟩ := h
  refine ⟨f, fun x hx => ?_, fun l hl x hx => ?_⟩
  · have := rising_in h2 x hx; omega
  · have := rising_in (h5 l hl) x hx; omega
def goN (gs : List (List Int)) : List (List Nat) := gs.map nN
theorem AutoN.gob {a : Au} (h : AutoN a) : GoB (goN a.goals) (gA a).length ∧ (∀ l ∈ goN a.goals, l.length ≤ 96) ∧ ((goN a.goals).length + 1) * ((gA a).length + 96 + 2) ≤ 800000 := by
  have hgl := h.f.gl
  have hst := h.f.st
  have hl := gA_len a
  have e : (goN a.goals).length = a.goals.length := by simp [goN]
  have h96 : ∀ l ∈ goN a.goals, l.length ≤ 96 := by
    intro l hl2
    obtain ⟨r, hr, rfl⟩ := List.mem_map.1 hl2
    rw [nN_len]; exact (h.f.gi r hr).2
  refine ⟨⟨fun l hl2 x hx => ?_, by omega, fun l hl2 => by have := h96 l hl2; omega⟩, h96, ?_⟩
  · obtain ⟨r, hr, rfl⟩ := List.mem_map.1 hl2
    rw [hl]; exact nN_lt (h.go r hr) x hx
  · rw [e, hl]
    exact Nat.le_trans (Nat.mul_le_mul (show a.goals.length + 1 ≤ 7 by omega) (show a.states.toNat + 96 + 2 ≤ 194 by omega)) (by decide)
noncomputable def fairA (a : Au) : Bool := laB (rwF (gA a)) (gA a).length (nN a.first) (goN a.goals)
noncomputable def ieR (a : Au) : Bool × Bool := if goodA a then (!fairA a, true) else (false, false)
end Go.Proofs.Ytolffbcnbcjeaaa
namespace Go.Proofs.Ytolffbcnbcjeaaa
open Go Go.Sep Go.Pt
attribute [local irreducible] CallT
def gO (a : Au) : List (List Nat) := (outR a a.edges.length).map nN
structure PrB (p : Au) : Prop where
  x : GoodX p
  n : p.states ≤ 4608
  fr : ∀ x ∈ p.first, 0 ≤ x ∧ x < p.states.toNat
  fl : p.first.length ≤ 9216
  gl : p.goals.length ≤ 12
  go : ∀ l ∈ p.goals, ∀ x ∈ l, 0 ≤ x ∧ x < p.states.toNat
  gs : ∀ l ∈ p.goals, l.length ≤ 9216
theorem PrB.gob {p : Au} (h : PrB p) {n : Nat} (hn : n = p.states.toNat) : GoB (goN p.goals) n ∧ (∀ l ∈ goN p.goals, l.length ≤ 9216) ∧ ((goN p.goals).length + 1) * (n + 9216 + 2) ≤ 800000 := by
  have hgl := h.gl
  have hst := h.x.st
  have hs := h.n
  have e : (goN p.goals).length = p.goals.length := by simp [goN]
  have h96 : ∀ l ∈ goN p.goals, l.length ≤ 9216 := by
    intro l hl2
    obtain ⟨r, hr, rfl⟩ := List.mem_map.1 hl2
    rw [nN_len]; exact h.gs r hr
  refine ⟨⟨fun l hl2 x hx => ?_, by omega, fun l hl2 => by have := h96 l hl2; omega⟩, h96, ?_⟩
  · obtain ⟨r, hr, rfl⟩ := List.mem_map.1 hl2
    rw [hn]; exact nN_lt (h.go r hr) x hx
  · rw [e]
    exact Nat.le_trans (Nat.mul_le_mul (show p.goals.length + 1 ≤ 13 by omega) (show n + 9216 + 2 ≤ 13826 by omega)) (by decide)
noncomputable def impF (p : Au) : Bool := decide (meetF (rwF (gA p)) (gA p).length (nN p.first) (goN p.goals) < 0)
end Go.Proofs.Ytolffbcnbcjeaaa
namespace Go.Proofs.Ytolffbcnbcjeaaa
open Go Go.Sep
attribute [local irreducible] CallT
end Go.Proofs.Ytolffbcnbcjeaaa
namespace Go.Proofs.Ytolffbcnbcjeaaa
open Go Go.Sep Go.Pt
attribute [local irreducible] CallT
def letB (n : Int) : Bool := decide (0 ≤ n) && decide (n ≤ 7)
def goodL (s l : List Int) : Bool := (decide (s.length ≤ 24) && (decide (1 ≤ l.length) && decide (l.length ≤ 24))) && (s.all letB && l.all letB)
abbrev aL2 (s l : List Int) : AV := .agg [Is s, Is l]
theorem wkL2 {s l : List Int} {q1 q2 : Nat} {G : Heap} (hq1 : G q1 = some (cP fI s)) (hq2 : G q2 = some (cP fI l)) (hne : q1 ≠ q2) (C : AV → AV) (hC : ∀ {r sz es a a'}, FrzR r sz es a a' → FrzR r sz es (C a) (C a')) : Wk (C (.agg [rowP q1 s, rowP q2 l])) G (C (aL2 s l)) ((G.del q1).del q2) := by
  have w1 := Wk.frz (v := C (.agg [rowP q1 s, rowP q2 l])) (v' := C (.agg [Is s, rowP q2 l])) (H := G) (r := q1) (sz := 1) (es := s.map fun n => [fI n]) (by omega) (by rw [flat_P]; exact hq1) (szP _ _) (hC (.agg (.cons frz_row (.cons (.same _) .nil))))
  have w2 := Wk.frz (v := C (.agg [Is s, rowP q2 l])) (v' := C (aL2 s l)) (H := G.del q1) (r := q2) (sz := 1) (es := l.map fun n => [fI n]) (by omega) (by rw [flat_P, Heap.del_other (Ne.symm hne)]; exact hq2) (szP _ _) (hC (.agg (.cons (.same _) (.cons frz_row .nil))))
  exact .trans w1 w2
def RL (s l : List Int) (v : AV) (G : Heap) (D : List Nat) : Prop := (s = [] ∧ l = [] ∧ v = .agg [.p .nil, .p .nil] ∧ D = []) ∨ ∃ q1 q2, v = .agg [rowP q1 s, rowP q2 l] ∧ G q1 = some (cP fI s) ∧ G q2 = some (cP fI l) ∧ D = [q1, q2] ∧ q1 ≠ q2
end Go.Proofs.Ytolffbcnbcjeaaa
namespace Go.Proofs.Ytolffbcnbcjeaaa
open Go Go.Sep Go.Pt
attribute [local irreducible] CallT
theorem RL.local {s l : List Int} {v : AV} {G G' : Heap} {D : List Nat} (h : RL s l v G D) (hf : ∀ y ∈ D, ∀ b, G y = some b → G' y = some b) : RL s l v G' D := by
  rcases h with h | ⟨q1, q2, rfl, h1, h2, rfl, hne⟩
  · exact .inl h
  · exact .inr ⟨q1, q2, rfl, hf q1 (by simp) _ h1, hf q2 (by simp) _ h2, rfl, hne⟩
theorem RL.has {s l : List Int} {v : AV} {G : Heap} {D : List Nat} (h : RL s l v G D) : ∀ y ∈ D, G y ≠ none := by
  rcases h with ⟨_, _, _, rfl⟩ | ⟨q1, q2, rfl, h1, h2, rfl, hne⟩
  · intro y hy; cases hy
  · intro y hy
    simp only [List.mem_cons, List.not_mem_nil, or_false] at hy
    rcases hy with rfl | rfl
    · rw [h1]; simp
    · rw [h2]; simp
theorem eqLassoQ (s l : List Int) (h1 : s.length ≤ 1048576) (h2 : l.length ≤ 1048576) : Pu Try.prog 15 [aL2 s l, aL2 s l] (B true) := by
  refine Pu.of fun H => ?_
  refine W15_ok ?_; simp (maxSteps := 1000000) (disch := first | assumption | (apply ν6; assumption)) only [W15, vz, vu, vv, eqS, eF_, ↓c1_, ↓c2_, tabs, reduceCtorEq, ι5, ↓reduceIte, ν1, ν2, ν3, ν4, ν5, ι1, ι2, ι3, ι4]
  intro r hr r2 n2 hr2
  have hle := Heap.le_setN (b := [Is s, Is l]) (Heap.le_set (b := [Is s, Is l]) hr) hr2
  have nn2 := Ne.symm n2
  (try simp (maxSteps := 1000000) (disch := first | assumption | (apply ν6; assumption)) only [vz, vu, vv, eqS, eF_, ↓c1_, ↓c2_, tabs, reduceCtorEq, ι5, ↓reduceIte, ν1, ν2, ν3, ν4, ν5, ι1, ι2, ι3, ι4])
  refine Pu.use (eqIntS_spec s h1) ?_
  (try simp (maxSteps := 1000000) (disch := first | assumption | (apply ν6; assumption)) only [vz, vu, vv, eqS, eF_, ↓c1_, ↓c2_, tabs, reduceCtorEq, ι5, ↓reduceIte, ν1, ν2, ν3, ν4, ν5, ι1, ι2, ι3, ι4])
  refine Pu.use (eqIntS_spec l h2) ?_
  (try simp (maxSteps := 1000000) (disch := first | assumption | (apply ν6; assumption)) only [vz, vu, vv, eqS, eF_, ↓c1_, ↓c2_, tabs, reduceCtorEq, ι5, ↓reduceIte, ν1, ν2, ν3, ν4, ν5, ι1, ι2, ι3, ι4])
  exact hle
theorem RL.eq {s l : List Int} {v : AV} {G : Heap} {D : List Nat} (h : RL s l v G D) (hs : s.length ≤ 1048576) (hl : l.length ≤ 1048576) {K : AV → Heap → Prop} (k : K (B true) G) : CallT Try.prog 15 [v, aL2 s l] G K := by
  rcases h with ⟨rfl, rfl, rfl, rfl⟩ | ⟨q1, q2, rfl, h1, h2, rfl, hne⟩
  · exact CallT.args (args' := [aL2 [] [], aL2 [] []]) ((eqLassoQ [] [] (by simp) (by simp)).use k) ⟨wk_agg ⟨.nil, .nil, trivial⟩, .refl _, trivial⟩
  · exact Pu.thaw (eqLassoQ s l hs hl) (.bool _) (wkL2 h1 h2 hne (fun v => .tup [v, aL2 s l]) (fun h => .tup (.cons h (.cons (.same _) .nil)))) k
end Go.Proofs.Ytolffbcnbcjeaaa
namespace Go.Proofs.Ytolffbcnbcjeaaa
open Go Go.Sep Go.Pt
def prs (us bs : List Int) (m : Int) : List Int := us.flatMap fun i => bs.map fun j => i * m + j
end Go.Proofs.Ytolffbcnbcjeaaa
namespace Go.Proofs.Ytolffbcnbcjeaaa
open Go Go.Sep Go.Pt
attribute [local irreducible] CallT
end Go.Proofs.Ytolffbcnbcjeaaa
namespace Go.Proofs.Ytolffbcnbcjeaaa
open Go Go.Sep Go.Pt
attribute [local irreducible] CallT
theorem LIn.frz : Lay.Frz LIn eL := by
  rintro c cs G D v s pre post ⟨x, rfl, h⟩ hD hs hG
  rcases h with ⟨rfl, rfl, rfl⟩ | h
  · refine ⟨G.set s (pre ++ ([.p (.sl [])] ++ post)), .cell hG (by simp) (fun j a a' e1 e2 => ?_), Heap.set_same _ _ _, fun y hy _ => Heap.set_other hy⟩
    rw [List.getElem?_append] at e1 e2
    split at e1
    · rename_i hlt
      rw [if_pos hlt] at e2
      rw [e1] at e2; cases e2; exact .refl _
    · rename_i hge
      rw [if_neg hge] at e2
      cases hj : j - pre.length with
      | zero =>
        rw [hj] at e1 e2
        simp at e1 e2
        subst e1; subst e2
        exact .nil
      | succ k =>
        rw [hj] at e1 e2
        simp at e1 e2
        rw [e1] at e2; cases e2; exact .refl _
  · obtain ⟨G', w, k, f⟩ := LRow.frzIn (e := eI) (sz := 1) (pre := pre) (post := post) (v := v) (by omega) (fun _ => rfl) (LPl.local eI) (LPl.frz eI) h hD hs (by rw [hG])
    exact ⟨G', w, by rw [k]; rfl, f⟩
end Go.Proofs.Ytolffbcnbcjeaaa
namespace Go.Proofs.Ytolffbcnbcjeaaa
open Go Go.Sep Go.Pt
attribute [local irreducible] CallT
def letW (s l : List Int) (t : Nat) : Int := (s ++ l).getD t default
def nxW (s l : List Int) (t : Nat) : Nat := if t + 1 < s.length + l.length then t + 1 else s.length
def wpS (m : Int) (s l : List Int) (t : Nat) (e : Ed) : Ed := ⟨(t : Int) * m + e.src, e.lt, ((nxW s l t : Nat) : Int) * m + e.dst⟩
def wpR (m : Int) (s l : List Int) (t : Nat) (es : List Ed) : List Ed := (es.filter fun e => decide (e.lt = letW s l t)).map (wpS m s l t)
def wpE (a : Au) (s l : List Int) (n : Nat) : List Ed := (List.range n).flatMap fun t => wpR a.states s l t a.edges
def wpG (a : Au) (T k : Nat) : List (List Int) := (a.goals.take k).map fun g => prs (below T) g a.states
def wpA (a : Au) (s l : List Int) : Au := ⟨((s.length + l.length : Nat) : Int) * a.states, a.first, wpE a s l (s.length + l.length), wpG a (s.length + l.length) a.goals.length⟩
end Go.Proofs.Ytolffbcnbcjeaaa
namespace Go.Proofs.Ytolffbcnbcjeaaa
open Go Go.Sep Go.Pt
attribute [local irreducible] CallT
end Go.Proofs.Ytolffbcnbcjeaaa
namespace Go.Proofs.Ytolffbcnbcjeaaa
open Go Go.Sep Go.Pt
attribute [local irreducible] CallT
def gwB (n : Nat) (p : Nat → Bool) : List Nat := (List.range n).filter p
theorem gwB_succ (n : Nat) (p : Nat → Bool) : gwB (n + 1) p = if p n then gwB n p ++ [n] else gwB n p := by
  simp only [gwB, List.range_succ, List.filter_append, List.filter_cons, List.filter_nil]
  cases p n <;> simp
theorem gwB_len (n : Nat) (p : Nat → Bool) : (gwB n p).length ≤ n := by
  have := List.length_filter_le p (List.range n); simpa [gwB] using this
noncomputable def twF (p : Au) : Bool := decide (0 ≤ meetF (rwF (gO p)) (gO p).length (nN p.first) (goN p.goals))
noncomputable def twR (a : Au) (s l : List Int) : Bool × Bool := if goodA a && goodL s l then (twF (wpA a s l), true) else (false, false)
end Go.Proofs.Ytolffbcnbcjeaaa
namespace Go.Proofs.Ytolffbcnbcjeaaa
open Go Go.Sep Go.Pt
attribute [local irreducible] CallT
theorem l1Has_nat (l : List Nat) (hl : l.length ≤ 100000) (v : Nat) : Pu Try.prog 43 [Is (nI l), I v] (B (decide (v ∈ l))) := by
  refine Pu.of fun H => ?_
  refine W43_ok ?_; simp (maxSteps := 1000000) (disch := first | assumption | (apply ν6; assumption)) only [W43, vz, vu, vv, eqS, eF_, ↓c1_, ↓c2_, tabs, reduceCtorEq, ι5, ↓reduceIte, ν1, ν2, ν3, ν4, ν5, ι1, ι2, ι3, ι4]
  have hll := nI_len l
  (try simp (maxSteps := 1000000) (disch := first | assumption | (apply ν6; assumption)) only [vz, vu, vv, eqS, eF_, ↓c1_, ↓c2_, tabs, reduceCtorEq, ι5, ↓reduceIte, ν1, ν2, ν3, ν4, ν5, ι1, ι2, ι3, ι4, hll])
  refine L43_0_rule (0 : Nat) (fun i => I i) (fun _ => H) (fun i => i ≤ l.length ∧ ∀ j, j < i → l.getD j 0 ≠ v) (fun i => l.length - i) ⟨⟨by omega, by intros; omega⟩, .refl _, Heap.le_refl _⟩ ?_
  rintro i ⟨hi, ha⟩
  have e6 : IntKind.i64.wrap ((i : Int) + 1) = ((i + 1 : Nat) : Int) := by rw [i64_id (by omega) (by omega)]; simp
  (try simp (maxSteps := 1000000) (disch := first | assumption | (apply ν6; assumption)) only [vz, vu, vv, eqS, eF_, ↓c1_, ↓c2_, tabs, reduceCtorEq, ι5, ↓reduceIte, ν1, ν2, ν3, ν4, ν5, ι1, ι2, ι3, ι4, B43_0, hll, e6])
  refine ⟨fun h2 => ⟨by omega, h2, ?_⟩, fun h2 => ?_⟩
  · have hlt : i < l.length := by omega
    rw [nI_get hlt]
    refine ⟨fun h3 => ?_, fun h3 => ?_⟩
    · have : l.getD i 0 = v := by omega
      have hm : v ∈ l := by rw [← this]; simp [List.getD, hlt]
      simp [hm]
    · refine ⟨i + 1, ⟨by omega, fun j hj => ?_⟩, by omega, .refl _⟩
      rcases Nat.lt_succ_iff_lt_or_eq.1 hj with h | rfl
      · exact ha j h
      · omega
  · have : i = l.length := by omega
    subst this
    have hm : v ∉ l := fun hv => by
      obtain ⟨j, hj, e⟩ := List.mem_iff_getElem.1 hv
      exact ha j hj (by rw [List.getD, List.getElem?_eq_getElem hj]; exact e)
    simp [hm]
def keptF (f : Nat → Int) (l : List Nat) : List Int := (l.filter fun v => decide (0 ≤ f v)).map f
theorem keptF_succ (f : Nat → Int) {l : List Nat} {k : Nat} (h : k < l.length) : keptF f (l.take (k + 1)) = if 0 ≤ f (l.getD k 0) then keptF f (l.take k) ++ [f (l.getD k 0)] else keptF f (l.take k) := by
  unfold keptF
  have e : l.take (k + 1) = l.take k ++ [l.getD k 0] := by rw [List.take_succ_eq_append_getElem h]; simp [List.getD, h]
  rw [e, List.filter_append, List.map_append]
  generalize l.getD k 0 = v
  by_cases hc : 0 ≤ f v
  · rw [if_pos hc]; simp [hc]
  · rw [if_neg hc]; simp [hc]
theorem keptF_len (f : Nat → Int) (l : List Nat) : (keptF f l).length ≤ l.length := by
  rw [keptF, List.length_map]; exact List.length_filter_le ..
theorem rz_val {H G : Heap} {Ts : List Th} {z : Nat} {x : AV} {l : List Int} {D : List Nat} (st : St H Ts G) (i : Nat) (hi : Ts[i]? = some (riT z x l D)) : wkK (fun r H' => r = Is l ∧ H' = H) x G := by
  obtain ⟨x', hx, lx⟩ := (st.get i hi : RZ (LPl eI) 1 z x _ G D).row
  obtain ⟨q, c, E, rfl, hq, ll, rfl⟩ := lx
  obtain ⟨rfl, rfl⟩ := LL.plain' ll
  have := fin_own (sz := 1) (es := l.map eI) (q := q) (H := H) (H' := G) (K := fun r H' => r = Is l ∧ H' = H) (by omega) (szI _) (st.fr _ (List.mem_of_getElem? hi) q (by simp [rzT])) (fun y b hy => by
    by_cases e : y = q
    · subst e; rw [Heap.set_same] at hy; rw [← hy]; exact hq
    · rw [Heap.set_other e] at hy; exact st.le y b hy) ⟨rfl, rfl⟩
  obtain ⟨v, H2, w, k⟩ := this
  refine ⟨v, H2, .trans (.val hx) ?_, k⟩
  simpa only [Go.Sep.own, List.length_map] using w
theorem l12Kept_live (f : Nat → Int) (n : Nat) (l : List Nat) (hl : l.length ≤ 100000) (hb : ∀ v ∈ l, v < n) {q6 : Nat} {H : Heap} (hq6 : H q6 = some (cP fI (mpI f n))) {K : AV → Heap → Prop} (hK : K (Is (keptF f l)) H) : CallT Try.prog 44 [Is (nI l), .sl q6 1 0 n] H K := by
  refine CallT.fin ?_
  refine CallT.ghost W44_hb fun z hz => ?_
  have st := lent (LPl.local eI) (LPl.has eI) 1 ((St.nil H).cell hz []) 0 rfl
  generalize H.set z [] = G at st ⊢
  clear hz
  refine W44_ok ?_; simp (maxSteps := 1000000) (disch := first | assumption | (apply ν6; assumption)) only [W44, vz, vu, vv, eqS, eF_, ↓c1_, ↓c2_, tabs, reduceCtorEq, ι5, ↓reduceIte, ν1, ν2, ν3, ν4, ν5, ι1, ι2, ι3, ι4]
  have hll := nI_len l
  have hml := mpI_len f n
  (try simp (maxSteps := 1000000) (disch := first | assumption | (apply ν6; assumption)) only [vz, vu, vv, eqS, eF_, ↓c1_, ↓c2_, tabs, reduceCtorEq, ι5, ↓reduceIte, ν1, ν2, ν3, ν4, ν5, ι1, ι2, ι3, ι4, hll])
  refine L44_0_rule ((0 : Nat), (.p .nil : AV), [z], G) (fun s => s.2.1) (fun s => I s.1) (fun s => s.2.2.2)
    (fun s => s.1 ≤ l.length ∧ St H [riT z s.2.1 (keptF f (l.take s.1)) s.2.2.1] s.2.2.2) (fun s => l.length - s.1)
    ⟨⟨by simp, by simpa [keptF] using st⟩, .refl _, .refl _, Heap.le_refl _⟩ ?_
  clear st G
  rintro ⟨i, x, D, G⟩ ⟨hi, st⟩
  dsimp only at hi st
  have e5 : IntKind.i64.wrap ((i : Int) + 1) = ((i + 1 : Nat) : Int) := by rw [i64_id (by omega) (by omega)]; simp
  have hkl := keptF_len f (l.take i)
  rw [List.length_take] at hkl
  have gq6 := st.le _ _ hq6
  (try simp (maxSteps := 1000000) (disch := first | assumption | (apply ν6; assumption)) only [vz, vu, vv, eqS, eF_, ↓c1_, ↓c2_, tabs, reduceCtorEq, ι5, ↓reduceIte, ν1, ν2, ν3, ν4, ν5, ι1, ι2, ι3, ι4, B44_0, hll, hml, e5])
  refine ⟨fun h1 => ⟨by omega, h1, ?_⟩, fun h1 => ?_⟩
  · have hlt : i < l.length := by omega
    have hs := keptF_succ f hlt
    have hv := hb (l.getD i 0) (by simp [List.getD, hlt])
    rw [nI_get hlt]
    generalize l.getD i 0 = v at hs hv ⊢
    have hrd := cI_rd (l := mpI f n) (i := v) (by omega)
    rw [mpI_get f hv] at hrd
    have hcl : (cP fI (mpI f n)).length = n := by simp [cP, hml]
    (try simp (maxSteps := 1000000) (disch := first | assumption | (apply ν6; assumption)) only [vz, vu, vv, eqS, eF_, ↓c1_, ↓c2_, tabs, reduceCtorEq, ι5, ↓reduceIte, ν1, ν2, ν3, ν4, ν5, ι1, ι2, ι3, ι4, load_at gq6, hcl, hrd, Int.toNat_natCast])
    refine ⟨by omega, by omega, by omega, fun h2 => ⟨by omega, by omega, by omega, ?_⟩, fun h2 => ?_⟩
    · rw [if_pos h2] at hs
      first | refine ⟨by omega, by omega, ?_⟩ | skip
      refine lit1 tab_22 rfl tab_3 ⟨rfl, rfl⟩ ?_
      refine rz_appI (ys := [f v]) st 0 rfl (by simp only [List.length_singleton]; omega) fun q' G' hq' st => ?_
      rw [← hs] at st ⊢
      (try simp (maxSteps := 1000000) (disch := first | assumption | (apply ν6; assumption)) only [vz, vu, vv, eqS, eF_, ↓c1_, ↓c2_, tabs, reduceCtorEq, ι5, ↓reduceIte, ν1, ν2, ν3, ν4, ν5, ι1, ι2, ι3, ι4, e5])
      exact ⟨(i + 1, _, [q'], _), ⟨by simp only; omega, st⟩, by simp only; omega, .refl _, .refl _, Heap.le_refl _⟩
    · rw [if_neg h2] at hs
      exact ⟨(i + 1, x, D, G), ⟨by simp only; omega, by rw [hs]; exact st⟩, by simp only; omega, .refl _, .refl _, Heap.le_refl _⟩
  · have : i = l.length := by omega
    subst this
    rw [List.take_length] at st
    obtain ⟨v, H2, w, rfl, rfl⟩ := rz_val st 0 rfl
    exact ⟨_, _, w, hK⟩
theorem TrimAuto1_row (f : Nat → Int) (n : Nat) (l : List Nat) (hl : l.length ≤ 100000) (hb : ∀ v ∈ l, v < n) {H G : Heap} {Ts : List Th} (st : St H Ts G) (i6 j6 : Nat) {r6 q6 : Nat} (h6 : Ts[i6]? = some (cellT r6 [rowP q6 (mpI f n)])) (hq6 : Ts[j6]? = some (cellT q6 (cP fI (mpI f n)))) {K : AV → Heap → Prop}
    (h : ∀ q G', St H (cellT q (cP fI (keptF f l)) :: Ts) G' → K (rowP q (keptF f l)) G') : CallT Try.prog 48 [Is (nI l), .ptr r6 0] G K := by
  refine CallT.fin ?_
  refine W48_ok ?_; simp (maxSteps := 1000000) (disch := first | assumption | (apply ν6; assumption)) only [W48, vz, vu, vv, eqS, eF_, ↓c1_, ↓c2_, tabs, reduceCtorEq, ι5, ↓reduceIte, ν1, ν2, ν3, ν4, ν5, ι1, ι2, ι3, ι4]
  refine lit0I fun q hq => ?_
  replace st := st.cell hq (cP fI [])
  generalize G.set q (cP fI []) = G1 at st ⊢
  clear hq
  have hll := nI_len l
  have hml := mpI_len f n
  (try simp (maxSteps := 1000000) (disch := first | assumption | (apply ν6; assumption)) only [vz, vu, vv, eqS, eF_, ↓c1_, ↓c2_, tabs, reduceCtorEq, ι5, ↓reduceIte, ν1, ν2, ν3, ν4, ν5, ι1, ι2, ι3, ι4, hll])
  refine L48_0_rule ((0 : Nat), q, G1) (fun s => rowP s.2.1 (keptF f (l.take s.1))) (fun s => I s.1) (fun s => s.2.2)
    (fun s => s.1 ≤ l.length ∧ St H (cellT s.2.1 (cP fI (keptF f (l.take s.1))) :: Ts) s.2.2) (fun s => l.length - s.1)
    ⟨⟨by simp, by simpa [keptF] using st⟩, by simp [keptF]; exact .refl _, .refl _, Heap.le_refl _⟩ ?_
  clear st G1
  rintro ⟨i, q, G⟩ ⟨hi, st⟩
  dsimp only at hi st
  have e5 : IntKind.i64.wrap ((i : Int) + 1) = ((i + 1 : Nat) : Int) := by rw [i64_id (by omega) (by omega)]; simp
  have hkl := keptF_len f (l.take i)
  rw [List.length_take] at hkl
  have g6 : G r6 = some [rowP q6 (mpI f n)] := st.get (i6 + 1) h6
  have gq6 : G q6 = some (cP fI (mpI f n)) := st.get (j6 + 1) hq6
  (try simp (maxSteps := 1000000) (disch := first | assumption | (apply ν6; assumption)) only [vz, vu, vv, eqS, eF_, ↓c1_, ↓c2_, tabs, reduceCtorEq, ι5, ↓reduceIte, ν1, ν2, ν3, ν4, ν5, ι1, ι2, ι3, ι4, B48_0, hll, hml, e5])
  refine ⟨fun h1 => ⟨by omega, h1, ?_⟩, fun h1 => ?_⟩
  · have hlt : i < l.length := by omega
    have hs := keptF_succ f hlt
    have hv := hb (l.getD i 0) (by simp [List.getD, hlt])
    rw [nI_get hlt]
    generalize l.getD i 0 = v at hs hv ⊢
    have hrd := cI_rd (l := mpI f n) (i := v) (by omega)
    rw [mpI_get f hv] at hrd
    have hcl : (cP fI (mpI f n)).length = n := by simp [cP, hml]
    (try simp (maxSteps := 1000000) (disch := first | assumption | (apply ν6; assumption)) only [vz, vu, vv, eqS, eF_, ↓c1_, ↓c2_, tabs, reduceCtorEq, ι5, ↓reduceIte, ν1, ν2, ν3, ν4, ν5, ι1, ι2, ι3, ι4, load_at g6, load_at gq6, hcl, hml, hrd, Int.toNat_natCast])
    refine ⟨by omega, by omega, by omega, fun h2 => ⟨by omega, by omega, by omega, ?_⟩, fun h2 => ?_⟩
    · rw [if_pos h2] at hs
      refine lit1 tab_22 rfl tab_3 ⟨rfl, rfl⟩ ?_
      refine st_appI (ys := [f v]) st 0 rfl (by simp only [List.length_singleton]; omega) fun q' G' hq' st => ?_
      rw [← hs] at st ⊢
      (try simp (maxSteps := 1000000) (disch := first | assumption | (apply ν6; assumption)) only [vz, vu, vv, eqS, eF_, ↓c1_, ↓c2_, tabs, reduceCtorEq, ι5, ↓reduceIte, ν1, ν2, ν3, ν4, ν5, ι1, ι2, ι3, ι4, e5])
      exact ⟨(i + 1, q', _), ⟨by simp only; omega, st⟩, by simp only; omega, .refl _, .refl _, Heap.le_refl _⟩
    · rw [if_neg h2] at hs
      exact ⟨(i + 1, q, G), ⟨by simp only; omega, by rw [hs]; exact st⟩, by simp only; omega, by rw [hs]; exact .refl _, .refl _, Heap.le_refl _⟩
  · have : i = l.length := by omega
    subst this
    rw [List.take_length] at st ⊢
    exact wkK.keep (h _ _ st)
theorem marked_spec (p : Nat → Bool) (n : Nat) (hn : n ≤ 100000) : Pu Try.prog 80 [Bls (mpB p n)] (Is (nI (gwB n p))) := by
  refine ⟨fun H => CallT.fin ?_⟩
  refine W80_ok ?_; simp (maxSteps := 1000000) (disch := first | assumption | (apply ν6; assumption)) only [W80, vz, vu, vv, eqS, eF_, ↓c1_, ↓c2_, tabs, reduceCtorEq, ι5, ↓reduceIte, ν1, ν2, ν3, ν4, ν5, ι1, ι2, ι3, ι4]
  refine lit0I fun q hq => ?_
  have st := (St.nil H).cell hq (cP fI [])
  generalize H.set q (cP fI []) = G1 at st ⊢
  clear hq
  have hml := mpB_len p n
  (try simp (maxSteps := 1000000) (disch := first | assumption | (apply ν6; assumption)) only [vz, vu, vv, eqS, eF_, ↓c1_, ↓c2_, tabs, reduceCtorEq, ι5, ↓reduceIte, ν1, ν2, ν3, ν4, ν5, ι1, ι2, ι3, ι4, hml])
  refine L80_0_rule ((0 : Nat), q, G1) (fun s => rowP s.2.1 (nI (gwB s.1 p))) (fun s => I s.1) (fun s => s.2.2)
    (fun s => s.1 ≤ n ∧ St H [cellT s.2.1 (cP fI (nI (gwB s.1 p)))] s.2.2) (fun s => n - s.1)
    ⟨⟨by simp, by simpa [gwB, nI] using st⟩, by simp [gwB, nI]; exact .refl _, .refl _, Heap.le_refl _⟩ ?_
  clear st G1
  rintro ⟨i, q, G⟩ ⟨hi, st⟩
  dsimp only at hi st
  have e5 : IntKind.i64.wrap ((i : Int) + 1) = ((i + 1 : Nat) : Int) := by rw [i64_id (by omega) (by omega)]; simp
  have hs := gwB_succ i p
  have hgl := gwB_len i p
  have hnl := nI_len (gwB i p)
  (try simp (maxSteps := 1000000) (disch := first | assumption | (apply ν6; assumption)) only [vz, vu, vv, eqS, eF_, ↓c1_, ↓c2_, tabs, reduceCtorEq, ι5, ↓reduceIte, ν1, ν2, ν3, ν4, ν5, ι1, ι2, ι3, ι4, B80_0, hml, e5])
  refine ⟨fun h1 => ⟨by omega, h1, ?_⟩, fun h1 => ?_⟩
  · have hg := mpB_get p (n := n) (v := i) (by omega)
    rw [hg]
    cases hp : p i
    · simp only [hp, Bool.false_eq_true, if_false] at hs
      (try simp (maxSteps := 1000000) (disch := first | assumption | (apply ν6; assumption)) only [vz, vu, vv, eqS, eF_, ↓c1_, ↓c2_, tabs, reduceCtorEq, ι5, ↓reduceIte, ν1, ν2, ν3, ν4, ν5, ι1, ι2, ι3, ι4])
      exact ⟨(i + 1, q, G), ⟨by simp only; omega, by rw [hs]; exact st⟩, by simp only; omega, by rw [hs]; exact .refl _, .refl _, Heap.le_refl _⟩
    · simp only [hp, if_true] at hs
      (try simp (maxSteps := 1000000) (disch := first | assumption | (apply ν6; assumption)) only [vz, vu, vv, eqS, eF_, ↓c1_, ↓c2_, tabs, reduceCtorEq, ι5, ↓reduceIte, ν1, ν2, ν3, ν4, ν5, ι1, ι2, ι3, ι4])
      refine lit1 tab_22 rfl tab_3 ⟨rfl, rfl⟩ ?_
      refine st_appI (ys := [(i : Int)]) st 0 rfl (by simp only [List.length_singleton]; omega) fun q' G' hq' st => ?_
      have e : nI (gwB i p) ++ [(i : Int)] = nI (gwB (i + 1) p) := by rw [hs, nI_app]; rfl
      rw [e] at st ⊢
      (try simp (maxSteps := 1000000) (disch := first | assumption | (apply ν6; assumption)) only [vz, vu, vv, eqS, eF_, ↓c1_, ↓c2_, tabs, reduceCtorEq, ι5, ↓reduceIte, ν1, ν2, ν3, ν4, ν5, ι1, ι2, ι3, ι4, e5])
      exact ⟨(i + 1, q', _), ⟨by simp only; omega, st⟩, by simp only; omega, .refl _, .refl _, Heap.le_refl _⟩
  · have : i = n := by omega
    subst this
    exact st_int st 0 rfl
theorem reachedFrom_spec (g : List (List Nat)) (hg : GrB g) (some : List Nat) (hsm : ∀ v ∈ some, v < g.length) (hsl : some.length ≤ 100000) : Pu Try.prog 78 [Ls (gI g), Is (nI some)] (Is (nI (gwB g.length fun v => decide (0 ≤ farF (rwF g) g.length some v)))) := by
  refine ⟨fun H => CallT.fin ?_⟩
  have hn := hg.n
  refine W78_ok ?_; simp (maxSteps := 1000000) (disch := first | assumption | (apply ν6; assumption)) only [W78, vz, vu, vv, eqS, eF_, ↓c1_, ↓c2_, tabs, reduceCtorEq, ι5, ↓reduceIte, ν1, ν2, ν3, ν4, ν5, ι1, ι2, ι3, ι4]
  refine lit0I fun q hq => ?_
  have st := (St.nil H).cell hq (cP fI [])
  generalize H.set q (cP fI []) = G1 at st ⊢
  clear hq
  refine Pu.use (sp_stepsFrom g hg some hsm hsl) ?_
  generalize farF (rwF g) g.length some = F
  generalize g.length = n at hn ⊢
  have hml := mpI_len F n
  (try simp (maxSteps := 1000000) (disch := first | assumption | (apply ν6; assumption)) only [vz, vu, vv, eqS, eF_, ↓c1_, ↓c2_, tabs, reduceCtorEq, ι5, ↓reduceIte, ν1, ν2, ν3, ν4, ν5, ι1, ι2, ι3, ι4, hml])
  refine L78_0_rule ((0 : Nat), q, G1) (fun s => rowP s.2.1 (nI (gwB s.1 fun v => decide (0 ≤ F v)))) (fun s => I s.1) (fun s => s.2.2)
    (fun s => s.1 ≤ n ∧ St H [cellT s.2.1 (cP fI (nI (gwB s.1 fun v => decide (0 ≤ F v))))] s.2.2) (fun s => n - s.1)
    ⟨⟨by simp, by simpa [gwB, nI] using st⟩, by simp [gwB, nI]; exact .refl _, .refl _, Heap.le_refl _⟩ ?_
  clear st G1
  rintro ⟨i, q, G⟩ ⟨hi, st⟩
  dsimp only at hi st
  have e5 : IntKind.i64.wrap ((i : Int) + 1) = ((i + 1 : Nat) : Int) := by rw [i64_id (by omega) (by omega)]; simp
  have hs := gwB_succ i fun v => decide (0 ≤ F v)
  have hgl := gwB_len i fun v => decide (0 ≤ F v)
  have hnl := nI_len (gwB i fun v => decide (0 ≤ F v))
  (try simp (maxSteps := 1000000) (disch := first | assumption | (apply ν6; assumption)) only [vz, vu, vv, eqS, eF_, ↓c1_, ↓c2_, tabs, reduceCtorEq, ι5, ↓reduceIte, ν1, ν2, ν3, ν4, ν5, ι1, ι2, ι3, ι4, B78_0, hml, e5])
  refine ⟨fun h1 => ⟨by omega, h1, ?_⟩, fun h1 => ?_⟩
  · have hg := mpI_get F (n := n) (v := i) (by omega)
    rw [hg]
    refine ⟨fun h2 => ?_, fun h2 => ?_⟩
    · simp only [h2, decide_true, if_true] at hs
      refine lit1 tab_22 rfl tab_3 ⟨rfl, rfl⟩ ?_
      refine st_appI (ys := [(i : Int)]) st 0 rfl (by simp only [List.length_singleton]; omega) fun q' G' hq' st => ?_
      have e : nI (gwB i fun v => decide (0 ≤ F v)) ++ [(i : Int)] = nI (gwB (i + 1) fun v => decide (0 ≤ F v)) := by rw [hs, nI_app]; rfl
      rw [e] at st ⊢
      (try simp (maxSteps := 1000000) (disch := first | assumption | (apply ν6; assumption)) only [vz, vu, vv, eqS, eF_, ↓c1_, ↓c2_, tabs, reduceCtorEq, ι5, ↓reduceIte, ν1, ν2, ν3, ν4, ν5, ι1, ι2, ι3, ι4, e5])
      exact ⟨(i + 1, q', _), ⟨by simp only; omega, st⟩, by simp only; omega, .refl _, .refl _, Heap.le_refl _⟩
    · simp only [h2, decide_false, Bool.false_eq_true, if_false] at hs
      exact ⟨(i + 1, q, G), ⟨by simp only; omega, by rw [hs]; exact st⟩, by simp only; omega, by rw [hs]; exact .refl _, .refl _, Heap.le_refl _⟩
  · have : i = n := by omega
    subst this
    exact st_int st 0 rfl
noncomputable def fpF (g : List (List Nat)) (goals : List (List Nat)) : List Nat := gwB g.length fun v => decide (0 ≤ farF (rwF (turnG g)) g.length (gwB g.length (fairF (rwF g) goals)) v)
theorem fairPoints_spec (g : List (List Nat)) (hg : GrB g) (goals : List (List Nat)) (hgo : GoB goals g.length) : Pu Try.prog 47 [Ls (gI g), Ls (gI goals)] (Is (nI (fpF g goals))) := by
  refine Pu.of fun H => ?_
  have hn := hg.n
  have htl := turnG_len g
  refine W47_ok ?_; simp (maxSteps := 1000000) (disch := first | assumption | (apply ν6; assumption)) only [W47, vz, vu, vv, eqS, eF_, ↓c1_, ↓c2_, tabs, reduceCtorEq, ι5, ↓reduceIte, ν1, ν2, ν3, ν4, ν5, ι1, ι2, ι3, ι4]
  refine Pu.use (sp_impl.turned g hg) ?_
  refine Pu.use (fairV_spec g hg goals hgo) ?_
  refine Pu.use (marked_spec _ _ (by omega)) ?_
  have hl := gwB_len g.length (fairF (rwF g) goals)
  refine Pu.use (reachedFrom_spec (turnG g) (turnG_B hg) _ (fun v hv => by rw [htl]; exact List.mem_range.1 (List.mem_filter.1 hv).1) (by omega)) ?_
  (try simp (maxSteps := 1000000) (disch := first | assumption | (apply ν6; assumption)) only [vz, vu, vv, eqS, eF_, ↓c1_, ↓c2_, tabs, reduceCtorEq, ι5, ↓reduceIte, ν1, ν2, ν3, ν4, ν5, ι1, ι2, ι3, ι4])
  rw [fpF, htl]
end Go.Proofs.Ytolffbcnbcjeaaa
namespace Go.Proofs.Ytolffbcnbcjeaaa
open Go Go.Sep Go.Pt
attribute [local irreducible] CallT
theorem reach_gen (g : List (List Nat)) (hg : GrB g) (some : List Nat) (hsm : ∀ v ∈ some, v < g.length) (hsl : some.length ≤ 100000) : Pu Try.prog 40 [Ls (gI g), Is (nI some)] (Is (nI (gwB g.length fun v => decide (0 ≤ farF (rwF g) g.length some v)))) := by
  refine ⟨fun H => CallT.fin ?_⟩
  have hn := hg.n
  refine CallT.ghost W40_hb fun z hz => ?_
  have st := lent (LPl.local eI) (LPl.has eI) 1 ((St.nil H).cell hz []) 0 rfl
  generalize H.set z [] = G at st ⊢
  clear hz
  refine W40_ok ?_; simp (maxSteps := 1000000) (disch := first | assumption | (apply ν6; assumption)) only [W40, vz, vu, vv, eqS, eF_, ↓c1_, ↓c2_, tabs, reduceCtorEq, ι5, ↓reduceIte, ν1, ν2, ν3, ν4, ν5, ι1, ι2, ι3, ι4]
  refine Pu.use (sp_l11Far g hg some hsm hsl) ?_
  generalize farF (rwF g) g.length some = F
  generalize g.length = n at hn ⊢
  have hml := mpI_len F n
  (try simp (maxSteps := 1000000) (disch := first | assumption | (apply ν6; assumption)) only [vz, vu, vv, eqS, eF_, ↓c1_, ↓c2_, tabs, reduceCtorEq, ι5, ↓reduceIte, ν1, ν2, ν3, ν4, ν5, ι1, ι2, ι3, ι4, hml])
  refine L40_0_rule ((0 : Nat), (.p .nil : AV), [z], G) (fun s => s.2.1) (fun s => I s.1) (fun s => s.2.2.2)
    (fun s => s.1 ≤ n ∧ St H [riT z s.2.1 (nI (gwB s.1 fun v => decide (0 ≤ F v))) s.2.2.1] s.2.2.2) (fun s => n - s.1)
    ⟨⟨by simp, st⟩, .refl _, .refl _, Heap.le_refl _⟩ ?_
  clear st G
  rintro ⟨i, x, D, G⟩ ⟨hi, st⟩
  dsimp only at hi st
  have e5 : IntKind.i64.wrap ((i : Int) + 1) = ((i + 1 : Nat) : Int) := by rw [i64_id (by omega) (by omega)]; simp
  have hs := gwB_succ i fun v => decide (0 ≤ F v)
  have hgl := gwB_len i fun v => decide (0 ≤ F v)
  have hnl := nI_len (gwB i fun v => decide (0 ≤ F v))
  (try simp (maxSteps := 1000000) (disch := first | assumption | (apply ν6; assumption)) only [vz, vu, vv, eqS, eF_, ↓c1_, ↓c2_, tabs, reduceCtorEq, ι5, ↓reduceIte, ν1, ν2, ν3, ν4, ν5, ι1, ι2, ι3, ι4, B40_0, hml, e5])
  refine ⟨fun h1 => ⟨by omega, h1, ?_⟩, fun h1 => ?_⟩
  · have hg := mpI_get F (n := n) (v := i) (by omega)
    rw [hg]
    refine ⟨fun h2 => ?_, fun h2 => ?_⟩
    · simp only [h2, decide_true, if_true] at hs
      refine lit1 tab_22 rfl tab_3 ⟨rfl, rfl⟩ ?_
      refine rz_appI (ys := [(i : Int)]) st 0 rfl (by simp only [List.length_singleton]; omega) fun q' G' hq' st => ?_
      have e : nI (gwB i fun v => decide (0 ≤ F v)) ++ [(i : Int)] = nI (gwB (i + 1) fun v => decide (0 ≤ F v)) := by rw [hs, nI_app]; rfl
      rw [e] at st ⊢
      (try simp (maxSteps := 1000000) (disch := first | assumption | (apply ν6; assumption)) only [vz, vu, vv, eqS, eF_, ↓c1_, ↓c2_, tabs, reduceCtorEq, ι5, ↓reduceIte, ν1, ν2, ν3, ν4, ν5, ι1, ι2, ι3, ι4, e5])
      exact ⟨(i + 1, _, [q'], _), ⟨by simp only; omega, st⟩, by simp only; omega, .refl _, .refl _, Heap.le_refl _⟩
    · simp only [h2, decide_false, Bool.false_eq_true, if_false] at hs
      exact ⟨(i + 1, x, D, G), ⟨by simp only; omega, by rw [hs]; exact st⟩, by simp only; omega, .refl _, .refl _, Heap.le_refl _⟩
  · have : i = n := by omega
    subst this
    exact rz_val st 0 rfl
def nmF (L : List Nat) (v : Nat) : Int := if v ∈ L then (L.idxOf v : Int) else -1
theorem nmF_nil : nmF [] = fun _ => -1 := by funext v; simp [nmF]
theorem nmF_snoc {L : List Nat} {w : Nat} (h : w ∉ L) : nmF (L ++ [w]) = updI (nmF L) w L.length := by
  funext v
  unfold nmF updI
  by_cases e : v = w
  · subst e
    simp [List.idxOf_append, h]
  · by_cases hv : v ∈ L
    · simp [e, hv, List.idxOf_append]
    · simp [e, hv]
theorem mpI_congr {f g : Nat → Int} {n : Nat} (h : ∀ v, v < n → f v = g v) : mpI f n = mpI g n := by
  unfold mpI
  exact List.map_congr_left fun v hv => h v (List.mem_range.1 hv)
noncomputable def kp1 (a : Au) (v : Nat) : Bool := decide (0 ≤ farF (rwF (turnG (gA a))) (gA a).length (gwB (gA a).length (fairF (rwF (gA a)) (goN a.goals))) v)
noncomputable def kp2 (a : Au) (v : Nat) : Bool := decide (0 ≤ farF (rwF (gA a)) (gA a).length (nN a.first) v)
noncomputable def kpL (a : Au) (k : Nat) : List Nat := gwB k fun v => kp1 a v && kp2 a v
theorem gwB_lt {n : Nat} {p : Nat → Bool} {v : Nat} (h : v ∈ gwB n p) : v < n := List.mem_range.1 (List.mem_filter.1 h).1
theorem gwB_mem {n : Nat} {p : Nat → Bool} {v : Nat} (h : v < n) : decide (v ∈ gwB n p) = p v := by
  cases hp : p v <;> simp [gwB, h, hp]
def keE (f : Nat → Int) (es : List Ed) : List Ed := (es.filter fun e => decide (0 ≤ f e.src.toNat) && decide (0 ≤ f e.dst.toNat)).map fun e => ⟨f e.src.toNat, e.lt, f e.dst.toNat⟩
theorem keE_succ (f : Nat → Int) {es : List Ed} {k : Nat} (h : k < es.length) : keE f (es.take (k + 1)) = if 0 ≤ f (es.getD k default).src.toNat ∧ 0 ≤ f (es.getD k default).dst.toNat then keE f (es.take k) ++ [⟨f (es.getD k default).src.toNat, (es.getD k default).lt, f (es.getD k default).dst.toNat⟩] else keE f (es.take k) := by
  unfold keE
  rw [take_succ_snoc h, List.filter_append, List.map_append]
  generalize es.getD k default = e
  by_cases hc : 0 ≤ f e.src.toNat ∧ 0 ≤ f e.dst.toNat
  · rw [if_pos hc]; simp [hc.1, hc.2]
  · rw [if_neg hc]
    have : (decide (0 ≤ f e.src.toNat) && decide (0 ≤ f e.dst.toNat)) = false := by
      rw [Bool.eq_false_iff]; intro h2; simp only [Bool.and_eq_true, decide_eq_true_eq] at h2; exact hc h2
    simp [this]
theorem keE_len (f : Nat → Int) (es : List Ed) : (keE f es).length ≤ es.length := by
  rw [keE, List.length_map]; exact List.length_filter_le ..
def keG (f : Nat → Int) (gs : List (List Int)) : List (List Int) := gs.map fun l => keptF f (nN l)
noncomputable def trT (a : Au) : Au := ⟨if (kpL a (gA a).length).length = 0 then 1 else ((kpL a (gA a).length).length : Int), keptF (nmF (kpL a (gA a).length)) (nN a.first), keE (nmF (kpL a (gA a).length)) a.edges, keG (nmF (kpL a (gA a).length)) a.goals⟩
noncomputable def trR (a : Au) : Au × Bool := if goodA a then (trT a, true) else (zeroA, false)
end Go.Proofs.Ytolffbcnbcjeaaa
