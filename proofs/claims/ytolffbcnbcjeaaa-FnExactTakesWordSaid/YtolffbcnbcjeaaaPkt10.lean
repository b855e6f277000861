/- The row of the law that TakesWord answers as the reference does: whatever the arguments, it answers true, and what it is told reads as it did. -/
import Derived.Test.YtolffbcnbcjeaaaPkt9
import Derived.Test.YtolffbcnbcjeaaaRows
import Derived.WalkKit
import Derived.ProofKit
import Derived.OpenShut
set_option linter.unusedVariables false
set_option linter.unusedSimpArgs false
open Nat renaming reduceAdd → ν1, reduceLeDiff → ν2, reduceLT → ν3, reduceMul → ν4, reduceSub → ν5
open Int renaming reduceToNat → ι1, reduceSub → ι2, reduceAdd → ι3, reduceNeg → ι4
open Array renaming toList → ι5
open Ne renaming symm → ν6
open List renaming forall_mem_cons → ν7
namespace Go.Proofs.Ytolffbcnbcjeaaa
open Go Go.Sep Go.Pt
attribute [local irreducible] CallT
theorem lit0W {G : Heap} {K : AV → Heap → Prop} (h : ∀ q, G q = none → K (.sl q 1 0 0) (G.set q [])) : buildSliceV tab 24 0 [] G (wkK K) := by
  simp only [buildSliceV, tab_24, tab_22]
  refine ⟨by omega, ?_⟩
  simp only [fillV, zerosA, List.replicate_zero, List.flatten_nil]
  exact fun r hr => wkK.keep (h r hr)
theorem TakesWord_impl (a : Au) (sa : smAu a) (s l : List Int) (h1 : s.length ≤ 1048576) (h2 : l.length ≤ 1048576) : Pu Try.prog 14 [aAu a, aL2 s l] (.tup [B (twR a s l).1, B (twR a s l).2]) := by
  refine Pu.of fun H => ?_
  refine W14_ok ?_; simp (maxSteps := 1000000) (disch := first | assumption | (apply ν6; assumption)) only [W14, vz, vu, vv, eqS, eF_, ↓c1_, ↓c2_, tabs, reduceCtorEq, ι5, ↓reduceIte, ν1, ν2, ν3, ν4, ν5, ι1, ι2, ι3, ι4, makeSliceV]
  intro r hr r3 n3 hr3
  have st := ((St.nil H).cell hr [I a.states, Is a.first, Es a.edges, Ls a.goals]).cell (r := r3) (by rw [Heap.set_other n3]; exact hr3) [Is s, Is l]
  generalize (H.set r [I a.states, Is a.first, Es a.edges, Ls a.goals]).set r3 [Is s, Is l] = G1 at st ⊢
  clear hr hr3 n3
  (try simp (maxSteps := 1000000) (disch := first | assumption | (apply ν6; assumption)) only [vz, vu, vv, eqS, eF_, ↓c1_, ↓c2_, tabs, reduceCtorEq, ι5, ↓reduceIte, ν1, ν2, ν3, ν4, ν5, ι1, ι2, ι3, ι4, load_at (st.get 1 rfl)])
  refine Pu.use (GoodAuto_impl a sa) ?_
  cases ga : goodA a
  · (try simp (maxSteps := 1000000) (disch := first | assumption | (apply ν6; assumption)) only [vz, vu, vv, eqS, eF_, ↓c1_, ↓c2_, tabs, reduceCtorEq, ι5, ↓reduceIte, ν1, ν2, ν3, ν4, ν5, ι1, ι2, ι3, ι4])
    first | exact ⟨by simp [twR, ga], st.le⟩ | (simp [twR, ga]; exact st.le)
  (try simp (maxSteps := 1000000) (disch := first | assumption | (apply ν6; assumption)) only [vz, vu, vv, eqS, eF_, ↓c1_, ↓c2_, tabs, reduceCtorEq, ι5, ↓reduceIte, ν1, ν2, ν3, ν4, ν5, ι1, ι2, ι3, ι4, load_at (st.get 0 rfl)])
  refine Pu.use (GoodLassoI s l (by omega) (by omega)) ?_
  cases gl : goodL s l
  · (try simp (maxSteps := 1000000) (disch := first | assumption | (apply ν6; assumption)) only [vz, vu, vv, eqS, eF_, ↓c1_, ↓c2_, tabs, reduceCtorEq, ι5, ↓reduceIte, ν1, ν2, ν3, ν4, ν5, ι1, ι2, ι3, ι4])
    first | exact ⟨by simp [twR, ga, gl], st.le⟩ | (simp [twR, ga, gl]; exact st.le)
  obtain ⟨hs, hl⟩ := goodL_f gl
  have fa := good_facts ga
  have sa := fa.st
  have hed := fa.ed
  have hgl := fa.gl
  have hpr := wpA_pr ga hs hl
  have e0 : IntKind.i64.wrap ((s.length : Int) + (l.length : Int)) = ((s.length + l.length : Nat) : Int) := by rw [i64_id (by omega) (by omega)]; simp
  have hm := mul_bd (a := ((s.length + l.length : Nat) : Int)) (A := 48) (b := a.states) (B := 96) (by omega) (by omega)
  have e1 : IntKind.i64.wrap (((s.length + l.length : Nat) : Int) * a.states) = ((s.length + l.length : Nat) : Int) * a.states := i64_id (by omega) (by omega)
  (try simp (maxSteps := 1000000) (disch := first | assumption | (apply ν6; assumption)) only [vz, vu, vv, eqS, eF_, ↓c1_, ↓c2_, tabs, reduceCtorEq, ι5, ↓reduceIte, ν1, ν2, ν3, ν4, ν5, ι1, ι2, ι3, ι4, load_at (st.get 0 rfl), load_at (st.get 1 rfl), e0, e1])
  refine ⟨by omega, by omega, by omega, by omega, fun q hq => ?_⟩
  replace st := tab_new (n := (((s.length + l.length : Nat) : Int) * a.states).toNat) st (q := q) hq
  clear hq
  rw [← outL_nil] at st
  generalize G1.set q (zerosA (((s.length + l.length : Nat) : Int) * a.states).toNat [.p .nil]) = G3 at st ⊢
  refine lit0W fun q8 hq8 => ?_
  replace st := st.push (rgT 0 (.sl q8 1 0 0) [] [q8]) (New.cell hq8) (.inr ⟨q8, [], [], rfl, Heap.set_same _ _ _, ⟨rfl, rfl⟩, rfl⟩)
  generalize G3.set q8 [] = G4 at st ⊢
  clear hq8 G3
  have hwE : ∀ t j, t ≤ s.length + l.length → (wpE a s l t ++ wpR a.states s l t (a.edges.take j)).length ≤ 200000 := fun t j ht => by
    have h1 := wpE_len a s l t
    have h2 := wpR_len a.states s l t (a.edges.take j)
    rw [List.length_take] at h2
    have h3 : t * a.edges.length ≤ 48 * 2400 := Nat.mul_le_mul (by omega) hed
    rw [List.length_append]; omega
  have hT0 : outL (((s.length + l.length : Nat) : Int) * a.states).toNat (wpE a s l (s.length + l.length)) = outR (wpA a s l) (wpA a s l).edges.length := by
    rw [outL, outR]
    show _ = (List.range (((s.length + l.length : Nat) : Int) * a.states).toNat).map (outN (wpA a s l) (wpA a s l).edges.length)
    congr 1
    funext t
    rw [outN, List.take_length]; rfl
  have hN : ∀ t : Nat, t < s.length + l.length → ∀ x : Int, 0 ≤ x ∧ x < a.states → 0 ≤ (t : Int) * a.states + x ∧ (t : Int) * a.states + x < ((s.length + l.length : Nat) : Int) * a.states := fun t ht x hx => lex_bd (by omega) hx
  obtain ⟨N, hNe⟩ : ∃ N, (((s.length + l.length : Nat) : Int) * a.states).toNat = N := ⟨_, rfl⟩
  rw [hNe] at st hT0 ⊢
  have hNi : (N : Int) = ((s.length + l.length : Nat) : Int) * a.states := by omega
  refine L14_0_rule ((0 : Nat), [q], G4) (fun z => I z.1) (fun z => z.2.2)
    (fun z => z.1 ≤ s.length + l.length ∧ St H [rgT 0 (.sl q8 1 0 0) [] [q8], tabT q (outL N (wpE a s l z.1)) z.2.1, cellT r3 [Is s, Is l], cellT r [I a.states, Is a.first, Es a.edges, Ls a.goals]] z.2.2) (fun z => s.length + l.length - z.1)
    ⟨⟨by simp, by simpa [wpE] using st⟩, .refl _, Heap.le_refl _⟩ ?_
  clear st G4
  rintro ⟨t, D, G⟩ ⟨ht, st⟩
  dsimp only at ht st
  have e5 : IntKind.i64.wrap ((t : Int) + 1) = ((t + 1 : Nat) : Int) := by rw [i64_id (by omega) (by omega)]; simp
  (try simp (maxSteps := 1000000) (disch := first | assumption | (apply ν6; assumption)) only [vz, vu, vv, eqS, eF_, ↓c1_, ↓c2_, tabs, reduceCtorEq, ι5, ↓reduceIte, ν1, ν2, ν3, ν4, ν5, ι1, ι2, ι3, ι4, B14_0, e5])
  refine ⟨fun h1 => ?_, fun h1 => ?_⟩
  · have hlt : t < s.length + l.length := by omega
    have hnx := nxW_lt (s := s) hl.1 hlt
    (try simp (maxSteps := 1000000) (disch := first | assumption | (apply ν6; assumption)) only [vz, vu, vv, eqS, eF_, ↓c1_, ↓c2_, tabs, reduceCtorEq, ι5, ↓reduceIte, ν1, ν2, ν3, ν4, ν5, ι1, ι2, ι3, ι4, load_at (st.get 3 rfl)])
    refine L14_1_rule ((0 : Nat), D, G) (fun z => I z.1) (fun z => z.2.2)
      (fun z => z.1 ≤ a.edges.length ∧ St H [rgT 0 (.sl q8 1 0 0) [] [q8], tabT q (outL N (wpE a s l t ++ wpR a.states s l t (a.edges.take z.1))) z.2.1, cellT r3 [Is s, Is l], cellT r [I a.states, Is a.first, Es a.edges, Ls a.goals]] z.2.2) (fun z => a.edges.length - z.1)
      ⟨⟨by simp, by simpa [wpR] using st⟩, .refl _, Heap.le_refl _⟩ ?_
    clear st D G
    rintro ⟨j, D, G⟩ ⟨hj, st⟩
    dsimp only at hj st
    have e6 : IntKind.i64.wrap ((j : Int) + 1) = ((j + 1 : Nat) : Int) := by rw [i64_id (by omega) (by omega)]; simp
    (try simp (maxSteps := 1000000) (disch := first | assumption | (apply ν6; assumption)) only [vz, vu, vv, eqS, eF_, ↓c1_, ↓c2_, tabs, reduceCtorEq, ι5, ↓reduceIte, ν1, ν2, ν3, ν4, ν5, ι1, ι2, ι3, ι4, B14_1, e6])
    refine ⟨fun h2 => ⟨by omega, h2, ?_⟩, fun h2 => ?_⟩
    · have hltj : j < a.edges.length := by omega
      have hdi := edIn_iff.1 (fa.ei _ (getD_all (p := fun x => x ∈ a.edges) (d := default) (fun _ h => h) hltj))
      have hs2 := wpR_succ a.states s l t a.edges hltj
      have hbj := hwE t j ht
      generalize a.edges.getD j default = d at hdi hs2 ⊢
      intro r12 hr12
      replace st := st.cell hr12 [I d.src, I d.lt, I d.dst]
      generalize G.set r12 [I d.src, I d.lt, I d.dst] = G5 at st ⊢
      clear hr12
      (try simp (maxSteps := 1000000) (disch := first | assumption | (apply ν6; assumption)) only [vz, vu, vv, eqS, eF_, ↓c1_, ↓c2_, tabs, reduceCtorEq, ι5, ↓reduceIte, ν1, ν2, ν3, ν4, ν5, ι1, ι2, ι3, ι4, load_at (st.get 0 rfl), load_at (st.get 3 rfl)])
      refine Pu.use (letterAt_spec s l hs hl hlt) ?_
      (try simp (maxSteps := 1000000) (disch := first | assumption | (apply ν6; assumption)) only [vz, vu, vv, eqS, eF_, ↓c1_, ↓c2_, tabs, reduceCtorEq, ι5, ↓reduceIte, ν1, ν2, ν3, ν4, ν5, ι1, ι2, ι3, ι4, load_at (st.get 0 rfl), load_at (st.get 3 rfl), load_at (st.get 4 rfl), e6])
      refine ⟨fun h3 => ?_, fun h3 => ?_⟩
      · rw [if_pos h3] at hs2
        have x1 := hN t hlt d.src (by omega)
        have x2 := hN (nxW s l t) hnx d.dst (by omega)
        have y1 : 0 ≤ (t : Int) * a.states := Int.mul_nonneg (by omega) (by omega)
        have y2 : 0 ≤ ((nxW s l t : Nat) : Int) * a.states := Int.mul_nonneg (by omega) (by omega)
        have w1 : IntKind.i64.wrap ((t : Int) * a.states) = (t : Int) * a.states := i64_id (by omega) (by omega)
        have w2 : IntKind.i64.wrap ((t : Int) * a.states + d.src) = (t : Int) * a.states + d.src := i64_id (by omega) (by omega)
        have w3 : IntKind.i64.wrap (((nxW s l t : Nat) : Int) * a.states) = ((nxW s l t : Nat) : Int) * a.states := i64_id (by omega) (by omega)
        obtain ⟨xd, hxd⟩ : ∃ xd, ((nxW s l t : Nat) : Int) * a.states + d.dst = xd := ⟨_, rfl⟩
        have w4 : IntKind.i64.wrap (((nxW s l t : Nat) : Int) * a.states + d.dst) = xd := by rw [← hxd]; exact i64_id (by omega) (by omega)
        obtain ⟨w, hw⟩ : ∃ w : Nat, (t : Int) * a.states + d.src = (w : Int) := ⟨((t : Int) * a.states + d.src).toNat, by omega⟩
        have hwN : w < N := by omega
        have hpush := outL_push N (wpE a s l t ++ wpR a.states s l t (a.edges.take j)) (wpS a.states s l t d) (w := w) hw hwN
        rw [List.append_assoc, ← hs2] at hpush
        have hrl := outL_row N (wpE a s l t ++ wpR a.states s l t (a.edges.take j)) w hwN
        have htl := outL_len N (wpE a s l t ++ wpR a.states s l t (a.edges.take j))
        have hdst : (wpS a.states s l t d).dst = ((nxW s l t : Nat) : Int) * a.states + d.dst := rfl
        rw [hdst, hxd] at hpush
        rw [hw] at w2
        obtain ⟨pre, c, post, Di, Dr, hpl, hpp, st⟩ := tab_take st 2 rfl (i := w) (by omega)
        rw [htl] at hpp
        simp only [List.eraseIdx_cons_succ, List.eraseIdx_cons_zero] at st
        generalize outL N (wpE a s l t ++ wpR a.states s l t (a.edges.take j)) = rows at st hpush hrl htl
        generalize hr0 : rows.getD w default = row at st hpush hrl
        have hG := (st.get 1 rfl : (holeT q pre c post _ _ Dr).P G5).1
        have hrd := tab_rd (c := c) (post := post) hpl
        have hb : w * 1 + 1 ≤ pre.length + (post.length + 1) := by omega
        have hsp : ∀ c', List.take (w * 1) (pre ++ (c :: post)) ++ [c'] ++ List.drop (w * 1 + 1) (pre ++ (c :: post)) = pre ++ (c' :: post) := fun c' => tab_sp hpl
        (try simp (maxSteps := 1000000) (disch := first | assumption | (apply ν6; assumption)) only [vz, vu, vv, eqS, eF_, ↓c1_, ↓c2_, tabs, reduceCtorEq, ι5, ↓reduceIte, ν1, ν2, ν3, ν4, ν5, ι1, ι2, ι3, ι4, load_at (st.get 2 rfl), load_at (st.get 4 rfl), load_at (st.get 5 rfl), w1, w2, w3, w4, hw, load_at hG, hrd, Int.toNat_natCast])
        refine ⟨by omega, by omega, ?_⟩
        first | refine ⟨hb, ?_⟩ | skip
        refine Pu.use (nextPlace_spec s l hs hl hlt) ?_
        (try simp (maxSteps := 1000000) (disch := first | assumption | (apply ν6; assumption)) only [vz, vu, vv, eqS, eF_, ↓c1_, ↓c2_, tabs, reduceCtorEq, ι5, ↓reduceIte, ν1, ν2, ν3, ν4, ν5, ι1, ι2, ι3, ι4, load_at (st.get 2 rfl), load_at (st.get 4 rfl), load_at (st.get 5 rfl), w1, w2, w3, w4, hw, load_at hG, hrd, Int.toNat_natCast])
        refine ⟨hb, ?_⟩
        refine lit1 tab_22 rfl tab_3 ⟨rfl, rfl⟩ ?_
        (try simp (maxSteps := 1000000) (disch := first | assumption | (apply ν6; assumption)) only [vz, vu, vv, eqS, eF_, ↓c1_, ↓c2_, tabs, reduceCtorEq, ι5, ↓reduceIte, ν1, ν2, ν3, ν4, ν5, ι1, ι2, ι3, ι4, load_at (st.get 2 rfl), load_at (st.get 4 rfl), load_at (st.get 5 rfl), load_at hG, hrd])
        refine ⟨hb, ?_⟩
        refine rn_appI (ys := [xd]) st 0 rfl (by simp only [List.length_cons, List.length_nil]; omega) fun q' G' hq' st => ?_
        simp only [List.set_cons_zero] at st
        have hG := (st.get 1 rfl : (holeT q pre c post _ _ Dr).P G').1
        (try simp (maxSteps := 1000000) (disch := first | assumption | (apply ν6; assumption)) only [vz, vu, vv, eqS, eF_, ↓c1_, ↓c2_, tabs, reduceCtorEq, ι5, ↓reduceIte, ν1, ν2, ν3, ν4, ν5, ι1, ι2, ι3, ι4, load_at (st.get 2 rfl), load_at (st.get 4 rfl), load_at (st.get 5 rfl), store_at hG])
        refine ⟨by omega, by omega, hb, ?_⟩
        obtain ⟨D', st⟩ := tab_put st (by omega)
        rw [← hpush] at st
        rw [hsp]
        simp only [rowP, List.length_append, List.length_singleton] at st
        exact ⟨(j + 1, D', _), ⟨by simp only; omega, (st.erase 1).perm (List.Perm.swap _ _ _)⟩, by simp only; omega, .refl _, Heap.le_refl _⟩
      · rw [if_neg h3] at hs2
        exact ⟨(j + 1, D, _), ⟨by simp only; omega, by rw [hs2]; exact st.drop⟩, by simp only; omega, .refl _, Heap.le_refl _⟩
    · have : j = a.edges.length := by omega
      subst this
      rw [List.take_length, ← wpE_succ] at st
      (try simp (maxSteps := 1000000) (disch := first | assumption | (apply ν6; assumption)) only [vz, vu, vv, eqS, eF_, ↓c1_, ↓c2_, tabs, reduceCtorEq, ι5, ↓reduceIte, ν1, ν2, ν3, ν4, ν5, ι1, ι2, ι3, ι4, e5])
      exact ⟨(t + 1, D, G), ⟨by simp only; omega, st⟩, by simp only; omega, .refl _, Heap.le_refl _⟩
  · have : t = s.length + l.length := by omega
    subst this
    rw [hT0] at st
    obtain ⟨T, hT⟩ : ∃ T, s.length + l.length = T := ⟨_, rfl⟩
    have hgo := goalsT a s l
    rw [hT] at hgo ⊢
    have hTb : T ≤ 48 := by omega
    (try simp (maxSteps := 1000000) (disch := first | assumption | (apply ν6; assumption)) only [vz, vu, vv, eqS, eF_, ↓c1_, ↓c2_, tabs, reduceCtorEq, ι5, ↓reduceIte, ν1, ν2, ν3, ν4, ν5, ι1, ι2, ι3, ι4, load_at (st.get 3 rfl)])
    refine L14_2_rule ((0 : Nat), (.sl q8 1 0 0 : AV), [q8], G) (fun z => z.2.1) (fun z => I z.1) (fun z => z.2.2.2)
      (fun z => z.1 ≤ a.goals.length ∧ St H [rgT 0 z.2.1 (wpG a T z.1) z.2.2.1, tabT q (outR (wpA a s l) (wpA a s l).edges.length) D, cellT r3 [Is s, Is l], cellT r [I a.states, Is a.first, Es a.edges, Ls a.goals]] z.2.2.2) (fun z => a.goals.length - z.1)
      ⟨⟨by simp, by simpa [wpG] using st⟩, .refl _, .refl _, Heap.le_refl _⟩ ?_
    clear st G e5
    rintro ⟨k, x, Dz, G⟩ ⟨hk, st⟩
    dsimp only at hk st
    have e5 : IntKind.i64.wrap ((k : Int) + 1) = ((k + 1 : Nat) : Int) := by rw [i64_id (by omega) (by omega)]; simp
    have hwl := wpG_len a T k
    (try simp (maxSteps := 1000000) (disch := first | assumption | (apply ν6; assumption)) only [vz, vu, vv, eqS, eF_, ↓c1_, ↓c2_, tabs, reduceCtorEq, ι5, ↓reduceIte, ν1, ν2, ν3, ν4, ν5, ι1, ι2, ι3, ι4, B14_2, e5])
    refine ⟨fun h2 => ⟨by omega, h2, ?_⟩, fun h2 => ?_⟩
    · have hltk : k < a.goals.length := by omega
      have hgk := getD_all (p := fun x => smI x ∧ x.length ≤ 96) (d := default) fa.gi hltk
      have hsucc := wpG_succ a T hltk
      generalize a.goals.getD k default = gk at hgk hsucc ⊢
      refine lit0I fun q0 hq0 => ?_
      replace st := st.cell hq0 (cP fI [])
      generalize G.set q0 (cP fI []) = G1 at st ⊢
      clear hq0
      refine L14_3_rule ((0 : Nat), q0, G1) (fun z => rowP z.2.1 (prs (below z.1) gk a.states)) (fun z => I z.1) (fun z => z.2.2)
        (fun z => z.1 ≤ T ∧ St H [cellT z.2.1 (cP fI (prs (below z.1) gk a.states)), rgT 0 x (wpG a T k) Dz, tabT q (outR (wpA a s l) (wpA a s l).edges.length) D, cellT r3 [Is s, Is l], cellT r [I a.states, Is a.first, Es a.edges, Ls a.goals]] z.2.2) (fun z => T - z.1)
        ⟨⟨by simp, by simpa [below, prs] using st⟩, by simp [below, prs]; exact .refl _, .refl _, Heap.le_refl _⟩ ?_
      clear st
      rintro ⟨i, q1, G⟩ ⟨hi, st⟩
      dsimp only at hi st
      have hpl := prs_len (below i) gk a.states
      rw [below_len] at hpl
      have hml : i * gk.length ≤ 48 * 96 := Nat.mul_le_mul (by omega) hgk.2
      (try simp (maxSteps := 1000000) (disch := first | assumption | (apply ν6; assumption)) only [vz, vu, vv, eqS, eF_, ↓c1_, ↓c2_, tabs, reduceCtorEq, ι5, ↓reduceIte, ν1, ν2, ν3, ν4, ν5, ι1, ι2, ι3, ι4, B14_3])
      refine ⟨fun h3 => ?_, fun h3 => ?_⟩
      · have hlti : i < T := by omega
        have hps : prs (below (i + 1)) gk a.states = prs (below i) gk a.states ++ gk.map fun j => (i : Int) * a.states + j := by
          have := prs_succ (below (i + 1)) gk a.states (i := i) (by rw [below_len]; omega)
          rw [below_takeW _ (Nat.le_succ i), below_getW (Nat.lt_succ_self i)] at this
          rw [← this, List.take_of_length_le (by rw [below_len]; omega)]
        refine L14_4_rule ((0 : Nat), q1, G) (fun z => rowP z.2.1 (prs (below i) gk a.states ++ (gk.take z.1).map fun j => (i : Int) * a.states + j)) (fun z => I z.1) (fun z => z.2.2)
          (fun z => z.1 ≤ gk.length ∧ St H [cellT z.2.1 (cP fI (prs (below i) gk a.states ++ (gk.take z.1).map fun j => (i : Int) * a.states + j)), rgT 0 x (wpG a T k) Dz, tabT q (outR (wpA a s l) (wpA a s l).edges.length) D, cellT r3 [Is s, Is l], cellT r [I a.states, Is a.first, Es a.edges, Ls a.goals]] z.2.2) (fun z => gk.length - z.1)
          ⟨⟨by simp, by simpa using st⟩, by simp; exact .refl _, .refl _, Heap.le_refl _⟩ ?_
        clear st
        rintro ⟨j, q1, G⟩ ⟨hj, st⟩
        dsimp only at hj st
        (try simp (maxSteps := 1000000) (disch := first | assumption | (apply ν6; assumption)) only [vz, vu, vv, eqS, eF_, ↓c1_, ↓c2_, tabs, reduceCtorEq, ι5, ↓reduceIte, ν1, ν2, ν3, ν4, ν5, ι1, ι2, ι3, ι4, B14_4, load_at (st.get 4 rfl)])
        refine ⟨fun h4 => ⟨by omega, h4, ?_⟩, fun h4 => ?_⟩
        · have hltj : j < gk.length := by omega
          have hx := getD_all (p := fun x => 0 ≤ x ∧ x ≤ 100000) (d := default) hgk.1.2 hltj
          have ht : (gk.take (j + 1)).map (fun j => (i : Int) * a.states + j) = (gk.take j).map (fun j => (i : Int) * a.states + j) ++ [(i : Int) * a.states + gk.getD j default] := by
            rw [take_succ_snoc hltj, List.map_append]; rfl
          have hlt : ((gk.take j).map fun j => (i : Int) * a.states + j).length ≤ 96 := by rw [List.length_map, List.length_take]; omega
          generalize gk.getD j default = e at hx ht ⊢
          have m1 := mul_bd (a := i) (A := 48) (b := a.states) (B := 96) (by omega) (by omega)
          have e1 : IntKind.i64.wrap ((i : Int) * a.states) = (i : Int) * a.states := i64_id (by omega) (by omega)
          have e2 : IntKind.i64.wrap ((i : Int) * a.states + e) = (i : Int) * a.states + e := i64_id (by omega) (by omega)
          have e3 : IntKind.i64.wrap ((j : Int) + 1) = ((j + 1 : Nat) : Int) := by rw [i64_id (by omega) (by omega)]; simp
          (try simp (maxSteps := 1000000) (disch := first | assumption | (apply ν6; assumption)) only [vz, vu, vv, eqS, eF_, ↓c1_, ↓c2_, tabs, reduceCtorEq, ι5, ↓reduceIte, ν1, ν2, ν3, ν4, ν5, ι1, ι2, ι3, ι4, e1, e2, e3])
          refine lit1 tab_22 rfl tab_3 ⟨rfl, rfl⟩ ?_
          refine st_appI (ys := [(i : Int) * a.states + e]) st 0 rfl (by rw [List.length_append]; simp only [List.length_singleton]; omega) fun q' G' hq' st => ?_
          rw [List.append_assoc, ← ht] at st ⊢
          exact ⟨(j + 1, q', G'), ⟨by simp only; omega, st⟩, by simp only; omega, .refl _, .refl _, Heap.le_refl _⟩
        · have : j = gk.length := by omega
          subst this
          rw [List.take_length, ← hps] at st ⊢
          have e3 : IntKind.i64.wrap ((i : Int) + 1) = ((i + 1 : Nat) : Int) := by rw [i64_id (by omega) (by omega)]; simp
          (try simp (maxSteps := 1000000) (disch := first | assumption | (apply ν6; assumption)) only [vz, vu, vv, eqS, eF_, ↓c1_, ↓c2_, tabs, reduceCtorEq, ι5, ↓reduceIte, ν1, ν2, ν3, ν4, ν5, ι1, ι2, ι3, ι4, e3])
          exact ⟨(i + 1, q1, G), ⟨by simp only; omega, st⟩, by simp only; omega, .refl _, .refl _, Heap.le_refl _⟩
      · have : i = T := by omega
        subst this
        (try simp (maxSteps := 1000000) (disch := first | assumption | (apply ν6; assumption)) only [vz, vu, vv, eqS, eF_, ↓c1_, ↓c2_, tabs, reduceCtorEq, ι5, ↓reduceIte, ν1, ν2, ν3, ν4, ν5, ι1, ι2, ι3, ι4, e5])
        refine lit_live1 fun ql hql => ?_
        replace st := st.cell hql [rowP q1 (prs (below i) gk a.states)]
        generalize G.set ql [.sl q1 1 0 (prs (below i) gk a.states).length] = G4 at st ⊢
        (try simp (maxSteps := 1000000) (disch := first | assumption | (apply ν6; assumption)) only [vz, vu, vv, eqS, eF_, ↓c1_, ↓c2_, tabs, reduceCtorEq, ι5, ↓reduceIte, ν1, ν2, ν3, ν4, ν5, ι1, ι2, ι3, ι4])
        refine rz_pushL st 0 rfl (by omega) fun q' D' G5 hq' st => ?_
        rw [← hsucc] at st
        (try simp (maxSteps := 1000000) (disch := first | assumption | (apply ν6; assumption)) only [vz, vu, vv, eqS, eF_, ↓c1_, ↓c2_, tabs, reduceCtorEq, ι5, ↓reduceIte, ν1, ν2, ν3, ν4, ν5, ι1, ι2, ι3, ι4, e5])
        exact ⟨(k + 1, _, D', _), ⟨by simp only; omega, st⟩, by simp only; omega, .refl _, .refl _, Heap.le_refl _⟩
    · have : k = a.goals.length := by omega
      subst this
      rw [← hgo] at st
      have hme := meeting_O hpr
      have hfst : (wpA a s l).first = a.first := rfl
      have htl : (outR (wpA a s l) (wpA a s l).edges.length).length = N := by rw [outR_len]; exact hNe
      have htw : twR a s l = (decide (0 ≤ meetF (rwF (gO (wpA a s l))) (gO (wpA a s l)).length (nN (wpA a s l).first) (goN (wpA a s l).goals)), true) := by rw [twR, ga, gl]; rfl
      rw [htw]
      generalize meetF (rwF (gO (wpA a s l))) (gO (wpA a s l)).length (nN (wpA a s l).first) (goN (wpA a s l).goals) = mm at hme ⊢
      rw [hfst] at hme
      generalize outR (wpA a s l) (wpA a s l).edges.length = T0 at st hme htl
      generalize (wpA a s l).goals = gs at st hme
      (try simp (maxSteps := 1000000) (disch := first | assumption | (apply ν6; assumption)) only [vz, vu, vv, eqS, eF_, ↓c1_, ↓c2_, tabs, reduceCtorEq, ι5, ↓reduceIte, ν1, ν2, ν3, ν4, ν5, ι1, ι2, ι3, ι4, load_at (st.get 3 rfl)])
      obtain ⟨Gw, hwk, hfr⟩ : ∃ G', Wk (.tup [.sl q 1 0 T0.length, Is a.first, x]) G (.tup [Ls T0, Is a.first, Ls gs]) G' ∧ ∀ y, y ∉ D → y ∉ Dz → G' y = G y := by
        obtain ⟨G1, w1, f1⟩ := LRow.frzV (e := eL) (sz := 1) (v := .tup [.sl q 1 0 T0.length, Is a.first, x]) (v' := .tup [Ls T0, Is a.first, x]) (by omega) (fun _ => rfl) LIn.local LIn.frz (st.get 1 rfl) (st.ndT 1 rfl) (fun q _ hr => .tup (.cons hr (.cons (.same _) (.cons (.same _) .nil))))
        obtain ⟨x', hx, lx⟩ := (st.get 0 rfl : RZ LIc 1 0 x _ G Dz).row
        have lx1 := LRow.local LIc.local lx (G' := G1) fun y hy bb hb => by rw [f1 y (fun hm => st.disjI 1 0 rfl rfl (by decide) y hm hy)]; exact hb
        obtain ⟨G2, w2, f2⟩ := LRow.frzV (e := eL) (sz := 1) (v := .tup [Ls T0, Is a.first, x']) (v' := .tup [Ls T0, Is a.first, Ls gs]) (by omega) (fun _ => rfl) LIc.local LIc.frz lx1 (st.ndT 0 rfl) (fun q _ hr => .tup (.cons (.same _) (.cons (.same _) (.cons hr .nil))))
        exact ⟨G2, .trans w1 (.trans (.val (v' := .tup [Ls T0, Is a.first, x']) (wk_tup ⟨.refl _, .refl _, hx, trivial⟩)) w2), fun y h1 h2 => by rw [f2 y h2, f1 y h1]⟩
      have hle : Heap.le H Gw := fun v bb hb => by
        rw [hfr v (st.wkNone v bb hb _ (List.mem_of_getElem? (i := 1) rfl)) (st.wkNone v bb hb _ (List.mem_of_getElem? (i := 0) rfl))]; exact st.le v bb hb
      rw [htl] at hwk
      refine CallT.pre (Pu.use hme ?_) hwk
      (try simp (maxSteps := 1000000) (disch := first | assumption | (apply ν6; assumption)) only [vz, vu, vv, eqS, eF_, ↓c1_, ↓c2_, tabs, reduceCtorEq, ι5, ↓reduceIte, ν1, ν2, ν3, ν4, ν5, ι1, ι2, ι3, ι4])
      first | exact ⟨rfl, hle⟩ | exact hle
end Go.Proofs.Ytolffbcnbcjeaaa
namespace Go.Proofs.Ytolffbcnbcjeaaa
open Go Go.Sep Go.Pt
attribute [local irreducible] CallT
theorem szR_nW {left : Int} {n : Nat} (h : ¬ szR left n < 0) : (n : Int) ≤ left ∧ szR left n = left - n := by
  unfold szR at h ⊢
  split at h
  · rename_i h2; rw [if_pos h2]; exact ⟨by omega, rfl⟩
  · omega
theorem szLasso_spec (s l : List Int) (left : Int) (h0 : 0 ≤ left) (h1 : left ≤ 1048576) (o1 : ok s.length) (o2 : ok l.length) : Pu Try.prog 11 [aL2 s l, I left] (I (szR left (s.length + l.length))) := by
  refine Pu.of fun H => ?_
  refine W11_ok ?_; simp (maxSteps := 1000000) (disch := first | assumption | (apply ν6; assumption)) only [W11, vz, vu, vv, eqS, eF_, ↓c1_, ↓c2_, tabs, reduceCtorEq, ι5, ↓reduceIte, ν1, ν2, ν3, ν4, ν5, ι1, ι2, ι3, ι4]
  intro r hr
  have hle := Heap.le_set (b := [Is s, Is l]) hr
  refine Pu.use (szIntS_spec s left h0 h1 o1) ?_
  (try simp (maxSteps := 1000000) (disch := first | assumption | (apply ν6; assumption)) only [vz, vu, vv, eqS, eF_, ↓c1_, ↓c2_, tabs, reduceCtorEq, ι5, ↓reduceIte, ν1, ν2, ν3, ν4, ν5, ι1, ι2, ι3, ι4])
  refine ⟨fun h => ⟨?_, hle⟩, fun h => ?_⟩
  · unfold szR at h ⊢
    rw [if_neg (by split at h <;> omega)]
  obtain ⟨t1, t2⟩ := szR_nW h
  rw [t2]
  refine Pu.use (szIntS_spec l _ (by omega) (by omega) o2) ?_
  (try simp (maxSteps := 1000000) (disch := first | assumption | (apply ν6; assumption)) only [vz, vu, vv, eqS, eF_, ↓c1_, ↓c2_, tabs, reduceCtorEq, ι5, ↓reduceIte, ν1, ν2, ν3, ν4, ν5, ι1, ι2, ι3, ι4])
  refine ⟨fun h => ⟨?_, hle⟩, fun h => ⟨?_, hle⟩⟩
  · have h9 : ¬ ((l.length : Int) ≤ left - s.length) := fun h8 => by
      rw [szR, if_pos h8] at h; omega
    rw [szR, if_neg (by omega)]
  · obtain ⟨t3, t4⟩ := szR_nW h
    have e9 : szR left (s.length + l.length) = left - s.length - l.length := by rw [szR, if_pos (by omega)]; omega
    rw [t4, e9]
theorem toLasso_spec (s l : List Int) (h1 : s.length ≤ 1048576) (h2 : l.length ≤ 1048576) : Pu Try.prog 13 [aL2 s l] (aL2 s l) := by
  refine Pu.of fun H => ?_
  refine W13_ok ?_; simp (maxSteps := 1000000) (disch := first | assumption | (apply ν6; assumption)) only [W13, vz, vu, vv, eqS, eF_, ↓c1_, ↓c2_, tabs, reduceCtorEq, ι5, ↓reduceIte, ν1, ν2, ν3, ν4, ν5, ι1, ι2, ι3, ι4]
  intro r hr r2 n2 hr2 r3 n32 n3 hr3
  have nn2 := Ne.symm n2
  have nn3 := Ne.symm n3
  have nn32 := Ne.symm n32
  have hle : ∀ b c, Heap.le H (((H.set r [Is s, Is l]).set r2 b).set r3 c) := fun b c => by
    (intro y b hy; simp only [Heap.set, Heap.del] at hy ⊢; (repeat' split at hy) <;> (repeat' split) <;> simp_all [cells])
  (try simp (maxSteps := 1000000) (disch := first | assumption | (apply ν6; assumption)) only [vz, vu, vv, eqS, eF_, ↓c1_, ↓c2_, tabs, reduceCtorEq, ι5, ↓reduceIte, ν1, ν2, ν3, ν4, ν5, ι1, ι2, ι3, ι4])
  refine Pu.use (toIntS_spec s h1) ?_
  (try simp (maxSteps := 1000000) (disch := first | assumption | (apply ν6; assumption)) only [vz, vu, vv, eqS, eF_, ↓c1_, ↓c2_, tabs, reduceCtorEq, ι5, ↓reduceIte, ν1, ν2, ν3, ν4, ν5, ι1, ι2, ι3, ι4])
  refine Pu.use (toIntS_spec l h2) ?_
  (try simp (maxSteps := 1000000) (disch := first | assumption | (apply ν6; assumption)) only [vz, vu, vv, eqS, eF_, ↓c1_, ↓c2_, tabs, reduceCtorEq, ι5, ↓reduceIte, ν1, ν2, ν3, ν4, ν5, ι1, ι2, ι3, ι4])
  (intro y b hy; simp only [Heap.set, Heap.del] at hy ⊢; (repeat' split at hy) <;> (repeat' split) <;> simp_all [cells])
theorem toLasso_live (s l : List Int) (h1 : s.length ≤ 1048576) (h2 : l.length ≤ 1048576) {H : Heap} {K : AV → Heap → Prop} (h : ∀ v G D, RL s l v G D → New H G D → K v G) : CallT Try.prog 13 [aL2 s l] H K := by
  refine CallT.fin ?_
  refine W13_ok ?_; simp (maxSteps := 1000000) (disch := first | assumption | (apply ν6; assumption)) only [W13, vz, vu, vv, eqS, eF_, ↓c1_, ↓c2_, tabs, reduceCtorEq, ι5, ↓reduceIte, ν1, ν2, ν3, ν4, ν5, ι1, ι2, ι3, ι4]
  intro r hr r2 n2 hr2 r3 n32 n3 hr3
  have st := (((St.nil H).cell hr [Is s, Is l]).cell (r := r2) (by rw [Heap.set_other n2]; exact hr2) [.p .nil, .p .nil]).cell (r := r3) (by rw [Heap.set_other n32, Heap.set_other n3]; exact hr3) [.p .nil, .p .nil]
  generalize ((H.set r [Is s, Is l]).set r2 [.p .nil, .p .nil]).set r3 [.p .nil, .p .nil] = G at st ⊢
  clear hr hr2 hr3 n2 n32 n3
  (try simp (maxSteps := 1000000) (disch := first | assumption | (apply ν6; assumption)) only [vz, vu, vv, eqS, eF_, ↓c1_, ↓c2_, tabs, reduceCtorEq, ι5, ↓reduceIte, ν1, ν2, ν3, ν4, ν5, ι1, ι2, ι3, ι4, load_at (st.get 2 rfl)])
  refine toIntS_live s h1 fun x G1 D hx hn => ?_
  obtain ⟨q1, rfl, hq1, rfl⟩ := LI_row hx
  replace st := st.push (cellT q1 (cP fI s)) hn (by rw [← cells_P]; exact hq1)
  clear hx hn hq1
  (try simp (maxSteps := 1000000) (disch := first | assumption | (apply ν6; assumption)) only [vz, vu, vv, eqS, eF_, ↓c1_, ↓c2_, tabs, reduceCtorEq, ι5, ↓reduceIte, ν1, ν2, ν3, ν4, ν5, ι1, ι2, ι3, ι4, store_at (st.get 1 rfl)])
  replace st := st.put 1 rfl [rowP q1 s, .p .nil]
  generalize G1.set r3 [rowP q1 s, .p .nil] = G2 at st ⊢
  (try simp (maxSteps := 1000000) (disch := first | assumption | (apply ν6; assumption)) only [vz, vu, vv, eqS, eF_, ↓c1_, ↓c2_, tabs, reduceCtorEq, ι5, ↓reduceIte, ν1, ν2, ν3, ν4, ν5, ι1, ι2, ι3, ι4, load_at (st.get 3 rfl)])
  refine toIntS_live l h2 fun x G3 D hx hn => ?_
  obtain ⟨q2, rfl, hq2, rfl⟩ := LI_row hx
  replace st := st.push (cellT q2 (cP fI l)) hn (by rw [← cells_P]; exact hq2)
  clear hx hn hq2
  (try simp (maxSteps := 1000000) (disch := first | assumption | (apply ν6; assumption)) only [vz, vu, vv, eqS, eF_, ↓c1_, ↓c2_, tabs, reduceCtorEq, ι5, ↓reduceIte, ν1, ν2, ν3, ν4, ν5, ι1, ι2, ι3, ι4, store_at (st.get 2 rfl), load_at (st.get 2 rfl)])
  replace st := st.put 2 rfl [rowP q1 s, rowP q2 l]
  generalize G3.set r3 [rowP q1 s, rowP q2 l] = G4 at st ⊢
  (try simp (maxSteps := 1000000) (disch := first | assumption | (apply ν6; assumption)) only [vz, vu, vv, eqS, eF_, ↓c1_, ↓c2_, tabs, reduceCtorEq, ι5, ↓reduceIte, ν1, ν2, ν3, ν4, ν5, ι1, ι2, ι3, ι4, store_at (st.get 3 rfl), load_at (st.get 2 rfl)])
  replace st := st.put 3 rfl [rowP q1 s, rowP q2 l]
  generalize G4.set r2 [rowP q1 s, rowP q2 l] = G5 at st ⊢
  have hne : q1 ≠ q2 := fun e => st.disjI 1 0 rfl rfl (by decide) q2 (by simp [cellT, e]) (by simp [cellT])
  refine wkK.keep (h _ G5 [q1, q2] (.inr ⟨q1, q2, rfl, st.get 1 rfl, st.get 0 rfl, rfl, hne⟩) ⟨by simpa using hne, fun y hy => ?_, st.le⟩)
  simp only [List.mem_cons, List.not_mem_nil, or_false] at hy
  rcases hy with rfl | rfl
  · exact st.fr _ (List.mem_of_getElem? (i := 1) rfl) _ (by simp [cellT])
  · exact st.fr _ (List.mem_of_getElem? (i := 0) rfl) _ (by simp [cellT])
theorem FnExactTakesWord_true {a : Au} {s l : List Int} (oa : okAu a) (os : ok s.length) (ol : ok l.length) : Pu Try.prog 4 [aAu a, aL2 s l] (B true) := by
  refine Pu.of fun H => ?_
  refine W4_ok ?_; simp (maxSteps := 1000000) (disch := first | assumption | (apply ν6; assumption)) only [W4, vz, vu, vv, eqS, eF_, ↓c1_, ↓c2_, tabs, reduceCtorEq, ι5, ↓reduceIte, ν1, ν2, ν3, ν4, ν5, ι1, ι2, ι3, ι4]
  intro r hr r3 n3 hr3
  have st := ((St.nil H).cell hr [I a.states, Is a.first, Es a.edges, Ls a.goals]).cell (r := r3) (by rw [Heap.set_other n3]; exact hr3) [Is s, Is l]
  generalize (H.set r [I a.states, Is a.first, Es a.edges, Ls a.goals]).set r3 [Is s, Is l] = G at st ⊢
  clear hr hr3 n3
  (try simp (maxSteps := 1000000) (disch := first | assumption | (apply ν6; assumption)) only [vz, vu, vv, eqS, eF_, ↓c1_, ↓c2_, tabs, reduceCtorEq, ι5, ↓reduceIte, ν1, ν2, ν3, ν4, ν5, ι1, ι2, ι3, ι4, load_at (st.get 1 rfl)])
  refine Pu.use (szAuto_spec a 1048576 (by omega) (by omega) oa) ?_
  (try simp (maxSteps := 1000000) (disch := first | assumption | (apply ν6; assumption)) only [vz, vu, vv, eqS, eF_, ↓c1_, ↓c2_, tabs, reduceCtorEq, ι5, ↓reduceIte, ν1, ν2, ν3, ν4, ν5, ι1, ι2, ι3, ι4, load_at (st.get 0 rfl)])
  refine ⟨fun _ => st.le, fun h1 => ?_⟩
  obtain ⟨e2, e3⟩ := szR_nW h1
  have sa := smAu_of e2
  rw [e3]
  refine Pu.use (szLasso_spec s l _ (by omega) (by omega) os ol) ?_
  (try simp (maxSteps := 1000000) (disch := first | assumption | (apply ν6; assumption)) only [vz, vu, vv, eqS, eF_, ↓c1_, ↓c2_, tabs, reduceCtorEq, ι5, ↓reduceIte, ν1, ν2, ν3, ν4, ν5, ι1, ι2, ι3, ι4, load_at (st.get 0 rfl), load_at (st.get 1 rfl)])
  refine ⟨fun _ => st.le, fun k1 => ?_⟩
  obtain ⟨e4, e5⟩ := szR_nW k1
  have hs : s.length ≤ 1048576 := by omega
  have hl : l.length ≤ 1048576 := by omega
  refine Pu.use (toAuto_spec a sa) ?_
  (try simp (maxSteps := 1000000) (disch := first | assumption | (apply ν6; assumption)) only [vz, vu, vv, eqS, eF_, ↓c1_, ↓c2_, tabs, reduceCtorEq, ι5, ↓reduceIte, ν1, ν2, ν3, ν4, ν5, ι1, ι2, ι3, ι4, load_at (st.get 0 rfl), load_at (st.get 1 rfl)])
  refine Pu.use (toLasso_spec s l hs hl) ?_
  refine Pu.use (TakesWord_ref a sa s l hs hl) ?_
  have hI := TakesWord_impl a sa s l hs hl
  generalize (twR a s l).1 = o at hI ⊢
  generalize (twR a s l).2 = ok at hI ⊢
  (try simp (maxSteps := 1000000) (disch := first | assumption | (apply ν6; assumption)) only [vz, vu, vv, eqS, eF_, ↓c1_, ↓c2_, tabs, reduceCtorEq, ι5, ↓reduceIte, ν1, ν2, ν3, ν4, ν5, ι1, ι2, ι3, ι4, load_at (st.get 0 rfl), load_at (st.get 1 rfl)])
  refine toAuto_live a sa fun va G1 Da la na => ?_
  replace st := st.push (auT a va Da) na la
  obtain ⟨a1, a2, a3, rfl⟩ := aAu_cells la
  clear la na
  (try simp (maxSteps := 1000000) (disch := first | assumption | (apply ν6; assumption)) only [vz, vu, vv, eqS, eF_, ↓c1_, ↓c2_, tabs, reduceCtorEq, ι5, ↓reduceIte, ν1, ν2, ν3, ν4, ν5, ι1, ι2, ι3, ι4])
  intro x hx
  replace st := st.cell hx [I a.states, .sl a1 1 0 a.first.length, .sl a2 3 0 a.edges.length, .sl a3 1 0 a.goals.length]
  (try simp (maxSteps := 1000000) (disch := first | assumption | (apply ν6; assumption)) only [vz, vu, vv, eqS, eF_, ↓c1_, ↓c2_, tabs, reduceCtorEq, ι5, ↓reduceIte, ν1, ν2, ν3, ν4, ν5, ι1, ι2, ι3, ι4, load_at (st.get 2 rfl)])
  generalize G1.set x [I a.states, .sl a1 1 0 a.first.length, .sl a2 3 0 a.edges.length, .sl a3 1 0 a.goals.length] = G2 at st ⊢
  clear hx
  refine toLasso_live s l hs hl fun v G7 D7 hrs hn7 => ?_
  obtain ⟨xr, yr, rfl, hxr, hyr⟩ := hrs.ag
  replace st := st.push (tRL s l (.agg [xr, yr]) D7) hn7 hrs
  clear hrs hn7
  (try simp (maxSteps := 1000000) (disch := first | assumption | (apply ν6; assumption)) only [vz, vu, vv, eqS, eF_, ↓c1_, ↓c2_, tabs, reduceCtorEq, ι5, ↓reduceIte, ν1, ν2, ν3, ν4, ν5, ι1, ι2, ι3, ι4])
  intro u hu
  replace st := st.cell hu [xr, yr]
  (try simp (maxSteps := 1000000) (disch := first | assumption | (apply ν6; assumption)) only [vz, vu, vv, eqS, eF_, ↓c1_, ↓c2_, tabs, reduceCtorEq, ι5, ↓reduceIte, ν1, ν2, ν3, ν4, ν5, ι1, ι2, ι3, ι4, load_at (st.get 0 rfl), load_at (st.get 2 rfl)])
  generalize G7.set u [xr, yr] = G8 at st ⊢
  clear hu
  refine ⟨by rw [hxr, hyr]; rfl, ?_⟩
  obtain ⟨Gw, hwk⟩ : ∃ G', Wk (.tup [.agg [I a.states, .sl a1 1 0 a.first.length, .sl a2 3 0 a.edges.length, .sl a3 1 0 a.goals.length], .agg [xr, yr]]) G8 (.tup [aAu a, aL2 s l]) G' := by
    obtain ⟨G', w1, f1⟩ := LAu.wk (st.get 3 rfl) (st.ndT 3 rfl) (fun v => .tup [v, .agg [xr, yr]]) (fun h => .tup (.cons h (.cons (.same _) .nil)))
    have hrl : RL s l (.agg [xr, yr]) G' D7 := RL.local (st.get 1 rfl) fun y hy b hb => by rw [f1 y (fun hm => st.disjI 3 1 rfl rfl (by decide) y hm hy)]; exact hb
    rcases hrl with ⟨rfl, rfl, e, rfl⟩ | ⟨q1, q2, e, g1, g2, rfl, hne⟩
    · rw [e] at w1 ⊢
      exact ⟨_, .trans w1 (.val (v' := .tup [aAu a, aL2 [] []]) (wk_tup ⟨.refl _, wk_agg ⟨.nil, .nil, trivial⟩, trivial⟩))⟩
    · rw [e] at w1 ⊢
      exact ⟨_, .trans w1 (wkL2 g1 g2 hne (fun v => .tup [aAu a, v]) (fun h => .tup (.cons (.same _) (.cons h .nil))))⟩
  refine Pu.thaw hI (.tup2 (.bool _) (.bool _)) hwk ?_
  clear hwk
  (try simp (maxSteps := 1000000) (disch := first | assumption | (apply ν6; assumption)) only [vz, vu, vv, eqS, eF_, ↓c1_, ↓c2_, tabs, reduceCtorEq, ι5, ↓reduceIte, ν1, ν2, ν3, ν4, ν5, ι1, ι2, ι3, ι4, load_at (st.get 2 rfl), load_at (st.get 5 rfl)])
  refine Pu.use (toAuto_spec a sa) ?_
  (try simp (maxSteps := 1000000) (disch := first | assumption | (apply ν6; assumption)) only [vz, vu, vv, eqS, eF_, ↓c1_, ↓c2_, tabs, reduceCtorEq, ι5, ↓reduceIte, ν1, ν2, ν3, ν4, ν5, ι1, ι2, ι3, ι4, load_at (st.get 2 rfl)])
  refine LAu.eq (st.get 3 rfl) (st.ndT 3 rfl) sa ?_
  (try simp (maxSteps := 1000000) (disch := first | assumption | (apply ν6; assumption)) only [vz, vu, vv, eqS, eF_, ↓c1_, ↓c2_, tabs, reduceCtorEq, ι5, ↓reduceIte, ν1, ν2, ν3, ν4, ν5, ι1, ι2, ι3, ι4, load_at (st.get 0 rfl), load_at (st.get 4 rfl)])
  refine Pu.use (toLasso_spec s l hs hl) ?_
  (try simp (maxSteps := 1000000) (disch := first | assumption | (apply ν6; assumption)) only [vz, vu, vv, eqS, eF_, ↓c1_, ↓c2_, tabs, reduceCtorEq, ι5, ↓reduceIte, ν1, ν2, ν3, ν4, ν5, ι1, ι2, ι3, ι4, load_at (st.get 0 rfl)])
  refine RL.eq (st.get 1 rfl) hs hl ?_
  (try simp (maxSteps := 1000000) (disch := first | assumption | (apply ν6; assumption)) only [vz, vu, vv, eqS, eF_, ↓c1_, ↓c2_, tabs, reduceCtorEq, ι5, ↓reduceIte, ν1, ν2, ν3, ν4, ν5, ι1, ι2, ι3, ι4])
  exact st.le
end Go.Proofs.Ytolffbcnbcjeaaa
namespace Go.Proofs.Ytolffbcnbcjeaaa.takesWord
open Go Go.Sep Go.ChangeShapes Go.WideShapes Go.ChangeAt Go.RowKit
theorem own : ownKnob Try.prog.godebug = none := by kernel_rfl
theorem told (avs : List AV) (h : ArgsT Try.prog [26, 37] avs) : CallT Try.prog 4 avs (fun _ => none) (fun v _ => v = .p (.bool true)) := by
  obtain ⟨a, b, rfl, h1, h⟩ := args_cons h
  obtain ⟨b, c, rfl, h2, h⟩ := args_cons h
  cases args_nil h
  obtain ⟨x1, hx1, rfl⟩ := arg_auto h1
  obtain ⟨x2, y2, hx2, hy2, rfl⟩ := arg_lasso h2
  exact (FnExactTakesWord_true hx1 hx2 hy2).use rfl
set_option maxRecDepth 100000 in
theorem lifted (os : Os) (started : os.Started) (H : Type) (enc : TypeId × Value → H) :
    ReturnsInHanded {} Try.checked os 4 .any (Rows.fnExactTakesWordSpec.pre6 enc Try.prog Try.f4 Rows.fnExactTakesWordRow.domain false) (Rows.fnExactTakesWordSpec.post enc Try.prog Try.f4 false true false false) := by
  refine returnsInHanded_of_change (C := Try.checked) own started (by kernel_rfl) Try.func4
    (ChangeSpec.witness6 (enc := enc) (C := Try.checked) false ⟨#[], #[.agg #[.int .i64 0, .slice none 0 0, .slice none 0 0, .slice none 0 0], .agg #[.slice none 0 0, .slice none 0 0]], []⟩ 12 (by kernel_rfl) (by kernel_rfl) (by kernel_rfl) (by kernel_rfl)) ?_
  intro W base args ds gs before hval hW _ _
  refine row_of_true (n := 12) (tb := 4) (by kernel_rfl) rfl (by kernel_rfl) (by kernel_rfl) ?_ ?_ ?_ hval hW
  · have : (Try.f4.params.toList.all fun t => Try.prog.readableRec t && decide (t < Try.prog.types.size) && plainB Try.prog 12 t) = true := by kernel_rfl
    intro t ht
    have := List.all_eq_true.1 this t ht
    rw [Bool.and_eq_true, Bool.and_eq_true, decide_eq_true_eq] at this
    exact ⟨this.1.1, this.1.2, this.2⟩
  · intro ds hd
    rw [Try.params4] at hd
    match ds, hd with
    | [a, b], _ => rfl
  · rw [Try.params4]
    exact told
theorem over : Rows.fnExactTakesWordRow.holds Try.pinned (OpenSpec.ofChange Rows.fnExactTakesWordSpec) :=
  OpenClaim.holds_of_wide 4 Try.f4 rfl rfl rfl rfl rfl rfl rfl ⟨rfl, rfl, rfl, rfl, rfl⟩ rfl rfl rfl rfl rfl (by kernel_rfl) Try.func4 (by kernel_rfl)
    (of_decide_eq_true (by kernel_rfl)) (by unfold Func.isWrapper; first | (rw [if_pos (by decide +kernel)]; kernel_rfl) | (rw [if_neg (by decide +kernel)]; exact ⟨rfl, rfl⟩))
    (fun os started H enc _ => lifted os started H enc)
theorem proved : Rows.FnExactTakesWordSaid :=
  over
#print axioms proved
end Go.Proofs.Ytolffbcnbcjeaaa.takesWord
