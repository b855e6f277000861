/- The row of the law that CutOut answers as the reference does: whatever the arguments, it answers true, and what it is told reads as it did. -/
import Derived.Test.YtdnfiacjoghfkaaPkc6
import Derived.Test.YtdnfiacjoghfkaaRows
import Derived.WalkKit
import Derived.ProofKit
import Derived.OpenShut
/- impl.numbered, told of values: a row of its own. -/
namespace Go.Sep
open Go Go.RowKit
set_option linter.unusedVariables false

/-- A row that a call has made and handed back. -/
theorem Sim.fresh {Z : Fro} {φ : Pm} {B0 : Nat} {w0 w w' : World} {H : Heap} (s : Sim Z φ B0 w0 H w) (hb : Bel w.heap.size w w') {g : Nat} (hg : w.heap.size ≤ g) {cur : Array Value} {e : TypeId} (hc : w'.heap[g]? = some (.cells cur e (0, 0))) (C : Nat) (hC : C ≤ cur.size)
    (blk : List AV) (hl : blk.length ≤ C) (hv : ∀ (i : Nat) (av : AV), blk[i]? = some av → ∃ x, cur[i]? = some x ∧ Cv Z φ av x) :
    ∃ r φ', H r = none ∧ φ r = none ∧ Pm.le φ φ' ∧ φ' r = some ⟨g, 0, C⟩ ∧ Sim Z φ' B0 w0 (H.set r blk) w' := by
  obtain ⟨n, hn⟩ := s.bnd
  have hHn : H n = none := by
    cases hH : H n with
    | none => rfl
    | some b => obtain ⟨pl, hp, _⟩ := s.live n b hH; rw [hn n (Nat.le_refl _)] at hp; cases hp
  let φ' : Pm := fun r => if r = n then some ⟨g, 0, C⟩ else φ r
  have hle : Pm.le φ φ' := by
    intro r pl h
    have : r ≠ n := fun e => by subst e; rw [hn r (Nat.le_refl _)] at h; cases h
    simp only [φ', this, if_false]; exact h
  have hnew : φ' n = some ⟨g, 0, C⟩ := by simp [φ']
  refine ⟨n, φ', hHn, hn n (Nat.le_refl _), hle, hnew, ?_⟩
  have s' := s.later hb
  have hlt : ∀ r pl, H r ≠ none → φ r = some pl → pl.C = 0 ∨ pl.b < g := by
    intro r pl hr hp
    cases hH : H r with
    | none => exact absurd hH hr
    | some b =>
      obtain ⟨pl', hp', hl⟩ := s.live r b hH
      rw [hp] at hp'; cases hp'
      rcases hl with ⟨h, _⟩ | ⟨cur', e', h1, _⟩
      · exact .inl h
      · have := (Array.getElem?_eq_some_iff.1 h1).1
        exact .inr (by omega)
  refine ⟨s'.b0, s'.below, ⟨n + 1, ?_⟩, ?_, ?_, s'.froz, ?_⟩
  · intro r hr
    have : r ≠ n := by omega
    simp only [φ', this, if_false]; exact hn r (by omega)
  · intro r b hr
    by_cases h : r = n
    · subst h
      rw [Heap.set_same] at hr; cases hr
      refine ⟨_, hnew, .inr ⟨cur, e, hc, by simpa using hC, hl, by have := s.b0; show B0 ≤ g; omega, ?_⟩⟩
      intro i av hi
      obtain ⟨x, hx, hc⟩ := hv i av hi
      exact ⟨x, by simpa using hx, hc.mono (Fro.le_refl _) hle⟩
    · rw [Heap.set_other h] at hr
      obtain ⟨pl, hp, hl⟩ := s'.live r b hr
      exact ⟨pl, hle _ _ hp, hl.mono (Fro.le_refl _) hle⟩
  · intro r r' pl pl' hr hr' hne hp hp'
    by_cases h : r = n
    · subst h
      rw [hnew] at hp; cases hp
      have h' : r' ≠ r := fun e => hne e.symm
      rw [Heap.set_other h'] at hr'
      have hp0 : φ r' = some pl' := by simpa [φ', h'] using hp'
      rcases hlt r' pl' hr' hp0 with h0 | h0 <;> (unfold Place.sep; simp only; omega)
    · by_cases h' : r' = n
      · subst h'
        rw [hnew] at hp'; cases hp'
        rw [Heap.set_other h] at hr
        have hp0 : φ r = some pl := by simpa [φ', h] using hp
        rcases hlt r pl hr hp0 with h0 | h0 <;> (unfold Place.sep; simp only; omega)
      · rw [Heap.set_other h] at hr
        rw [Heap.set_other h'] at hr'
        exact s'.disj r r' pl pl' hr hr' hne (by simpa [φ', h] using hp) (by simpa [φ', h'] using hp')
  · intro b i v hz r pl hr hp hb'
    by_cases h : r = n
    · subst h
      rw [hnew] at hp; cases hp
      have := World.block_lt_of_cell? w ⟨b, i, none⟩ (s.froz b i v hz)
      simp only at hb' this; omega
    · rw [Heap.set_other h] at hr
      exact s'.zsep b i v hz r pl hr (by simpa [φ', h] using hp) hb'
end Go.Sep
namespace Go.Proofs.Ytdnfiacjoghfkaa
open Go Go.Sep Go.Pt Go.RowKit
set_option linter.unusedSimpArgs false
set_option linter.unusedVariables false

abbrev e2 (x : Int × Int) : List PV := [fI x.1, fI x.2]
abbrev kN (zs : List (Int × Int)) : Nat → Int × Int := fun j => zs.getD j default
def i64R (n : Int) : Prop := -9223372036854775808 ≤ n ∧ n ≤ 9223372036854775807
theorem i64_R {n : Int} (h : i64R n) : Nmb.i64 n := by
  unfold Nmb.i64
  simp only [Lit.wf, Bool.and_eq_true, decide_eq_true_eq]
  have e1 : IntKind.i64.min = -9223372036854775808 := by decide
  have e2 : IntKind.i64.max = 9223372036854775807 := by decide
  rw [e1, e2]; exact h
theorem numbered_hb : HasBody Try.prog 53 := ⟨_, bodyOf Try.f53, Try.func53, by kernel_rfl, rfl⟩
theorem numbered_spec (zs : List (Int × Int)) (hpos : 0 < zs.length) (hl : zs.length ≤ 1000000) (hz : ∀ x ∈ zs, i64R x.1 ∧ i64R x.2) {H : Heap} {K : AV → Heap → Prop}
    (h : ∀ q, H q = none → K (.agg [rowP q (numL (kN zs) zs.length)]) (H.set q (cP fI (numL (kN zs) zs.length)))) : CallT Try.prog 53 [.p (.sl (zs.map e2))] H K := by
  refine ⟨numbered_hb, ?_⟩
  intro B0 w0 F Z φ w xs hd hs ha
  obtain ⟨hsz, hrel⟩ := ha
  obtain ⟨x, rfl⟩ : ∃ x, xs = #[x] := by
    have h1 : xs.size = 1 := hsz
    exact ⟨xs[0], by
      apply Array.ext
      · simp [h1]
      · intro i hi1 hi2
        have : i = 0 := by simp at hi2; omega
        subst this; simp⟩
  have hx := hrel 0 _ x rfl rfl
  cases hx with
  | p hx =>
  generalize hes : zs.map e2 = es at hx
  cases hx with
  | emp a c => cases zs with
    | nil => simp at hpos
    | cons a zs => simp at hes
  | sl es sz b o c vals hc hsz2 hzz hv =>
  subst hes
  have hsz' : sz = 2 := by
    cases zs with
    | nil => simp at hpos
    | cons a zs => exact (hsz2 (e2 a) (by simp)).symm
  subst hsz'
  rw [List.length_map] at hc hzz ⊢
  have cellAt : ∀ j, j < zs.length → vals (j * 2) = .int .i64 (kN zs j).1 ∧ vals (j * 2 + 1) = .int .i64 (kN zs j).2 := by
    intro j hj
    have ej : (zs.map e2)[j]? = some (e2 (kN zs j)) := by
      rw [List.getElem?_map, List.getElem?_eq_getElem hj]; simp [kN, List.getD, hj]
    have c0 := hv j _ ej 0 _ rfl
    have c1 := hv j _ ej 1 _ rfl
    refine ⟨?_, ?_⟩
    · have e : j * 2 + 0 = j * 2 := rfl
      rw [e] at c0
      generalize vals (j * 2) = y at c0
      cases c0; rfl
    · generalize vals (j * 2 + 1) = y at c1
      cases c1; rfl
  have cellW : ∀ i, i < zs.length * 2 → w.cell? ⟨b, o + i, none⟩ = some (vals i) := fun i hi => hs.froz b (o + i) _ (hzz i hi)
  have hb : b < w.heap.size := World.block_lt_of_cell? w ⟨b, o + 0, none⟩ (cellW 0 (by omega))
  refine (Nmb.numbered_any b o zs.length c (kN zs) w hl hb (fun j hj => ⟨?_, ?_⟩) (fun j hj => ?_)).mono ?_
  · rw [cellW _ (by omega), (cellAt j hj).1]
  · rw [cellW _ (by omega), (cellAt j hj).2]
  · have hm : kN zs j ∈ zs := by
      have : kN zs j = zs[j] := by simp [kN, List.getD, hj]
      rw [this]; exact List.getElem_mem hj
    exact ⟨i64_R (hz _ hm).1, i64_R (hz _ hm).2⟩
  rintro e w' ⟨v, rfl, hrow, hbel⟩
  obtain ⟨hlen, hcase⟩ := hrow
  rcases hcase with ⟨_, h0⟩ | ⟨g, cap, cur, rfl, hg, hcur, hnc, _, hcs, htk⟩
  · omega
  have hnl := numL_len (kN zs) zs.length
  obtain ⟨q, φ', hq, _, hφ, hpl, hs'⟩ := hs.fresh (g := g) ⟨hbel, trivial⟩ (by omega) hcur cap (by omega) (cP fI (numL (kN zs) zs.length)) (by rw [cI_len]; omega) (by
    intro i av hi
    rw [List.getElem?_map] at hi
    cases hxi : (numL (kN zs) zs.length)[i]? with
    | none => rw [hxi] at hi; cases hi
    | some x =>
      rw [hxi] at hi; cases hi
      refine ⟨.int .i64 x, ?_, .p (.int _ _)⟩
      have hlt : i < zs.length := by
        have := (List.getElem?_eq_some_iff.1 hxi).1; omega
      have e1 := congrArg (fun l : List Value => l[i]?) htk
      simp only [List.getElem?_map, hxi, Option.map_some] at e1
      rw [List.getElem?_take_of_lt (by omega)] at e1
      simpa using e1)
  have hqF : F q = none := by
    cases hh : H q with
    | none => simpa [Heap.or, hh] using hq
    | some b => simp [Heap.or, hh] at hq
  have hqH : H q = none := by
    cases hh : H q with
    | none => rfl
    | some b => simp [Heap.or, hh] at hq
  refine ⟨_, rfl, .agg [rowP q (numL (kN zs) zs.length)], H.set q (cP fI (numL (kN zs) zs.length)), Z, φ', h q hqH, Fro.le_refl _, hφ, hd.set hqF, by rw [Heap.or_set]; exact hs', .agg _ _ rfl ?_⟩
  intro i av x h1 h2
  match i with
  | 0 =>
    cases h1; cases h2
    have := Cv.sl (Z := Z) (sz := 1) (off := 0) (len := zs.length) (c := cap) hpl hnc (by show 0 + cap * 1 ≤ cap; omega)
    rw [rowP, hnl]; exact this
  | i + 1 => cases h1
end Go.Proofs.Ytdnfiacjoghfkaa
/- Marks on changes, commands, programs and sights that own their rows. -/
namespace Go.Proofs.Ytdnfiacjoghfkaa
open Go Go.Sep Go.Pt
set_option linter.unusedSimpArgs false
set_option linter.unusedVariables false
attribute [local irreducible] CallT

theorem nd3 {q : Nat} {A C E : List Nat} (h : (q :: (A ++ (C ++ E))).Nodup) : (q ∉ A ∧ q ∉ C ∧ q ∉ E) ∧ (∀ y ∈ A, y ∉ C) ∧ (∀ y ∈ E, y ∉ C) ∧ A.Nodup ∧ C.Nodup ∧ E.Nodup := by
  rw [List.nodup_cons, List.nodup_append, List.nodup_append] at h
  simp only [List.mem_append, not_or] at h
  refine ⟨h.1, fun y hy hc => h.2.2.2 y hy y (.inl hc) rfl, fun y hy hc => h.2.2.1.2.2 y hc y hy rfl, h.2.1, h.2.2.1.1, h.2.2.1.2.1⟩

theorem markChangeS_live (xs : List Ch) (hl : totChs xs ≤ 1048576) {x : AV} {G : Heap} {D : List Nat} (hx : LRow LCh 2 xs x G D) (hD : D.Nodup) {k : Int} (h0 : 0 ≤ k) (hk : k ≤ 800000000) {K : AV → Heap → Prop}
    (h : ∀ k' xs' G', LRow LCh 2 xs' x G' D → xs'.length = xs.length → (∀ y, y ∉ D → G' y = G y) → k ≤ k' → k' ≤ k + 2 * totChs xs → K (I k') G') : CallT Try.prog 56 [x, I k] G K := by
  obtain ⟨q, cs, D', rfl, hq, hll, rfl⟩ := hx
  have hlen : xs.length ≤ 1048576 := by unfold totChs at hl; omega
  refine W56_ok ?_; simp (maxSteps := 1000000) (disch := first | assumption | (apply Ne.symm; assumption)) only [W56, vz, vu, vv, eqS, eqFieldsV, ↓condV_t, ↓condV_f, tabs, reduceCtorEq, Array.toList, ↓reduceIte, Nat.reduceAdd, Nat.reduceLeDiff, Nat.reduceLT, Nat.reduceMul, Nat.reduceSub, Int.reduceToNat, Int.reduceSub, Int.reduceAdd, Int.reduceNeg]
  refine L56_0_rule ((0 : Nat), k, G, ([] : List Ch)) (fun s => I s.2.1) (fun s => I s.1) (fun s => s.2.2.1) (fun s => (s.1 ≤ xs.length ∧ k ≤ s.2.1 ∧ s.2.1 ≤ k + 2 * (s.1 + psum totCh xs s.1)) ∧ Half LCh G q D' xs s.1 s.2.2.1 s.2.2.2) (fun s => xs.length - s.1)
    ⟨⟨⟨by simp, by simp, by simp [psum]⟩, ⟨⟨[], cs, [], D', by simpa using hq, ⟨rfl, rfl⟩, by simpa using hll, rfl⟩, rfl, fun _ _ => rfl⟩⟩, .refl _, .refl _, Heap.le_refl _⟩ ?_
  rintro ⟨i, k1, G1, done⟩ ⟨⟨hi, hk1, hk2⟩, ⟨⟨cd, cr, Dd, Dr, e1, e2, e3, e4⟩, e5, e6⟩⟩
  dsimp only at hi hk1 hk2 e1 e2 e3 e4 e5 e6
  have hps := psum_le (f := totCh) (xs := xs) i
  have htd : totChs xs = xs.length + psum totCh xs xs.length := rfl
  (try simp (maxSteps := 1000000) (disch := first | assumption | (apply Ne.symm; assumption)) only [vz, vu, vv, eqS, eqFieldsV, ↓condV_t, ↓condV_f, tabs, reduceCtorEq, Array.toList, ↓reduceIte, Nat.reduceAdd, Nat.reduceLeDiff, Nat.reduceLT, Nat.reduceMul, Nat.reduceSub, Int.reduceToNat, Int.reduceSub, Int.reduceAdd, Int.reduceNeg, B56_0])
  refine ⟨fun h5 => ?_, fun h5 => ?_⟩
  · have hlt : i < xs.length := by omega
    have hsucc := psum_succ (f := totCh) hlt
    have hps2 := psum_le (f := totCh) (xs := xs) (i + 1)
    rw [drop_cons hlt] at e3
    obtain ⟨c, c2, Di, D2, rfl, rfl, ⟨x, rfl, hx⟩, f2⟩ := e3
    have hdl : cd.length = i * 2 := by rw [LL.size LCh.size e2, e5]
    subst e4
    obtain ⟨⟨q1, q2, q3⟩, dA, dE, nA, nC, nE⟩ := nd3 hD
    have htl : totCh (xs.getD i default) = (xs.getD i default).by_.length := rfl
    generalize xs.getD i default = a at e1 hx hsucc htl
    obtain ⟨qx, rfl⟩ := LRow.sl hx
    generalize hxx : (AV.sl qx 2 0 a.by_.length) = x at e1 hx
    have e1' : G1 q = some (cd ++ (I a.var :: x :: c2)) := e1
    have p1 : ∀ z, List.take (i * 2) (cd ++ (I a.var :: x :: c2)) ++ [z] ++ List.drop (i * 2 + 1) (cd ++ (I a.var :: x :: c2)) = cd ++ (z :: x :: c2) := fun z => splice_at (c := [I a.var]) (c' := [z]) (post := x :: c2) hdl.symm rfl rfl
    have rd : ∀ z, (List.take 1 (List.drop (i * 2 + 1) (cd ++ (z :: x :: c2)))).headD AV.any = x := fun z => by
      rw [List.drop_append, hdl, List.drop_of_length_le (by omega)]; simp
    (try simp (maxSteps := 1000000) (disch := first | assumption | (apply Ne.symm; assumption)) only [vz, vu, vv, eqS, eqFieldsV, ↓condV_t, ↓condV_f, tabs, reduceCtorEq, Array.toList, ↓reduceIte, Nat.reduceAdd, Nat.reduceLeDiff, Nat.reduceLT, Nat.reduceMul, Nat.reduceSub, Int.reduceToNat, Int.reduceSub, Int.reduceAdd, Int.reduceNeg, store_at e1', p1, rd])
    refine ⟨by omega, h5, by omega, by omega, h5, by omega, ?_⟩
    rw [i64_id (n := k1 + 1) (by omega) (by omega)]
    refine markNodeS_live a.by_ (by omega) (LRow.local (LPl.local eN) hx (fun y hy b hb => by rw [Heap.set_other (ne_mem hy q2)]; exact hb)) nC (by omega) (by omega) fun k2 t' G2 hx3 hlen hfr hk3 hk4 => ?_
    have g2q : G2 q = some ((cd ++ [I k1, x]) ++ c2) := by rw [hfr q q2, Heap.set_same]; simp
    (try simp (maxSteps := 1000000) (disch := first | assumption | (apply Ne.symm; assumption)) only [vz, vu, vv, eqS, eqFieldsV, ↓condV_t, ↓condV_f, tabs, reduceCtorEq, Array.toList, ↓reduceIte, Nat.reduceAdd, Nat.reduceLeDiff, Nat.reduceLT, Nat.reduceMul, Nat.reduceSub, Int.reduceToNat, Int.reduceSub, Int.reduceAdd, Int.reduceNeg])
    refine ⟨(i + 1, k2, G2, done ++ [⟨k1, t'⟩]), ⟨⟨by simp only; omega, by simp only; omega, by simp only; omega⟩, ⟨⟨cd ++ [I k1, x], c2, Dd ++ Di, D2, g2q, ?_, ?_, by simp⟩, by simp [e5], fun y hy => ?_⟩⟩, by simp only; omega, .refl _, ?_, Heap.le_refl _⟩
    · refine LL.snoc (L := LCh) (a := ⟨k1, t'⟩) ⟨x, rfl, hx3⟩ (LL.local LCh.local e2 fun y hy b hb => ?_)
      show G2 y = _
      rw [hfr y (dA y hy), Heap.set_other (ne_mem hy q1)]; exact hb
    · refine LL.local LCh.local f2 fun y hy b hb => ?_
      show G2 y = _
      rw [hfr y (dE y hy), Heap.set_other (ne_mem hy q3)]; exact hb
    · show G2 y = _
      have hy' := hy
      simp only [List.mem_cons, List.mem_append, not_or] at hy'
      rw [hfr y hy'.2.2.1, Heap.set_other hy'.1]; exact e6 y hy
    · rw [wk_int, i64_id (by omega) (by omega)]; simp
  · have : i = xs.length := by omega
    subst this
    rw [List.drop_length] at e3
    obtain ⟨rfl, rfl⟩ := e3
    refine h _ done G1 ⟨q, cd, D', by rw [e5], by simpa using e1, by rw [e4]; simpa using e2, rfl⟩ e5 e6 hk1 (by omega)

theorem markCommandS_live (xs : List Cm) (hl : totCms xs ≤ 1048576) {x : AV} {G : Heap} {D : List Nat} (hx : LRow LCm 2 xs x G D) (hD : D.Nodup) {k : Int} (h0 : 0 ≤ k) (hk : k ≤ 700000000) {K : AV → Heap → Prop}
    (h : ∀ k' xs' G', LRow LCm 2 xs' x G' D → xs'.length = xs.length → (∀ y, y ∉ D → G' y = G y) → k ≤ k' → k' ≤ k + 2 * totCms xs → K (I k') G') : CallT Try.prog 36 [x, I k] G K := by
  obtain ⟨q, cs, D', rfl, hq, hll, rfl⟩ := hx
  have hlen : xs.length ≤ 1048576 := by unfold totCms at hl; omega
  refine W36_ok ?_; simp (maxSteps := 1000000) (disch := first | assumption | (apply Ne.symm; assumption)) only [W36, vz, vu, vv, eqS, eqFieldsV, ↓condV_t, ↓condV_f, tabs, reduceCtorEq, Array.toList, ↓reduceIte, Nat.reduceAdd, Nat.reduceLeDiff, Nat.reduceLT, Nat.reduceMul, Nat.reduceSub, Int.reduceToNat, Int.reduceSub, Int.reduceAdd, Int.reduceNeg]
  refine L36_0_rule ((0 : Nat), k, G, ([] : List Cm)) (fun s => I s.2.1) (fun s => I s.1) (fun s => s.2.2.1) (fun s => (s.1 ≤ xs.length ∧ k ≤ s.2.1 ∧ s.2.1 ≤ k + 2 * (s.1 + psum totCm xs s.1)) ∧ Half LCm G q D' xs s.1 s.2.2.1 s.2.2.2) (fun s => xs.length - s.1)
    ⟨⟨⟨by simp, by simp, by simp [psum]⟩, ⟨⟨[], cs, [], D', by simpa using hq, ⟨rfl, rfl⟩, by simpa using hll, rfl⟩, rfl, fun _ _ => rfl⟩⟩, .refl _, .refl _, Heap.le_refl _⟩ ?_
  rintro ⟨i, k1, G1, done⟩ ⟨⟨hi, hk1, hk2⟩, ⟨⟨cd, cr, Dd, Dr, e1, e2, e3, e4⟩, e5, e6⟩⟩
  dsimp only at hi hk1 hk2 e1 e2 e3 e4 e5 e6
  have hps := psum_le (f := totCm) (xs := xs) i
  have htd : totCms xs = xs.length + psum totCm xs xs.length := rfl
  (try simp (maxSteps := 1000000) (disch := first | assumption | (apply Ne.symm; assumption)) only [vz, vu, vv, eqS, eqFieldsV, ↓condV_t, ↓condV_f, tabs, reduceCtorEq, Array.toList, ↓reduceIte, Nat.reduceAdd, Nat.reduceLeDiff, Nat.reduceLT, Nat.reduceMul, Nat.reduceSub, Int.reduceToNat, Int.reduceSub, Int.reduceAdd, Int.reduceNeg, B36_0])
  refine ⟨fun h5 => ?_, fun h5 => ?_⟩
  · have hlt : i < xs.length := by omega
    have hsucc := psum_succ (f := totCm) hlt
    have hps2 := psum_le (f := totCm) (xs := xs) (i + 1)
    rw [drop_cons hlt] at e3
    obtain ⟨c, c2, Di, D2, rfl, rfl, ⟨x, y, E1, E2, rfl, rfl, hx, hy⟩, f2⟩ := e3
    have hdl : cd.length = i * 2 := by rw [LL.size LCm.size e2, e5]
    subst e4
    obtain ⟨⟨q1, q2, q3⟩, dA, dE, nA, nC, nE⟩ := nd3 hD
    have htl : totCm (xs.getD i default) = (xs.getD i default).when_.length + totChs (xs.getD i default).chs := rfl
    generalize xs.getD i default = a at e1 hx hy hsucc htl
    rw [List.mem_append, not_or] at q2
    rw [List.nodup_append] at nC
    obtain ⟨qx, rfl⟩ := LRow.sl hx
    obtain ⟨qy, rfl⟩ := LRow.sl hy
    generalize hxx : (AV.sl qx 2 0 a.when_.length) = x at e1 hx
    generalize hyy : (AV.sl qy 2 0 a.chs.length) = y at e1 hy
    have e1' : G1 q = some (cd ++ (x :: y :: c2)) := e1
    have rd0 : (List.take 1 (List.drop (i * 2) (cd ++ (x :: y :: c2)))).headD AV.any = x := by
      rw [List.drop_append, hdl, List.drop_of_length_le (by omega)]; simp
    have rd1 : (List.take 1 (List.drop (i * 2 + 1) (cd ++ (x :: y :: c2)))).headD AV.any = y := by
      rw [List.drop_append, hdl, List.drop_of_length_le (by omega)]; simp
    (try simp (maxSteps := 1000000) (disch := first | assumption | (apply Ne.symm; assumption)) only [vz, vu, vv, eqS, eqFieldsV, ↓condV_t, ↓condV_f, tabs, reduceCtorEq, Array.toList, ↓reduceIte, Nat.reduceAdd, Nat.reduceLeDiff, Nat.reduceLT, Nat.reduceMul, Nat.reduceSub, Int.reduceToNat, Int.reduceSub, Int.reduceAdd, Int.reduceNeg, load_at e1', rd0, rd1])
    refine ⟨by omega, h5, by omega, ?_⟩
    refine markNodeS_live a.when_ (by omega) hx nC.1 (by omega) (by omega) fun k2 t' G2 hx3 hlen2 hfr hk3 hk4 => ?_
    have g2q' : G2 q = some (cd ++ (x :: y :: c2)) := by rw [hfr q q2.1]; exact e1'
    have hy2 : LRow LCh 2 a.chs y G2 E2 := LRow.local LCh.local hy fun z hz b hb => by rw [hfr z (fun hz1 => nC.2.2 z hz1 z hz rfl)]; exact hb
    (try simp (maxSteps := 1000000) (disch := first | assumption | (apply Ne.symm; assumption)) only [vz, vu, vv, eqS, eqFieldsV, ↓condV_t, ↓condV_f, tabs, reduceCtorEq, Array.toList, ↓reduceIte, Nat.reduceAdd, Nat.reduceLeDiff, Nat.reduceLT, Nat.reduceMul, Nat.reduceSub, Int.reduceToNat, Int.reduceSub, Int.reduceAdd, Int.reduceNeg, load_at g2q', rd0, rd1])
    refine ⟨by omega, h5, by omega, ?_⟩
    refine markChangeS_live a.chs (by omega) hy2 nC.2.1 (by omega) (by omega) fun k3 xs' G3 hy3 hlen3 hfr3 hk5 hk6 => ?_
    have g3q : G3 q = some ((cd ++ [x, y]) ++ c2) := by rw [hfr3 q q2.2, g2q']; simp
    have hx4 : LN t' x G3 E1 := LRow.local (LPl.local eN) hx3 fun z hz b hb => by rw [hfr3 z (fun hz1 => nC.2.2 z hz z hz1 rfl)]; exact hb
    (try simp (maxSteps := 1000000) (disch := first | assumption | (apply Ne.symm; assumption)) only [vz, vu, vv, eqS, eqFieldsV, ↓condV_t, ↓condV_f, tabs, reduceCtorEq, Array.toList, ↓reduceIte, Nat.reduceAdd, Nat.reduceLeDiff, Nat.reduceLT, Nat.reduceMul, Nat.reduceSub, Int.reduceToNat, Int.reduceSub, Int.reduceAdd, Int.reduceNeg])
    refine ⟨(i + 1, k3, G3, done ++ [⟨t', xs'⟩]), ⟨⟨by simp only; omega, by simp only; omega, by simp only; omega⟩, ⟨⟨cd ++ [x, y], c2, Dd ++ (E1 ++ E2), D2, g3q, ?_, ?_, by simp⟩, by simp [e5], fun z hz => ?_⟩⟩, by simp only; omega, .refl _, ?_, Heap.le_refl _⟩
    · refine LL.snoc (L := LCm) (a := ⟨t', xs'⟩) ⟨x, y, E1, E2, rfl, rfl, hx4, hy3⟩ (LL.local LCm.local e2 fun z hz b hb => ?_)
      show G3 z = _
      have := dA z hz
      rw [List.mem_append, not_or] at this
      rw [hfr3 z this.2, hfr z this.1]; exact hb
    · refine LL.local LCm.local f2 fun z hz b hb => ?_
      show G3 z = _
      have := dE z hz
      rw [List.mem_append, not_or] at this
      rw [hfr3 z this.2, hfr z this.1]; exact hb
    · show G3 z = _
      have hz' := hz
      simp only [List.mem_cons, List.mem_append, not_or] at hz'
      rw [hfr3 z hz'.2.2.1.2, hfr z hz'.2.2.1.1]; exact e6 z hz
    · rw [wk_int, i64_id (by omega) (by omega)]; simp
  · have : i = xs.length := by omega
    subst this
    rw [List.drop_length] at e3
    obtain ⟨rfl, rfl⟩ := e3
    refine h _ done G1 ⟨q, cd, D', by rw [e5], by simpa using e1, by rw [e4]; simpa using e2, rfl⟩ e5 e6 hk1 (by omega)

theorem markProgram_live (p : Pg) (hl : totPg p ≤ 1048576) {v : AV} {G : Heap} {D : List Nat} (hx : LPg p v G D) (hD : D.Nodup) {k : Int} (h0 : 0 ≤ k) (hk : k ≤ 600000000) {K : AV → Heap → Prop}
    (h : ∀ k' G', (∀ y, y ∉ D → G' y = G y) → k ≤ k' → k' ≤ k + 2 * totPg p → K (I k') G') : CallT Try.prog 14 [v, I k] G K := by
  obtain ⟨x, y, D1, D2, rfl, rfl, h1, h2⟩ := hx
  rw [List.nodup_append] at hD
  have htd : totPg p = p.start.length + totCms p.cmds := rfl
  refine CallT.fin ?_
  refine W14_ok ?_; simp (maxSteps := 1000000) (disch := first | assumption | (apply Ne.symm; assumption)) only [W14, vz, vu, vv, eqS, eqFieldsV, ↓condV_t, ↓condV_f, tabs, reduceCtorEq, Array.toList, ↓reduceIte, Nat.reduceAdd, Nat.reduceLeDiff, Nat.reduceLT, Nat.reduceMul, Nat.reduceSub, Int.reduceToNat, Int.reduceSub, Int.reduceAdd, Int.reduceNeg]
  intro r hr
  have r1 : r ∉ D1 := fun hh => LRow.has (LPl.has eN) h1 r hh hr
  have r2 : r ∉ D2 := fun hh => LRow.has LCm.has h2 r hh hr
  have h1' : LN p.start x (G.set r [I p.wide, I p.vars, x, y]) D1 := LRow.local (LPl.local eN) h1 fun z hz b hb => by rw [Heap.set_other (ne_mem hz r1)]; exact hb
  refine markNodeS_live p.start (by omega) h1' hD.1 h0 (by omega) fun k2 t' G2 hx3 hlen2 hfr hk3 hk4 => ?_
  have g2 : G2 r = some [I p.wide, I p.vars, x, y] := by rw [hfr r r1, Heap.set_same]
  have h2' : LRow LCm 2 p.cmds y G2 D2 := LRow.local LCm.local h2 fun z hz b hb => by rw [hfr z (fun hz1 => hD.2.2 z hz1 z hz rfl), Heap.set_other (ne_mem hz r2)]; exact hb
  (try simp (maxSteps := 1000000) (disch := first | assumption | (apply Ne.symm; assumption)) only [vz, vu, vv, eqS, eqFieldsV, ↓condV_t, ↓condV_f, tabs, reduceCtorEq, Array.toList, ↓reduceIte, Nat.reduceAdd, Nat.reduceLeDiff, Nat.reduceLT, Nat.reduceMul, Nat.reduceSub, Int.reduceToNat, Int.reduceSub, Int.reduceAdd, Int.reduceNeg, load_at g2])
  refine markCommandS_live p.cmds (by omega) h2' hD.2.1 (by omega) (by omega) fun k3 xs' G3 hy3 hlen3 hfr3 hk5 hk6 => ?_
  (try simp (maxSteps := 1000000) (disch := first | assumption | (apply Ne.symm; assumption)) only [vz, vu, vv, eqS, eqFieldsV, ↓condV_t, ↓condV_f, tabs, reduceCtorEq, Array.toList, ↓reduceIte, Nat.reduceAdd, Nat.reduceLeDiff, Nat.reduceLT, Nat.reduceMul, Nat.reduceSub, Int.reduceToNat, Int.reduceSub, Int.reduceAdd, Int.reduceNeg])
  refine fin_le (H := G3.del r) (Heap.del_le _ _) (h k3 (G3.del r) (fun z hz => ?_) (by omega) (by omega))
  rw [List.mem_append, not_or] at hz
  by_cases e : z = r
  · subst e; rw [Heap.del_same, hr]
  · rw [Heap.del_other e, hfr3 z hz.2, hfr z hz.1, Heap.set_other e]

end Go.Proofs.Ytdnfiacjoghfkaa
/- Things that own blocks: a heap as a list of them. -/
namespace Go.Sep
open Go Go.RowKit Go.Proofs.Ytdnfiacjoghfkaa
set_option linter.unusedVariables false

/-- A thing that owns blocks: where, and what holds of them. -/
structure Th where
  D : List Nat
  P : Heap → Prop
  loc : ∀ {G G' : Heap}, P G → (∀ y ∈ D, ∀ b, G y = some b → G' y = some b) → P G'
  has : ∀ {G : Heap}, P G → ∀ y ∈ D, G y ≠ none
def cellT (r : Nat) (b : List AV) : Th := ⟨[r], fun G => G r = some b, fun h f => f r (List.mem_singleton.2 rfl) b h, fun h y hy => by rw [List.mem_singleton.1 hy, h]; simp⟩
/-- A heap over H that holds the things Ts, each by itself. -/
structure St (H : Heap) (Ts : List Th) (G : Heap) : Prop where
  le : Heap.le H G
  nd : (Ts.flatMap Th.D).Nodup
  fr : ∀ t ∈ Ts, ∀ y ∈ t.D, H y = none
  ok : ∀ t ∈ Ts, t.P G
theorem St.nil (H : Heap) : St H [] H := ⟨Heap.le_refl _, List.nodup_nil, fun t ht => (by cases ht), fun t ht => (by cases ht)⟩
theorem St.get {H G : Heap} {Ts : List Th} {t : Th} (s : St H Ts G) (i : Nat) (h : Ts[i]? = some t) : t.P G := s.ok t (List.mem_of_getElem? h)
theorem St.ndT {H G : Heap} {Ts : List Th} {t : Th} (s : St H Ts G) (i : Nat) (h : Ts[i]? = some t) : t.D.Nodup := by
  obtain ⟨pre, post, e⟩ := List.append_of_mem (List.mem_of_getElem? h)
  have := s.nd
  rw [e, List.flatMap_append, List.flatMap_cons, List.nodup_append, List.nodup_append] at this
  exact this.2.1.1
theorem St.push {H G G' : Heap} {Ts : List Th} (s : St H Ts G) (t : Th) (hn : New G G' t.D) (hp : t.P G') : St H (t :: Ts) G' := by
  refine ⟨Heap.le_trans s.le hn.le, ?_, ?_, ?_⟩
  · rw [List.flatMap_cons, List.nodup_append]
    refine ⟨hn.nd, s.nd, fun a ha b hb e => ?_⟩
    obtain ⟨u, hu, hbu⟩ := List.mem_flatMap.1 hb
    exact u.has (s.ok u hu) b hbu (by rw [← e]; exact hn.fr a ha)
  · intro u hu y hy
    rcases List.mem_cons.1 hu with rfl | hu
    · cases hh : H y with
      | none => rfl
      | some b => rw [← hn.fr y hy, s.le y b hh]
    · exact s.fr u hu y hy
  · intro u hu
    rcases List.mem_cons.1 hu with rfl | hu
    · exact hp
    · exact u.loc (s.ok u hu) fun y _ b hb => hn.le y b hb
theorem New.cell {G : Heap} {r : Nat} {b : List AV} (hr : G r = none) : New G (G.set r b) [r] := ⟨by simp, by simpa using hr, Heap.le_set hr⟩
theorem St.cell {H G : Heap} {Ts : List Th} (s : St H Ts G) {r : Nat} (hr : G r = none) (b : List AV) : St H (cellT r b :: Ts) (G.set r b) := s.push (cellT r b) (New.cell hr) (Heap.set_same _ _ _)
theorem St.upd {H G G' : Heap} {Ts : List Th} {t : Th} (s : St H Ts G) (i : Nat) (h : Ts[i]? = some t) (t' : Th) (hD : t'.D = t.D) (hf : ∀ y, y ∉ t.D → G' y = G y) (hp : t'.P G') : St H (Ts.set i t') G' := by
  obtain ⟨hi, hti⟩ := List.getElem?_eq_some_iff.1 h
  have e : Ts = Ts.take i ++ t :: Ts.drop (i + 1) := by rw [← hti, List.getElem_cons_drop, List.take_append_drop]
  have e' : Ts.set i t' = Ts.take i ++ t' :: Ts.drop (i + 1) := by rw [List.set_eq_take_append_cons_drop, if_pos hi]
  generalize Ts.take i = pre at e e'
  generalize Ts.drop (i + 1) = post at e e'
  rw [e']
  subst e
  have hnd := s.nd
  rw [List.flatMap_append, List.flatMap_cons] at hnd
  have hdis : ∀ u ∈ pre ++ post, ∀ y ∈ u.D, y ∉ t.D := by
    intro u hu y hy hyt
    rw [List.nodup_append, List.nodup_append] at hnd
    rcases List.mem_append.1 hu with hu | hu
    · exact hnd.2.2 y (List.mem_flatMap.2 ⟨u, hu, hy⟩) y (List.mem_append_left _ hyt) rfl
    · exact hnd.2.1.2.2 y hyt y (List.mem_flatMap.2 ⟨u, hu, hy⟩) rfl
  refine ⟨fun y b hb => ?_, by rw [List.flatMap_append, List.flatMap_cons, hD]; exact hnd, fun u hu y hy => ?_, fun u hu => ?_⟩
  · rw [hf y (fun hy => by have := s.fr t (by simp) y hy; rw [this] at hb; cases hb)]; exact s.le y b hb
  · rcases List.mem_append.1 hu with hu | hu
    · exact s.fr u (List.mem_append_left _ hu) y hy
    · rcases List.mem_cons.1 hu with rfl | hu
      · exact s.fr t (by simp) y (hD ▸ hy)
      · exact s.fr u (by simp [hu]) y hy
  · have old : ∀ u ∈ pre ++ post, u.P G' := fun u hu => u.loc (s.ok u (by
      rcases List.mem_append.1 hu with hu | hu
      · exact List.mem_append_left _ hu
      · exact List.mem_append_right _ (List.mem_cons_of_mem _ hu))) fun y hy b hb => by rw [hf y (hdis u hu y hy)]; exact hb
    rcases List.mem_append.1 hu with hu | hu
    · exact old u (List.mem_append_left _ hu)
    · rcases List.mem_cons.1 hu with rfl | hu
      · exact hp
      · exact old u (List.mem_append_right _ hu)
theorem St.drop {H G : Heap} {t : Th} {Ts : List Th} (s : St H (t :: Ts) G) : St H Ts G := ⟨s.le, (by have := s.nd; rw [List.flatMap_cons, List.nodup_append] at this; exact this.2.1), fun u hu => s.fr u (List.mem_cons_of_mem _ hu), fun u hu => s.ok u (List.mem_cons_of_mem _ hu)⟩
theorem St.perm {H G : Heap} {Ts Us : List Th} (s : St H Ts G) (h : List.Perm Ts Us) : St H Us G :=
  ⟨s.le, (h.flatMap_right _).nodup s.nd, fun t ht => s.fr t (h.mem_iff.2 ht), fun t ht => s.ok t (h.mem_iff.2 ht)⟩
theorem St.disj {H G : Heap} {t u : Th} {Ts : List Th} (s : St H (t :: u :: Ts) G) : ∀ y ∈ t.D, y ∉ u.D := by
  have := s.nd
  rw [List.flatMap_cons, List.flatMap_cons, List.nodup_append] at this
  exact fun y hy hu => this.2.2 y hy y (List.mem_append_left _ hu) rfl
theorem Th.dis : ∀ {Ts : List Th} {t u : Th} {i j : Nat}, (Ts.flatMap Th.D).Nodup → Ts[i]? = some t → Ts[j]? = some u → i < j → ∀ y ∈ t.D, y ∉ u.D
  | [], _, _, _, _, _, hi, _, _ => by simp at hi
  | a :: Ts, t, u, 0, j + 1, nd, hi, hj, _ => by
    rw [List.flatMap_cons, List.nodup_append] at nd
    simp only [List.getElem?_cons_zero, Option.some.injEq] at hi
    subst hi
    exact fun y hy hu => nd.2.2 y hy y (List.mem_flatMap.2 ⟨u, List.mem_of_getElem? (by simpa using hj), hu⟩) rfl
  | a :: Ts, t, u, i + 1, j + 1, nd, hi, hj, h => by
    rw [List.flatMap_cons, List.nodup_append] at nd
    exact Th.dis nd.2.1 (by simpa using hi) (by simpa using hj) (by omega)
theorem St.disjI {H G : Heap} {t u : Th} {Ts : List Th} (s : St H Ts G) (i j : Nat) (hi : Ts[i]? = some t) (hj : Ts[j]? = some u) (hij : i ≠ j) : ∀ y ∈ t.D, y ∉ u.D := by
  rcases Nat.lt_or_gt_of_ne hij with h | h
  · exact Th.dis s.nd hi hj h
  · exact fun y hy hu => Th.dis s.nd hj hi h y hu hy
theorem St.fresh {H G : Heap} {Ts : List Th} {t : Th} (s : St H Ts G) (i : Nat) (h : Ts[i]? = some t) {q : Nat} (hq : G q = none) : q ∉ t.D := fun hm => t.has (s.get i h) q hm hq
theorem perm_pick {α : Type} : ∀ (Ts : List α) (i : Nat) (hi : i < Ts.length), List.Perm Ts (Ts[i] :: Ts.eraseIdx i)
  | a :: Ts, 0, _ => List.Perm.refl _
  | a :: Ts, i + 1, hi => ((perm_pick Ts i (by simpa using hi)).cons a).trans (List.Perm.swap _ _ _)
theorem perm_set {α : Type} : ∀ (Ts : List α) (i : Nat) (hi : i < Ts.length) (t : α), List.Perm (Ts.set i t) (t :: Ts.eraseIdx i)
  | a :: Ts, 0, _, _ => List.Perm.refl _
  | a :: Ts, i + 1, hi, t => ((perm_set Ts i (by simpa using hi) t).cons a).trans (List.Perm.swap _ _ _)
theorem sub_flat {α β : Type} {f : α → List β} {l m : List α} (h : List.Sublist l m) : List.Sublist (l.flatMap f) (m.flatMap f) := by
  induction h with
  | slnil => exact List.Sublist.refl _
  | cons a _ ih => rw [List.flatMap_cons]; exact ih.trans (List.sublist_append_right _ _)
  | cons_cons a _ ih => rw [List.flatMap_cons, List.flatMap_cons]; exact List.Sublist.append_left ih _
theorem St.pick {H G : Heap} {Ts : List Th} {t : Th} (s : St H Ts G) (i : Nat) (h : Ts[i]? = some t) : St H (t :: Ts.eraseIdx i) G := by
  obtain ⟨hi, rfl⟩ := List.getElem?_eq_some_iff.1 h
  exact s.perm (perm_pick Ts i hi)
/-- Some things turn into others. -/
theorem St.step {H G G' : Heap} {old rest : List Th} (s : St H (old ++ rest) G) (new : List Th) (hnd : (new.flatMap Th.D).Nodup) (hfr : ∀ t ∈ new, ∀ y ∈ t.D, (∃ u ∈ old, y ∈ u.D) ∨ G y = none)
    (hf : ∀ y b, G y = some b → (∀ u ∈ old, y ∉ u.D) → G' y = some b) (hp : ∀ t ∈ new, t.P G') : St H (new ++ rest) G' := by
  have hs := s.nd
  rw [List.flatMap_append, List.nodup_append] at hs
  have hdis : ∀ u ∈ rest, ∀ y ∈ u.D, ∀ t ∈ old, y ∉ t.D := fun u hu y hy t ht hyt => hs.2.2 y (List.mem_flatMap.2 ⟨t, ht, hyt⟩) y (List.mem_flatMap.2 ⟨u, hu, hy⟩) rfl
  refine ⟨fun y b hb => ?_, ?_, fun u hu y hy => ?_, fun u hu => ?_⟩
  · refine hf y b (s.le y b hb) fun u hu hy => ?_
    rw [s.fr u (List.mem_append_left _ hu) y hy] at hb; cases hb
  · rw [List.flatMap_append, List.nodup_append]
    refine ⟨hnd, hs.2.1, fun a ha b hb e => ?_⟩
    subst e
    obtain ⟨t, ht, hat⟩ := List.mem_flatMap.1 ha
    obtain ⟨u, hu, hau⟩ := List.mem_flatMap.1 hb
    rcases hfr t ht a hat with ⟨v, hv, hav⟩ | hn
    · exact hdis u hu a hau v hv hav
    · exact u.has (s.ok u (List.mem_append_right _ hu)) a hau hn
  · rcases List.mem_append.1 hu with hu | hu
    · rcases hfr u hu y hy with ⟨v, hv, hav⟩ | hn
      · exact s.fr v (List.mem_append_left _ hv) y hav
      · cases hh : H y with
        | none => rfl
        | some b => rw [← hn, s.le y b hh]
    · exact s.fr u (List.mem_append_right _ hu) y hy
  · rcases List.mem_append.1 hu with hu | hu
    · exact hp u hu
    · exact u.loc (s.ok u (List.mem_append_right _ hu)) fun y hy b hb => hf y b hb (hdis u hu y hy)
theorem St.repl {H G G' : Heap} {Ts : List Th} {t : Th} (s : St H Ts G) (i : Nat) (h : Ts[i]? = some t) (t' : Th) (hnd : t'.D.Nodup) (hfr : ∀ y ∈ t'.D, y ∈ t.D ∨ G y = none)
    (hf : ∀ y b, G y = some b → y ∉ t.D → G' y = some b) (hp : t'.P G') : St H (Ts.set i t') G' := by
  obtain ⟨hi, -⟩ := List.getElem?_eq_some_iff.1 h
  have := St.step (old := [t]) (s.pick i h) [t'] (by simpa using hnd) (fun u hu y hy => by
    rw [List.mem_singleton] at hu; subst hu
    rcases hfr y hy with h1 | h1
    · exact .inl ⟨t, by simp, h1⟩
    · exact .inr h1) (fun y b hb hy => hf y b hb (hy t (by simp))) (fun u hu => by rw [List.mem_singleton] at hu; subst hu; exact hp)
  exact this.perm (perm_set Ts i hi t').symm
/-- A block moved on with another content: an append. -/
theorem St.moved {H G : Heap} {Ts : List Th} {q q' : Nat} {b c : List AV} (s : St H Ts G) (i : Nat) (h : Ts[i]? = some (cellT q b)) (hq : G q' = none) : St H (Ts.set i (cellT q' c)) ((G.del q).set q' c) := by
  have hg : G q = some b := s.get i h
  refine s.repl i h (cellT q' c) (by simp [cellT]) (fun y hy => ?_) (fun y bb hb hy => ?_) (Heap.set_same _ _ _)
  · simp only [cellT, List.mem_singleton] at hy; subst hy; exact .inr hq
  · simp only [cellT, List.mem_singleton] at hy
    rw [Heap.set_other (fun e => by rw [e, hq] at hb; cases hb), Heap.del_other hy]; exact hb
/-- A block written over. -/
theorem St.put {H G : Heap} {Ts : List Th} {q : Nat} {b : List AV} (s : St H Ts G) (i : Nat) (h : Ts[i]? = some (cellT q b)) (c : List AV) : St H (Ts.set i (cellT q c)) (G.set q c) := by
  refine s.repl i h (cellT q c) (by simp [cellT]) (fun y hy => .inl hy) (fun y bb hb hy => ?_) (Heap.set_same _ _ _)
  simp only [cellT, List.mem_singleton] at hy
  rw [Heap.set_other hy]; exact hb
/-- Things forgotten. -/
theorem St.sub {H G : Heap} {Ts Us : List Th} (s : St H Ts G) (h : List.Sublist Us Ts) : St H Us G :=
  ⟨s.le, List.Nodup.sublist (sub_flat h) s.nd, fun t ht => s.fr t (h.subset ht), fun t ht => s.ok t (h.subset ht)⟩
/-- What is there at last. -/
theorem St.new {H G : Heap} {Ts : List Th} (s : St H Ts G) : New H G (Ts.flatMap Th.D) := ⟨s.nd, fun y hy => by
  obtain ⟨t, ht, hyt⟩ := List.mem_flatMap.1 hy
  exact s.fr t ht y hyt, s.le⟩
/-- Freezing a part: what is given up. -/
theorem St.wkNone {H G : Heap} {Ts : List Th} (s : St H Ts G) : ∀ y b, H y = some b → ∀ t ∈ Ts, y ∉ t.D := fun y b hb t ht hy => by rw [s.fr t ht y hy] at hb; cases hb
end Go.Sep
/- Specs: two abstractions laid together, as numbers of keys: implementation and reference. -/
namespace Go.Proofs.Ytdnfiacjoghfkaa
open Go Go.Sep Go.Pt
set_option linter.unusedSimpArgs false
set_option linter.unusedVariables false
attribute [local irreducible] CallT

abbrev row2 (q : Nat) (xs : List (Int × Int)) : AV := .sl q 2 0 xs.length
abbrev c2 (xs : List (Int × Int)) : List AV := cells (xs.map e2)
theorem sz2 (xs : List (Int × Int)) : Sized 2 (xs.map e2) := Go.Sep.sized_map (f := e2) (fun _ => rfl) xs
theorem frz_row2 {q : Nat} {xs : List (Int × Int)} : FrzR q 2 (xs.map e2) (row2 q xs) (.p (.sl (xs.map e2))) := by
  have : FrzR q 2 (xs.map e2) (.sl q 2 0 (xs.map e2).length) (.p (.sl (xs.map e2))) := .here
  rwa [List.length_map] at this
theorem push_key {q : Nat} {xs : List (Int × Int)} {a b : Int} {G : Heap} {K : AV → Heap → Prop} (hq : G q = some (c2 xs)) (hl : xs.length ≤ 1000000)
    (h : ∀ q', G q' = none → q' ≠ q → K (row2 q' (xs ++ [(a, b)])) ((G.del q).set q' (c2 (xs ++ [(a, b)])))) :
    buildSliceV tab 84 1 [(0, .agg [I a, I b])] G (wkK fun v H1 => appendV tab 84 84 (row2 q xs) v H1 (wkK K)) := by
  have := push_own (tab := tab) (r := q) (sz := 2) (es := xs.map e2) (cs := e2 (a, b)) (x := .agg [I a, I b]) (H := G) (K := K) tab_84 rfl tab_85 rfl rfl (bz := 16) rfl (by rfl) (by omega) (by omega) rfl hq (sz2 xs) (by simp only [List.length_map]; omega) (by simp only [List.length_map]; omega) fun r' hr' => by
    have hne : r' ≠ q := by rintro rfl; rw [hq] at hr'; cases hr'
    have := h r' hr' hne
    simpa only [Go.Sep.own, c2, row2, List.length_map, List.map_append, List.length_append, List.map_cons, List.map_nil, List.length_cons, List.length_nil] using this
  simpa only [Go.Sep.own, List.length_map] using this

def keysM (xs ys : List Int) (n : Nat) : List (Int × Int) := (List.range n).map fun i => (xs.getD i default, ys.getD i default)
theorem keysM_len (xs ys : List Int) (n : Nat) : (keysM xs ys n).length = n := by simp [keysM]
theorem keysM_succ (xs ys : List Int) (n : Nat) : keysM xs ys (n + 1) = keysM xs ys n ++ [(xs.getD n default, ys.getD n default)] := by simp [keysM, List.range_succ]
theorem keysM_get {xs ys : List Int} {n i : Nat} (h : i < n) : kN (keysM xs ys n) i = (xs.getD i default, ys.getD i default) := by simp [keysM, kN, List.getD, h]
def meetL (xs ys : List Int) : List Int := numL (kN (keysM xs ys xs.length)) xs.length
theorem meetL_len (xs ys : List Int) : (meetL xs ys).length = xs.length := numL_len _ _

theorem meetOf_spec (xs ys : List Int) (hpos : 0 < xs.length) (hl : xs.length ≤ 1000) (hy : xs.length ≤ ys.length) (hyl : ys.length ≤ 1000000) (hx1 : ∀ x ∈ xs, i64R x) (hy1 : ∀ x ∈ ys, i64R x) {H : Heap} {K : AV → Heap → Prop}
    (h : ∀ q, H q = none → K (.agg [rowP q (meetL xs ys)]) (H.set q (cP fI (meetL xs ys)))) : CallT Try.prog 32 [aS xs, aS ys] H K := by
  refine CallT.fin ?_
  refine W32_ok ?_; simp (maxSteps := 1000000) (disch := first | assumption | (apply Ne.symm; assumption)) only [W32, vz, vu, vv, eqS, eqFieldsV, ↓condV_t, ↓condV_f, tabs, reduceCtorEq, Array.toList, ↓reduceIte, Nat.reduceAdd, Nat.reduceLeDiff, Nat.reduceLT, Nat.reduceMul, Nat.reduceSub, Int.reduceToNat, Int.reduceSub, Int.reduceAdd, Int.reduceNeg, buildSliceV, zerosA, List.replicate_zero, List.flatten_nil]
  intro r2 h2 r3 n3 h3 r4 n43 n42 h4 q0 m4 m3 m2 hq0
  refine wkK.keep ?_
  (try simp (maxSteps := 1000000) (disch := first | assumption | (apply Ne.symm; assumption)) only [vz, vu, vv, eqS, eqFieldsV, ↓condV_t, ↓condV_f, tabs, reduceCtorEq, Array.toList, ↓reduceIte, Nat.reduceAdd, Nat.reduceLeDiff, Nat.reduceLT, Nat.reduceMul, Nat.reduceSub, Int.reduceToNat, Int.reduceSub, Int.reduceAdd, Int.reduceNeg])
  generalize hG : ((H.set r2 [Is xs]).set r3 [Is ys]).set r4 [AV.p PV.nil] = G
  have g2 : G r2 = some [Is xs] := by rw [← hG, Heap.set_other (Ne.symm n42), Heap.set_other (Ne.symm n3), Heap.set_same]
  have g3 : G r3 = some [Is ys] := by rw [← hG, Heap.set_other (Ne.symm n43), Heap.set_same]
  have g4 : G r4 = some [AV.p .nil] := by rw [← hG, Heap.set_same]
  have gq : G q0 = none := by rw [← hG, Heap.set_other m4, Heap.set_other m3, Heap.set_other m2]; exact hq0
  have hle : Heap.le H G := by rw [← hG]; exact Heap.le_setN (Heap.le_setN (Heap.le_set h2) h3) h4
  clear hG
  refine L32_0_rule ((0 : Nat), q0) (fun s => row2 s.2 (keysM xs ys s.1)) (fun s => I s.1) (fun s => G.set s.2 (c2 (keysM xs ys s.1))) (fun s => s.1 ≤ xs.length ∧ G s.2 = none) (fun s => xs.length - s.1) ⟨⟨by simp, gq⟩, .refl _, .refl _, Heap.le_refl _⟩ ?_
  rintro ⟨i, q⟩ ⟨hi, hq⟩
  dsimp only at hi hq
  have hkl := keysM_len xs ys i
  have ne : ∀ {y c}, G y = some c → q ≠ y := fun h1 e => by rw [e, h1] at hq; cases hq
  have k3 : (G.set q (c2 (keysM xs ys i))) r3 = some [Is ys] := by rw [Heap.set_other (ne g3).symm]; exact g3
  (try simp (maxSteps := 1000000) (disch := first | assumption | (apply Ne.symm; assumption)) only [vz, vu, vv, eqS, eqFieldsV, ↓condV_t, ↓condV_f, tabs, reduceCtorEq, Array.toList, ↓reduceIte, Nat.reduceAdd, Nat.reduceLeDiff, Nat.reduceLT, Nat.reduceMul, Nat.reduceSub, Int.reduceToNat, Int.reduceSub, Int.reduceAdd, Int.reduceNeg, B32_0, load_at k3])
  refine ⟨fun h1 => ?_, fun h1 => ?_⟩
  · refine ⟨by omega, h1, by omega, by omega, ?_⟩
    refine push_key (q := q) (Heap.set_same _ _ _) (by omega) fun q' hq' hne' => ?_
    simp only [Heap.set_none] at hq'
    obtain ⟨p1, p2⟩ := hq'
    rw [Heap.del_set hq, ← keysM_succ]
    refine ⟨(i + 1, q'), ⟨by simp only; omega, p2⟩, by simp only; omega, .refl _, ?_, Heap.le_refl _⟩
    rw [wk_int, i64_id (by omega) (by omega)]; simp
  · have : i = xs.length := by omega
    subst this
    have hw : Wk (.tup [row2 q (keysM xs ys xs.length)]) (G.set q (c2 (keysM xs ys xs.length))) (.tup [.p (.sl ((keysM xs ys xs.length).map e2))]) G := by
      have := Wk.frz (v := .tup [row2 q (keysM xs ys xs.length)]) (v' := .tup [.p (.sl ((keysM xs ys xs.length).map e2))]) (H := G.set q (c2 (keysM xs ys xs.length))) (r := q) (sz := 2) (es := (keysM xs ys xs.length).map e2) (by omega) (Heap.set_same _ _ _) (sz2 _) (.tup (.cons frz_row2 .nil))
      rwa [Heap.del_set hq] at this
    refine CallT.pre (numbered_spec (keysM xs ys xs.length) (by omega) (by omega) (fun x hx => ?_) fun q2 hq2 => ?_) hw
    · obtain ⟨j, hj, rfl⟩ := List.mem_map.1 hx
      rw [List.mem_range] at hj
      exact ⟨getD_all (p := i64R) hx1 hj, getD_all (p := i64R) hy1 (by omega)⟩
    · rw [hkl]
      have k4 : (G.set q2 (cP fI (numL (kN (keysM xs ys xs.length)) xs.length))) r4 = some [AV.p .nil] := by rw [Heap.set_other (fun e => by rw [← e, g4] at hq2; cases hq2)]; exact g4
      have e42 : r4 ≠ q2 := fun e => by rw [← e, g4] at hq2; cases hq2
      have hq3 : H q2 = none := by
        cases hh : H q2 with
        | none => rfl
        | some b => rw [hle _ _ hh] at hq2; cases hq2
      have := h q2 hq3
      unfold meetL at this
      generalize cP fI (numL (kN (keysM xs ys xs.length)) xs.length) = z at this k4 ⊢
      (try simp (maxSteps := 1000000) (disch := first | assumption | (apply Ne.symm; assumption)) only [vz, vu, vv, eqS, eqFieldsV, ↓condV_t, ↓condV_f, tabs, reduceCtorEq, Array.toList, ↓reduceIte, Nat.reduceAdd, Nat.reduceLeDiff, Nat.reduceLT, Nat.reduceMul, Nat.reduceSub, Int.reduceToNat, Int.reduceSub, Int.reduceAdd, Int.reduceNeg, store_at k4])
      refine fin_le ?_ this
      intro y b hy
      by_cases e : y = q2
      · subst e; rw [Heap.set_same] at hy; rw [Heap.set_other (Ne.symm e42), Heap.set_same]; exact hy
      · rw [Heap.set_other e] at hy
        have hy4 : y ≠ r4 := fun e => by rw [e, h4] at hy; cases hy
        rw [Heap.set_other hy4, Heap.set_other e]; exact hle _ _ hy
end Go.Proofs.Ytdnfiacjoghfkaa
/- Specs: the reference's numbering. -/
namespace Go.Proofs.Ytdnfiacjoghfkaa
open Go Go.Sep Go.Pt
set_option linter.unusedSimpArgs false
set_option linter.unusedVariables false
attribute [local irreducible] CallT

abbrev kI (zs : List Int) : Nat → Int := fun j => zs.getD j default
theorem l15Of_spec (zs : List Int) (hl : zs.length ≤ 100000) : Pu Try.prog 28 [Is zs] (aS (numL (kI zs) zs.length)) := by
  refine ⟨fun H => CallT.fin ?_⟩
  refine W28_ok ?_; simp (maxSteps := 1000000) (disch := first | assumption | (apply Ne.symm; assumption)) only [W28, vz, vu, vv, eqS, eqFieldsV, ↓condV_t, ↓condV_f, tabs, reduceCtorEq, Array.toList, ↓reduceIte, Nat.reduceAdd, Nat.reduceLeDiff, Nat.reduceLT, Nat.reduceMul, Nat.reduceSub, Int.reduceToNat, Int.reduceSub, Int.reduceAdd, Int.reduceNeg]
  intro r2 h2 r3 n3 h3
  have n23 : r2 ≠ r3 := Ne.symm n3
  generalize hH0 : H.set r2 [AV.p .nil] = H0
  have h03 : H0 r3 = none := by rw [← hH0, Heap.set_other n3]; exact h3
  have g2 : H0 r2 = some [AV.p .nil] := by rw [← hH0, Heap.set_same]
  have hle : Heap.le H H0 := by rw [← hH0]; exact Heap.le_set h2
  refine L28_0_rule ((0 : Nat), AV.p .nil, H0.set r3 [.p .nil]) (fun s => I (cntN (kI zs) s.1)) (fun s => I s.1) (fun s => s.2.2)
    (fun s => s.1 ≤ zs.length ∧ Own1 fI H0 s.2.2 r3 [] s.2.1 (numL (kI zs) s.1)) (fun s => zs.length - s.1) ⟨⟨by simp, ?_⟩, .refl _, .refl _, Heap.le_refl _⟩ ?_
  · exact ⟨Heap.set_same _ _ _, .inl ⟨rfl, rfl⟩, Heap.le_set h03, h03⟩
  rintro ⟨i, x, G⟩ ⟨hi, o⟩
  dsimp only at hi o
  have g3 : G r3 = some [x] := o.hr
  have k2 := o.le _ _ g2
  have hnl := numL_len (kI zs) i
  have hcl := cntN_le (kI zs) i
  (try simp (maxSteps := 1000000) (disch := first | assumption | (apply Ne.symm; assumption)) only [vz, vu, vv, eqS, eqFieldsV, ↓condV_t, ↓condV_f, tabs, reduceCtorEq, Array.toList, ↓reduceIte, Nat.reduceAdd, Nat.reduceLeDiff, Nat.reduceLT, Nat.reduceMul, Nat.reduceSub, Int.reduceToNat, Int.reduceSub, Int.reduceAdd, Int.reduceNeg, B28_0])
  refine ⟨fun h1 => ⟨by omega, h1, ?_⟩, fun h1 => ?_⟩
  · have hlt : i < zs.length := by omega
    -- the class is known
    have fin : ∀ N1 : AV → AV → Heap → Prop, (∀ G', ∀ x', Own1 fI H0 G' r3 [] x' (numL (kI zs) (i + 1)) → N1 (I (cntN (kI zs) (i + 1))) (I (i + 1 : Nat)) G') → ∀ K, J28_3 K N1 (Is zs) (.ptr r2 0) (.ptr r3 0) (I (cntN (kI zs) i)) (I (numN (kI zs) i)) (Is zs) (I zs.length) (I i) G := by
      intro N1 hN K
      unfold J28_3
      have hsucc := numL_succ (kI zs) i
      have two : ∀ {c : Int}, c = cntN (kI zs) (i + 1) → J28_2 K N1 (Is zs) (.ptr r2 0) (.ptr r3 0) (I c) (I (numN (kI zs) i)) (Is zs) (I zs.length) (I i) G := by
        rintro c rfl
        unfold J28_2
        (try simp (maxSteps := 1000000) (disch := first | assumption | (apply Ne.symm; assumption)) only [vz, vu, vv, eqS, eqFieldsV, ↓condV_t, ↓condV_f, tabs, reduceCtorEq, Array.toList, ↓reduceIte, Nat.reduceAdd, Nat.reduceLeDiff, Nat.reduceLT, Nat.reduceMul, Nat.reduceSub, Int.reduceToNat, Int.reduceSub, Int.reduceAdd, Int.reduceNeg, load_at g3])
        refine lit1 tab_26 rfl tab_3 ⟨rfl, rfl⟩ ?_
        refine o.app (ys := [(numN (kI zs) i : Int)]) tab_26 rfl tab_3 rfl (by decide) (by simp; omega) fun q' m' G1 k6 o3 _ => ?_
        have k6' : G1 r3 = some [x] := k6
        (try simp (maxSteps := 1000000) (disch := first | assumption | (apply Ne.symm; assumption)) only [vz, vu, vv, eqS, eqFieldsV, ↓condV_t, ↓condV_f, tabs, reduceCtorEq, Array.toList, ↓reduceIte, Nat.reduceAdd, Nat.reduceLeDiff, Nat.reduceLT, Nat.reduceMul, Nat.reduceSub, Int.reduceToNat, Int.reduceSub, Int.reduceAdd, Int.reduceNeg, store_at k6'])
        rw [i64_id (by omega) (by omega)]
        exact hN _ _ (by rw [hsucc]; exact o3)
      have hlt2 := numN_lt (kI zs) (Nat.lt_succ_self i)
      by_cases hn : newAt (kI zs) i = true
      · have e1 := numN_new hn
        have e2 : cntN (kI zs) (i + 1) = cntN (kI zs) i + 1 := by simp [cntN, hn]
        rw [← e1]
        (try simp (maxSteps := 1000000) (disch := first | assumption | (apply Ne.symm; assumption)) only [vz, vu, vv, eqS, eqFieldsV, ↓condV_t, ↓condV_f, tabs, reduceCtorEq, Array.toList, ↓reduceIte, Nat.reduceAdd, Nat.reduceLeDiff, Nat.reduceLT, Nat.reduceMul, Nat.reduceSub, Int.reduceToNat, Int.reduceSub, Int.reduceAdd, Int.reduceNeg])
        rw [i64_id (by omega) (by omega)]
        exact two (by omega)
      · have hn' : newAt (kI zs) i = false := by simpa using hn
        have e2 : cntN (kI zs) (i + 1) = cntN (kI zs) i := by simp [cntN, hn']
        have hne : ¬ ((numN (kI zs) i : Int) = cntN (kI zs) i) := by
          have h3 := numN_lt (kI zs) (not_new hn')
          have h4 := numN_same (fstN_spec (kI zs) i).2.1
          omega
        (try simp (maxSteps := 1000000) (disch := first | assumption | (apply Ne.symm; assumption)) only [vz, vu, vv, eqS, eqFieldsV, ↓condV_t, ↓condV_f, tabs, reduceCtorEq, Array.toList, ↓reduceIte, Nat.reduceAdd, Nat.reduceLeDiff, Nat.reduceLT, Nat.reduceMul, Nat.reduceSub, Int.reduceToNat, Int.reduceSub, Int.reduceAdd, Int.reduceNeg, hne])
        exact two (by omega)
    refine L28_1_rule (0 : Nat) (fun _ => I (cntN (kI zs) i)) (fun j => I j) (fun _ => G) (fun j => j ≤ i ∧ ∀ j', j' < j → kI zs j' ≠ kI zs i) (fun j => i - j) ⟨⟨by omega, fun j' h => by omega⟩, .refl _, .refl _, Heap.le_refl _⟩ ?_
    rintro j ⟨hj, hall⟩
    (try simp (maxSteps := 1000000) (disch := first | assumption | (apply Ne.symm; assumption)) only [vz, vu, vv, eqS, eqFieldsV, ↓condV_t, ↓condV_f, tabs, reduceCtorEq, Array.toList, ↓reduceIte, Nat.reduceAdd, Nat.reduceLeDiff, Nat.reduceLT, Nat.reduceMul, Nat.reduceSub, Int.reduceToNat, Int.reduceSub, Int.reduceAdd, Int.reduceNeg, B28_1, load_at g3])
    have go : ∀ G' x', Own1 fI H0 G' r3 [] x' (numL (kI zs) (i + 1)) → ∃ s' : Nat × AV × Heap, (s'.1 ≤ zs.length ∧ Own1 fI H0 s'.2.2 r3 [] s'.2.1 (numL (kI zs) s'.1)) ∧ zs.length - s'.1 < zs.length - i ∧ (I (cntN (kI zs) (i + 1))).wk (I (cntN (kI zs) s'.1)) ∧ (I (i + 1 : Nat)).wk (I s'.1) ∧ s'.2.2.le G' :=
      fun G' x' o' => ⟨(i + 1, x', G'), ⟨by simp only; omega, o'⟩, by simp only; omega, .refl _, .refl _, Heap.le_refl _⟩
    refine ⟨fun h5 => ⟨by omega, by omega, fun h6 => ?_, fun h6 => ?_⟩, fun h5 => ?_⟩
    · have hji : j < i := by omega
      have hval : (numL (kI zs) i).getD j default = numN (kI zs) i := by rw [numL_get _ hji, numN_same h6]
      rcases o.base with ⟨_, h7⟩ | ⟨q, rfl, hq, _⟩
      · rw [h7] at hnl; simp at hnl; omega
      have rd := read_row (f := fI) (xs := numL (kI zs) i) (k := j) default (by omega)
      rw [hval] at rd
      (try simp (maxSteps := 1000000) (disch := first | assumption | (apply Ne.symm; assumption)) only [vz, vu, vv, eqS, eqFieldsV, ↓condV_t, ↓condV_f, tabs, reduceCtorEq, Array.toList, ↓reduceIte, Nat.reduceAdd, Nat.reduceLeDiff, Nat.reduceLT, Nat.reduceMul, Nat.reduceSub, Int.reduceToNat, Int.reduceSub, Int.reduceAdd, Int.reduceNeg, load_at hq, hnl])
      rw [Nat.mul_one, rd]
      refine ⟨by omega, by omega, by omega, ?_⟩
      refine fin _ ?_ _
      exact go
    · refine ⟨j + 1, ⟨by omega, fun j' hj' e => ?_⟩, by omega, .refl _, ?_⟩
      · rcases Nat.lt_succ_iff_lt_or_eq.1 hj' with h7 | rfl
        · exact hall j' h7 e
        · exact h6 e
      · rw [wk_int, i64_id (by omega) (by omega)]; simp
    · have : j = i := by omega
      subst this
      have hn : newAt (kI zs) j = true := newAt_iff.2 hall
      rw [numN_new hn] at fin
      refine fin _ ?_ _
      exact go
  · have : i = zs.length := by omega
    subst this
    (try simp (maxSteps := 1000000) (disch := first | assumption | (apply Ne.symm; assumption)) only [vz, vu, vv, eqS, eqFieldsV, ↓condV_t, ↓condV_f, tabs, reduceCtorEq, Array.toList, ↓reduceIte, Nat.reduceAdd, Nat.reduceLeDiff, Nat.reduceLT, Nat.reduceMul, Nat.reduceSub, Int.reduceToNat, Int.reduceSub, Int.reduceAdd, Int.reduceNeg, load_at g3, store_at k2])
    have hleG : Heap.le H (G.set r2 [x]) := Heap.le_setN (Heap.le_trans hle o.le) h2
    rcases o.base with ⟨rfl, h7⟩ | ⟨q, rfl, hq, hq0, _⟩
    · rw [h7]
      exact ⟨rfl, _, _, .trans (.val (v' := aS []) (wk_agg ⟨.nil, trivial⟩)) (.forget hleG), rfl, rfl⟩
    · have hqr : q ≠ r2 := fun e => by rw [e, g2] at hq0; cases hq0
      have hHq : H q = none := by
        cases hh : H q with
        | none => rfl
        | some b => rw [hle _ _ hh] at hq0; cases hq0
      generalize numL (kI zs) zs.length = zz at hq hleG ⊢
      refine ⟨rfl, _, _, .trans (Wk.frz (r := q) (sz := 1) (es := zz.map fun n => [fI n]) (v' := aS zz) (by omega) (by rw [Heap.set_other hqr, flat_P]; exact hq) (szP _ _) (.agg (.cons frz_row .nil))) (.forget (Heap.le_del hleG hHq)), rfl, rfl⟩
theorem l15Of_row (zs : List Int) (hl : zs.length ≤ 100000) {q : Nat} {G : Heap} (hq : G q = none) {K : AV → Heap → Prop} (h : K (aS (numL (kI zs) zs.length)) G) : CallT Try.prog 28 [rowP q zs] (G.set q (cP fI zs)) K := by
  have hw := Wk.frz (v := .tup [rowP q zs]) (v' := .tup [Is zs]) (H := G.set q (cP fI zs)) (r := q) (sz := 1) (es := zs.map fun n => [fI n]) (by omega) (by rw [flat_P]; exact Heap.set_same _ _ _) (szP _ _) (.tup (.cons frz_row .nil))
  rw [Heap.del_set hq] at hw
  exact CallT.pre (Pu.use (l15Of_spec zs hl) h) hw
end Go.Proofs.Ytdnfiacjoghfkaa
/- Specs: MeetOf and IsFiner. -/
namespace Go.Proofs.Ytdnfiacjoghfkaa
open Go Go.Sep Go.Pt
set_option linter.unusedSimpArgs false
set_option linter.unusedVariables false
attribute [local irreducible] CallT

/-! ### Plain -/
theorem goodSt_run {p : Pg} {of : List Int} (h : goodSt p of = true) : smallP p = true ∧ (of.length : Int) = statesP p ∧ ∃ c, runS 0 of = some c := by
  simp only [goodSt, Bool.and_eq_true, decide_eq_true_eq] at h
  exact ⟨h.1, h.2.1, Option.isSome_iff_exists.1 h.2.2⟩
theorem goodSt_len {p : Pg} {of : List Int} (h : goodSt p of = true) : 1 ≤ of.length ∧ of.length ≤ 32 := by
  obtain ⟨h1, h2, _⟩ := goodSt_run h
  have := states_rng h1
  omega
theorem goodSt_el {p : Pg} {of : List Int} (h : goodSt p of = true) {i : Nat} (hi : i < of.length) : 0 ≤ of.getD i default ∧ of.getD i default < 32 := by
  obtain ⟨h1, h2, c, h3⟩ := goodSt_run h
  have hl := goodSt_len h
  have e := runS_num h3 hi
  have h4 := numN_lt (kI of) hi
  have h5 := cntN_le (kI of) of.length
  have e' : of.getD i default = (numN (kI of) i : Int) := e
  omega
theorem goodSt_r {p : Pg} {of : List Int} (h : goodSt p of = true) : ∀ x ∈ of, i64R x := by
  intro x hx
  obtain ⟨i, hi, rfl⟩ := List.getElem_of_mem hx
  have := goodSt_el h hi
  have e : of.getD i default = of[i] := by simp [List.getD, hi]
  rw [e] at this
  exact ⟨by omega, by omega⟩
/-! ### Rows of numbers compared -/
/-! ### Finer -/
/-! ### MeetOf and IsFiner -/
abbrev gPg (p : Pg) : List AV := [I p.wide, I p.vars, Ns p.start, Cms p.cmds]
/-- An abstraction of one's own, or the zero one. -/
def RS (of : List Int) (v : AV) (G : Heap) (D : List Nat) : Prop := (of = [] ∧ v = .agg [.p .nil] ∧ D = []) ∨ ∃ q, v = .agg [rowP q of] ∧ G q = some (cP fI of) ∧ D = [q]

end Go.Proofs.Ytdnfiacjoghfkaa
/- Specs: rows of edges; automata that own their rows, checked. -/
namespace Go.Proofs.Ytdnfiacjoghfkaa
open Go Go.Sep Go.Pt
set_option linter.unusedSimpArgs false
set_option linter.unusedVariables false
attribute [local irreducible] CallT

/-- A row of rows that grows: nothing yet, or a row of one's own. -/
def GAt (x : AV) (gs : List (List Int)) (G : Heap) (D : List Nat) : Prop := ∃ cs D', LL LIc gs cs G D' ∧ ((x = .p .nil ∧ cs = [] ∧ D = []) ∨ ∃ q, x = .sl q 1 0 gs.length ∧ G q = some cs ∧ D = q :: D')
theorem GAt.nil (G : Heap) : GAt (.p .nil) [] G [] := ⟨[], [], ⟨rfl, rfl⟩, .inl ⟨rfl, rfl, rfl⟩⟩
theorem GAt.local {x : AV} {gs : List (List Int)} {G G' : Heap} {D : List Nat} (g : GAt x gs G D) (h : ∀ y ∈ D, ∀ b, G y = some b → G' y = some b) : GAt x gs G' D := by
  obtain ⟨cs, D', hl, h1⟩ := g
  rcases h1 with ⟨rfl, rfl, rfl⟩ | ⟨q, rfl, hq, rfl⟩
  · cases gs with
    | nil => obtain ⟨_, rfl⟩ := hl; exact ⟨[], [], ⟨rfl, rfl⟩, .inl ⟨rfl, rfl, rfl⟩⟩
    | cons a gs => obtain ⟨c1, c2, D1, D2, e, _, ⟨z, rfl, _⟩, _⟩ := hl; simp at e
  · exact ⟨cs, D', LL.local LIc.local hl (fun y hy b hb => h y (List.mem_cons_of_mem _ hy) b hb), .inr ⟨q, rfl, h q (List.mem_cons_self ..) _ hq, rfl⟩⟩
end Go.Proofs.Ytdnfiacjoghfkaa
/- Specs: the union of two automata. -/
namespace Go.Proofs.Ytdnfiacjoghfkaa
open Go Go.Sep Go.Pt
set_option linter.unusedSimpArgs false
set_option linter.unusedVariables false
attribute [local irreducible] CallT

/-! ### Plain facts -/
theorem rising_at {l : List Int} {n : Int} (h : rising l n = true) : ∀ i, i < l.length → (i : Int) ≤ l.getD i default ∧ l.getD i default < n := by
  intro i
  induction i with
  | zero =>
    intro hi
    have := riseAt_iff.1 (List.all_eq_true.1 h 0 (List.mem_range.2 hi))
    omega
  | succ i ih =>
    intro hi
    have h1 := ih (by omega)
    have := riseAt_iff.1 (List.all_eq_true.1 h (i + 1) (List.mem_range.2 hi))
    simp only [Nat.add_sub_cancel] at this
    omega
theorem rising_sm {l : List Int} {n : Int} (h : rising l n = true) (hn : n ≤ 10000) : smI l ∧ l.length ≤ n.toNat := by
  have hl : l.length ≤ n.toNat := by
    by_cases h0 : l.length = 0
    · omega
    · have := rising_at h (l.length - 1) (by omega)
      omega
  refine ⟨⟨by omega, fun x hx => ?_⟩, hl⟩
  obtain ⟨i, hi, rfl⟩ := List.mem_iff_getElem.1 hx
  have := rising_at h i hi
  rw [getD_lt hi] at this
  omega
structure GoodF (a : Au) : Prop where
  st : 1 ≤ a.states ∧ a.states ≤ 96
  fi : smI a.first ∧ a.first.length ≤ 96
  ed : a.edges.length ≤ 2400
  ei : ∀ e ∈ a.edges, edIn a.states e = true
  gl : a.goals.length ≤ 6
  gi : ∀ g ∈ a.goals, smI g ∧ g.length ≤ 96
end Go.Proofs.Ytdnfiacjoghfkaa
/- Specs: an abstraction cut by a list of states. -/
namespace Go.Proofs.Ytdnfiacjoghfkaa
open Go Go.Sep Go.Pt
set_option linter.unusedSimpArgs false
set_option linter.unusedVariables false
attribute [local irreducible] CallT

def indL (sm : List Int) (n : Nat) : List Int := (List.range n).map fun (j : Nat) => if (j : Int) ∈ sm then 1 else 0
theorem indL_len (sm : List Int) (n : Nat) : (indL sm n).length = n := by simp [indL]
theorem indL_get {sm : List Int} {n i : Nat} (h : i < n) : (indL sm n).getD i default = if (i : Int) ∈ sm then 1 else 0 := by simp [indL, List.getD, h]
theorem indL_nil0 (n : Nat) : indL [] n = List.replicate n 0 := by
  apply List.ext_getElem
  · simp [indL]
  · intro i h1 h2; simp [indL]
theorem indL_set {sm : List Int} {n t : Nat} (x : Int) (hx : x = t) (ht : t < n) : (indL sm n).set t 1 = indL (sm ++ [x]) n := by
  apply List.ext_getElem
  · simp [indL]
  · intro i h1 h2
    have hi : i < n := by simpa [indL] using h2
    by_cases e : t = i
    · subst e
      simp [indL, hx]
    · rw [List.getElem_set_ne e]
      simp only [indL, List.getElem_map, List.getElem_range, List.mem_append, List.mem_singleton]
      have : ¬ (i : Int) = x := by omega
      simp [this]
theorem indL_r (sm : List Int) (n : Nat) : ∀ x ∈ indL sm n, i64R x := by
  intro x hx
  simp only [indL, List.mem_map, List.mem_range] at hx
  obtain ⟨j, _, rfl⟩ := hx
  split <;> exact ⟨by omega, by omega⟩
theorem cIset {l : List Int} {t : Nat} (h : t < l.length) (b : Int) : List.take t (cP fI l) ++ [I b] ++ List.drop (t + 1) (cP fI l) = cP fI (l.set t b) := by
  rw [List.set_eq_take_append_cons_drop, if_pos h]
  simp [cP, List.map_take, List.map_drop]
def cutL (of sm : List Int) : List Int := meetL of (indL sm of.length)
theorem cutL_len (of sm : List Int) : (cutL of sm).length = of.length := meetL_len _ _

theorem cutOut_spec (of sm : List Int) (hpos : 0 < of.length) (hl : of.length ≤ 1000) (hx : ∀ x ∈ of, i64R x) (hs : rising sm of.length = true) {H : Heap} {K : AV → Heap → Prop}
    (h : ∀ q, H q = none → K (.agg [rowP q (cutL of sm)]) (H.set q (cP fI (cutL of sm)))) : CallT Try.prog 44 [aS of, Is sm] H K := by
  refine CallT.fin ?_
  have hr := rising_at hs
  have hsl : sm.length ≤ of.length := by
    have := (rising_sm hs (by omega)).2
    omega
  refine W44_ok ?_; simp (maxSteps := 1000000) (disch := first | assumption | (apply Ne.symm; assumption)) only [W44, vz, vu, vv, eqS, eqFieldsV, ↓condV_t, ↓condV_f, tabs, reduceCtorEq, Array.toList, ↓reduceIte, Nat.reduceAdd, Nat.reduceLeDiff, Nat.reduceLT, Nat.reduceMul, Nat.reduceSub, Int.reduceToNat, Int.reduceSub, Int.reduceAdd, Int.reduceNeg, makeSliceV]
  intro r2 h2 r4 n42 h4
  have nn42 := Ne.symm n42
  (try simp (maxSteps := 1000000) (disch := first | assumption | (apply Ne.symm; assumption)) only [vz, vu, vv, eqS, eqFieldsV, ↓condV_t, ↓condV_f, tabs, reduceCtorEq, Array.toList, ↓reduceIte, Nat.reduceAdd, Nat.reduceLeDiff, Nat.reduceLT, Nat.reduceMul, Nat.reduceSub, Int.reduceToNat, Int.reduceSub, Int.reduceAdd, Int.reduceNeg])
  refine ⟨by omega, by omega, by omega, by omega, ?_⟩
  intro q n4q n2q hq r5 n5q n54 n52 h5
  have nn5q := Ne.symm n5q
  have nn54 := Ne.symm n54
  have nn52 := Ne.symm n52
  have nn4q := Ne.symm n4q
  have nn2q := Ne.symm n2q
  generalize hG : (((H.set r2 [Is of]).set r4 [AV.p PV.nil])).set r5 [rowP q (indL [] of.length)] = G
  have g2 : G r2 = some [Is of] := by rw [← hG, Heap.set_other nn52, Heap.set_other nn42, Heap.set_same]
  have g4 : G r4 = some [AV.p .nil] := by rw [← hG, Heap.set_other nn54, Heap.set_same]
  have g5 : G r5 = some [.sl q 1 0 of.length] := by rw [← hG, Heap.set_same, rowP, indL_len]
  have gq : G q = none := by rw [← hG, Heap.set_other nn5q, Heap.set_other n4q, Heap.set_other n2q]; exact hq
  have hle : Heap.le H G := by rw [← hG]; exact Heap.le_setN (Heap.le_setN (Heap.le_set h2) h4) h5
  have ez : zerosA of.length [AV.p (PV.int IntKind.i64 0)] = cP fI (indL [] of.length) := by
    rw [indL_nil0, cP, List.map_replicate]
    simp [zerosA]
  refine L44_0_rule (0 : Nat) (fun i => I i) (fun i => G.set q (cP fI (indL (sm.take i) of.length))) (fun i => i ≤ sm.length) (fun i => sm.length - i) ⟨by omega, .refl _, ?_⟩ ?_
  · simp only [List.take_zero, Int.toNat_natCast, ez]
    rw [← hG, rowP, indL_len]
    generalize cP fI (indL [] of.length) = z
    (intro y b hy; simp only [Heap.set, Heap.del] at hy ⊢; (repeat' split at hy) <;> (repeat' split) <;> simp_all [cells])
  intro i hi
  have k5 : (G.set q (cP fI (indL (sm.take i) of.length))) r5 = some [.sl q 1 0 of.length] := by rw [Heap.set_other n5q]; exact g5
  have k2 : (G.set q (cP fI (indL (sm.take i) of.length))) r2 = some [Is of] := by rw [Heap.set_other (Ne.symm n2q)]; exact g2
  have kl := indL_len (sm.take i) of.length
  (try simp (maxSteps := 1000000) (disch := first | assumption | (apply Ne.symm; assumption)) only [vz, vu, vv, eqS, eqFieldsV, ↓condV_t, ↓condV_f, tabs, reduceCtorEq, Array.toList, ↓reduceIte, Nat.reduceAdd, Nat.reduceLeDiff, Nat.reduceLT, Nat.reduceMul, Nat.reduceSub, Int.reduceToNat, Int.reduceSub, Int.reduceAdd, Int.reduceNeg, B44_0, load_at k5, load_at k2, Nat.mul_one, Nat.zero_add, cI_len, kl])
  have hcut : cutL of (sm.take i) = meetL of (indL (sm.take i) of.length) := rfl
  refine ⟨fun h1 => ?_, fun h1 => ?_⟩
  · have hlt : i < sm.length := by omega
    have h3 := hr i hlt
    have e1 := indL_set (sm := sm.take i) (n := of.length) (t := (sm.getD i default).toNat) (sm.getD i default) (by omega) (by omega)
    rw [cIset (by rw [kl]; omega), e1, ← take_succ_snoc hlt]
    refine ⟨by omega, h1, by omega, by omega, by omega, i + 1, by omega, by omega, ?_, Heap.le_refl _⟩
    rw [wk_int, i64_id (by omega) (by omega)]; simp
  · have : i = sm.length := by omega
    subst this
    rw [List.take_length] at kl hcut ⊢
    have hir := indL_r sm of.length
    generalize indL sm of.length = zz at kl hcut hir ⊢
    have hw := Wk.frz (v := .tup [aS of, .agg [rowP q zz]]) (v' := .tup [aS of, aS zz]) (H := G.set q (cP fI zz)) (r := q) (sz := 1) (es := zz.map fun n => [fI n]) (by omega) (by rw [flat_P]; exact Heap.set_same _ _ _) (szP _ _) (.tup (.cons (.same _) (.cons (.agg (.cons frz_row .nil)) .nil)))
    rw [rowP, kl, Heap.del_set gq] at hw
    refine CallT.pre (meetOf_spec of zz hpos hl (by omega) (by omega) hx hir fun q2 hq2 => ?_) hw
    rw [← hcut]
    have e42 : r4 ≠ q2 := fun e => by rw [← e, g4] at hq2; cases hq2
    have hq3 : H q2 = none := by
      cases hh : H q2 with
      | none => rfl
      | some b => rw [hle _ _ hh] at hq2; cases hq2
    have := h q2 hq3
    have k4 : (G.set q2 (cP fI (cutL of sm))) r4 = some [AV.p .nil] := by rw [Heap.set_other e42]; exact g4
    generalize cP fI (cutL of sm) = z at this k4 ⊢
    (try simp (maxSteps := 1000000) (disch := first | assumption | (apply Ne.symm; assumption)) only [vz, vu, vv, eqS, eqFieldsV, ↓condV_t, ↓condV_f, tabs, reduceCtorEq, Array.toList, ↓reduceIte, Nat.reduceAdd, Nat.reduceLeDiff, Nat.reduceLT, Nat.reduceMul, Nat.reduceSub, Int.reduceToNat, Int.reduceSub, Int.reduceAdd, Int.reduceNeg, store_at k4])
    refine fin_le ?_ this
    intro y b hy
    by_cases e : y = q2
    · subst e; rw [Heap.set_same] at hy; rw [Heap.set_other (Ne.symm e42), Heap.set_same]; exact hy
    · rw [Heap.set_other e] at hy
      have hy4 : y ≠ r4 := fun e => by rw [e, h4] at hy; cases hy
      rw [Heap.set_other hy4, Heap.set_other e]; exact hle _ _ hy

/-! ### The reference -/
def keysC (of sm : List Int) (n : Nat) : List Int := (List.range n).map fun (i : Nat) => if (i : Int) ∈ sm then 2 * of.getD i default + 1 else 2 * of.getD i default
theorem keysC_len (of sm : List Int) (n : Nat) : (keysC of sm n).length = n := by simp [keysC]
theorem keysC_succ (of sm : List Int) (n : Nat) : keysC of sm (n + 1) = keysC of sm n ++ [if (n : Int) ∈ sm then 2 * of.getD n default + 1 else 2 * of.getD n default] := by simp [keysC, List.range_succ]
theorem keysC_get {of sm : List Int} {n i : Nat} (h : i < n) : kI (keysC of sm n) i = if (i : Int) ∈ sm then 2 * of.getD i default + 1 else 2 * of.getD i default := by simp [keysC, kI, List.getD, h]
theorem cutL_ref (of sm : List Int) : numL (kI (keysC of sm of.length)) of.length = cutL of sm := by
  refine numL_ext fun i j hi hj => ?_
  rw [keysC_get hi, keysC_get hj, keysM_get hi, keysM_get hj, indL_get hi, indL_get hj, Prod.mk.injEq]
  generalize of.getD i default = x
  generalize of.getD j default = y
  split <;> split <;> (constructor <;> (try intro h) <;> (try exact ⟨by omega, by omega⟩) <;> omega)
theorem l15Cut_spec (of sm : List Int) (hl : of.length ≤ 1000) (hsl : sm.length ≤ 1048576) (hx : ∀ x ∈ of, -1000000 ≤ x ∧ x ≤ 1000000) : Pu Try.prog 41 [aS of, Is sm] (aS (cutL of sm)) := by
  refine ⟨fun H => CallT.fin ?_⟩
  refine CallT.ghost W41_hb fun q0 hq0 => ?_
  refine W41_ok ?_; simp (maxSteps := 1000000) (disch := first | assumption | (apply Ne.symm; assumption)) only [W41, vz, vu, vv, eqS, eqFieldsV, ↓condV_t, ↓condV_f, tabs, reduceCtorEq, Array.toList, ↓reduceIte, Nat.reduceAdd, Nat.reduceLeDiff, Nat.reduceLT, Nat.reduceMul, Nat.reduceSub, Int.reduceToNat, Int.reduceSub, Int.reduceAdd, Int.reduceNeg]
  intro r2 h02 h2 r4 n42 h04 h4
  have nn42 := Ne.symm n42
  have m02 := Ne.symm h02
  have m04 := Ne.symm h04
  (try simp (maxSteps := 1000000) (disch := first | assumption | (apply Ne.symm; assumption)) only [vz, vu, vv, eqS, eqFieldsV, ↓condV_t, ↓condV_f, tabs, reduceCtorEq, Array.toList, ↓reduceIte, Nat.reduceAdd, Nat.reduceLeDiff, Nat.reduceLT, Nat.reduceMul, Nat.reduceSub, Int.reduceToNat, Int.reduceSub, Int.reduceAdd, Int.reduceNeg])
  have hle : Heap.le (((H.set r2 [Is of]).set r4 [AV.p .nil]).set q0 []) (((H.set q0 []).set r2 [Is of]).set r4 [AV.p .nil]) := by
    (intro y b hy; simp only [Heap.set, Heap.del] at hy ⊢; (repeat' split at hy) <;> (repeat' split) <;> simp_all [cells])
  have f2 : ((H.set r2 [Is of]).set r4 [AV.p .nil]) r2 = some [Is of] := by rw [Heap.set_other nn42, Heap.set_same]
  have f4 : ((H.set r2 [Is of]).set r4 [AV.p .nil]) r4 = some [AV.p .nil] := Heap.set_same _ _ _
  have fq : ((H.set r2 [Is of]).set r4 [AV.p .nil]) q0 = none := by rw [Heap.set_other m04, Heap.set_other m02]; exact hq0
  have hlH : Heap.le H ((H.set r2 [Is of]).set r4 [AV.p .nil]) := Heap.le_setN (Heap.le_set h2) h4
  generalize ((H.set q0 []).set r2 [Is of]).set r4 [AV.p .nil] = GG at hle ⊢
  generalize ((H.set r2 [Is of]).set r4 [AV.p .nil]) = G at hle f2 f4 fq hlH
  refine L41_0_rule ((0 : Nat), q0) (fun s => rowP s.2 (keysC of sm s.1)) (fun s => I s.1) (fun s => G.set s.2 (cP fI (keysC of sm s.1))) (fun s => s.1 ≤ of.length ∧ G s.2 = none) (fun s => of.length - s.1) ⟨⟨by simp, fq⟩, .nilo _ _ _, .refl _, hle⟩ ?_
  rintro ⟨i, q⟩ ⟨hi, hq⟩
  dsimp only at hi hq
  have hkl := keysC_len of sm i
  (try simp (maxSteps := 1000000) (disch := first | assumption | (apply Ne.symm; assumption)) only [vz, vu, vv, eqS, eqFieldsV, ↓condV_t, ↓condV_f, tabs, reduceCtorEq, Array.toList, ↓reduceIte, Nat.reduceAdd, Nat.reduceLeDiff, Nat.reduceLT, Nat.reduceMul, Nat.reduceSub, Int.reduceToNat, Int.reduceSub, Int.reduceAdd, Int.reduceNeg, B41_0])
  refine ⟨fun h1 => ?_, fun h1 => ?_⟩
  · have hlt : i < of.length := by omega
    have hxi := getD_all (p := fun x => -1000000 ≤ x ∧ x ≤ 1000000) (d := default) hx hlt
    refine ⟨by omega, h1, ?_⟩
    refine Pu.use (l1Has_spec sm i hsl) ?_
    have hsucc := keysC_succ of sm i
    by_cases hm : (i : Int) ∈ sm
    · rw [if_pos hm] at hsucc
      rw [decide_eq_true hm]
      (try simp (maxSteps := 1000000) (disch := first | assumption | (apply Ne.symm; assumption)) only [vz, vu, vv, eqS, eqFieldsV, ↓condV_t, ↓condV_f, tabs, reduceCtorEq, Array.toList, ↓reduceIte, Nat.reduceAdd, Nat.reduceLeDiff, Nat.reduceLT, Nat.reduceMul, Nat.reduceSub, Int.reduceToNat, Int.reduceSub, Int.reduceAdd, Int.reduceNeg])
      rw [i64_id (n := 2 * of.getD i default) (by omega) (by omega), i64_id (by omega) (by omega)]
      refine push_topI hq (by omega) fun q' hq' => ?_
      rw [← hsucc]
      refine ⟨(i + 1, q'), ⟨by simp only; omega, hq'⟩, by simp only; omega, .refl _, ?_, Heap.le_refl _⟩
      rw [wk_int, i64_id (by omega) (by omega)]; simp
    · rw [if_neg hm] at hsucc
      rw [decide_eq_false hm]
      (try simp (maxSteps := 1000000) (disch := first | assumption | (apply Ne.symm; assumption)) only [vz, vu, vv, eqS, eqFieldsV, ↓condV_t, ↓condV_f, tabs, reduceCtorEq, Array.toList, ↓reduceIte, Nat.reduceAdd, Nat.reduceLeDiff, Nat.reduceLT, Nat.reduceMul, Nat.reduceSub, Int.reduceToNat, Int.reduceSub, Int.reduceAdd, Int.reduceNeg])
      rw [i64_id (n := 2 * of.getD i default) (by omega) (by omega)]
      refine push_topI hq (by omega) fun q' hq' => ?_
      rw [← hsucc]
      refine ⟨(i + 1, q'), ⟨by simp only; omega, hq'⟩, by simp only; omega, .refl _, ?_, Heap.le_refl _⟩
      rw [wk_int, i64_id (by omega) (by omega)]; simp
  · have : i = of.length := by omega
    subst this
    refine l15Of_row (keysC of sm of.length) (by omega) hq ?_
    rw [hkl, cutL_ref]
    (try simp (maxSteps := 1000000) (disch := first | assumption | (apply Ne.symm; assumption)) only [vz, vu, vv, eqS, eqFieldsV, ↓condV_t, ↓condV_f, tabs, reduceCtorEq, Array.toList, ↓reduceIte, Nat.reduceAdd, Nat.reduceLeDiff, Nat.reduceLT, Nat.reduceMul, Nat.reduceSub, Int.reduceToNat, Int.reduceSub, Int.reduceAdd, Int.reduceNeg, store_at f4])
    exact ⟨_, _, .forget (Heap.le_setN hlH h4), rfl, rfl⟩
end Go.Proofs.Ytdnfiacjoghfkaa
/- Abstractions of one's own as answers: called with what is live, compared, marked, held; the laws on MeetOf and IsFiner. -/
namespace Go.Sep
open Go Go.RowKit Go.Proofs.Ytdnfiacjoghfkaa
set_option linter.unusedVariables false

/-- Answers that may be moved on: what they are, in a heap, with the blocks they own. -/
structure ResU (R : AV → Heap → List Nat → Prop) : Prop where
  loc : ∀ {r G G' D}, R r G D → (∀ y ∈ D, ∀ b, G y = some b → G' y = some b) → R r G' D
  gd : ∀ {r G D}, R r G D → Gd2 r ∧ ∀ y ∈ D, ∀ bs, G y = some bs → ∀ c ∈ bs, GdC c
  sh : ∀ {r G D n G0}, (∀ q, n ≤ q → G0 q = none) → R r G D → R (sh2 n r) (Heap.or G0 (shH n G)) (D.map (· + n))
/-- A function whose answer is of its own, called with what is live. -/
theorem thawU {R : AV → Heap → List Nat → Prop} (hR : ResU R) {P : Program} {f : Nat} {args args' : List AV} {G G1 : Heap} {K : AV → Heap → Prop}
    (hf : ∀ {K : AV → Heap → Prop}, (∀ r G D, R r G D → New (fun _ => none) G D → K r G) → CallT P f args' (fun _ => none) K)
    (hw : Wk (.tup args) G (.tup args') G1) (h : ∀ r G' D, R r G' D → New G G' D → K r G') : CallT P f args G K := by
  refine CallT.thawX (Q' := fun r H' => ∃ D, R r H' D ∧ D.Nodup ∧ ∀ y, y ∉ D → H' y = none) ?_ ?_ hw ?_
  · refine CallT.fin (hf fun r G D hl hn => ⟨_, only D G, .forget (only_le D G), D, hR.loc hl fun y hy b hb => by rw [only_in hy]; exact hb, hn.nd, fun y hy => only_out hy⟩)
  · rintro r H' ⟨D, hl, _, hout⟩
    refine ⟨(hR.gd hl).1, fun q cs hq => ?_⟩
    by_cases hD : q ∈ D
    · exact (hR.gd hl).2 q hD cs hq
    · rw [hout q hD] at hq; cases hq
  · rintro r H' n ⟨D, hl, hnd, hout⟩ hn
    refine h _ _ (D.map (· + n)) (hR.sh hn hl) ⟨?_, fun y hy => ?_, fun y b hb => by simp only [Heap.or, hb]⟩
    · exact List.pairwise_map.2 (hnd.imp fun h e => h (Nat.add_right_cancel e))
    · obtain ⟨z, _, rfl⟩ := List.mem_map.1 hy
      exact hn _ (by omega)
end Go.Sep
namespace Go.Proofs.Ytdnfiacjoghfkaa
open Go Go.Sep Go.Pt
set_option linter.unusedSimpArgs false
set_option linter.unusedVariables false
attribute [local irreducible] CallT

theorem RS.local {of : List Int} {v : AV} {G G' : Heap} {D : List Nat} (h : RS of v G D) (hf : ∀ y ∈ D, ∀ b, G y = some b → G' y = some b) : RS of v G' D := by
  rcases h with h | ⟨q, rfl, hq, rfl⟩
  · exact .inl h
  · exact .inr ⟨q, rfl, hf q (by simp) _ hq, rfl⟩
theorem RS.has {of : List Int} {v : AV} {G : Heap} {D : List Nat} (h : RS of v G D) : ∀ y ∈ D, G y ≠ none := by
  rcases h with ⟨_, _, rfl⟩ | ⟨q, rfl, hq, rfl⟩
  · intro y hy; cases hy
  · intro y hy; rw [List.mem_singleton.1 hy, hq]; simp
def tRS (of : List Int) (v : AV) (D : List Nat) : Th := ⟨D, fun G => RS of v G D, fun h f => h.local f, fun h => h.has⟩
def tP (p : Pg) (v : AV) (D : List Nat) : Th := ⟨D, fun G => LPg p v G D, fun h f => LPg.local h f, fun h => LPg.has h⟩
theorem LSt.rs {of : List Int} {v : AV} {G : Heap} {D : List Nat} (h : LSt of v G D) : ∃ q, v = .agg [rowP q of] ∧ G q = some (cP fI of) ∧ D = [q] := by
  obtain ⟨x, rfl, hx⟩ := h
  obtain ⟨q, rfl, hq, rfl⟩ := LI_row hx
  exact ⟨q, rfl, by rw [hq, ← cells_P], rfl⟩
/-- Answers (Sight, bool). -/
def RSt (of : List Int) (ok : Bool) (r : AV) (G : Heap) (D : List Nat) : Prop := ∃ v, r = .tup [v, B ok] ∧ RS of v G D
theorem RSt.res (of : List Int) (ok : Bool) : ResU (RSt of ok) := by
  refine ⟨?_, ?_, ?_⟩
  · rintro r G G' D ⟨v, rfl, h⟩ hf
    exact ⟨v, rfl, h.local hf⟩
  · rintro r G D ⟨v, rfl, h⟩
    have gb : Gd1 (B ok) := .inr ⟨.p (.bool ok), fun _ => rfl⟩
    have gv : Gd1 v ∧ ∀ y ∈ D, ∀ bs, G y = some bs → ∀ c ∈ bs, GdC c := by
      rcases h with ⟨_, rfl, rfl⟩ | ⟨q, rfl, hq, rfl⟩
      · exact ⟨.inl ⟨_, rfl, fun c hc => by rw [List.mem_singleton] at hc; subst hc; exact .p .nil⟩, fun y hy => by cases hy⟩
      · refine ⟨.inl ⟨_, rfl, fun c hc => by rw [List.mem_singleton] at hc; subst hc; exact .inl ⟨_, _, _, _, rfl⟩⟩, fun y hy bs hb c hc => ?_⟩
        rw [List.mem_singleton.1 hy, hq] at hb; cases hb
        obtain ⟨x, _, rfl⟩ := List.mem_map.1 hc
        exact .p (.int _ _)
    refine ⟨.inl ⟨_, rfl, fun u hu => ?_⟩, gv.2⟩
    rcases List.mem_cons.1 hu with rfl | hu
    · exact gv.1
    · rw [List.mem_singleton] at hu; rw [hu]; exact gb
  · rintro r G D n G0 h0 ⟨v, rfl, h⟩
    rcases h with ⟨rfl, rfl, rfl⟩ | ⟨q, rfl, hq, rfl⟩
    · exact ⟨_, rfl, .inl ⟨rfl, rfl, rfl⟩⟩
    · refine ⟨_, rfl, .inr ⟨q + n, rfl, ?_, rfl⟩⟩
      have e : (cP fI of).map (shC n) = cP fI of := by
        simp only [cP, List.map_map]; rfl
      simp only [Heap.or, h0 (q + n) (by omega), shH, Nat.le_add_left, if_true, Nat.add_sub_cancel, hq, Option.map_some, e]
theorem RS.eq {of : List Int} {v : AV} {G : Heap} {D : List Nat} (h : RS of v G D) (hl : of.length ≤ 1048576) {K : AV → Heap → Prop} (k : K (B true) G) : CallT Try.prog 12 [v, aS of] G K := by
  rcases h with ⟨rfl, rfl, rfl⟩ | ⟨q, rfl, hq, rfl⟩
  · exact CallT.args (args' := [aS [], aS []]) ((eqSight_spec [] (by simp)).use k) ⟨wk_agg ⟨.nil, trivial⟩, .refl _, trivial⟩
  · exact Pu.thaw (eqSight_spec of hl) (.bool _) (Wk.frz (r := q) (sz := 1) (es := of.map fun n => [fI n]) (v' := .tup [aS of, aS of]) (by omega) (by rw [flat_P]; exact hq) (szP _ _) (.tup (.cons (.agg (.cons frz_row .nil)) (.cons (.same _) .nil)))) k
theorem markI0 {G : Heap} {k : Int} {K : AV → Heap → Prop} (h : K (I k) G) : CallT Try.prog 23 [.p .nil, I k] G K := by
  refine CallT.args (args' := [Is [], I k]) ?_ ⟨.nil, .refl _, trivial⟩
  refine W23_ok ?_; simp (maxSteps := 1000000) (disch := first | assumption | (apply Ne.symm; assumption)) only [W23, vz, vu, vv, eqS, eqFieldsV, ↓condV_t, ↓condV_f, tabs, reduceCtorEq, Array.toList, ↓reduceIte, Nat.reduceAdd, Nat.reduceLeDiff, Nat.reduceLT, Nat.reduceMul, Nat.reduceSub, Int.reduceToNat, Int.reduceSub, Int.reduceAdd, Int.reduceNeg]
  refine L23_0_rule () (fun _ => I k) (fun _ => I 0) (fun _ => G) (fun _ => True) (fun _ => 0) ⟨trivial, .refl _, .refl _, Heap.le_refl _⟩ ?_
  rintro ⟨⟩ _
  (try simp (maxSteps := 1000000) (disch := first | assumption | (apply Ne.symm; assumption)) only [vz, vu, vv, eqS, eqFieldsV, ↓condV_t, ↓condV_f, tabs, reduceCtorEq, Array.toList, ↓reduceIte, Nat.reduceAdd, Nat.reduceLeDiff, Nat.reduceLT, Nat.reduceMul, Nat.reduceSub, Int.reduceToNat, Int.reduceSub, Int.reduceAdd, Int.reduceNeg, B23_0])
  first | exact h | simpa using h
theorem RS.mark {of : List Int} {v : AV} {G : Heap} {D : List Nat} (hx : RS of v G D) (hl : of.length ≤ 1048576) {k : Int} (h0 : 0 ≤ k) (hk : k ≤ 900000000) {K : AV → Heap → Prop}
    (h : ∀ G', RS (marked k of.length) v G' D → (∀ y, y ∉ D → G' y = G y) → K (I (k + of.length)) G') : CallT Try.prog 15 [v, I k] G K := by
  refine CallT.fin ?_
  rcases hx with ⟨rfl, rfl, rfl⟩ | ⟨q, rfl, hq, rfl⟩
  · refine W15_ok ?_; simp (maxSteps := 1000000) (disch := first | assumption | (apply Ne.symm; assumption)) only [W15, vz, vu, vv, eqS, eqFieldsV, ↓condV_t, ↓condV_f, tabs, reduceCtorEq, Array.toList, ↓reduceIte, Nat.reduceAdd, Nat.reduceLeDiff, Nat.reduceLT, Nat.reduceMul, Nat.reduceSub, Int.reduceToNat, Int.reduceSub, Int.reduceAdd, Int.reduceNeg]
    intro r hr
    refine markI0 ?_
    (try simp (maxSteps := 1000000) (disch := first | assumption | (apply Ne.symm; assumption)) only [vz, vu, vv, eqS, eqFieldsV, ↓condV_t, ↓condV_f, tabs, reduceCtorEq, Array.toList, ↓reduceIte, Nat.reduceAdd, Nat.reduceLeDiff, Nat.reduceLT, Nat.reduceMul, Nat.reduceSub, Int.reduceToNat, Int.reduceSub, Int.reduceAdd, Int.reduceNeg])
    have := h G (.inl ⟨rfl, rfl, rfl⟩) (fun _ _ => rfl)
    rw [List.length_nil, Int.ofNat_zero, Int.add_zero] at this
    exact fin_le (Heap.le_set hr) this
  · refine W15_ok ?_; simp (maxSteps := 1000000) (disch := first | assumption | (apply Ne.symm; assumption)) only [W15, vz, vu, vv, eqS, eqFieldsV, ↓condV_t, ↓condV_f, tabs, reduceCtorEq, Array.toList, ↓reduceIte, Nat.reduceAdd, Nat.reduceLeDiff, Nat.reduceLT, Nat.reduceMul, Nat.reduceSub, Int.reduceToNat, Int.reduceSub, Int.reduceAdd, Int.reduceNeg]
    intro r hr
    have hne : q ≠ r := fun e => by rw [e, hr] at hq; cases hq
    refine markIntS_live of hl h0 (by omega) (by rw [Heap.set_other hne, hq, ← cells_P]) ?_
    (try simp (maxSteps := 1000000) (disch := first | assumption | (apply Ne.symm; assumption)) only [vz, vu, vv, eqS, eqFieldsV, ↓condV_t, ↓condV_f, tabs, reduceCtorEq, Array.toList, ↓reduceIte, Nat.reduceAdd, Nat.reduceLeDiff, Nat.reduceLT, Nat.reduceMul, Nat.reduceSub, Int.reduceToNat, Int.reduceSub, Int.reduceAdd, Int.reduceNeg])
    have hml := marked_len k of.length
    refine fin_le (H := G.set q (cells ((marked k of.length).map eI))) ?_ (h _ (.inr ⟨q, by rw [rowP, rowP, hml], by rw [Heap.set_same, ← cells_P], rfl⟩) fun z hz => ?_)
    · generalize cells ((marked k of.length).map eI) = z
      (intro y b hy; simp only [Heap.set, Heap.del] at hy ⊢; (repeat' split at hy) <;> (repeat' split) <;> simp_all [cells])
    · rw [List.mem_singleton] at hz; exact Heap.set_other hz
theorem heldSight_spec (n : Nat) (hl : n ≤ 1048576) : Pu Try.prog 16 [aS (marked 1 n), I 1] (I (1 + n)) := by
  refine Pu.of fun H => ?_
  refine W16_ok ?_; simp (maxSteps := 1000000) (disch := first | assumption | (apply Ne.symm; assumption)) only [W16, vz, vu, vv, eqS, eqFieldsV, ↓condV_t, ↓condV_f, tabs, reduceCtorEq, Array.toList, ↓reduceIte, Nat.reduceAdd, Nat.reduceLeDiff, Nat.reduceLT, Nat.reduceMul, Nat.reduceSub, Int.reduceToNat, Int.reduceSub, Int.reduceAdd, Int.reduceNeg]
  intro r hr
  refine Pu.use (heldIntS_spec n hl (by omega) (by omega)) ?_
  (try simp (maxSteps := 1000000) (disch := first | assumption | (apply Ne.symm; assumption)) only [vz, vu, vv, eqS, eqFieldsV, ↓condV_t, ↓condV_f, tabs, reduceCtorEq, Array.toList, ↓reduceIte, Nat.reduceAdd, Nat.reduceLeDiff, Nat.reduceLT, Nat.reduceMul, Nat.reduceSub, Int.reduceToNat, Int.reduceSub, Int.reduceAdd, Int.reduceNeg])
  first | exact ⟨fun h => by omega, fun _ => Heap.le_set hr⟩ | exact Heap.le_set hr
theorem RS.held {n : Nat} {v : AV} {G : Heap} {D : List Nat} (h : RS (marked 1 n) v G D) (hl : n ≤ 1048576) {K : AV → Heap → Prop} (k : K (I (1 + n)) G) : CallT Try.prog 16 [v, I 1] G K := by
  rcases h with ⟨h0, rfl, rfl⟩ | ⟨q, rfl, hq, rfl⟩
  · have : n = 0 := by
      have := congrArg List.length h0
      simpa [marked_len] using this
    subst this
    exact CallT.args (args' := [aS [], I 1]) ((heldSight_spec 0 hl).use k) ⟨wk_agg ⟨.nil, trivial⟩, .refl _, trivial⟩
  · exact Pu.thaw (heldSight_spec n hl) (.int _ _) (Wk.frz (r := q) (sz := 1) (es := (marked 1 n).map fun n => [fI n]) (v' := .tup [aS (marked 1 n), I 1]) (by omega) (by rw [flat_P]; exact hq) (szP _ _) (.tup (.cons (.agg (.cons frz_row .nil)) (.cons (.same _) .nil)))) k

theorem LPg.eqP {p : Pg} {v : AV} {G : Heap} {D : List Nat} (g : LPg p v G D) (hD : D.Nodup) (hp : smPg p) {K : AV → Heap → Prop} (h : K (B true) G) : CallT Try.prog 13 [v, aPg p] G K := by
  obtain ⟨G1, w1, f1⟩ := g.wk hD (fun v => .tup [v, aPg p]) (fun h => .tup (.cons h (.cons (.same _) .nil)))
  exact Pu.thaw (eqProgram_spec p hp) (.bool _) w1 h
theorem LPg.sl {p : Pg} {v : AV} {G : Heap} {D : List Nat} (h : LPg p v G D) : ∃ q1 q2, v = .agg [I p.wide, I p.vars, .sl q1 2 0 p.start.length, .sl q2 2 0 p.cmds.length] := by
  obtain ⟨x, y, E1, E2, rfl, rfl, hx, hy⟩ := h
  obtain ⟨qx, rfl⟩ := LRow.sl hx
  obtain ⟨qy, rfl⟩ := LRow.sl hy
  exact ⟨qx, qy, rfl⟩

end Go.Proofs.Ytdnfiacjoghfkaa
/- The law on MeetOf. -/
namespace Go.Proofs.Ytdnfiacjoghfkaa
open Go Go.Sep Go.Pt
set_option linter.unusedSimpArgs false
set_option linter.unusedVariables false
attribute [local irreducible] CallT

theorem RS.ag {of : List Int} {v : AV} {G : Heap} {D : List Nat} (h : RS of v G D) : ∃ x, v = .agg [x] ∧ x.isCell = true := by
  rcases h with ⟨_, rfl, _⟩ | ⟨q, rfl, _, _⟩
  · exact ⟨_, rfl, rfl⟩
  · exact ⟨_, rfl, rfl⟩
theorem _root_.Go.Sep.St.lose {H G G' : Heap} {Ts : List Th} {t : Th} (s : St H Ts G) (i : Nat) (h : Ts[i]? = some t) (hf : ∀ y, y ∉ t.D → G' y = G y) : St H (Ts.eraseIdx i) G' := by
  have s1 := s.pick i h
  have hnd := s1.nd
  rw [List.flatMap_cons, List.nodup_append] at hnd
  refine ⟨fun y b hb => ?_, hnd.2.1, fun u hu => s1.fr u (List.mem_cons_of_mem _ hu), fun u hu => u.loc (s1.ok u (List.mem_cons_of_mem _ hu)) fun y hy b hb => ?_⟩
  · rw [hf y (s1.wkNone y b hb t (List.mem_cons_self ..))]; exact s1.le y b hb
  · rw [hf y (fun hm => hnd.2.2 y hm y (List.mem_flatMap.2 ⟨u, hu, hy⟩) rfl)]; exact hb
end Go.Proofs.Ytdnfiacjoghfkaa
/- Specs: CutOut, and its law. -/
namespace Go.Proofs.Ytdnfiacjoghfkaa
open Go Go.Sep Go.Pt
set_option linter.unusedSimpArgs false
set_option linter.unusedVariables false
attribute [local irreducible] CallT

def coOk (p : Pg) (a b : List Int) : Bool := goodSt p a && rising b (statesP p)
def coR (p : Pg) (a b : List Int) : List Int := if coOk p a b then cutL a b else []
theorem coR_len (p : Pg) (a b : List Int) : (coR p a b).length ≤ 32 := by
  unfold coR
  split
  · rename_i h
    simp only [coOk, Bool.and_eq_true] at h
    rw [cutL_len]; exact (goodSt_len h.1).2
  · simp
theorem CutOut_impl (p : Pg) (a b : List Int) (hp : vPg p) (hal : a.length ≤ 1048576) (hbl : b.length ≤ 1048576) {H : Heap} {K : AV → Heap → Prop}
    (h : ∀ v G D, RS (coR p a b) v G D → New H G D → K (.tup [v, B (coOk p a b)]) G) : CallT Try.prog 21 [aPg p, aS a, Is b] H K := by
  refine CallT.fin ?_
  refine W21_ok ?_; simp (maxSteps := 1000000) (disch := first | assumption | (apply Ne.symm; assumption)) only [W21, vz, vu, vv, eqS, eqFieldsV, ↓condV_t, ↓condV_f, tabs, reduceCtorEq, Array.toList, ↓reduceIte, Nat.reduceAdd, Nat.reduceLeDiff, Nat.reduceLT, Nat.reduceMul, Nat.reduceSub, Int.reduceToNat, Int.reduceSub, Int.reduceAdd, Int.reduceNeg]
  intro r3 h3 r4 n43 h4 r6 n64 n63 h6
  have hb0 : Heap.le H (((H.set r3 (gPg p)).set r4 [Is a])) := Heap.le_setN (Heap.le_set h3) h4
  have hb1 : ∀ z, Heap.le H (((H.set r3 (gPg p)).set r4 [Is a]).set r6 z) := fun z => Heap.le_setN hb0 h6
  have nn43 := Ne.symm n43
  have nn63 := Ne.symm n63
  have nn64 := Ne.symm n64
  have bad : coOk p a b = false → ∀ z, wkK K (.tup [.agg [.p .nil], B false]) (((H.set r3 (gPg p)).set r4 [Is a]).set r6 z) := fun hk z => by
    refine fin_le (hb1 z) ?_
    have := h (.agg [.p .nil]) H [] (.inl ⟨by simp [coR, hk], rfl, rfl⟩) ⟨by simp, by simp, Heap.le_refl _⟩
    rwa [hk] at this
  (try simp (maxSteps := 1000000) (disch := first | assumption | (apply Ne.symm; assumption)) only [vz, vu, vv, eqS, eqFieldsV, ↓condV_t, ↓condV_f, tabs, reduceCtorEq, Array.toList, ↓reduceIte, Nat.reduceAdd, Nat.reduceLeDiff, Nat.reduceLT, Nat.reduceMul, Nat.reduceSub, Int.reduceToNat, Int.reduceSub, Int.reduceAdd, Int.reduceNeg])
  refine Pu.use (GoodSight_impl p a hp hal) ?_
  cases ha : goodSt p a
  · (try simp (maxSteps := 1000000) (disch := first | assumption | (apply Ne.symm; assumption)) only [vz, vu, vv, eqS, eqFieldsV, ↓condV_t, ↓condV_f, tabs, reduceCtorEq, Array.toList, ↓reduceIte, Nat.reduceAdd, Nat.reduceLeDiff, Nat.reduceLT, Nat.reduceMul, Nat.reduceSub, Int.reduceToNat, Int.reduceSub, Int.reduceAdd, Int.reduceNeg])
    exact bad (by simp [coOk, ha]) _
  have hrun := goodSt_run ha
  (try simp (maxSteps := 1000000) (disch := first | assumption | (apply Ne.symm; assumption)) only [vz, vu, vv, eqS, eqFieldsV, ↓condV_t, ↓condV_f, tabs, reduceCtorEq, Array.toList, ↓reduceIte, Nat.reduceAdd, Nat.reduceLeDiff, Nat.reduceLT, Nat.reduceMul, Nat.reduceSub, Int.reduceToNat, Int.reduceSub, Int.reduceAdd, Int.reduceNeg])
  refine Pu.use (states_spec p hrun.1) ?_
  refine Pu.use (isIncreasing_spec b _ hbl) ?_
  cases hb : rising b (statesP p)
  · (try simp (maxSteps := 1000000) (disch := first | assumption | (apply Ne.symm; assumption)) only [vz, vu, vv, eqS, eqFieldsV, ↓condV_t, ↓condV_f, tabs, reduceCtorEq, Array.toList, ↓reduceIte, Nat.reduceAdd, Nat.reduceLeDiff, Nat.reduceLT, Nat.reduceMul, Nat.reduceSub, Int.reduceToNat, Int.reduceSub, Int.reduceAdd, Int.reduceNeg])
    exact bad (by simp [coOk, hb]) _
  (try simp (maxSteps := 1000000) (disch := first | assumption | (apply Ne.symm; assumption)) only [vz, vu, vv, eqS, eqFieldsV, ↓condV_t, ↓condV_f, tabs, reduceCtorEq, Array.toList, ↓reduceIte, Nat.reduceAdd, Nat.reduceLeDiff, Nat.reduceLT, Nat.reduceMul, Nat.reduceSub, Int.reduceToNat, Int.reduceSub, Int.reduceAdd, Int.reduceNeg])
  have hok : coOk p a b = true := by simp [coOk, ha, hb]
  have hla := goodSt_len ha
  have g6 : (((H.set r3 (gPg p)).set r4 [Is a]).set r6 [AV.p .nil]) r6 = some [AV.p .nil] := Heap.set_same _ _ _
  have hb2 := hb1 [AV.p .nil]
  generalize (((H.set r3 (gPg p)).set r4 [Is a]).set r6 [AV.p .nil]) = G at g6 hb2 ⊢
  refine cutOut_spec a b (by omega) (by omega) (goodSt_r ha) (by rw [hrun.2.1]; exact hb) fun q hq => ?_
  have hqH : H q = none := by
    cases hh : H q with
    | none => rfl
    | some c => rw [hb2 _ _ hh] at hq; cases hq
  have e6 : r6 ≠ q := fun e => by rw [← e, g6] at hq; cases hq
  have := h (.agg [rowP q (cutL a b)]) (H.set q (cP fI (cutL a b))) [q] (.inr ⟨q, by simp [coR, hok], by simp [coR, hok, Heap.set_same], rfl⟩) ⟨by simp, by simpa using hqH, Heap.le_set hqH⟩
  rw [hok] at this
  have k6 : (G.set q (cP fI (cutL a b))) r6 = some [AV.p .nil] := by rw [Heap.set_other e6]; exact g6
  generalize cP fI (cutL a b) = z at this k6 ⊢
  (try simp (maxSteps := 1000000) (disch := first | assumption | (apply Ne.symm; assumption)) only [vz, vu, vv, eqS, eqFieldsV, ↓condV_t, ↓condV_f, tabs, reduceCtorEq, Array.toList, ↓reduceIte, Nat.reduceAdd, Nat.reduceLeDiff, Nat.reduceLT, Nat.reduceMul, Nat.reduceSub, Int.reduceToNat, Int.reduceSub, Int.reduceAdd, Int.reduceNeg, store_at k6])
  refine fin_le (fun y bb hy => ?_) this
  by_cases e : y = q
  · subst e; rw [Heap.set_same] at hy; rw [Heap.set_other (Ne.symm e6), Heap.set_same]; exact hy
  · rw [Heap.set_other e] at hy
    have hy4 : y ≠ r6 := fun e => by rw [e, h6] at hy; cases hy
    rw [Heap.set_other hy4, Heap.set_other e]; exact hb2 _ _ hy
theorem CutOut_ref (p : Pg) (a b : List Int) (hp : vPg p) (hal : a.length ≤ 1048576) (hbl : b.length ≤ 1048576) : Pu Try.prog 19 [aPg p, aS a, Is b] (.tup [aS (coR p a b), B (coOk p a b)]) := by
  refine ⟨fun H => CallT.fin ?_⟩
  refine W19_ok ?_; simp (maxSteps := 1000000) (disch := first | assumption | (apply Ne.symm; assumption)) only [W19, vz, vu, vv, eqS, eqFieldsV, ↓condV_t, ↓condV_f, tabs, reduceCtorEq, Array.toList, ↓reduceIte, Nat.reduceAdd, Nat.reduceLeDiff, Nat.reduceLT, Nat.reduceMul, Nat.reduceSub, Int.reduceToNat, Int.reduceSub, Int.reduceAdd, Int.reduceNeg]
  intro r3 h3 r4 n43 h4 r6 n64 n63 h6
  have hb0 : Heap.le H (((H.set r3 (gPg p)).set r4 [Is a])) := Heap.le_setN (Heap.le_set h3) h4
  have hb1 : ∀ z, Heap.le H (((H.set r3 (gPg p)).set r4 [Is a]).set r6 z) := fun z => Heap.le_setN hb0 h6
  have nn43 := Ne.symm n43
  have nn63 := Ne.symm n63
  have nn64 := Ne.symm n64
  have bad : coOk p a b = false → ∀ z, wkK (fun r H' => r = AV.tup [aS (coR p a b), B (coOk p a b)] ∧ H' = H) (.tup [.agg [.p .nil], B false]) (((H.set r3 (gPg p)).set r4 [Is a]).set r6 z) := fun hk z => by
    refine ⟨_, _, .trans (.val (v' := .tup [aS [], B false]) (wk_tup ⟨wk_agg ⟨.nil, trivial⟩, .refl _, trivial⟩)) (.forget (hb1 z)), by simp [coR, hk], rfl⟩
  (try simp (maxSteps := 1000000) (disch := first | assumption | (apply Ne.symm; assumption)) only [vz, vu, vv, eqS, eqFieldsV, ↓condV_t, ↓condV_f, tabs, reduceCtorEq, Array.toList, ↓reduceIte, Nat.reduceAdd, Nat.reduceLeDiff, Nat.reduceLT, Nat.reduceMul, Nat.reduceSub, Int.reduceToNat, Int.reduceSub, Int.reduceAdd, Int.reduceNeg])
  refine Pu.use (GoodSight_spec p a hp hal) ?_
  cases ha : goodSt p a
  · (try simp (maxSteps := 1000000) (disch := first | assumption | (apply Ne.symm; assumption)) only [vz, vu, vv, eqS, eqFieldsV, ↓condV_t, ↓condV_f, tabs, reduceCtorEq, Array.toList, ↓reduceIte, Nat.reduceAdd, Nat.reduceLeDiff, Nat.reduceLT, Nat.reduceMul, Nat.reduceSub, Int.reduceToNat, Int.reduceSub, Int.reduceAdd, Int.reduceNeg])
    exact bad (by simp [coOk, ha]) _
  have hrun := goodSt_run ha
  have hla := goodSt_len ha
  have e1 : IntKind.i64.wrap ((a.length : Int) - 1) = (a.length : Int) - 1 := i64_id (by omega) (by omega)
  (try simp (maxSteps := 1000000) (disch := first | assumption | (apply Ne.symm; assumption)) only [vz, vu, vv, eqS, eqFieldsV, ↓condV_t, ↓condV_f, tabs, reduceCtorEq, Array.toList, ↓reduceIte, Nat.reduceAdd, Nat.reduceLeDiff, Nat.reduceLT, Nat.reduceMul, Nat.reduceSub, Int.reduceToNat, Int.reduceSub, Int.reduceAdd, Int.reduceNeg, e1])
  refine Pu.use (l1Rising_spec b a.length hbl) ?_
  rw [hrun.2.1]
  cases hb : rising b (statesP p)
  · (try simp (maxSteps := 1000000) (disch := first | assumption | (apply Ne.symm; assumption)) only [vz, vu, vv, eqS, eqFieldsV, ↓condV_t, ↓condV_f, tabs, reduceCtorEq, Array.toList, ↓reduceIte, Nat.reduceAdd, Nat.reduceLeDiff, Nat.reduceLT, Nat.reduceMul, Nat.reduceSub, Int.reduceToNat, Int.reduceSub, Int.reduceAdd, Int.reduceNeg])
    exact bad (by simp [coOk, hb]) _
  (try simp (maxSteps := 1000000) (disch := first | assumption | (apply Ne.symm; assumption)) only [vz, vu, vv, eqS, eqFieldsV, ↓condV_t, ↓condV_f, tabs, reduceCtorEq, Array.toList, ↓reduceIte, Nat.reduceAdd, Nat.reduceLeDiff, Nat.reduceLT, Nat.reduceMul, Nat.reduceSub, Int.reduceToNat, Int.reduceSub, Int.reduceAdd, Int.reduceNeg])
  have hok : coOk p a b = true := by simp [coOk, ha, hb]
  refine Pu.use (l15Cut_spec a b (by omega) hbl fun x hx => ?_) ?_
  · obtain ⟨i, hi, rfl⟩ := List.getElem_of_mem hx
    have := goodSt_el ha hi
    have e : a.getD i default = a[i] := by simp [List.getD, hi]
    rw [e] at this
    omega
  · (try simp (maxSteps := 1000000) (disch := first | assumption | (apply Ne.symm; assumption)) only [vz, vu, vv, eqS, eqFieldsV, ↓condV_t, ↓condV_f, tabs, reduceCtorEq, Array.toList, ↓reduceIte, Nat.reduceAdd, Nat.reduceLeDiff, Nat.reduceLT, Nat.reduceMul, Nat.reduceSub, Int.reduceToNat, Int.reduceSub, Int.reduceAdd, Int.reduceNeg])
    exact ⟨_, _, .forget (hb1 _), by simp [coR, hok], rfl⟩

theorem wkPSI {p : Pg} {a b : List Int} {v : AV} {D : List Nat} {q1 q2 : Nat} {G : Heap} (h1 : LPg p v G D) (hD : D.Nodup) (hq1 : G q1 = some (cP fI a)) (hq2 : G q2 = some (cP fI b)) (d1 : q1 ∉ D) (d2 : q2 ∉ D) (d3 : q1 ≠ q2) :
    ∃ G', Wk (.tup [v, .agg [rowP q1 a], rowP q2 b]) G (.tup [aPg p, aS a, Is b]) G' := by
  obtain ⟨G1, w1, f1⟩ := h1.wk hD (fun v => .tup [v, .agg [rowP q1 a], rowP q2 b]) (fun h => .tup (.cons h (.cons (.same _) (.cons (.same _) .nil))))
  have w2 := Wk.frz (v := .tup [aPg p, .agg [rowP q1 a], rowP q2 b]) (v' := .tup [aPg p, aS a, rowP q2 b]) (H := G1) (r := q1) (sz := 1) (es := a.map fun n => [fI n]) (by omega) (by rw [flat_P, f1 q1 d1]; exact hq1) (szP _ _) (.tup (.cons (.same _) (.cons (.agg (.cons frz_row .nil)) (.cons (.same _) .nil))))
  have w3 := Wk.frz (v := .tup [aPg p, aS a, rowP q2 b]) (v' := .tup [aPg p, aS a, Is b]) (H := G1.del q1) (r := q2) (sz := 1) (es := b.map fun n => [fI n]) (by omega) (by rw [flat_P, Heap.del_other (Ne.symm d3), f1 q2 d2]; exact hq2) (szP _ _) (.tup (.cons (.same _) (.cons (.same _) (.cons frz_row .nil))))
  exact ⟨_, .trans w1 (.trans w2 w3)⟩
theorem eqIrow {q : Nat} {xs : List Int} {G : Heap} (hq : G q = some (cP fI xs)) (hl : xs.length ≤ 1048576) {K : AV → Heap → Prop} (h : K (B true) G) : CallT Try.prog 22 [rowP q xs, Is xs] G K :=
  Pu.thaw (eqIntS_spec xs hl) (.bool _) (Wk.frz (r := q) (sz := 1) (es := xs.map fun n => [fI n]) (v' := .tup [vP fI xs, Is xs]) (by omega) (by rw [flat_P]; exact hq) (szP _ _) (.tup (.cons frz_row (.cons (.same _) .nil)))) h
set_option maxRecDepth 20000 in
set_option maxHeartbeats 1000000 in
theorem FnExactCutOut_true {p : Pg} {a b : List Int} (hok : okPg p) (hn : nPg p) (ha : ok a.length) (hb : ok b.length) : Pu Try.prog 5 [aPg p, aS a, Is b] (B true) := by
  refine Pu.of fun H => ?_
  refine W5_ok ?_; simp (maxSteps := 1000000) (disch := first | assumption | (apply Ne.symm; assumption)) only [W5, vz, vu, vv, eqS, eqFieldsV, ↓condV_t, ↓condV_f, tabs, reduceCtorEq, Array.toList, ↓reduceIte, Nat.reduceAdd, Nat.reduceLeDiff, Nat.reduceLT, Nat.reduceMul, Nat.reduceSub, Int.reduceToNat, Int.reduceSub, Int.reduceAdd, Int.reduceNeg]
  intro r hr r1 n1 h1
  have st := ((St.nil H).cell hr (gPg p)).cell (r := r1) (by rw [Heap.set_other n1]; exact h1) [Is a]
  generalize (H.set r [I p.wide, I p.vars, Ns p.start, Cms p.cmds]).set r1 [Is a] = G0 at st ⊢
  (try simp (maxSteps := 1000000) (disch := first | assumption | (apply Ne.symm; assumption)) only [vz, vu, vv, eqS, eqFieldsV, ↓condV_t, ↓condV_f, tabs, reduceCtorEq, Array.toList, ↓reduceIte, Nat.reduceAdd, Nat.reduceLeDiff, Nat.reduceLT, Nat.reduceMul, Nat.reduceSub, Int.reduceToNat, Int.reduceSub, Int.reduceAdd, Int.reduceNeg, load_at (st.get 0 rfl), load_at (st.get 1 rfl)])
  refine ⟨fun _ => st.le, fun h9 => ?_⟩
  refine Pu.use (szProgram_spec p 1048576 (by omega) (by omega) hok) ?_
  (try simp (maxSteps := 1000000) (disch := first | assumption | (apply Ne.symm; assumption)) only [vz, vu, vv, eqS, eqFieldsV, ↓condV_t, ↓condV_f, tabs, reduceCtorEq, Array.toList, ↓reduceIte, Nat.reduceAdd, Nat.reduceLeDiff, Nat.reduceLT, Nat.reduceMul, Nat.reduceSub, Int.reduceToNat, Int.reduceSub, Int.reduceAdd, Int.reduceNeg, load_at (st.get 0 rfl), load_at (st.get 1 rfl)])
  refine ⟨fun _ => st.le, fun h1 => ?_⟩
  obtain ⟨t1, e1⟩ := szR_nonneg h1
  rw [e1]
  have hsm := sm_of_tot (by omega : (totPg p : Int) ≤ 1048576)
  have hv := v_of hsm hn
  refine Pu.use (szSight_spec a _ (by omega) (by omega) ha) ?_
  (try simp (maxSteps := 1000000) (disch := first | assumption | (apply Ne.symm; assumption)) only [vz, vu, vv, eqS, eqFieldsV, ↓condV_t, ↓condV_f, tabs, reduceCtorEq, Array.toList, ↓reduceIte, Nat.reduceAdd, Nat.reduceLeDiff, Nat.reduceLT, Nat.reduceMul, Nat.reduceSub, Int.reduceToNat, Int.reduceSub, Int.reduceAdd, Int.reduceNeg, load_at (st.get 0 rfl), load_at (st.get 1 rfl)])
  refine ⟨fun _ => st.le, fun h2 => ?_⟩
  obtain ⟨t2, e2⟩ := szR_nonneg h2
  have hal : a.length ≤ 1048576 := by omega
  have hbl : b.length ≤ 1048576 := by omega
  refine Pu.use (toProgram_spec p hsm) ?_
  (try simp (maxSteps := 1000000) (disch := first | assumption | (apply Ne.symm; assumption)) only [vz, vu, vv, eqS, eqFieldsV, ↓condV_t, ↓condV_f, tabs, reduceCtorEq, Array.toList, ↓reduceIte, Nat.reduceAdd, Nat.reduceLeDiff, Nat.reduceLT, Nat.reduceMul, Nat.reduceSub, Int.reduceToNat, Int.reduceSub, Int.reduceAdd, Int.reduceNeg, load_at (st.get 0 rfl), load_at (st.get 1 rfl)])
  refine Pu.use (toSight_spec a hal) ?_
  refine Pu.use (toIntS_spec b hbl) ?_
  refine Pu.use (CutOut_ref p a b hv hal hbl) ?_
  have hres := coR_len p a b
  have hI : ∀ {H : Heap} {K : AV → Heap → Prop}, (∀ v G D, RS (coR p a b) v G D → New H G D → K (.tup [v, B (coOk p a b)]) G) → CallT Try.prog 21 [aPg p, aS a, Is b] H K := CutOut_impl p a b hv hal hbl
  generalize coR p a b = o at hres hI
  generalize coOk p a b = ok at hI
  (try simp (maxSteps := 1000000) (disch := first | assumption | (apply Ne.symm; assumption)) only [vz, vu, vv, eqS, eqFieldsV, ↓condV_t, ↓condV_f, tabs, reduceCtorEq, Array.toList, ↓reduceIte, Nat.reduceAdd, Nat.reduceLeDiff, Nat.reduceLT, Nat.reduceMul, Nat.reduceSub, Int.reduceToNat, Int.reduceSub, Int.reduceAdd, Int.reduceNeg])
  intro w hw
  replace st := st.cell hw [Is o]
  (try simp (maxSteps := 1000000) (disch := first | assumption | (apply Ne.symm; assumption)) only [vz, vu, vv, eqS, eqFieldsV, ↓condV_t, ↓condV_f, tabs, reduceCtorEq, Array.toList, ↓reduceIte, Nat.reduceAdd, Nat.reduceLeDiff, Nat.reduceLT, Nat.reduceMul, Nat.reduceSub, Int.reduceToNat, Int.reduceSub, Int.reduceAdd, Int.reduceNeg, load_at (st.get 1 rfl), load_at (st.get 2 rfl)])
  generalize G0.set w [Is o] = G01 at st ⊢
  refine toProgram_live p hsm fun v G1 D1 hP hn1 => ?_
  replace st := st.push (tP p v D1) hn1 hP
  obtain ⟨qx, qy, rfl⟩ := hP.sl
  clear hP hn1
  (try simp (maxSteps := 1000000) (disch := first | assumption | (apply Ne.symm; assumption)) only [vz, vu, vv, eqS, eqFieldsV, ↓condV_t, ↓condV_f, tabs, reduceCtorEq, Array.toList, ↓reduceIte, Nat.reduceAdd, Nat.reduceLeDiff, Nat.reduceLT, Nat.reduceMul, Nat.reduceSub, Int.reduceToNat, Int.reduceSub, Int.reduceAdd, Int.reduceNeg])
  intro z hz
  replace st := st.cell hz [I p.wide, I p.vars, .sl qx 2 0 p.start.length, .sl qy 2 0 p.cmds.length]
  (try simp (maxSteps := 1000000) (disch := first | assumption | (apply Ne.symm; assumption)) only [vz, vu, vv, eqS, eqFieldsV, ↓condV_t, ↓condV_f, tabs, reduceCtorEq, Array.toList, ↓reduceIte, Nat.reduceAdd, Nat.reduceLeDiff, Nat.reduceLT, Nat.reduceMul, Nat.reduceSub, Int.reduceToNat, Int.reduceSub, Int.reduceAdd, Int.reduceNeg, load_at (st.get 3 rfl)])
  generalize G1.set z [I p.wide, I p.vars, .sl qx 2 0 p.start.length, .sl qy 2 0 p.cmds.length] = G2 at st ⊢
  refine toSight_live a hal fun v1 G3 D3 hS hn3 => ?_
  obtain ⟨q1, rfl, hq1, rfl⟩ := hS.rs
  replace st := st.push (cellT q1 (cP fI a)) hn3 hq1
  clear hS hn3 hq1
  (try simp (maxSteps := 1000000) (disch := first | assumption | (apply Ne.symm; assumption)) only [vz, vu, vv, eqS, eqFieldsV, ↓condV_t, ↓condV_f, tabs, reduceCtorEq, Array.toList, ↓reduceIte, Nat.reduceAdd, Nat.reduceLeDiff, Nat.reduceLT, Nat.reduceMul, Nat.reduceSub, Int.reduceToNat, Int.reduceSub, Int.reduceAdd, Int.reduceNeg])
  intro z1 hz1
  replace st := st.cell hz1 [rowP q1 a]
  (try simp (maxSteps := 1000000) (disch := first | assumption | (apply Ne.symm; assumption)) only [vz, vu, vv, eqS, eqFieldsV, ↓condV_t, ↓condV_f, tabs, reduceCtorEq, Array.toList, ↓reduceIte, Nat.reduceAdd, Nat.reduceLeDiff, Nat.reduceLT, Nat.reduceMul, Nat.reduceSub, Int.reduceToNat, Int.reduceSub, Int.reduceAdd, Int.reduceNeg, load_at (st.get 0 rfl), load_at (st.get 2 rfl)])
  generalize G3.set z1 [rowP q1 a] = G4 at st ⊢
  refine toIntS_live b hbl fun v2 G5 D5 hS hn5 => ?_
  obtain ⟨q2, rfl, hq2, rfl⟩ := LI_row hS
  replace st := st.push (cellT q2 (cP fI b)) hn5 (by rw [← cells_P]; exact hq2)
  clear hS hn5 hq2
  (try simp (maxSteps := 1000000) (disch := first | assumption | (apply Ne.symm; assumption)) only [vz, vu, vv, eqS, eqFieldsV, ↓condV_t, ↓condV_f, tabs, reduceCtorEq, Array.toList, ↓reduceIte, Nat.reduceAdd, Nat.reduceLeDiff, Nat.reduceLT, Nat.reduceMul, Nat.reduceSub, Int.reduceToNat, Int.reduceSub, Int.reduceAdd, Int.reduceNeg, load_at (st.get 3 rfl), load_at (st.get 1 rfl)])
  have d1 : q1 ∉ D1 := fun hm => st.disjI 2 4 rfl rfl (by omega) q1 (List.mem_singleton.2 rfl) hm
  have d2 : q2 ∉ D1 := fun hm => st.disjI 0 4 rfl rfl (by omega) q2 (List.mem_singleton.2 rfl) hm
  have d3 : q1 ≠ q2 := fun e => st.disjI 0 2 rfl rfl (by omega) q2 (List.mem_singleton.2 rfl) (List.mem_singleton.2 e.symm)
  obtain ⟨Gw, hw⟩ := wkPSI (st.get 4 rfl) (st.ndT 4 rfl) (st.get 2 rfl) (st.get 0 rfl) d1 d2 d3
  clear d1 d2 d3
  refine thawU (RSt.res o ok) (fun hK => hI fun v G D h1 h2 => hK _ _ _ ⟨v, rfl, h1⟩ h2) hw fun rr G7 D7 hr7 hn7 => ?_
  obtain ⟨vr, rfl, hrs⟩ := hr7
  obtain ⟨xr, rfl, hxr⟩ := hrs.ag
  replace st := st.push (tRS o (.agg [xr]) D7) hn7 hrs
  clear hrs hn7 hw
  (try simp (maxSteps := 1000000) (disch := first | assumption | (apply Ne.symm; assumption)) only [vz, vu, vv, eqS, eqFieldsV, ↓condV_t, ↓condV_f, tabs, reduceCtorEq, Array.toList, ↓reduceIte, Nat.reduceAdd, Nat.reduceLeDiff, Nat.reduceLT, Nat.reduceMul, Nat.reduceSub, Int.reduceToNat, Int.reduceSub, Int.reduceAdd, Int.reduceNeg])
  intro u hu
  replace st := st.cell hu [xr]
  (try simp (maxSteps := 1000000) (disch := first | assumption | (apply Ne.symm; assumption)) only [vz, vu, vv, eqS, eqFieldsV, ↓condV_t, ↓condV_f, tabs, reduceCtorEq, Array.toList, ↓reduceIte, Nat.reduceAdd, Nat.reduceLeDiff, Nat.reduceLT, Nat.reduceMul, Nat.reduceSub, Int.reduceToNat, Int.reduceSub, Int.reduceAdd, Int.reduceNeg, load_at (st.get 7 rfl)])
  generalize G7.set u [xr] = G8 at st ⊢
  refine ⟨hxr, ?_⟩
  refine RS.eq (st.get 1 rfl) (by omega) ?_
  (try simp (maxSteps := 1000000) (disch := first | assumption | (apply Ne.symm; assumption)) only [vz, vu, vv, eqS, eqFieldsV, ↓condV_t, ↓condV_f, tabs, reduceCtorEq, Array.toList, ↓reduceIte, Nat.reduceAdd, Nat.reduceLeDiff, Nat.reduceLT, Nat.reduceMul, Nat.reduceSub, Int.reduceToNat, Int.reduceSub, Int.reduceAdd, Int.reduceNeg, load_at (st.get 5 rfl), load_at (st.get 9 rfl)])
  refine Pu.use (toProgram_spec p hsm) ?_
  (try simp (maxSteps := 1000000) (disch := first | assumption | (apply Ne.symm; assumption)) only [vz, vu, vv, eqS, eqFieldsV, ↓condV_t, ↓condV_f, tabs, reduceCtorEq, Array.toList, ↓reduceIte, Nat.reduceAdd, Nat.reduceLeDiff, Nat.reduceLT, Nat.reduceMul, Nat.reduceSub, Int.reduceToNat, Int.reduceSub, Int.reduceAdd, Int.reduceNeg, load_at (st.get 5 rfl)])
  refine (st.get 6 rfl : LPg _ _ _ _).eqP (st.ndT 6 rfl) hsm ?_
  (try simp (maxSteps := 1000000) (disch := first | assumption | (apply Ne.symm; assumption)) only [vz, vu, vv, eqS, eqFieldsV, ↓condV_t, ↓condV_f, tabs, reduceCtorEq, Array.toList, ↓reduceIte, Nat.reduceAdd, Nat.reduceLeDiff, Nat.reduceLT, Nat.reduceMul, Nat.reduceSub, Int.reduceToNat, Int.reduceSub, Int.reduceAdd, Int.reduceNeg, load_at (st.get 3 rfl), load_at (st.get 8 rfl)])
  refine Pu.use (toSight_spec a hal) ?_
  (try simp (maxSteps := 1000000) (disch := first | assumption | (apply Ne.symm; assumption)) only [vz, vu, vv, eqS, eqFieldsV, ↓condV_t, ↓condV_f, tabs, reduceCtorEq, Array.toList, ↓reduceIte, Nat.reduceAdd, Nat.reduceLeDiff, Nat.reduceLT, Nat.reduceMul, Nat.reduceSub, Int.reduceToNat, Int.reduceSub, Int.reduceAdd, Int.reduceNeg, load_at (st.get 3 rfl)])
  refine RS.eq (.inr ⟨q1, rfl, st.get 4 rfl, rfl⟩) hal ?_
  (try simp (maxSteps := 1000000) (disch := first | assumption | (apply Ne.symm; assumption)) only [vz, vu, vv, eqS, eqFieldsV, ↓condV_t, ↓condV_f, tabs, reduceCtorEq, Array.toList, ↓reduceIte, Nat.reduceAdd, Nat.reduceLeDiff, Nat.reduceLT, Nat.reduceMul, Nat.reduceSub, Int.reduceToNat, Int.reduceSub, Int.reduceAdd, Int.reduceNeg])
  refine Pu.use (toIntS_spec b hbl) ?_
  refine eqIrow (st.get 2 rfl) hbl ?_
  (try simp (maxSteps := 1000000) (disch := first | assumption | (apply Ne.symm; assumption)) only [vz, vu, vv, eqS, eqFieldsV, ↓condV_t, ↓condV_f, tabs, reduceCtorEq, Array.toList, ↓reduceIte, Nat.reduceAdd, Nat.reduceLeDiff, Nat.reduceLT, Nat.reduceMul, Nat.reduceSub, Int.reduceToNat, Int.reduceSub, Int.reduceAdd, Int.reduceNeg, load_at (st.get 5 rfl)])
  refine markProgram_live p (by omega) (st.get 6 rfl) (st.ndT 6 rfl) (by omega) (by omega) fun k' G9 hfr hk1 hk2 => ?_
  replace st := st.lose 6 rfl hfr
  clear hfr
  simp only [List.eraseIdx_cons_succ, List.eraseIdx_cons_zero] at st
  (try simp (maxSteps := 1000000) (disch := first | assumption | (apply Ne.symm; assumption)) only [vz, vu, vv, eqS, eqFieldsV, ↓condV_t, ↓condV_f, tabs, reduceCtorEq, Array.toList, ↓reduceIte, Nat.reduceAdd, Nat.reduceLeDiff, Nat.reduceLT, Nat.reduceMul, Nat.reduceSub, Int.reduceToNat, Int.reduceSub, Int.reduceAdd, Int.reduceNeg, load_at (st.get 3 rfl)])
  refine RS.mark (of := a) (.inr ⟨q1, rfl, st.get 4 rfl, rfl⟩) hal (by omega) (by omega) fun G10 _ hfr => ?_
  replace st := st.lose 4 rfl hfr
  clear hfr
  simp only [List.eraseIdx_cons_succ, List.eraseIdx_cons_zero] at st
  (try simp (maxSteps := 1000000) (disch := first | assumption | (apply Ne.symm; assumption)) only [vz, vu, vv, eqS, eqFieldsV, ↓condV_t, ↓condV_f, tabs, reduceCtorEq, Array.toList, ↓reduceIte, Nat.reduceAdd, Nat.reduceLeDiff, Nat.reduceLT, Nat.reduceMul, Nat.reduceSub, Int.reduceToNat, Int.reduceSub, Int.reduceAdd, Int.reduceNeg])
  refine markIntS_live b hbl (by omega) (by omega) (by rw [cells_P]; exact st.get 2 rfl) ?_
  replace st := st.put 2 rfl (cells ((marked (k' + a.length) b.length).map eI))
  (try simp (maxSteps := 1000000) (disch := first | assumption | (apply Ne.symm; assumption)) only [vz, vu, vv, eqS, eqFieldsV, ↓condV_t, ↓condV_f, tabs, reduceCtorEq, Array.toList, ↓reduceIte, Nat.reduceAdd, Nat.reduceLeDiff, Nat.reduceLT, Nat.reduceMul, Nat.reduceSub, Int.reduceToNat, Int.reduceSub, Int.reduceAdd, Int.reduceNeg, load_at (st.get 0 rfl), load_at (st.get 5 rfl)])
  refine ⟨fun h => by omega, fun _ => ?_⟩
  generalize G10.set q2 (cells ((marked (k' + a.length) b.length).map eI)) = G11 at st ⊢
  refine RS.eq (st.get 1 rfl) (by omega) ?_
  (try simp (maxSteps := 1000000) (disch := first | assumption | (apply Ne.symm; assumption)) only [vz, vu, vv, eqS, eqFieldsV, ↓condV_t, ↓condV_f, tabs, reduceCtorEq, Array.toList, ↓reduceIte, Nat.reduceAdd, Nat.reduceLeDiff, Nat.reduceLT, Nat.reduceMul, Nat.reduceSub, Int.reduceToNat, Int.reduceSub, Int.reduceAdd, Int.reduceNeg, load_at (st.get 0 rfl)])
  refine RS.mark (st.get 1 rfl) (by omega) (by omega) (by omega) fun G12 hrs hfr => ?_
  replace st := st.upd 1 rfl (tRS (marked 1 o.length) (.agg [xr]) D7) rfl hfr hrs
  clear hfr hrs
  (try simp (maxSteps := 1000000) (disch := first | assumption | (apply Ne.symm; assumption)) only [vz, vu, vv, eqS, eqFieldsV, ↓condV_t, ↓condV_f, tabs, reduceCtorEq, Array.toList, ↓reduceIte, Nat.reduceAdd, Nat.reduceLeDiff, Nat.reduceLT, Nat.reduceMul, Nat.reduceSub, Int.reduceToNat, Int.reduceSub, Int.reduceAdd, Int.reduceNeg, load_at (st.get 0 rfl)])
  refine RS.held (st.get 1 rfl) (by omega) ?_
  (try simp (maxSteps := 1000000) (disch := first | assumption | (apply Ne.symm; assumption)) only [vz, vu, vv, eqS, eqFieldsV, ↓condV_t, ↓condV_f, tabs, reduceCtorEq, Array.toList, ↓reduceIte, Nat.reduceAdd, Nat.reduceLeDiff, Nat.reduceLT, Nat.reduceMul, Nat.reduceSub, Int.reduceToNat, Int.reduceSub, Int.reduceAdd, Int.reduceNeg, load_at (st.get 7 rfl), load_at (st.get 6 rfl)])
  refine ⟨fun h => by omega, fun _ => ?_⟩
  refine Pu.use (toProgram_spec p hsm) ?_
  (try simp (maxSteps := 1000000) (disch := first | assumption | (apply Ne.symm; assumption)) only [vz, vu, vv, eqS, eqFieldsV, ↓condV_t, ↓condV_f, tabs, reduceCtorEq, Array.toList, ↓reduceIte, Nat.reduceAdd, Nat.reduceLeDiff, Nat.reduceLT, Nat.reduceMul, Nat.reduceSub, Int.reduceToNat, Int.reduceSub, Int.reduceAdd, Int.reduceNeg, load_at (st.get 7 rfl), load_at (st.get 6 rfl)])
  refine Pu.use (toSight_spec a hal) ?_
  refine Pu.use (toIntS_spec b hbl) ?_
  refine hI fun v G13 E hrs hn13 => ?_
  obtain ⟨xe, rfl, hxe⟩ := hrs.ag
  replace st := st.push (tRS o (.agg [xe]) E) hn13 hrs
  clear hrs hn13
  (try simp (maxSteps := 1000000) (disch := first | assumption | (apply Ne.symm; assumption)) only [vz, vu, vv, eqS, eqFieldsV, ↓condV_t, ↓condV_f, tabs, reduceCtorEq, Array.toList, ↓reduceIte, Nat.reduceAdd, Nat.reduceLeDiff, Nat.reduceLT, Nat.reduceMul, Nat.reduceSub, Int.reduceToNat, Int.reduceSub, Int.reduceAdd, Int.reduceNeg])
  intro u2 hu2
  replace st := st.cell hu2 [xe]
  (try simp (maxSteps := 1000000) (disch := first | assumption | (apply Ne.symm; assumption)) only [vz, vu, vv, eqS, eqFieldsV, ↓condV_t, ↓condV_f, tabs, reduceCtorEq, Array.toList, ↓reduceIte, Nat.reduceAdd, Nat.reduceLeDiff, Nat.reduceLT, Nat.reduceMul, Nat.reduceSub, Int.reduceToNat, Int.reduceSub, Int.reduceAdd, Int.reduceNeg, load_at (st.get 0 rfl), load_at (st.get 7 rfl)])
  generalize G13.set u2 [xe] = G14 at st ⊢
  refine ⟨hxe, ?_⟩
  refine RS.eq (st.get 1 rfl) (by omega) ?_
  (try simp (maxSteps := 1000000) (disch := first | assumption | (apply Ne.symm; assumption)) only [vz, vu, vv, eqS, eqFieldsV, ↓condV_t, ↓condV_f, tabs, reduceCtorEq, Array.toList, ↓reduceIte, Nat.reduceAdd, Nat.reduceLeDiff, Nat.reduceLT, Nat.reduceMul, Nat.reduceSub, Int.reduceToNat, Int.reduceSub, Int.reduceAdd, Int.reduceNeg, load_at (st.get 2 rfl)])
  refine RS.held (st.get 3 rfl) (by omega) ?_
  (try simp (maxSteps := 1000000) (disch := first | assumption | (apply Ne.symm; assumption)) only [vz, vu, vv, eqS, eqFieldsV, ↓condV_t, ↓condV_f, tabs, reduceCtorEq, Array.toList, ↓reduceIte, Nat.reduceAdd, Nat.reduceLeDiff, Nat.reduceLT, Nat.reduceMul, Nat.reduceSub, Int.reduceToNat, Int.reduceSub, Int.reduceAdd, Int.reduceNeg])
  exact ⟨fun h => by omega, fun _ => st.le⟩
end Go.Proofs.Ytdnfiacjoghfkaa
/- The row of the law that CutOut answers as the reference does: whatever the arguments, it answers true, and what it is told reads as it did. -/
namespace Go.Proofs.Ytdnfiacjoghfkaa.cutOut
open Go Go.Sep Go.ChangeShapes Go.WideShapes Go.ChangeAt Go.RowKit
set_option linter.unusedVariables false

theorem own : ownKnob Try.prog.godebug = none := by kernel_rfl

theorem told (avs : List AV) (h : ArgsT Try.prog [25, 28, 26] avs) : CallT Try.prog 5 avs (fun _ => none) (fun v _ => v = .p (.bool true)) := by
  obtain ⟨a, b, rfl, h1, h⟩ := args_cons h
  obtain ⟨b, c, rfl, h2, h⟩ := args_cons h
  obtain ⟨c, d, rfl, h3, h⟩ := args_cons h
  cases args_nil h
  obtain ⟨x1, hx1, hn1, rfl⟩ := arg_program h1
  obtain ⟨x2, hx2, rfl⟩ := arg_sight h2
  obtain ⟨x3, hx3, rfl⟩ := arg_ints h3
  exact (FnExactCutOut_true hx1 hn1 hx2 hx3).use rfl

set_option maxRecDepth 100000 in
theorem lifted (os : Os) (started : os.Started) (H : Type) (enc : TypeId × Value → H) :
    ReturnsInHanded {} Try.checked os 5 .any (Rows.fnExactCutOutSpec.pre6 enc Try.prog Try.f5 Rows.fnExactCutOutRow.domain false) (Rows.fnExactCutOutSpec.post enc Try.prog Try.f5 false true false false) := by
  refine returnsInHanded_of_change (C := Try.checked) own started (by kernel_rfl) Try.func5
    (ChangeSpec.witness6 (enc := enc) (C := Try.checked) false ⟨#[], #[.agg #[.int .i64 0, .int .i64 0, .slice none 0 0, .slice none 0 0], .agg #[.slice none 0 0], .slice none 0 0], []⟩ 12 (by kernel_rfl) (by kernel_rfl) (by kernel_rfl) (by kernel_rfl)) ?_
  intro W base args ds gs before hval hW _ _
  refine row_of_true (n := 12) (tb := 4) (by kernel_rfl) rfl (by kernel_rfl) (by kernel_rfl) ?_ ?_ ?_ hval hW
  · have : (Try.f5.params.toList.all fun t => Try.prog.readableRec t && decide (t < Try.prog.types.size) && plainB Try.prog 12 t) = true := by kernel_rfl
    intro t ht
    have := List.all_eq_true.1 this t ht
    rw [Bool.and_eq_true, Bool.and_eq_true, decide_eq_true_eq] at this
    exact ⟨this.1.1, this.1.2, this.2⟩
  · intro ds hd
    rw [Try.params5] at hd
    match ds, hd with
    | [a, b, c], _ => rfl
  · rw [Try.params5]
    exact told

theorem over : Rows.fnExactCutOutRow.holds Try.pinned (OpenSpec.ofChange Rows.fnExactCutOutSpec) :=
  OpenClaim.holds_of_wide 5 Try.f5 rfl rfl rfl rfl rfl rfl rfl ⟨rfl, rfl, rfl, rfl, rfl⟩ rfl rfl rfl rfl rfl (by kernel_rfl) Try.func5 (by kernel_rfl)
    (of_decide_eq_true (by kernel_rfl)) (by unfold Func.isWrapper; first | (rw [if_pos (by decide +kernel)]; kernel_rfl) | (rw [if_neg (by decide +kernel)]; exact ⟨rfl, rfl⟩))
    (fun os started H enc _ => lifted os started H enc)

/-- The statement. -/
theorem proved : Rows.FnExactCutOutSaid :=
  over
#print axioms proved
end Go.Proofs.Ytdnfiacjoghfkaa.cutOut
