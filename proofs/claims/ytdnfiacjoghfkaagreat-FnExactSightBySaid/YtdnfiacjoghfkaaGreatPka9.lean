/- The row of the law that SightBy answers as the reference does: whatever the arguments, it answers true, and what it is told reads as it did. -/
import Derived.Test.YtdnfiacjoghfkaaGreatPka8
import Derived.Test.YtdnfiacjoghfkaaGreatRows
import Derived.WalkKit
import Derived.ProofKit
import Derived.OpenShut
/- Rows of conditions that own their rows: copies, marks. -/
namespace Go.Proofs.YtdnfiacjoghfkaaGreat
open Go Go.Sep Go.Pt
set_option linter.unusedSimpArgs false
set_option linter.unusedVariables false
attribute [local irreducible] CallT

def LNc : Lay (List Nd) := fun l cs G D => ∃ x, cs = [x] ∧ LN l x G D
abbrev LNN : List (List Nd) → AV → Heap → List Nat → Prop := LRow LNc 1
theorem LNc.local : Lay.Local LNc := by
  rintro c cs G G' D ⟨x, e, h⟩ hf
  exact ⟨x, e, LRow.local (LPl.local eN) h hf⟩
theorem LNc.size : Lay.Size LNc 1 := by
  rintro c cs G D ⟨x, rfl, h⟩; rfl
theorem LNc.has : Lay.Has LNc := by
  rintro c cs G D ⟨x, e, h⟩
  exact LRow.has (LPl.has eN) h
theorem LNc.frz : Lay.Frz LNc eNN := by
  rintro c cs G D v s pre post ⟨x, rfl, h⟩ hD hs hG
  obtain ⟨G', w, k, f⟩ := LRow.frzIn (e := eN) (sz := 2) (pre := pre) (post := post) (v := v) (by omega) (fun _ => rfl) (LPl.local eN) (LPl.frz eN) h hD hs (by rw [hG])
  exact ⟨G', w, by rw [k]; rfl, f⟩
theorem toNodeSS_live (xs : List (List Nd)) (hs : smNss xs) {H : Heap} {K : AV → Heap → Prop} (h : ∀ x G D, LNN xs x G D → New H G D → K x G) : CallT Tryz.prog 9 [Nss xs] H K := by
  have hl := hs.1
  refine W9_ok ?_; simp (maxSteps := 1000000) (disch := first | assumption | (apply Ne.symm; assumption)) only [W9, vz, vu, vv, eqS, eqFieldsV, ↓condV_t, ↓condV_f, tabs, reduceCtorEq, Array.toList, ↓reduceIte, Nat.reduceAdd, Nat.reduceLeDiff, Nat.reduceLT, Nat.reduceMul, Nat.reduceSub, Int.reduceToNat, Int.reduceSub, Int.reduceAdd, Int.reduceNeg, makeSliceV]
  refine ⟨by omega, by omega, by omega, by omega, fun q hq => ?_⟩
  refine L9_0_rule ((0 : Nat), H.set q (zerosA xs.length [.p .nil]), ([] : List Nat)) (fun s => I s.1) (fun s => s.2.1)
    (fun s => s.1 ≤ xs.length ∧ New H s.2.1 (q :: s.2.2) ∧ ∃ done, s.2.1 q = some (done ++ zerosA (xs.length - s.1) [.p .nil]) ∧ LL LNc (xs.take s.1) done s.2.1 s.2.2) (fun s => xs.length - s.1)
    ⟨⟨by simp, ⟨by simp, by simpa using hq, Heap.le_set hq⟩, [], by simp [Heap.set_same], ⟨rfl, rfl⟩⟩, .refl _, Heap.le_refl _⟩ ?_
  rintro ⟨i, G, D⟩ ⟨hi, hn, done, hG, hll⟩
  dsimp only at hi hn hG hll
  (try simp (maxSteps := 1000000) (disch := first | assumption | (apply Ne.symm; assumption)) only [vz, vu, vv, eqS, eqFieldsV, ↓condV_t, ↓condV_f, tabs, reduceCtorEq, Array.toList, ↓reduceIte, Nat.reduceAdd, Nat.reduceLeDiff, Nat.reduceLT, Nat.reduceMul, Nat.reduceSub, Int.reduceToNat, Int.reduceSub, Int.reduceAdd, Int.reduceNeg, B9_0])
  refine ⟨fun h => ⟨by omega, h, ?_⟩, fun h5 => ?_⟩
  · have hlt : i < xs.length := by omega
    have hm : xs.getD i default ∈ xs := getD_all (p := fun x => x ∈ xs) (fun _ h => h) hlt
    have hdl : done.length = i * 1 := by rw [LL.size LNc.size hll, List.length_take, Nat.min_eq_left hi]
    refine toNodeS_live (xs.getD i default) (hs.2 _ hm) fun x G1 D1 hc hn1 => ?_
    have hG1 := hn1.le q _ hG
    have hqD1 : q ∉ D1 := ne_of_new hn1 hG
    obtain ⟨qx, rfl⟩ := LRow.sl hc
    have hz : zerosA (xs.length - i) [.p .nil] = [.p .nil] ++ zerosA (xs.length - (i + 1)) [.p .nil] := by
      obtain ⟨m, hm⟩ : ∃ m, xs.length - i = m + 1 := ⟨xs.length - i - 1, by omega⟩
      rw [hm, zerosA_succ, show xs.length - (i + 1) = m by omega]
    have hput := splice_at (pre := done) (c := [.p .nil]) (c' := [.sl qx 2 0 (xs.getD i default).length]) (post := zerosA (xs.length - (i + 1)) [.p .nil]) (off := i * 1) (n := 1) hdl.symm rfl rfl
    rw [hz] at hG1
    have hzl : (zerosA (xs.length - (i + 1)) [AV.p .nil]).length = (xs.length - (i + 1)) * 1 := zerosA_len _ _
    (try simp (maxSteps := 1000000) (disch := first | assumption | (apply Ne.symm; assumption)) only [vz, vu, vv, eqS, eqFieldsV, ↓condV_t, ↓condV_f, tabs, reduceCtorEq, Array.toList, ↓reduceIte, Nat.reduceAdd, Nat.reduceLeDiff, Nat.reduceLT, Nat.reduceMul, Nat.reduceSub, Int.reduceToNat, Int.reduceSub, Int.reduceAdd, Int.reduceNeg, store_at hG1])
    generalize hxx : (AV.sl qx 2 0 (xs.getD i default).length) = x at hc hput ⊢
    refine ⟨by omega, h, by simp only [List.length_append, hdl, hzl, List.length_cons, List.length_nil]; omega, (i + 1, G1.set q (done ++ ([x] ++ zerosA (xs.length - (i + 1)) [.p .nil])), D ++ D1), ⟨by simp only; omega, ?_, done ++ [x], ?_, ?_⟩, by simp only; omega, ?_, ?_⟩
    · have ht := hn.trans hn1 (fun y hy => by
        rcases List.mem_cons.1 hy with rfl | hy
        · rw [hG]; simp
        · exact LL.has LNc.has hll y hy)
      exact ht.put hq _
    · show (G1.set q _) q = _
      rw [Heap.set_same, List.append_assoc]
    · show LL LNc (xs.take (i + 1)) (done ++ [x]) (G1.set q (done ++ ([x] ++ zerosA (xs.length - (i + 1)) [.p .nil]))) (D ++ D1)
      rw [take_succ_snoc hlt]
      refine LL.snoc (LNc.local _ _ _ _ _ ⟨x, rfl, hc⟩ fun y hy b hb => by rw [Heap.set_other (ne_mem hy hqD1)]; exact hb) (LL.local LNc.local hll fun y hy b hb => ?_)
      rw [Heap.set_other (fun e => ?_)]
      · exact hn1.le y b hb
      · have := hn.nd; rw [List.nodup_cons] at this; exact this.1 (e ▸ hy)
    · rw [wk_int, i64_id (by omega) (by omega)]; simp
    · have e : List.take (i * 1) (done ++ ([.p .nil] ++ zerosA (xs.length - (i + 1)) [.p .nil])) ++ [x] ++ List.drop (i * 1 + 1) (done ++ ([.p .nil] ++ zerosA (xs.length - (i + 1)) [.p .nil])) = done ++ ([x] ++ zerosA (xs.length - (i + 1)) [.p .nil]) := hput
      simp only
      rw [← e]
      first | exact Heap.le_refl _ | simp only [List.cons_append, List.nil_append, le_refl_true]
  · have : i = xs.length := by omega
    subst this
    rw [List.take_length] at hll
    refine h _ _ (q :: D) ⟨q, done, D, rfl, ?_, hll, rfl⟩ hn
    rw [hG]; simp [zerosA]

theorem nd3q {q : Nat} {A C E : List Nat} (h : (q :: (A ++ (C ++ E))).Nodup) : (q ∉ A ∧ q ∉ C ∧ q ∉ E) ∧ (∀ y ∈ A, y ∉ C) ∧ (∀ y ∈ E, y ∉ C) ∧ A.Nodup ∧ C.Nodup ∧ E.Nodup := by
  rw [List.nodup_cons, List.nodup_append, List.nodup_append] at h
  simp only [List.mem_append, not_or] at h
  refine ⟨h.1, fun y hy hc => h.2.2.2 y hy y (.inl hc) rfl, fun y hy hc => h.2.2.1.2.2 y hc y hy rfl, h.2.1, h.2.2.1.1, h.2.2.1.2.1⟩
theorem markNodeSS_live (xs : List (List Nd)) (hl : totNss xs ≤ 1048576) {x : AV} {G : Heap} {D : List Nat} (hx : LNN xs x G D) (hD : D.Nodup) {k : Int} (h0 : 0 ≤ k) (hk : k ≤ 800000000) {K : AV → Heap → Prop}
    (h : ∀ k' G', (∀ y, y ∉ D → G' y = G y) → k ≤ k' → k' ≤ k + 2 * totNss xs → K (I k') G') : CallT Tryz.prog 15 [x, I k] G K := by
  obtain ⟨q, cs, D', rfl, hq, hll, rfl⟩ := hx
  have hlen : xs.length ≤ 1048576 := by unfold totNss at hl; omega
  have htd : totNss xs = xs.length + psum totNL xs xs.length := rfl
  refine W15_ok ?_; simp (maxSteps := 1000000) (disch := first | assumption | (apply Ne.symm; assumption)) only [W15, vz, vu, vv, eqS, eqFieldsV, ↓condV_t, ↓condV_f, tabs, reduceCtorEq, Array.toList, ↓reduceIte, Nat.reduceAdd, Nat.reduceLeDiff, Nat.reduceLT, Nat.reduceMul, Nat.reduceSub, Int.reduceToNat, Int.reduceSub, Int.reduceAdd, Int.reduceNeg]
  refine L15_0_rule ((0 : Nat), G, ([] : List (List Nd)), k) (fun s => I s.2.2.2) (fun s => I s.1) (fun s => s.2.1) (fun s => s.1 ≤ xs.length ∧ Half LNc G q D' xs s.1 s.2.1 s.2.2.1 ∧ k ≤ s.2.2.2 ∧ s.2.2.2 ≤ k + 2 * (psum totNL xs s.1 : Nat)) (fun s => xs.length - s.1)
    ⟨⟨by simp, ⟨⟨[], cs, [], D', by simpa using hq, ⟨rfl, rfl⟩, by simpa using hll, rfl⟩, rfl, fun _ _ => rfl⟩, by simp, by simp [psum]⟩, .refl _, .refl _, Heap.le_refl _⟩ ?_
  rintro ⟨i, G1, done, k1⟩ ⟨hi, ⟨⟨cd, cr, Dd, Dr, e1, e2, e3, e4⟩, e5, e6⟩, hk1, hk2⟩
  dsimp only at hi e1 e2 e3 e4 e5 e6 hk1 hk2
  have hps := psum_le (f := totNL) (xs := xs) i
  (try simp (maxSteps := 1000000) (disch := first | assumption | (apply Ne.symm; assumption)) only [vz, vu, vv, eqS, eqFieldsV, ↓condV_t, ↓condV_f, tabs, reduceCtorEq, Array.toList, ↓reduceIte, Nat.reduceAdd, Nat.reduceLeDiff, Nat.reduceLT, Nat.reduceMul, Nat.reduceSub, Int.reduceToNat, Int.reduceSub, Int.reduceAdd, Int.reduceNeg, B15_0])
  refine ⟨fun h5 => ?_, fun h5 => ?_⟩
  · have hlt : i < xs.length := by omega
    have hsucc := psum_succ (f := totNL) hlt
    have hps2 := psum_le (f := totNL) (xs := xs) (i + 1)
    rw [drop_cons hlt] at e3
    obtain ⟨c, c2, Di, D2, rfl, rfl, ⟨x, rfl, hx⟩, f2⟩ := e3
    have hdl : cd.length = i * 1 := by rw [LL.size LNc.size e2, e5]
    subst e4
    obtain ⟨⟨q1, q2, q3⟩, dA, dE, nA, nC, nE⟩ := nd3q hD
    have htl : totNL (xs.getD i default) = (xs.getD i default).length := rfl
    generalize xs.getD i default = a at e1 hx hsucc htl
    have e1' : G1 q = some (cd ++ (x :: c2)) := e1
    have rd : (List.take 1 (List.drop (i * 1) (cd ++ (x :: c2)))).headD AV.any = x := by
      rw [List.drop_append, hdl, List.drop_of_length_le (by omega)]; simp
    (try simp (maxSteps := 1000000) (disch := first | assumption | (apply Ne.symm; assumption)) only [vz, vu, vv, eqS, eqFieldsV, ↓condV_t, ↓condV_f, tabs, reduceCtorEq, Array.toList, ↓reduceIte, Nat.reduceAdd, Nat.reduceLeDiff, Nat.reduceLT, Nat.reduceMul, Nat.reduceSub, Int.reduceToNat, Int.reduceSub, Int.reduceAdd, Int.reduceNeg, load_at e1', rd])
    refine ⟨by omega, h5, by omega, ?_⟩
    refine markNodeS_live a (by omega) hx nC (by omega) (by omega) fun k2 a' G2 hx3 hlen2 hfr hk3 hk4 => ?_
    (try simp (maxSteps := 1000000) (disch := first | assumption | (apply Ne.symm; assumption)) only [vz, vu, vv, eqS, eqFieldsV, ↓condV_t, ↓condV_f, tabs, reduceCtorEq, Array.toList, ↓reduceIte, Nat.reduceAdd, Nat.reduceLeDiff, Nat.reduceLT, Nat.reduceMul, Nat.reduceSub, Int.reduceToNat, Int.reduceSub, Int.reduceAdd, Int.reduceNeg])
    refine ⟨(i + 1, G2, done ++ [a'], k2), ⟨by simp only; omega, ⟨⟨cd ++ [x], c2, Dd ++ Di, D2, ?_, ?_, ?_, by simp⟩, by simp only [List.length_append, List.length_cons, List.length_nil, e5], fun y hy => ?_⟩, by simp only; omega, by simp only; omega⟩, by simp only; omega, .refl _, ?_, Heap.le_refl _⟩
    · show G2 q = _
      rw [hfr q q2, e1]; simp
    · show LL LNc (done ++ [a']) _ _ _
      exact LL.snoc (L := LNc) (a := a') ⟨x, rfl, hx3⟩ (LL.local LNc.local e2 fun y hy b hb => by show G2 y = some b; rw [hfr y (dA y hy)]; exact hb)
    · exact LL.local LNc.local f2 fun y hy b hb => by show G2 y = some b; rw [hfr y (dE y hy)]; exact hb
    · have hy' := hy
      simp only [List.mem_cons, List.mem_append, not_or] at hy'
      show G2 y = _
      rw [hfr y (by first | exact hy'.2.2.1 | exact hy'.2.1.2)]; exact e6 y hy
    · rw [wk_int, i64_id (by omega) (by omega)]; simp
  · have : i = xs.length := by omega
    subst this
    exact h k1 G1 e6 hk1 (by omega)

def tNN (xs : List (List Nd)) (v : AV) (D : List Nat) : Th := ⟨D, fun G => LNN xs v G D, fun h f => LRow.local LNc.local h f, fun h => LRow.has LNc.has h⟩
end Go.Proofs.YtdnfiacjoghfkaaGreat
/- Abstractions of one's own as answers: called with what is live, compared, marked, held; the laws on MeetOf and IsFiner. -/
namespace Go.Sep
open Go Go.RowKit Go.Proofs.YtdnfiacjoghfkaaGreat
set_option linter.unusedVariables false

/-- Answers that may be moved on: what they are, in a heap, with the blocks they own. -/
structure ResU (R : AV → Heap → List Nat → Prop) : Prop where
  loc : ∀ {r G G' D}, R r G D → (∀ y ∈ D, ∀ b, G y = some b → G' y = some b) → R r G' D
  gd : ∀ {r G D}, R r G D → Gd2 r ∧ ∀ y ∈ D, ∀ bs, G y = some bs → ∀ c ∈ bs, GdC c
  sh : ∀ {r G D n G0}, (∀ q, n ≤ q → G0 q = none) → R r G D → R (sh2 n r) (Heap.or G0 (shH n G)) (D.map (· + n))
/-- A function whose answer is of its own, called with what is live. -/
theorem thawU {R : AV → Heap → List Nat → Prop} (hR : ResU R) {P : Program} {f : Nat} {args args' : List AV} {G G1 : Heap} {K : AV → Heap → Prop}
    (hf : ∀ {K : AV → Heap → Prop}, (∀ r G D, R r G D → New (fun _ => none) G D → K r G) → CallT P f args' (fun _ => none) K)
    (hw : Wk (.tup args) G (.tup args') G1) (h : ∀ r G' D, R r G' D → New G G' D → K r G') : CallT P f args G K := by
  refine CallT.thawX (Q' := fun r H' => ∃ D, R r H' D ∧ D.Nodup ∧ ∀ y, y ∉ D → H' y = none) ?_ ?_ hw ?_
  · refine CallT.fin (hf fun r G D hl hn => ⟨_, only D G, .forget (only_le D G), D, hR.loc hl fun y hy b hb => by rw [only_in hy]; exact hb, hn.nd, fun y hy => only_out hy⟩)
  · rintro r H' ⟨D, hl, _, hout⟩
    refine ⟨(hR.gd hl).1, fun q cs hq => ?_⟩
    by_cases hD : q ∈ D
    · exact (hR.gd hl).2 q hD cs hq
    · rw [hout q hD] at hq; cases hq
  · rintro r H' n ⟨D, hl, hnd, hout⟩ hn
    refine h _ _ (D.map (· + n)) (hR.sh hn hl) ⟨?_, fun y hy => ?_, fun y b hb => by simp only [Heap.or, hb]⟩
    · exact List.pairwise_map.2 (hnd.imp fun h e => h (Nat.add_right_cancel e))
    · obtain ⟨z, _, rfl⟩ := List.mem_map.1 hy
      exact hn _ (by omega)
end Go.Sep
namespace Go.Proofs.YtdnfiacjoghfkaaGreat
open Go Go.Sep Go.Pt
set_option linter.unusedSimpArgs false
set_option linter.unusedVariables false
attribute [local irreducible] CallT

theorem RS.local {of : List Int} {v : AV} {G G' : Heap} {D : List Nat} (h : RS of v G D) (hf : ∀ y ∈ D, ∀ b, G y = some b → G' y = some b) : RS of v G' D := by
  rcases h with h | ⟨q, rfl, hq, rfl⟩
  · exact .inl h
  · exact .inr ⟨q, rfl, hf q (by simp) _ hq, rfl⟩
theorem RS.has {of : List Int} {v : AV} {G : Heap} {D : List Nat} (h : RS of v G D) : ∀ y ∈ D, G y ≠ none := by
  rcases h with ⟨_, _, rfl⟩ | ⟨q, rfl, hq, rfl⟩
  · intro y hy; cases hy
  · intro y hy; rw [List.mem_singleton.1 hy, hq]; simp
def tRS (of : List Int) (v : AV) (D : List Nat) : Th := ⟨D, fun G => RS of v G D, fun h f => h.local f, fun h => h.has⟩
def tP (p : Pg) (v : AV) (D : List Nat) : Th := ⟨D, fun G => LPg p v G D, fun h f => LPg.local h f, fun h => LPg.has h⟩
theorem LSt.rs {of : List Int} {v : AV} {G : Heap} {D : List Nat} (h : LSt of v G D) : ∃ q, v = .agg [rowP q of] ∧ G q = some (cP fI of) ∧ D = [q] := by
  obtain ⟨x, rfl, hx⟩ := h
  obtain ⟨q, rfl, hq, rfl⟩ := LI_row hx
  exact ⟨q, rfl, by rw [hq, ← cells_P], rfl⟩
/-- Answers (Sight, bool). -/
def RSt (of : List Int) (ok : Bool) (r : AV) (G : Heap) (D : List Nat) : Prop := ∃ v, r = .tup [v, B ok] ∧ RS of v G D
theorem RSt.res (of : List Int) (ok : Bool) : ResU (RSt of ok) := by
  refine ⟨?_, ?_, ?_⟩
  · rintro r G G' D ⟨v, rfl, h⟩ hf
    exact ⟨v, rfl, h.local hf⟩
  · rintro r G D ⟨v, rfl, h⟩
    have gb : Gd1 (B ok) := .inr ⟨.p (.bool ok), fun _ => rfl⟩
    have gv : Gd1 v ∧ ∀ y ∈ D, ∀ bs, G y = some bs → ∀ c ∈ bs, GdC c := by
      rcases h with ⟨_, rfl, rfl⟩ | ⟨q, rfl, hq, rfl⟩
      · exact ⟨.inl ⟨_, rfl, fun c hc => by rw [List.mem_singleton] at hc; subst hc; exact .p .nil⟩, fun y hy => by cases hy⟩
      · refine ⟨.inl ⟨_, rfl, fun c hc => by rw [List.mem_singleton] at hc; subst hc; exact .inl ⟨_, _, _, _, rfl⟩⟩, fun y hy bs hb c hc => ?_⟩
        rw [List.mem_singleton.1 hy, hq] at hb; cases hb
        obtain ⟨x, _, rfl⟩ := List.mem_map.1 hc
        exact .p (.int _ _)
    refine ⟨.inl ⟨_, rfl, fun u hu => ?_⟩, gv.2⟩
    rcases List.mem_cons.1 hu with rfl | hu
    · exact gv.1
    · rw [List.mem_singleton] at hu; rw [hu]; exact gb
  · rintro r G D n G0 h0 ⟨v, rfl, h⟩
    rcases h with ⟨rfl, rfl, rfl⟩ | ⟨q, rfl, hq, rfl⟩
    · exact ⟨_, rfl, .inl ⟨rfl, rfl, rfl⟩⟩
    · refine ⟨_, rfl, .inr ⟨q + n, rfl, ?_, rfl⟩⟩
      have e : (cP fI of).map (shC n) = cP fI of := by
        simp only [cP, List.map_map]; rfl
      simp only [Heap.or, h0 (q + n) (by omega), shH, Nat.le_add_left, if_true, Nat.add_sub_cancel, hq, Option.map_some, e]
theorem RS.eq {of : List Int} {v : AV} {G : Heap} {D : List Nat} (h : RS of v G D) (hl : of.length ≤ 1048576) {K : AV → Heap → Prop} (k : K (B true) G) : CallT Tryz.prog 11 [v, aS of] G K := by
  rcases h with ⟨rfl, rfl, rfl⟩ | ⟨q, rfl, hq, rfl⟩
  · exact CallT.args (args' := [aS [], aS []]) ((eqSight_spec [] (by simp)).use k) ⟨wk_agg ⟨.nil, trivial⟩, .refl _, trivial⟩
  · exact Pu.thaw (eqSight_spec of hl) (.bool _) (Wk.frz (r := q) (sz := 1) (es := of.map fun n => [fI n]) (v' := .tup [aS of, aS of]) (by omega) (by rw [flat_P]; exact hq) (szP _ _) (.tup (.cons (.agg (.cons frz_row .nil)) (.cons (.same _) .nil)))) k
theorem markI0 {G : Heap} {k : Int} {K : AV → Heap → Prop} (h : K (I k) G) : CallT Tryz.prog 40 [.p .nil, I k] G K := by
  refine CallT.args (args' := [Is [], I k]) ?_ ⟨.nil, .refl _, trivial⟩
  refine W40_ok ?_; simp (maxSteps := 1000000) (disch := first | assumption | (apply Ne.symm; assumption)) only [W40, vz, vu, vv, eqS, eqFieldsV, ↓condV_t, ↓condV_f, tabs, reduceCtorEq, Array.toList, ↓reduceIte, Nat.reduceAdd, Nat.reduceLeDiff, Nat.reduceLT, Nat.reduceMul, Nat.reduceSub, Int.reduceToNat, Int.reduceSub, Int.reduceAdd, Int.reduceNeg]
  refine L40_0_rule () (fun _ => I k) (fun _ => I 0) (fun _ => G) (fun _ => True) (fun _ => 0) ⟨trivial, .refl _, .refl _, Heap.le_refl _⟩ ?_
  rintro ⟨⟩ _
  (try simp (maxSteps := 1000000) (disch := first | assumption | (apply Ne.symm; assumption)) only [vz, vu, vv, eqS, eqFieldsV, ↓condV_t, ↓condV_f, tabs, reduceCtorEq, Array.toList, ↓reduceIte, Nat.reduceAdd, Nat.reduceLeDiff, Nat.reduceLT, Nat.reduceMul, Nat.reduceSub, Int.reduceToNat, Int.reduceSub, Int.reduceAdd, Int.reduceNeg, B40_0])
  first | exact h | simpa using h
theorem RS.mark {of : List Int} {v : AV} {G : Heap} {D : List Nat} (hx : RS of v G D) (hl : of.length ≤ 1048576) {k : Int} (h0 : 0 ≤ k) (hk : k ≤ 900000000) {K : AV → Heap → Prop}
    (h : ∀ G', RS (marked k of.length) v G' D → (∀ y, y ∉ D → G' y = G y) → K (I (k + of.length)) G') : CallT Tryz.prog 16 [v, I k] G K := by
  refine CallT.fin ?_
  rcases hx with ⟨rfl, rfl, rfl⟩ | ⟨q, rfl, hq, rfl⟩
  · refine W16_ok ?_; simp (maxSteps := 1000000) (disch := first | assumption | (apply Ne.symm; assumption)) only [W16, vz, vu, vv, eqS, eqFieldsV, ↓condV_t, ↓condV_f, tabs, reduceCtorEq, Array.toList, ↓reduceIte, Nat.reduceAdd, Nat.reduceLeDiff, Nat.reduceLT, Nat.reduceMul, Nat.reduceSub, Int.reduceToNat, Int.reduceSub, Int.reduceAdd, Int.reduceNeg]
    intro r hr
    refine markI0 ?_
    (try simp (maxSteps := 1000000) (disch := first | assumption | (apply Ne.symm; assumption)) only [vz, vu, vv, eqS, eqFieldsV, ↓condV_t, ↓condV_f, tabs, reduceCtorEq, Array.toList, ↓reduceIte, Nat.reduceAdd, Nat.reduceLeDiff, Nat.reduceLT, Nat.reduceMul, Nat.reduceSub, Int.reduceToNat, Int.reduceSub, Int.reduceAdd, Int.reduceNeg])
    have := h G (.inl ⟨rfl, rfl, rfl⟩) (fun _ _ => rfl)
    rw [List.length_nil, Int.ofNat_zero, Int.add_zero] at this
    exact fin_le (Heap.le_set hr) this
  · refine W16_ok ?_; simp (maxSteps := 1000000) (disch := first | assumption | (apply Ne.symm; assumption)) only [W16, vz, vu, vv, eqS, eqFieldsV, ↓condV_t, ↓condV_f, tabs, reduceCtorEq, Array.toList, ↓reduceIte, Nat.reduceAdd, Nat.reduceLeDiff, Nat.reduceLT, Nat.reduceMul, Nat.reduceSub, Int.reduceToNat, Int.reduceSub, Int.reduceAdd, Int.reduceNeg]
    intro r hr
    have hne : q ≠ r := fun e => by rw [e, hr] at hq; cases hq
    refine markIntS_live of hl h0 (by omega) (by rw [Heap.set_other hne, hq, ← cells_P]) ?_
    (try simp (maxSteps := 1000000) (disch := first | assumption | (apply Ne.symm; assumption)) only [vz, vu, vv, eqS, eqFieldsV, ↓condV_t, ↓condV_f, tabs, reduceCtorEq, Array.toList, ↓reduceIte, Nat.reduceAdd, Nat.reduceLeDiff, Nat.reduceLT, Nat.reduceMul, Nat.reduceSub, Int.reduceToNat, Int.reduceSub, Int.reduceAdd, Int.reduceNeg])
    have hml := marked_len k of.length
    refine fin_le (H := G.set q (cells ((marked k of.length).map eI))) ?_ (h _ (.inr ⟨q, by rw [rowP, rowP, hml], by rw [Heap.set_same, ← cells_P], rfl⟩) fun z hz => ?_)
    · generalize cells ((marked k of.length).map eI) = z
      (intro y b hy; simp only [Heap.set, Heap.del] at hy ⊢; (repeat' split at hy) <;> (repeat' split) <;> simp_all [cells])
    · rw [List.mem_singleton] at hz; exact Heap.set_other hz
theorem heldSight_spec (n : Nat) (hl : n ≤ 1048576) : Pu Tryz.prog 17 [aS (marked 1 n), I 1] (I (1 + n)) := by
  refine Pu.of fun H => ?_
  refine W17_ok ?_; simp (maxSteps := 1000000) (disch := first | assumption | (apply Ne.symm; assumption)) only [W17, vz, vu, vv, eqS, eqFieldsV, ↓condV_t, ↓condV_f, tabs, reduceCtorEq, Array.toList, ↓reduceIte, Nat.reduceAdd, Nat.reduceLeDiff, Nat.reduceLT, Nat.reduceMul, Nat.reduceSub, Int.reduceToNat, Int.reduceSub, Int.reduceAdd, Int.reduceNeg]
  intro r hr
  refine Pu.use (heldIntS_spec n hl (by omega) (by omega)) ?_
  (try simp (maxSteps := 1000000) (disch := first | assumption | (apply Ne.symm; assumption)) only [vz, vu, vv, eqS, eqFieldsV, ↓condV_t, ↓condV_f, tabs, reduceCtorEq, Array.toList, ↓reduceIte, Nat.reduceAdd, Nat.reduceLeDiff, Nat.reduceLT, Nat.reduceMul, Nat.reduceSub, Int.reduceToNat, Int.reduceSub, Int.reduceAdd, Int.reduceNeg])
  first | exact ⟨fun h => by omega, fun _ => Heap.le_set hr⟩ | exact Heap.le_set hr
theorem RS.held {n : Nat} {v : AV} {G : Heap} {D : List Nat} (h : RS (marked 1 n) v G D) (hl : n ≤ 1048576) {K : AV → Heap → Prop} (k : K (I (1 + n)) G) : CallT Tryz.prog 17 [v, I 1] G K := by
  rcases h with ⟨h0, rfl, rfl⟩ | ⟨q, rfl, hq, rfl⟩
  · have : n = 0 := by
      have := congrArg List.length h0
      simpa [marked_len] using this
    subst this
    exact CallT.args (args' := [aS [], I 1]) ((heldSight_spec 0 hl).use k) ⟨wk_agg ⟨.nil, trivial⟩, .refl _, trivial⟩
  · exact Pu.thaw (heldSight_spec n hl) (.int _ _) (Wk.frz (r := q) (sz := 1) (es := (marked 1 n).map fun n => [fI n]) (v' := .tup [aS (marked 1 n), I 1]) (by omega) (by rw [flat_P]; exact hq) (szP _ _) (.tup (.cons (.agg (.cons frz_row .nil)) (.cons (.same _) .nil)))) k

theorem LPg.eqP {p : Pg} {v : AV} {G : Heap} {D : List Nat} (g : LPg p v G D) (hD : D.Nodup) (hp : smPg p) {K : AV → Heap → Prop} (h : K (B true) G) : CallT Tryz.prog 12 [v, aPg p] G K := by
  obtain ⟨G1, w1, f1⟩ := g.wk hD (fun v => .tup [v, aPg p]) (fun h => .tup (.cons h (.cons (.same _) .nil)))
  exact Pu.thaw (eqProgram_spec p hp) (.bool _) w1 h
theorem LPg.sl {p : Pg} {v : AV} {G : Heap} {D : List Nat} (h : LPg p v G D) : ∃ q1 q2, v = .agg [I p.wide, I p.vars, .sl q1 2 0 p.start.length, .sl q2 2 0 p.cmds.length] := by
  obtain ⟨x, y, E1, E2, rfl, rfl, hx, hy⟩ := h
  obtain ⟨qx, rfl⟩ := LRow.sl hx
  obtain ⟨qy, rfl⟩ := LRow.sl hy
  exact ⟨qx, qy, rfl⟩

theorem RS.ag {of : List Int} {v : AV} {G : Heap} {D : List Nat} (h : RS of v G D) : ∃ x, v = .agg [x] ∧ x.isCell = true := by
  rcases h with ⟨_, rfl, _⟩ | ⟨q, rfl, _, _⟩
  · exact ⟨_, rfl, rfl⟩
  · exact ⟨_, rfl, rfl⟩
theorem _root_.Go.Sep.St.lose {H G G' : Heap} {Ts : List Th} {t : Th} (s : St H Ts G) (i : Nat) (h : Ts[i]? = some t) (hf : ∀ y, y ∉ t.D → G' y = G y) : St H (Ts.eraseIdx i) G' := by
  have s1 := s.pick i h
  have hnd := s1.nd
  rw [List.flatMap_cons, List.nodup_append] at hnd
  refine ⟨fun y b hb => ?_, hnd.2.1, fun u hu => s1.fr u (List.mem_cons_of_mem _ hu), fun u hu => u.loc (s1.ok u (List.mem_cons_of_mem _ hu)) fun y hy b hb => ?_⟩
  · rw [hf y (s1.wkNone y b hb t (List.mem_cons_self ..))]; exact s1.le y b hb
  · rw [hf y (fun hm => hnd.2.2 y hm y (List.mem_flatMap.2 ⟨u, hu, hy⟩) rfl)]; exact hb
end Go.Proofs.YtdnfiacjoghfkaaGreat
/- The law on SightBy. -/
namespace Go.Proofs.YtdnfiacjoghfkaaGreat
open Go Go.Sep Go.Pt
set_option linter.unusedSimpArgs false
set_option linter.unusedVariables false
attribute [local irreducible] CallT

theorem LNN.wk {xs : List (List Nd)} {x : AV} {G : Heap} {D : List Nat} (h : LNN xs x G D) (hD : D.Nodup) (C : AV → AV) (hC : ∀ {r sz es a a'}, FrzR r sz es a a' → FrzR r sz es (C a) (C a')) : ∃ G', Wk (C x) G (C (Nss xs)) G' ∧ ∀ y, y ∉ D → G' y = G y :=
  LRow.frzV (e := eNN) (sz := 1) (v := C x) (v' := C (Nss xs)) (by omega) (fun _ => rfl) LNc.local LNc.frz h hD (fun r _ hr => hC hr)
theorem LNN.eq {xs : List (List Nd)} {x : AV} {G : Heap} {D : List Nat} (h : LNN xs x G D) (hD : D.Nodup) (hs : smNss xs) {K : AV → Heap → Prop} (k : K (B true) G) : CallT Tryz.prog 13 [x, Nss xs] G K := by
  obtain ⟨G1, w1, _⟩ := LNN.wk h hD (fun v => .tup [v, Nss xs]) (fun h => .tup (.cons h (.cons (.same _) .nil)))
  exact Pu.thaw (eqNodeSS_spec xs hs) (.bool _) w1 k
theorem wkPN {p : Pg} {ts : List (List Nd)} {v x : AV} {D E : List Nat} {G : Heap} (h1 : LPg p v G D) (hD : D.Nodup) (h2 : LNN ts x G E) (hE : E.Nodup) (dj : ∀ y ∈ E, y ∉ D) : ∃ G', Wk (.tup [v, x]) G (.tup [aPg p, Nss ts]) G' := by
  obtain ⟨G1, w1, f1⟩ := h1.wk hD (fun v => .tup [v, x]) (fun h => .tup (.cons h (.cons (.same _) .nil)))
  have h2' := LRow.local LNc.local h2 (G' := G1) fun u hu b hb => by rw [f1 u (dj u hu)]; exact hb
  obtain ⟨G2, w2, f2⟩ := LNN.wk h2' hE (fun v => .tup [aPg p, v]) (fun h => .tup (.cons (.same _) (.cons h .nil)))
  exact ⟨_, .trans w1 w2⟩
theorem sbR_len (p : Pg) (ts : List (List Nd)) : (sbR p ts).length ≤ 32 := by
  unfold sbR
  split
  · rename_i h
    simp only [sbOk, Bool.and_eq_true] at h
    rw [byK_len]; exact (allP_bd (smallP_of h.1)).2
  · simp
theorem SightBy_rs (p : Pg) (hp : vPg p) (ts : List (List Nd)) (hl : ts.length ≤ 1048576) (hv : ∀ t ∈ ts, vT t) {H : Heap} {K : AV → Heap → Prop}
    (h : ∀ v G D, RS (sbR p ts) v G D → New H G D → K (.tup [v, B (sbOk p ts)]) G) : CallT Tryz.prog 10 [aPg p, Nss ts] H K := by
  refine SightBy_impl p hp ts hl hv (fun hk => ?_) (fun hk q hq => ?_)
  · have := h (.agg [.p .nil]) H [] (.inl ⟨by simp [sbR, hk], rfl, rfl⟩) ⟨by simp, by simp, Heap.le_refl _⟩
    rwa [hk] at this
  · have := h (.agg [rowP q (byK p ts ts.length)]) (H.set q (cP fI (byK p ts ts.length))) [q] (.inr ⟨q, by simp [sbR, hk], by simp [sbR, hk, Heap.set_same], rfl⟩) ⟨by simp, by simpa using hq, Heap.le_set hq⟩
    rwa [hk] at this
set_option maxRecDepth 20000 in
set_option maxHeartbeats 1000000 in
theorem FnExactSightBy_true {p : Pg} {ts : List (List Nd)} (hok : okPg p) (hn : nPg p) (hb : okNss ts) (hnt : nTs ts) : Pu Tryz.prog 3 [aPg p, Nss ts] (B true) := by
  refine Pu.of fun H => ?_
  refine W3_ok ?_; simp (maxSteps := 1000000) (disch := first | assumption | (apply Ne.symm; assumption)) only [W3, vz, vu, vv, eqS, eqFieldsV, ↓condV_t, ↓condV_f, tabs, reduceCtorEq, Array.toList, ↓reduceIte, Nat.reduceAdd, Nat.reduceLeDiff, Nat.reduceLT, Nat.reduceMul, Nat.reduceSub, Int.reduceToNat, Int.reduceSub, Int.reduceAdd, Int.reduceNeg]
  intro r hr
  have st := (St.nil H).cell hr (gPg p)
  generalize H.set r [I p.wide, I p.vars, Ns p.start, Cms p.cmds] = G0 at st ⊢
  (try simp (maxSteps := 1000000) (disch := first | assumption | (apply Ne.symm; assumption)) only [vz, vu, vv, eqS, eqFieldsV, ↓condV_t, ↓condV_f, tabs, reduceCtorEq, Array.toList, ↓reduceIte, Nat.reduceAdd, Nat.reduceLeDiff, Nat.reduceLT, Nat.reduceMul, Nat.reduceSub, Int.reduceToNat, Int.reduceSub, Int.reduceAdd, Int.reduceNeg, load_at (st.get 0 rfl)])
  refine Pu.use (szProgram_spec p 1048576 (by omega) (by omega) hok) ?_
  (try simp (maxSteps := 1000000) (disch := first | assumption | (apply Ne.symm; assumption)) only [vz, vu, vv, eqS, eqFieldsV, ↓condV_t, ↓condV_f, tabs, reduceCtorEq, Array.toList, ↓reduceIte, Nat.reduceAdd, Nat.reduceLeDiff, Nat.reduceLT, Nat.reduceMul, Nat.reduceSub, Int.reduceToNat, Int.reduceSub, Int.reduceAdd, Int.reduceNeg, load_at (st.get 0 rfl)])
  refine ⟨fun _ => st.le, fun h1 => ?_⟩
  obtain ⟨t1, e1⟩ := szR_nonneg h1
  rw [e1]
  have hsm := sm_of_tot (by omega : (totPg p : Int) ≤ 1048576)
  have hv := v_of hsm hn
  refine Pu.use (szNodeSS_spec ts _ (by omega) (by omega) hb) ?_
  (try simp (maxSteps := 1000000) (disch := first | assumption | (apply Ne.symm; assumption)) only [vz, vu, vv, eqS, eqFieldsV, ↓condV_t, ↓condV_f, tabs, reduceCtorEq, Array.toList, ↓reduceIte, Nat.reduceAdd, Nat.reduceLeDiff, Nat.reduceLT, Nat.reduceMul, Nat.reduceSub, Int.reduceToNat, Int.reduceSub, Int.reduceAdd, Int.reduceNeg, load_at (st.get 0 rfl)])
  refine ⟨fun _ => st.le, fun h2 => ?_⟩
  obtain ⟨t2, e2⟩ := szR_nonneg h2
  have hst := smNss_of_tot (by omega : (totNss ts : Int) ≤ 1048576)
  have hvt := vT_of hst hnt
  refine Pu.use (toProgram_spec p hsm) ?_
  refine Pu.use (toNodeSS_spec ts hst) ?_
  refine Pu.use (SightBy_ref p hv ts hst.1 hvt) ?_
  have hres := sbR_len p ts
  have hI : ∀ {H : Heap} {K : AV → Heap → Prop}, (∀ v G D, RS (sbR p ts) v G D → New H G D → K (.tup [v, B (sbOk p ts)]) G) → CallT Tryz.prog 10 [aPg p, Nss ts] H K := SightBy_rs p hv ts hst.1 hvt
  generalize sbR p ts = o at hres hI
  generalize sbOk p ts = ok at hI
  (try simp (maxSteps := 1000000) (disch := first | assumption | (apply Ne.symm; assumption)) only [vz, vu, vv, eqS, eqFieldsV, ↓condV_t, ↓condV_f, tabs, reduceCtorEq, Array.toList, ↓reduceIte, Nat.reduceAdd, Nat.reduceLeDiff, Nat.reduceLT, Nat.reduceMul, Nat.reduceSub, Int.reduceToNat, Int.reduceSub, Int.reduceAdd, Int.reduceNeg])
  intro w hw
  replace st := st.cell hw [Is o]
  (try simp (maxSteps := 1000000) (disch := first | assumption | (apply Ne.symm; assumption)) only [vz, vu, vv, eqS, eqFieldsV, ↓condV_t, ↓condV_f, tabs, reduceCtorEq, Array.toList, ↓reduceIte, Nat.reduceAdd, Nat.reduceLeDiff, Nat.reduceLT, Nat.reduceMul, Nat.reduceSub, Int.reduceToNat, Int.reduceSub, Int.reduceAdd, Int.reduceNeg, load_at (st.get 1 rfl)])
  generalize G0.set w [Is o] = G01 at st ⊢
  refine toProgram_live p hsm fun v G1 D1 hP hn1 => ?_
  replace st := st.push (tP p v D1) hn1 hP
  obtain ⟨qx, qy, rfl⟩ := hP.sl
  clear hP hn1
  (try simp (maxSteps := 1000000) (disch := first | assumption | (apply Ne.symm; assumption)) only [vz, vu, vv, eqS, eqFieldsV, ↓condV_t, ↓condV_f, tabs, reduceCtorEq, Array.toList, ↓reduceIte, Nat.reduceAdd, Nat.reduceLeDiff, Nat.reduceLT, Nat.reduceMul, Nat.reduceSub, Int.reduceToNat, Int.reduceSub, Int.reduceAdd, Int.reduceNeg])
  intro z hz
  replace st := st.cell hz [I p.wide, I p.vars, .sl qx 2 0 p.start.length, .sl qy 2 0 p.cmds.length]
  (try simp (maxSteps := 1000000) (disch := first | assumption | (apply Ne.symm; assumption)) only [vz, vu, vv, eqS, eqFieldsV, ↓condV_t, ↓condV_f, tabs, reduceCtorEq, Array.toList, ↓reduceIte, Nat.reduceAdd, Nat.reduceLeDiff, Nat.reduceLT, Nat.reduceMul, Nat.reduceSub, Int.reduceToNat, Int.reduceSub, Int.reduceAdd, Int.reduceNeg])
  generalize G1.set z [I p.wide, I p.vars, .sl qx 2 0 p.start.length, .sl qy 2 0 p.cmds.length] = G2 at st ⊢
  refine toNodeSS_live ts hst fun x G3 D3 hS hn3 => ?_
  replace st := st.push (tNN ts x D3) hn3 hS
  clear hS hn3
  (try simp (maxSteps := 1000000) (disch := first | assumption | (apply Ne.symm; assumption)) only [vz, vu, vv, eqS, eqFieldsV, ↓condV_t, ↓condV_f, tabs, reduceCtorEq, Array.toList, ↓reduceIte, Nat.reduceAdd, Nat.reduceLeDiff, Nat.reduceLT, Nat.reduceMul, Nat.reduceSub, Int.reduceToNat, Int.reduceSub, Int.reduceAdd, Int.reduceNeg, load_at (st.get 1 rfl)])
  obtain ⟨Gw, hw⟩ := wkPN (st.get 2 rfl) (st.ndT 2 rfl) (st.get 0 rfl) (st.ndT 0 rfl) (st.disjI 0 2 rfl rfl (by omega))
  refine thawU (RSt.res o ok) (fun hK => hI fun v G D h1 h2 => hK _ _ _ ⟨v, rfl, h1⟩ h2) hw fun rr G7 D7 hr7 hn7 => ?_
  obtain ⟨vr, rfl, hrs⟩ := hr7
  obtain ⟨xr, rfl, hxr⟩ := hrs.ag
  replace st := st.push (tRS o (.agg [xr]) D7) hn7 hrs
  clear hrs hn7 hw
  (try simp (maxSteps := 1000000) (disch := first | assumption | (apply Ne.symm; assumption)) only [vz, vu, vv, eqS, eqFieldsV, ↓condV_t, ↓condV_f, tabs, reduceCtorEq, Array.toList, ↓reduceIte, Nat.reduceAdd, Nat.reduceLeDiff, Nat.reduceLT, Nat.reduceMul, Nat.reduceSub, Int.reduceToNat, Int.reduceSub, Int.reduceAdd, Int.reduceNeg])
  intro u hu
  replace st := st.cell hu [xr]
  (try simp (maxSteps := 1000000) (disch := first | assumption | (apply Ne.symm; assumption)) only [vz, vu, vv, eqS, eqFieldsV, ↓condV_t, ↓condV_f, tabs, reduceCtorEq, Array.toList, ↓reduceIte, Nat.reduceAdd, Nat.reduceLeDiff, Nat.reduceLT, Nat.reduceMul, Nat.reduceSub, Int.reduceToNat, Int.reduceSub, Int.reduceAdd, Int.reduceNeg, load_at (st.get 5 rfl)])
  generalize G7.set u [xr] = G8 at st ⊢
  refine ⟨hxr, ?_⟩
  refine RS.eq (st.get 1 rfl) (by omega) ?_
  (try simp (maxSteps := 1000000) (disch := first | assumption | (apply Ne.symm; assumption)) only [vz, vu, vv, eqS, eqFieldsV, ↓condV_t, ↓condV_f, tabs, reduceCtorEq, Array.toList, ↓reduceIte, Nat.reduceAdd, Nat.reduceLeDiff, Nat.reduceLT, Nat.reduceMul, Nat.reduceSub, Int.reduceToNat, Int.reduceSub, Int.reduceAdd, Int.reduceNeg, load_at (st.get 3 rfl), load_at (st.get 6 rfl)])
  refine Pu.use (toProgram_spec p hsm) ?_
  (try simp (maxSteps := 1000000) (disch := first | assumption | (apply Ne.symm; assumption)) only [vz, vu, vv, eqS, eqFieldsV, ↓condV_t, ↓condV_f, tabs, reduceCtorEq, Array.toList, ↓reduceIte, Nat.reduceAdd, Nat.reduceLeDiff, Nat.reduceLT, Nat.reduceMul, Nat.reduceSub, Int.reduceToNat, Int.reduceSub, Int.reduceAdd, Int.reduceNeg, load_at (st.get 3 rfl)])
  refine (st.get 4 rfl : LPg _ _ _ _).eqP (st.ndT 4 rfl) hsm ?_
  (try simp (maxSteps := 1000000) (disch := first | assumption | (apply Ne.symm; assumption)) only [vz, vu, vv, eqS, eqFieldsV, ↓condV_t, ↓condV_f, tabs, reduceCtorEq, Array.toList, ↓reduceIte, Nat.reduceAdd, Nat.reduceLeDiff, Nat.reduceLT, Nat.reduceMul, Nat.reduceSub, Int.reduceToNat, Int.reduceSub, Int.reduceAdd, Int.reduceNeg])
  refine Pu.use (toNodeSS_spec ts hst) ?_
  refine LNN.eq (st.get 2 rfl) (st.ndT 2 rfl) hst ?_
  (try simp (maxSteps := 1000000) (disch := first | assumption | (apply Ne.symm; assumption)) only [vz, vu, vv, eqS, eqFieldsV, ↓condV_t, ↓condV_f, tabs, reduceCtorEq, Array.toList, ↓reduceIte, Nat.reduceAdd, Nat.reduceLeDiff, Nat.reduceLT, Nat.reduceMul, Nat.reduceSub, Int.reduceToNat, Int.reduceSub, Int.reduceAdd, Int.reduceNeg, load_at (st.get 3 rfl)])
  refine markProgram_live p (by omega) (st.get 4 rfl) (st.ndT 4 rfl) (by omega) (by omega) fun k' G9 hfr hk1 hk2 => ?_
  replace st := st.lose 4 rfl hfr
  clear hfr
  simp only [List.eraseIdx_cons_succ, List.eraseIdx_cons_zero] at st
  (try simp (maxSteps := 1000000) (disch := first | assumption | (apply Ne.symm; assumption)) only [vz, vu, vv, eqS, eqFieldsV, ↓condV_t, ↓condV_f, tabs, reduceCtorEq, Array.toList, ↓reduceIte, Nat.reduceAdd, Nat.reduceLeDiff, Nat.reduceLT, Nat.reduceMul, Nat.reduceSub, Int.reduceToNat, Int.reduceSub, Int.reduceAdd, Int.reduceNeg])
  refine markNodeSS_live ts (by omega) (st.get 2 rfl) (st.ndT 2 rfl) (by omega) (by omega) fun k2 G10 hfr hk3 hk4 => ?_
  replace st := st.lose 2 rfl hfr
  clear hfr
  simp only [List.eraseIdx_cons_succ, List.eraseIdx_cons_zero] at st
  (try simp (maxSteps := 1000000) (disch := first | assumption | (apply Ne.symm; assumption)) only [vz, vu, vv, eqS, eqFieldsV, ↓condV_t, ↓condV_f, tabs, reduceCtorEq, Array.toList, ↓reduceIte, Nat.reduceAdd, Nat.reduceLeDiff, Nat.reduceLT, Nat.reduceMul, Nat.reduceSub, Int.reduceToNat, Int.reduceSub, Int.reduceAdd, Int.reduceNeg, load_at (st.get 0 rfl), load_at (st.get 3 rfl)])
  refine ⟨fun h => by omega, fun _ => ?_⟩
  refine RS.eq (st.get 1 rfl) (by omega) ?_
  (try simp (maxSteps := 1000000) (disch := first | assumption | (apply Ne.symm; assumption)) only [vz, vu, vv, eqS, eqFieldsV, ↓condV_t, ↓condV_f, tabs, reduceCtorEq, Array.toList, ↓reduceIte, Nat.reduceAdd, Nat.reduceLeDiff, Nat.reduceLT, Nat.reduceMul, Nat.reduceSub, Int.reduceToNat, Int.reduceSub, Int.reduceAdd, Int.reduceNeg, load_at (st.get 0 rfl)])
  refine RS.mark (st.get 1 rfl) (by omega) (by omega) (by omega) fun G12 hrs hfr => ?_
  replace st := st.upd 1 rfl (tRS (marked 1 o.length) (.agg [xr]) D7) rfl hfr hrs
  clear hfr hrs
  (try simp (maxSteps := 1000000) (disch := first | assumption | (apply Ne.symm; assumption)) only [vz, vu, vv, eqS, eqFieldsV, ↓condV_t, ↓condV_f, tabs, reduceCtorEq, Array.toList, ↓reduceIte, Nat.reduceAdd, Nat.reduceLeDiff, Nat.reduceLT, Nat.reduceMul, Nat.reduceSub, Int.reduceToNat, Int.reduceSub, Int.reduceAdd, Int.reduceNeg, load_at (st.get 0 rfl)])
  refine RS.held (st.get 1 rfl) (by omega) ?_
  (try simp (maxSteps := 1000000) (disch := first | assumption | (apply Ne.symm; assumption)) only [vz, vu, vv, eqS, eqFieldsV, ↓condV_t, ↓condV_f, tabs, reduceCtorEq, Array.toList, ↓reduceIte, Nat.reduceAdd, Nat.reduceLeDiff, Nat.reduceLT, Nat.reduceMul, Nat.reduceSub, Int.reduceToNat, Int.reduceSub, Int.reduceAdd, Int.reduceNeg, load_at (st.get 4 rfl)])
  refine ⟨fun h => by omega, fun _ => ?_⟩
  refine Pu.use (toProgram_spec p hsm) ?_
  refine Pu.use (toNodeSS_spec ts hst) ?_
  refine hI fun v G13 E hrs hn13 => ?_
  obtain ⟨xe, rfl, hxe⟩ := hrs.ag
  replace st := st.push (tRS o (.agg [xe]) E) hn13 hrs
  clear hrs hn13
  (try simp (maxSteps := 1000000) (disch := first | assumption | (apply Ne.symm; assumption)) only [vz, vu, vv, eqS, eqFieldsV, ↓condV_t, ↓condV_f, tabs, reduceCtorEq, Array.toList, ↓reduceIte, Nat.reduceAdd, Nat.reduceLeDiff, Nat.reduceLT, Nat.reduceMul, Nat.reduceSub, Int.reduceToNat, Int.reduceSub, Int.reduceAdd, Int.reduceNeg])
  intro u2 hu2
  replace st := st.cell hu2 [xe]
  (try simp (maxSteps := 1000000) (disch := first | assumption | (apply Ne.symm; assumption)) only [vz, vu, vv, eqS, eqFieldsV, ↓condV_t, ↓condV_f, tabs, reduceCtorEq, Array.toList, ↓reduceIte, Nat.reduceAdd, Nat.reduceLeDiff, Nat.reduceLT, Nat.reduceMul, Nat.reduceSub, Int.reduceToNat, Int.reduceSub, Int.reduceAdd, Int.reduceNeg, load_at (st.get 5 rfl)])
  generalize G13.set u2 [xe] = G14 at st ⊢
  refine ⟨hxe, ?_⟩
  refine RS.eq (st.get 1 rfl) (by omega) ?_
  (try simp (maxSteps := 1000000) (disch := first | assumption | (apply Ne.symm; assumption)) only [vz, vu, vv, eqS, eqFieldsV, ↓condV_t, ↓condV_f, tabs, reduceCtorEq, Array.toList, ↓reduceIte, Nat.reduceAdd, Nat.reduceLeDiff, Nat.reduceLT, Nat.reduceMul, Nat.reduceSub, Int.reduceToNat, Int.reduceSub, Int.reduceAdd, Int.reduceNeg, load_at (st.get 2 rfl)])
  refine RS.held (st.get 3 rfl) (by omega) ?_
  (try simp (maxSteps := 1000000) (disch := first | assumption | (apply Ne.symm; assumption)) only [vz, vu, vv, eqS, eqFieldsV, ↓condV_t, ↓condV_f, tabs, reduceCtorEq, Array.toList, ↓reduceIte, Nat.reduceAdd, Nat.reduceLeDiff, Nat.reduceLT, Nat.reduceMul, Nat.reduceSub, Int.reduceToNat, Int.reduceSub, Int.reduceAdd, Int.reduceNeg])
  exact ⟨fun h => by omega, fun _ => st.le⟩
end Go.Proofs.YtdnfiacjoghfkaaGreat
/- The row of the law that SightBy answers as the reference does: whatever the arguments, it answers true, and what it is told reads as it did. -/
namespace Go.Proofs.YtdnfiacjoghfkaaGreat.sightBy
open Go Go.Sep Go.ChangeShapes Go.WideShapes Go.ChangeAt Go.RowKit
set_option linter.unusedVariables false

theorem own : ownKnob Tryz.prog.godebug = none := by kernel_rfl

theorem told (avs : List AV) (h : ArgsT Tryz.prog [25, 26] avs) : CallT Tryz.prog 3 avs (fun _ => none) (fun v _ => v = .p (.bool true)) := by
  obtain ⟨a, b, rfl, h1, h⟩ := args_cons h
  obtain ⟨b, c, rfl, h2, h⟩ := args_cons h
  cases args_nil h
  obtain ⟨x1, hx1, hn1, rfl⟩ := arg_program h1
  obtain ⟨x2, hx2, hn2, rfl⟩ := arg_nodess h2
  exact (FnExactSightBy_true hx1 hn1 hx2 hn2).use rfl

set_option maxRecDepth 100000 in
theorem lifted (os : Os) (started : os.Started) (H : Type) (enc : TypeId × Value → H) :
    ReturnsInHanded {} Tryz.checked os 3 .any (Rows.fnExactSightBySpec.pre6 enc Tryz.prog Tryz.f3 Rows.fnExactSightByRow.domain false) (Rows.fnExactSightBySpec.post enc Tryz.prog Tryz.f3 false true false false) := by
  refine returnsInHanded_of_change (C := Tryz.checked) own started (by kernel_rfl) Tryz.func3
    (ChangeSpec.witness6 (enc := enc) (C := Tryz.checked) false ⟨#[], #[.agg #[.int .i64 0, .int .i64 0, .slice none 0 0, .slice none 0 0], .slice none 0 0], []⟩ 12 (by kernel_rfl) (by kernel_rfl) (by kernel_rfl) (by kernel_rfl)) ?_
  intro W base args ds gs before hval hW _ _
  refine row_of_true (n := 12) (tb := 4) (by kernel_rfl) rfl (by kernel_rfl) (by kernel_rfl) ?_ ?_ ?_ hval hW
  · have : (Tryz.f3.params.toList.all fun t => Tryz.prog.readableRec t && decide (t < Tryz.prog.types.size) && plainB Tryz.prog 12 t) = true := by kernel_rfl
    intro t ht
    have := List.all_eq_true.1 this t ht
    rw [Bool.and_eq_true, Bool.and_eq_true, decide_eq_true_eq] at this
    exact ⟨this.1.1, this.1.2, this.2⟩
  · intro ds hd
    rw [Tryz.params3] at hd
    match ds, hd with
    | [a, b], _ => rfl
  · rw [Tryz.params3]
    exact told

theorem over : Rows.fnExactSightByRow.holds Tryz.pinned (OpenSpec.ofChange Rows.fnExactSightBySpec) :=
  OpenClaim.holds_of_wide 3 Tryz.f3 rfl rfl rfl rfl rfl rfl rfl ⟨rfl, rfl, rfl, rfl, rfl⟩ rfl rfl rfl rfl rfl (by kernel_rfl) Tryz.func3 (by kernel_rfl)
    (of_decide_eq_true (by kernel_rfl)) (by unfold Func.isWrapper; first | (rw [if_pos (by decide +kernel)]; kernel_rfl) | (rw [if_neg (by decide +kernel)]; exact ⟨rfl, rfl⟩))
    (fun os started H enc _ => lifted os started H enc)

/-- The statement. -/
theorem proved : Rows.FnExactSightBySaid :=
  over
#print axioms proved
end Go.Proofs.YtdnfiacjoghfkaaGreat.sightBy
