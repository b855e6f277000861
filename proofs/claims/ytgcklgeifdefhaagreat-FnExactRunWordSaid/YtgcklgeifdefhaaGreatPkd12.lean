/- The row of the law that RunWord answers as the reference does: whatever the arguments, it answers true, and what it is told reads as it did. -/
import Derived.Test.YtgcklgeifdefhaaGreatPkd11
import Derived.Test.YtgcklgeifdefhaaGreatRows
import Derived.WalkKit
import Derived.ProofKit
import Derived.OpenShut
set_option linter.unusedVariables false
set_option linter.unusedSimpArgs false
open Nat renaming reduceAdd → ν1, reduceLeDiff → ν2, reduceLT → ν3, reduceMul → ν4, reduceSub → ν5
open Int renaming reduceToNat → ι1, reduceSub → ι2, reduceAdd → ι3, reduceNeg → ι4
open Array renaming toList → ι5
open Ne renaming symm → ν6
open List renaming forall_mem_cons → ν7
namespace Go.Proofs.YtgcklgeifdefhaaGreat
open Go Go.Sep Go.Pt
attribute [local irreducible] CallT
def LQn (q : Qn) (v : AV) (G : Heap) (D : List Nat) : Prop := ∃ x y z u D1 D2 D3, v = .agg [I q.prog.wide, I q.prog.vars, x, y, z, u] ∧ D = D1 ++ (D2 ++ D3) ∧ LPg q.prog (.agg [I q.prog.wide, I q.prog.vars, x, y]) G D1 ∧ LNN q.asks z G D2 ∧ LD q.say u G D3
theorem LQn.local {q : Qn} {v : AV} {G G' : Heap} {D : List Nat} (h : LQn q v G D) (hf : ∀ y ∈ D, ∀ b, G y = some b → G' y = some b) : LQn q v G' D := by
  obtain ⟨x, y, z, u, D1, D2, D3, e, rfl, h1, h2, h3⟩ := h
  exact ⟨x, y, z, u, D1, D2, D3, e, rfl, LPg.local h1 (fun u hu => hf u (by simp [hu])), LRow.local LNc.local h2 (fun u hu => hf u (by simp [hu])), LRow.local (LPl.local eD) h3 (fun u hu => hf u (by simp [hu]))⟩
theorem LQn.has {q : Qn} {v : AV} {G : Heap} {D : List Nat} (h : LQn q v G D) : ∀ y ∈ D, G y ≠ none := by
  obtain ⟨x, y, z, u, D1, D2, D3, e, rfl, h1, h2, h3⟩ := h
  intro u hu
  simp only [List.mem_append] at hu
  rcases hu with hu | hu | hu
  · exact LPg.has h1 u hu
  · exact LRow.has LNc.has h2 u hu
  · exact LRow.has (LPl.has eD) h3 u hu
theorem nd3w {A B C : List Nat} (h : (A ++ (B ++ C)).Nodup) : A.Nodup ∧ B.Nodup ∧ C.Nodup ∧ (∀ y ∈ A, y ∉ B) ∧ (∀ y ∈ A, y ∉ C) ∧ (∀ y ∈ B, y ∉ C) := by
  rw [List.nodup_append, List.nodup_append] at h
  obtain ⟨h1, ⟨h2, h3, h4⟩, h5⟩ := h
  exact ⟨h1, h2, h3, fun y hy hb => h5 y hy y (List.mem_append_left _ hb) rfl, fun y hy hb => h5 y hy y (List.mem_append_right _ hb) rfl, fun y hy hb => h4 y hy y hb rfl⟩
theorem LQn.wk {q : Qn} {v : AV} {G : Heap} {D : List Nat} (h : LQn q v G D) (hD : D.Nodup) (C : AV → AV) (hC : ∀ {r sz es a a'}, FrzR r sz es a a' → FrzR r sz es (C a) (C a')) : ∃ G', Wk (C v) G (C (aQ q)) G' ∧ ∀ y, y ∉ D → G' y = G y := by
  obtain ⟨x, y, z, u, D1, D2, D3, rfl, rfl, h1, h2, h3⟩ := h
  obtain ⟨n1, n2, n3, d12, d13, d23⟩ := nd3w hD
  obtain ⟨x', y', E1, E2, e, rfl, g1, g2⟩ := h1
  injection e with e
  simp only [List.cons.injEq, true_and, and_true] at e
  obtain ⟨rfl, rfl⟩ := e
  rw [List.nodup_append] at n1
  obtain ⟨G1, w1, f1⟩ := LRow.frzV (e := eN) (sz := 2) (v := C (.agg [I q.prog.wide, I q.prog.vars, x, y, z, u])) (v' := C (.agg [I q.prog.wide, I q.prog.vars, Ns q.prog.start, y, z, u])) (by omega) (fun _ => rfl) (LPl.local eN) (LPl.frz eN) g1 n1.1
    (fun r _ hr => hC (.agg (.cons (.same _) (.cons (.same _) (.cons hr (.cons (.same _) (.cons (.same _) (.cons (.same _) .nil))))))))
  have g2' := LRow.local LCm.local g2 (G' := G1) fun z hz b hb => by rw [f1 z (fun hz1 => n1.2.2 z hz1 z hz rfl)]; exact hb
  obtain ⟨G2, w2, f2⟩ := LRow.frzV (e := eCm) (sz := 2) (v := C (.agg [I q.prog.wide, I q.prog.vars, Ns q.prog.start, y, z, u])) (v' := C (.agg [I q.prog.wide, I q.prog.vars, Ns q.prog.start, Cms q.prog.cmds, z, u])) (by omega) (fun _ => rfl) LCm.local LCm.frz g2' n1.2.1
    (fun r _ hr => hC (.agg (.cons (.same _) (.cons (.same _) (.cons (.same _) (.cons hr (.cons (.same _) (.cons (.same _) .nil))))))))
  have fE : ∀ u, u ∉ E1 ++ E2 → G2 u = G u := fun u hu => by
    rw [List.mem_append, not_or] at hu
    rw [f2 u hu.2, f1 u hu.1]
  have h2' := LRow.local LNc.local h2 (G' := G2) fun u hu b hb => by rw [fE u (fun h => d12 u h hu)]; exact hb
  obtain ⟨G3, w3, f3⟩ := LRow.frzV (e := eNN) (sz := 1) (v := C (.agg [I q.prog.wide, I q.prog.vars, Ns q.prog.start, Cms q.prog.cmds, z, u])) (v' := C (.agg [I q.prog.wide, I q.prog.vars, Ns q.prog.start, Cms q.prog.cmds, Nss q.asks, u])) (by omega) (fun _ => rfl) LNc.local LNc.frz h2' n2
    (fun r _ hr => hC (.agg (.cons (.same _) (.cons (.same _) (.cons (.same _) (.cons (.same _) (.cons hr (.cons (.same _) .nil))))))))
  have h3' := LRow.local (LPl.local eD) h3 (G' := G3) fun u hu b hb => by rw [f3 u (fun h => d23 u h hu), fE u (fun h => d13 u h hu)]; exact hb
  obtain ⟨G4, w4, f4⟩ := LRow.frzV (e := eD) (sz := 2) (v := C (.agg [I q.prog.wide, I q.prog.vars, Ns q.prog.start, Cms q.prog.cmds, Nss q.asks, u])) (v' := C (aQ q)) (by omega) (fun _ => rfl) (LPl.local eD) (LPl.frz eD) h3' n3
    (fun r _ hr => hC (.agg (.cons (.same _) (.cons (.same _) (.cons (.same _) (.cons (.same _) (.cons (.same _) (.cons hr .nil))))))))
  refine ⟨G4, .trans w1 (.trans w2 (.trans w3 w4)), fun u hu => ?_⟩
  rw [f4 u fun h => hu (List.mem_append_right _ (List.mem_append_right _ h)), f3 u fun h => hu (List.mem_append_right _ (List.mem_append_left _ h)), fE u fun h => hu (List.mem_append_left _ h)]
def tPg (p : Pg) (v : AV) (D : List Nat) : Th := ⟨D, fun G => LPg p v G D, fun h f => LPg.local h f, fun h => LPg.has h⟩
def tDD (xs : List Sd) (v : AV) (D : List Nat) : Th := ⟨D, fun G => LD xs v G D, fun h f => LRow.local (LPl.local eD) h f, fun h => LRow.has (LPl.has eD) h⟩
theorem toQuestion_live (q : Qn) (hs : smQ q) {H : Heap} {K : AV → Heap → Prop} (h : ∀ v G D, LQn q v G D → New H G D → K v G) : CallT Tryz.prog 10 [aQ q] H K := by
  refine W10_ok ?_; simp (maxSteps := 1000000) (disch := first | assumption | (apply ν6; assumption)) only [W10, vz, vu, vv, eqS, eF_, ↓c1_, ↓c2_, tabs, reduceCtorEq, ι5, ↓reduceIte, ν1, ν2, ν3, ν4, ν5, ι1, ι2, ι3, ι4]
  intro r hr r1 n1 hr1 r2 n21 n2 hr2
  have nn1 : r ≠ r1 := Ne.symm n1
  have nn2 : r ≠ r2 := Ne.symm n2
  have nn21 : r1 ≠ r2 := Ne.symm n21
  (try simp (maxSteps := 1000000) (disch := first | assumption | (apply ν6; assumption)) only [vz, vu, vv, eqS, eF_, ↓c1_, ↓c2_, tabs, reduceCtorEq, ι5, ↓reduceIte, ν1, ν2, ν3, ν4, ν5, ι1, ι2, ι3, ι4])
  have s0 := (((St.nil H).cell hr [I q.prog.wide, I q.prog.vars, Ns q.prog.start, Cms q.prog.cmds, Nss q.asks, Ds q.say]).cell (r := r1) (by rw [Heap.set_other n1]; exact hr1) [I 0, I 0, .p .nil, .p .nil, .p .nil, .p .nil]).cell (r := r2) (by rw [Heap.set_other n21, Heap.set_other n2]; exact hr2) [I 0, I 0, .p .nil, .p .nil, .p .nil, .p .nil]
  refine toProgram_live q.prog hs.1 fun v G D hx hn => ?_
  have s1 := s0.push (tPg q.prog v D) hn hx
  obtain ⟨x, y, E1, E2, rfl, rfl, hE1, hE2⟩ := hx
  obtain ⟨qx, rfl⟩ := LRow.sl hE1
  obtain ⟨qy, rfl⟩ := LRow.sl hE2
  have g2 : G r2 = some _ := s1.get 1 rfl
  have g0 : G r = some _ := s1.get 3 rfl
  have s2 := s1.put 1 rfl [I q.prog.wide, I q.prog.vars, .sl qx 2 0 q.prog.start.length, .sl qy 2 0 q.prog.cmds.length, .p .nil, .p .nil]
  (try simp (maxSteps := 1000000) (disch := first | assumption | (apply ν6; assumption)) only [vz, vu, vv, eqS, eF_, ↓c1_, ↓c2_, tabs, reduceCtorEq, ι5, ↓reduceIte, ν1, ν2, ν3, ν4, ν5, ι1, ι2, ι3, ι4, store_at g2, load_at g0])
  refine toNodeSS_live q.asks hs.2.1 fun z G2 D2 hz hn2 => ?_
  have s3 := s2.push (tNN q.asks z D2) hn2 hz
  obtain ⟨qz, rfl⟩ := LRow.sl hz
  have g2 : G2 r2 = some _ := s3.get 2 rfl
  have s4 := s3.put 2 rfl [I q.prog.wide, I q.prog.vars, .sl qx 2 0 q.prog.start.length, .sl qy 2 0 q.prog.cmds.length, .sl qz 1 0 q.asks.length, .p .nil]
  have g0 : G2 r = some _ := s3.get 4 rfl
  (try simp (maxSteps := 1000000) (disch := first | assumption | (apply ν6; assumption)) only [vz, vu, vv, eqS, eF_, ↓c1_, ↓c2_, tabs, reduceCtorEq, ι5, ↓reduceIte, ν1, ν2, ν3, ν4, ν5, ι1, ι2, ι3, ι4, store_at g2, load_at g0])
  refine toSaidS_live q.say hs.2.2 fun u G3 D3 hu hn3 => ?_
  have s5 := s4.push (tDD q.say u D3) hn3 hu
  obtain ⟨qu, rfl⟩ := LRow.sl hu
  have g2 : G3 r2 = some _ := s5.get 3 rfl
  have g1 : G3 r1 = some _ := s5.get 4 rfl
  have s6 := s5.put 4 rfl [I q.prog.wide, I q.prog.vars, .sl qx 2 0 q.prog.start.length, .sl qy 2 0 q.prog.cmds.length, .sl qz 1 0 q.asks.length, .sl qu 2 0 q.say.length]
  have s7 := s6.put 3 rfl [I q.prog.wide, I q.prog.vars, .sl qx 2 0 q.prog.start.length, .sl qy 2 0 q.prog.cmds.length, .sl qz 1 0 q.asks.length, .sl qu 2 0 q.say.length]
  (try simp (maxSteps := 1000000) (disch := first | assumption | (apply ν6; assumption)) only [vz, vu, vv, eqS, eF_, ↓c1_, ↓c2_, tabs, reduceCtorEq, ι5, ↓reduceIte, ν1, ν2, ν3, ν4, ν5, ι1, ι2, ι3, ι4, store_at g2])
  (try simp (maxSteps := 1000000) (disch := first | assumption | (apply ν6; assumption)) only [vz, vu, vv, eqS, eF_, ↓c1_, ↓c2_, tabs, reduceCtorEq, ι5, ↓reduceIte, ν1, ν2, ν3, ν4, ν5, ι1, ι2, ι3, ι4, store_at g1])
  have s8 := (s7.sub (Us := [tDD q.say (.sl qu 2 0 q.say.length) D3, tNN q.asks (.sl qz 1 0 q.asks.length) D2, tPg q.prog (.agg [I q.prog.wide, I q.prog.vars, .sl qx 2 0 q.prog.start.length, .sl qy 2 0 q.prog.cmds.length]) (E1 ++ E2)]) (.cons_cons _ (.cons_cons _ (.cons_cons _ (List.nil_sublist _))))).perm (List.reverse_perm _).symm
  have hnew := s8.new
  have e1 : LPg q.prog _ _ (E1 ++ E2) := s8.get 0 rfl
  have e2 : LNN q.asks _ _ D2 := s8.get 1 rfl
  have e3 : LD q.say _ _ D3 := s8.get 2 rfl
  refine h _ _ ((E1 ++ E2) ++ (D2 ++ D3)) ⟨_, _, _, _, E1 ++ E2, D2, D3, rfl, rfl, e1, e2, e3⟩ ?_
  have e : List.flatMap Th.D [tPg q.prog (.agg [I q.prog.wide, I q.prog.vars, .sl qx 2 0 q.prog.start.length, .sl qy 2 0 q.prog.cmds.length]) (E1 ++ E2), tNN q.asks (.sl qz 1 0 q.asks.length) D2, tDD q.say (.sl qu 2 0 q.say.length) D3] = (E1 ++ E2) ++ (D2 ++ D3) := by
    simp [tPg, tNN, tDD]
  rw [← e]
  exact hnew
theorem markQuestion_live (q : Qn) (hl : totQ q ≤ 1048576) {v : AV} {G : Heap} {D : List Nat} (hx : LQn q v G D) (hD : D.Nodup) {k : Int} (h0 : 0 ≤ k) (hk : k ≤ 500000000) {K : AV → Heap → Prop}
    (h : ∀ k' G', (∀ y, y ∉ D → G' y = G y) → k ≤ k' → k' ≤ k + 2 * totQ q → K (I k') G') : CallT Tryz.prog 22 [v, I k] G K := by
  obtain ⟨x, y, z, u, D1, D2, D3, rfl, rfl, h1, h2, h3⟩ := hx
  obtain ⟨n1, n2, n3, d12, d13, d23⟩ := nd3w hD
  have htd : totQ q = totPg q.prog + totNss q.asks + q.say.length := rfl
  refine CallT.fin ?_
  refine W22_ok ?_; simp (maxSteps := 1000000) (disch := first | assumption | (apply ν6; assumption)) only [W22, vz, vu, vv, eqS, eF_, ↓c1_, ↓c2_, tabs, reduceCtorEq, ι5, ↓reduceIte, ν1, ν2, ν3, ν4, ν5, ι1, ι2, ι3, ι4]
  intro r hr
  have r1 : r ∉ D1 := fun hh => LPg.has h1 r hh hr
  have r2 : r ∉ D2 := fun hh => LRow.has LNc.has h2 r hh hr
  have r3 : r ∉ D3 := fun hh => LRow.has (LPl.has eD) h3 r hh hr
  have h1' : LPg q.prog (.agg [I q.prog.wide, I q.prog.vars, x, y]) (G.set r [I q.prog.wide, I q.prog.vars, x, y, z, u]) D1 := LPg.local h1 fun z hz b hb => by rw [Heap.set_other (ne_mem hz r1)]; exact hb
  refine markProgram_live q.prog (by omega) h1' n1 h0 (by omega) fun k2 G2 hfr hk3 hk4 => ?_
  have g2 : G2 r = some [I q.prog.wide, I q.prog.vars, x, y, z, u] := by rw [hfr r r1, Heap.set_same]
  have h2' : LNN q.asks z G2 D2 := LRow.local LNc.local h2 fun z hz b hb => by rw [hfr z (fun hz1 => d12 z hz1 hz), Heap.set_other (ne_mem hz r2)]; exact hb
  (try simp (maxSteps := 1000000) (disch := first | assumption | (apply ν6; assumption)) only [vz, vu, vv, eqS, eF_, ↓c1_, ↓c2_, tabs, reduceCtorEq, ι5, ↓reduceIte, ν1, ν2, ν3, ν4, ν5, ι1, ι2, ι3, ι4, load_at g2])
  refine markNodeSS_live q.asks (by omega) h2' n2 (by omega) (by omega) fun k3 G3 hfr3 hk5 hk6 => ?_
  have g3 : G3 r = some [I q.prog.wide, I q.prog.vars, x, y, z, u] := by rw [hfr3 r r2, g2]
  have h3' : LD q.say u G3 D3 := LRow.local (LPl.local eD) h3 fun z hz b hb => by rw [hfr3 z (fun hz1 => d23 z hz1 hz), hfr z (fun hz1 => d13 z hz1 hz), Heap.set_other (ne_mem hz r3)]; exact hb
  obtain ⟨qu, rfl, gu, rfl⟩ := LD_row h3'
  have nru : r ≠ qu := fun e => r3 (by rw [e]; exact List.mem_singleton.2 rfl)
  (try simp (maxSteps := 1000000) (disch := first | assumption | (apply ν6; assumption)) only [vz, vu, vv, eqS, eF_, ↓c1_, ↓c2_, tabs, reduceCtorEq, ι5, ↓reduceIte, ν1, ν2, ν3, ν4, ν5, ι1, ι2, ι3, ι4, load_at g3])
  refine markSaidS_row q.say (by omega) (by omega) (by omega) gu ?_
  refine fin_le (H := (G3.set qu (cD (markD k3 q.say.length))).del r) (Heap.del_le _ _) (h (k3 + 2 * q.say.length) _ (fun z hz => ?_) (by omega) (by omega))
  have z1 : z ∉ D1 := fun h => hz (List.mem_append_left _ h)
  have z2 : z ∉ D2 := fun h => hz (List.mem_append_right _ (List.mem_append_left _ h))
  have z3 : z ≠ qu := fun e => hz (List.mem_append_right _ (List.mem_append_right _ (by rw [e]; exact List.mem_singleton.2 rfl)))
  by_cases e : z = r
  · subst e; rw [Heap.del_same, hr]
  · rw [Heap.del_other e, Heap.set_other z3, hfr3 z z2, hfr z z1, Heap.set_other e]
end Go.Proofs.YtgcklgeifdefhaaGreat
namespace Go.Sep
open Go Go.RowKit Go.Proofs.YtgcklgeifdefhaaGreat
structure ResU (R : AV → Heap → List Nat → Prop) : Prop where
  loc : ∀ {r G G' D}, R r G D → (∀ y ∈ D, ∀ b, G y = some b → G' y = some b) → R r G' D
  gd : ∀ {r G D}, R r G D → Gd2 r ∧ ∀ y ∈ D, ∀ bs, G y = some bs → ∀ c ∈ bs, GdC c
  sh : ∀ {r G D n G0}, (∀ q, n ≤ q → G0 q = none) → R r G D → R (sh2 n r) (Heap.or G0 (shH n G)) (D.map (· + n))
theorem thawU {R : AV → Heap → List Nat → Prop} (hR : ResU R) {P : Program} {f : Nat} {args args' : List AV} {G G1 : Heap} {K : AV → Heap → Prop}
    (hf : ∀ {K : AV → Heap → Prop}, (∀ r G D, R r G D → New (fun _ => none) G D → K r G) → CallT P f args' (fun _ => none) K)
    (hw : Wk (.tup args) G (.tup args') G1) (h : ∀ r G' D, R r G' D → New G G' D → K r G') : CallT P f args G K := by
  refine CallT.thawX (Q' := fun r H' => ∃ D, R r H' D ∧ D.Nodup ∧ ∀ y, y ∉ D → H' y = none) ?_ ?_ hw ?_
  · refine CallT.fin (hf fun r G D hl hn => ⟨_, only D G, .forget (only_le D G), D, hR.loc hl fun y hy b hb => by rw [only_in hy]; exact hb, hn.nd, fun y hy => only_out hy⟩)
  · rintro r H' ⟨D, hl, _, hout⟩
    refine ⟨(hR.gd hl).1, fun q cs hq => ?_⟩
    by_cases hD : q ∈ D
    · exact (hR.gd hl).2 q hD cs hq
    · rw [hout q hD] at hq; cases hq
  · rintro r H' n ⟨D, hl, hnd, hout⟩ hn
    refine h _ _ (D.map (· + n)) (hR.sh hn hl) ⟨?_, fun y hy => ?_, fun y b hb => by simp only [Heap.or, hb]⟩
    · exact List.pairwise_map.2 (hnd.imp fun h e => h (Nat.add_right_cancel e))
    · obtain ⟨z, _, rfl⟩ := List.mem_map.1 hy
      exact hn _ (by omega)
end Go.Sep
namespace Go.Proofs.YtgcklgeifdefhaaGreat
open Go Go.Sep Go.Pt
attribute [local irreducible] CallT
theorem markI0 {G : Heap} {k : Int} {K : AV → Heap → Prop} (h : K (I k) G) : CallT Tryz.prog 23 [.p .nil, I k] G K := by
  refine CallT.args (args' := [Is [], I k]) ?_ ⟨.nil, .refl _, trivial⟩
  refine W23_ok ?_; simp (maxSteps := 1000000) (disch := first | assumption | (apply ν6; assumption)) only [W23, vz, vu, vv, eqS, eF_, ↓c1_, ↓c2_, tabs, reduceCtorEq, ι5, ↓reduceIte, ν1, ν2, ν3, ν4, ν5, ι1, ι2, ι3, ι4]
  refine L23_0_rule () (fun _ => I k) (fun _ => I 0) (fun _ => G) (fun _ => True) (fun _ => 0) ⟨trivial, .refl _, .refl _, Heap.le_refl _⟩ ?_
  rintro ⟨⟩ _
  (try simp (maxSteps := 1000000) (disch := first | assumption | (apply ν6; assumption)) only [vz, vu, vv, eqS, eF_, ↓c1_, ↓c2_, tabs, reduceCtorEq, ι5, ↓reduceIte, ν1, ν2, ν3, ν4, ν5, ι1, ι2, ι3, ι4, B23_0])
  first | exact h | simpa using h
theorem _root_.Go.Sep.St.lose {H G G' : Heap} {Ts : List Th} {t : Th} (s : St H Ts G) (i : Nat) (h : Ts[i]? = some t) (hf : ∀ y, y ∉ t.D → G' y = G y) : St H (Ts.eraseIdx i) G' := by
  have s1 := s.pick i h
  have hnd := s1.nd
  rw [List.flatMap_cons, List.nodup_append] at hnd
  refine ⟨fun y b hb => ?_, hnd.2.1, fun u hu => s1.fr u (List.mem_cons_of_mem _ hu), fun u hu => u.loc (s1.ok u (List.mem_cons_of_mem _ hu)) fun y hy b hb => ?_⟩
  · rw [hf y (s1.wkNone y b hb t (List.mem_cons_self ..))]; exact s1.le y b hb
  · rw [hf y (fun hm => hnd.2.2 y hm y (List.mem_flatMap.2 ⟨u, hu, hy⟩) rfl)]; exact hb
theorem LPg.sl {p : Pg} {v : AV} {G : Heap} {D : List Nat} (h : LPg p v G D) : ∃ q1 q2, v = .agg [I p.wide, I p.vars, .sl q1 2 0 p.start.length, .sl q2 2 0 p.cmds.length] := by
  obtain ⟨x, y, E1, E2, rfl, rfl, hx, hy⟩ := h
  obtain ⟨qx, rfl⟩ := LRow.sl hx
  obtain ⟨qy, rfl⟩ := LRow.sl hy
  exact ⟨qx, qy, rfl⟩
end Go.Proofs.YtgcklgeifdefhaaGreat
namespace Go.Proofs.YtgcklgeifdefhaaGreat
open Go Go.Sep Go.Pt
attribute [local irreducible] CallT
theorem RL.local {s l : List Int} {v : AV} {G G' : Heap} {D : List Nat} (h : RL s l v G D) (hf : ∀ y ∈ D, ∀ b, G y = some b → G' y = some b) : RL s l v G' D := by
  rcases h with h | ⟨q1, q2, rfl, h1, h2, rfl, hne⟩
  · exact .inl h
  · exact .inr ⟨q1, q2, rfl, hf q1 (by simp) _ h1, hf q2 (by simp) _ h2, rfl, hne⟩
theorem RL.has {s l : List Int} {v : AV} {G : Heap} {D : List Nat} (h : RL s l v G D) : ∀ y ∈ D, G y ≠ none := by
  rcases h with ⟨_, _, _, rfl⟩ | ⟨q1, q2, rfl, h1, h2, rfl, hne⟩
  · intro y hy; cases hy
  · intro y hy
    simp only [List.mem_cons, List.not_mem_nil, or_false] at hy
    rcases hy with rfl | rfl
    · rw [h1]; simp
    · rw [h2]; simp
theorem RL.ag {s l : List Int} {v : AV} {G : Heap} {D : List Nat} (h : RL s l v G D) : ∃ x y, v = .agg [x, y] ∧ x.isCell = true ∧ y.isCell = true := by
  rcases h with ⟨_, _, rfl, _⟩ | ⟨q1, q2, rfl, _⟩
  · exact ⟨_, _, rfl, rfl, rfl⟩
  · exact ⟨_, _, rfl, rfl, rfl⟩
def tRL (s l : List Int) (v : AV) (D : List Nat) : Th := ⟨D, fun G => RL s l v G D, fun h f => h.local f, fun h => h.has⟩
def tQn (q : Qn) (v : AV) (D : List Nat) : Th := ⟨D, fun G => LQn q v G D, fun h f => h.local f, fun h => h.has⟩
def RLt (s l : List Int) (ok : Bool) (r : AV) (G : Heap) (D : List Nat) : Prop := ∃ v, r = .tup [v, B ok] ∧ RL s l v G D
theorem RLt.res (s l : List Int) (ok : Bool) : ResU (RLt s l ok) := by
  have gdrow : ∀ {xs : List Int} {c : AV}, c ∈ cP fI xs → GdC c := fun {xs c} hc => by
    obtain ⟨x, _, rfl⟩ := List.mem_map.1 hc
    exact .p (.int _ _)
  refine ⟨?_, ?_, ?_⟩
  · rintro r G G' D ⟨v, rfl, h⟩ hf
    exact ⟨v, rfl, h.local hf⟩
  · rintro r G D ⟨v, rfl, h⟩
    have gb : Gd1 (B ok) := .inr ⟨.p (.bool ok), fun _ => rfl⟩
    have gv : Gd1 v ∧ ∀ y ∈ D, ∀ bs, G y = some bs → ∀ c ∈ bs, GdC c := by
      rcases h with ⟨_, _, rfl, rfl⟩ | ⟨q1, q2, rfl, h1, h2, rfl, hne⟩
      · exact ⟨.inl ⟨_, rfl, fun c hc => by
          simp only [List.mem_cons, List.not_mem_nil, or_false] at hc
          rcases hc with rfl | rfl <;> exact .p .nil⟩, fun y hy => by cases hy⟩
      · refine ⟨.inl ⟨_, rfl, fun c hc => by
          simp only [List.mem_cons, List.not_mem_nil, or_false] at hc
          rcases hc with rfl | rfl <;> exact .inl ⟨_, _, _, _, rfl⟩⟩, fun y hy bs hb c hc => ?_⟩
        simp only [List.mem_cons, List.not_mem_nil, or_false] at hy
        rcases hy with rfl | rfl
        · rw [h1] at hb; cases hb; exact gdrow hc
        · rw [h2] at hb; cases hb; exact gdrow hc
    refine ⟨.inl ⟨_, rfl, fun u hu => ?_⟩, gv.2⟩
    rcases List.mem_cons.1 hu with rfl | hu
    · exact gv.1
    · rw [List.mem_singleton] at hu; rw [hu]; exact gb
  · rintro r G D n G0 h0 ⟨v, rfl, h⟩
    have e : ∀ xs : List Int, (cP fI xs).map (shC n) = cP fI xs := fun xs => by
      simp only [cP, List.map_map]; rfl
    have sh : ∀ {q xs}, G q = some (cP fI xs) → (Heap.or G0 (shH n G)) (q + n) = some (cP fI xs) := fun {q xs} hq => by
      simp only [Heap.or, h0 (q + n) (by omega), shH, Nat.le_add_left, if_true, Nat.add_sub_cancel, hq, Option.map_some, e]
    rcases h with ⟨rfl, rfl, rfl, rfl⟩ | ⟨q1, q2, rfl, h1, h2, rfl, hne⟩
    · exact ⟨_, rfl, .inl ⟨rfl, rfl, rfl, rfl⟩⟩
    · exact ⟨_, rfl, .inr ⟨q1 + n, q2 + n, rfl, sh h1, sh h2, rfl, by omega⟩⟩
theorem eqLassoQ (s l : List Int) (h1 : s.length ≤ 1048576) (h2 : l.length ≤ 1048576) : Pu Tryz.prog 21 [aL2 s l, aL2 s l] (B true) := by
  refine Pu.of fun H => ?_
  refine W21_ok ?_; simp (maxSteps := 1000000) (disch := first | assumption | (apply ν6; assumption)) only [W21, vz, vu, vv, eqS, eF_, ↓c1_, ↓c2_, tabs, reduceCtorEq, ι5, ↓reduceIte, ν1, ν2, ν3, ν4, ν5, ι1, ι2, ι3, ι4]
  intro r hr r2 n2 hr2
  have hle := Heap.le_setN (b := [Is s, Is l]) (Heap.le_set (b := [Is s, Is l]) hr) hr2
  have nn2 := Ne.symm n2
  (try simp (maxSteps := 1000000) (disch := first | assumption | (apply ν6; assumption)) only [vz, vu, vv, eqS, eF_, ↓c1_, ↓c2_, tabs, reduceCtorEq, ι5, ↓reduceIte, ν1, ν2, ν3, ν4, ν5, ι1, ι2, ι3, ι4])
  refine Pu.use (eqIntS_spec s h1) ?_
  (try simp (maxSteps := 1000000) (disch := first | assumption | (apply ν6; assumption)) only [vz, vu, vv, eqS, eF_, ↓c1_, ↓c2_, tabs, reduceCtorEq, ι5, ↓reduceIte, ν1, ν2, ν3, ν4, ν5, ι1, ι2, ι3, ι4])
  refine Pu.use (eqIntS_spec l h2) ?_
  (try simp (maxSteps := 1000000) (disch := first | assumption | (apply ν6; assumption)) only [vz, vu, vv, eqS, eF_, ↓c1_, ↓c2_, tabs, reduceCtorEq, ι5, ↓reduceIte, ν1, ν2, ν3, ν4, ν5, ι1, ι2, ι3, ι4])
  exact hle
theorem RL.eq {s l : List Int} {v : AV} {G : Heap} {D : List Nat} (h : RL s l v G D) (hs : s.length ≤ 1048576) (hl : l.length ≤ 1048576) {K : AV → Heap → Prop} (k : K (B true) G) : CallT Tryz.prog 21 [v, aL2 s l] G K := by
  rcases h with ⟨rfl, rfl, rfl, rfl⟩ | ⟨q1, q2, rfl, h1, h2, rfl, hne⟩
  · exact CallT.args (args' := [aL2 [] [], aL2 [] []]) ((eqLassoQ [] [] (by simp) (by simp)).use k) ⟨wk_agg ⟨.nil, .nil, trivial⟩, .refl _, trivial⟩
  · exact Pu.thaw (eqLassoQ s l hs hl) (.bool _) (wkL2 h1 h2 hne (fun v => .tup [v, aL2 s l]) (fun h => .tup (.cons h (.cons (.same _) .nil)))) k
theorem RL.mark {s l : List Int} {v : AV} {G : Heap} {D : List Nat} (hx : RL s l v G D) (hs : s.length ≤ 1048576) (hl : l.length ≤ 1048576) {k : Int} (h0 : 0 ≤ k) (hk : k ≤ 900000000) {K : AV → Heap → Prop}
    (h : ∀ G', RL (marked k s.length) (marked (k + s.length) l.length) v G' D → (∀ y, y ∉ D → G' y = G y) → K (I (k + s.length + l.length)) G') : CallT Tryz.prog 24 [v, I k] G K := by
  refine CallT.fin ?_
  rcases hx with ⟨rfl, rfl, rfl, rfl⟩ | ⟨q1, q2, rfl, h1, h2, rfl, hne⟩
  · refine W24_ok ?_; simp (maxSteps := 1000000) (disch := first | assumption | (apply ν6; assumption)) only [W24, vz, vu, vv, eqS, eF_, ↓c1_, ↓c2_, tabs, reduceCtorEq, ι5, ↓reduceIte, ν1, ν2, ν3, ν4, ν5, ι1, ι2, ι3, ι4]
    intro r hr
    refine markI0 ?_
    (try simp (maxSteps := 1000000) (disch := first | assumption | (apply ν6; assumption)) only [vz, vu, vv, eqS, eF_, ↓c1_, ↓c2_, tabs, reduceCtorEq, ι5, ↓reduceIte, ν1, ν2, ν3, ν4, ν5, ι1, ι2, ι3, ι4])
    refine markI0 ?_
    (try simp (maxSteps := 1000000) (disch := first | assumption | (apply ν6; assumption)) only [vz, vu, vv, eqS, eF_, ↓c1_, ↓c2_, tabs, reduceCtorEq, ι5, ↓reduceIte, ν1, ν2, ν3, ν4, ν5, ι1, ι2, ι3, ι4])
    have := h G (.inl ⟨rfl, rfl, rfl, rfl⟩) (fun _ _ => rfl)
    simp only [List.length_nil, Int.ofNat_zero, Int.add_zero] at this
    exact fin_le (Heap.le_set hr) this
  · refine W24_ok ?_; simp (maxSteps := 1000000) (disch := first | assumption | (apply ν6; assumption)) only [W24, vz, vu, vv, eqS, eF_, ↓c1_, ↓c2_, tabs, reduceCtorEq, ι5, ↓reduceIte, ν1, ν2, ν3, ν4, ν5, ι1, ι2, ι3, ι4]
    intro r hr
    have ne1 : q1 ≠ r := fun e => by rw [e, hr] at h1; cases h1
    have ne2 : q2 ≠ r := fun e => by rw [e, hr] at h2; cases h2
    have en1 := Ne.symm ne1
    have en2 := Ne.symm ne2
    have enq := Ne.symm hne
    refine markIntS_live s hs h0 (by omega) (by rw [Heap.set_other ne1, h1, ← cells_P]) ?_
    (try simp (maxSteps := 1000000) (disch := first | assumption | (apply ν6; assumption)) only [vz, vu, vv, eqS, eF_, ↓c1_, ↓c2_, tabs, reduceCtorEq, ι5, ↓reduceIte, ν1, ν2, ν3, ν4, ν5, ι1, ι2, ι3, ι4])
    refine markIntS_live l hl (by omega) (by omega) (by rw [Heap.set_other enq, Heap.set_other ne2, h2, ← cells_P]) ?_
    (try simp (maxSteps := 1000000) (disch := first | assumption | (apply ν6; assumption)) only [vz, vu, vv, eqS, eF_, ↓c1_, ↓c2_, tabs, reduceCtorEq, ι5, ↓reduceIte, ν1, ν2, ν3, ν4, ν5, ι1, ι2, ι3, ι4])
    have hm1 := marked_len k s.length
    have hm2 := marked_len (k + s.length) l.length
    refine fin_le (H := (G.set q1 (cells ((marked k s.length).map eI))).set q2 (cells ((marked (k + s.length) l.length).map eI))) ?_ (h _ (.inr ⟨q1, q2, by rw [rowP, rowP, rowP, rowP, hm1, hm2], by rw [Heap.set_other hne, Heap.set_same, ← cells_P], by rw [Heap.set_same, ← cells_P], rfl, hne⟩) fun z hz => ?_)
    · generalize cells ((marked k s.length).map eI) = z
      generalize cells ((marked (k + s.length) l.length).map eI) = z2
      clear h
      (intro y b hy; simp only [Heap.set, Heap.del] at hy ⊢; (repeat' split at hy) <;> (repeat' split) <;> simp_all [cells])
    · simp only [List.mem_cons, List.not_mem_nil, or_false, not_or] at hz
      rw [Heap.set_other hz.2, Heap.set_other hz.1]
theorem heldLassoQ (n m : Nat) (h1 : n ≤ 1048576) (h2 : m ≤ 1048576) : Pu Tryz.prog 25 [aL2 (marked 1 n) (marked (1 + n) m), I 1] (I (1 + n + m)) := by
  refine Pu.of fun H => ?_
  refine W25_ok ?_; simp (maxSteps := 1000000) (disch := first | assumption | (apply ν6; assumption)) only [W25, vz, vu, vv, eqS, eF_, ↓c1_, ↓c2_, tabs, reduceCtorEq, ι5, ↓reduceIte, ν1, ν2, ν3, ν4, ν5, ι1, ι2, ι3, ι4]
  intro r hr
  refine Pu.use (heldIntS_spec n h1 (by omega) (by omega)) ?_
  (try simp (maxSteps := 1000000) (disch := first | assumption | (apply ν6; assumption)) only [vz, vu, vv, eqS, eF_, ↓c1_, ↓c2_, tabs, reduceCtorEq, ι5, ↓reduceIte, ν1, ν2, ν3, ν4, ν5, ι1, ι2, ι3, ι4])
  refine ⟨fun h => by omega, fun _ => ?_⟩
  refine Pu.use (heldIntS_spec m h2 (by omega) (by omega)) ?_
  (try simp (maxSteps := 1000000) (disch := first | assumption | (apply ν6; assumption)) only [vz, vu, vv, eqS, eF_, ↓c1_, ↓c2_, tabs, reduceCtorEq, ι5, ↓reduceIte, ν1, ν2, ν3, ν4, ν5, ι1, ι2, ι3, ι4])
  first | exact ⟨fun h => by omega, fun _ => Heap.le_set hr⟩ | exact Heap.le_set hr
theorem RL.held {n m : Nat} {v : AV} {G : Heap} {D : List Nat} (h : RL (marked 1 n) (marked (1 + n) m) v G D) (h1 : n ≤ 1048576) (h2 : m ≤ 1048576) {K : AV → Heap → Prop} (k : K (I (1 + n + m)) G) : CallT Tryz.prog 25 [v, I 1] G K := by
  rcases h with ⟨e1, e2, rfl, rfl⟩ | ⟨q1, q2, rfl, g1, g2, rfl, hne⟩
  · have : n = 0 := by
      have := congrArg List.length e1
      simpa [marked_len] using this
    subst this
    have : m = 0 := by
      have := congrArg List.length e2
      simpa [marked_len] using this
    subst this
    exact CallT.args (args' := [aL2 [] [], I 1]) ((heldLassoQ 0 0 h1 h2).use k) ⟨wk_agg ⟨.nil, .nil, trivial⟩, .refl _, trivial⟩
  · exact Pu.thaw (heldLassoQ n m h1 h2) (.int _ _) (wkL2 g1 g2 hne (fun v => .tup [v, I 1]) (fun h => .tup (.cons h (.cons (.same _) .nil)))) k
end Go.Proofs.YtgcklgeifdefhaaGreat
namespace Go.Proofs.YtgcklgeifdefhaaGreat
open Go Go.Sep Go.Pt
attribute [local irreducible] CallT
theorem LQn.sl {q : Qn} {v : AV} {G : Heap} {D : List Nat} (h : LQn q v G D) : ∃ a b c d, v = .agg [I q.prog.wide, I q.prog.vars, .sl a 2 0 q.prog.start.length, .sl b 2 0 q.prog.cmds.length, .sl c 1 0 q.asks.length, .sl d 2 0 q.say.length] := by
  obtain ⟨x, y, z, u, D1, D2, D3, rfl, rfl, h1, h2, h3⟩ := h
  obtain ⟨qx, qy, e⟩ : ∃ qx qy, x = .sl qx 2 0 q.prog.start.length ∧ y = .sl qy 2 0 q.prog.cmds.length := by
    obtain ⟨x', y', E1, E2, e, _, g1, g2⟩ := h1
    injection e with e
    simp only [List.cons.injEq, true_and, and_true] at e
    obtain ⟨rfl, rfl⟩ := e
    obtain ⟨qx, rfl⟩ := LRow.sl g1
    obtain ⟨qy, rfl⟩ := LRow.sl g2
    exact ⟨qx, qy, rfl, rfl⟩
  obtain ⟨rfl, rfl⟩ := e
  obtain ⟨qz, rfl⟩ := LRow.sl h2
  obtain ⟨qu, rfl⟩ := LRow.sl h3
  exact ⟨qx, qy, qz, qu, rfl⟩
theorem LQn.eq {q : Qn} {v : AV} {G : Heap} {D : List Nat} (h : LQn q v G D) (hD : D.Nodup) (hs : smQ q) {K : AV → Heap → Prop} (k : K (B true) G) : CallT Tryz.prog 12 [v, aQ q] G K := by
  obtain ⟨G1, w1, _⟩ := h.wk hD (fun v => .tup [v, aQ q]) (fun h => .tup (.cons h (.cons (.same _) .nil)))
  exact Pu.thaw (eqQuestion_spec q hs) (.bool _) w1 k
theorem wkQII {q : Qn} {a b : List Int} {v : AV} {D : List Nat} {q1 q2 : Nat} {G : Heap} (h1 : LQn q v G D) (hD : D.Nodup) (hq1 : G q1 = some (cP fI a)) (hq2 : G q2 = some (cP fI b)) (d1 : q1 ∉ D) (d2 : q2 ∉ D) (d3 : q1 ≠ q2) :
    ∃ G', Wk (.tup [v, rowP q1 a, rowP q2 b]) G (.tup [aQ q, Is a, Is b]) G' := by
  obtain ⟨G1, w1, f1⟩ := h1.wk hD (fun v => .tup [v, rowP q1 a, rowP q2 b]) (fun h => .tup (.cons h (.cons (.same _) (.cons (.same _) .nil))))
  have w2 := Wk.frz (v := .tup [aQ q, rowP q1 a, rowP q2 b]) (v' := .tup [aQ q, Is a, rowP q2 b]) (H := G1) (r := q1) (sz := 1) (es := a.map fun n => [fI n]) (by omega) (by rw [flat_P, f1 q1 d1]; exact hq1) (szP _ _) (.tup (.cons (.same _) (.cons frz_row (.cons (.same _) .nil))))
  have w3 := Wk.frz (v := .tup [aQ q, Is a, rowP q2 b]) (v' := .tup [aQ q, Is a, Is b]) (H := G1.del q1) (r := q2) (sz := 1) (es := b.map fun n => [fI n]) (by omega) (by rw [flat_P, Heap.del_other (Ne.symm d3), f1 q2 d2]; exact hq2) (szP _ _) (.tup (.cons (.same _) (.cons (.same _) (.cons frz_row .nil))))
  exact ⟨_, .trans w1 (.trans w2 w3)⟩
theorem eqIrw {q : Nat} {xs : List Int} {G : Heap} (hq : G q = some (cP fI xs)) (hl : xs.length ≤ 1048576) {K : AV → Heap → Prop} (h : K (B true) G) : CallT Tryz.prog 18 [rowP q xs, Is xs] G K :=
  Pu.thaw (eqIntS_spec xs hl) (.bool _) (Wk.frz (r := q) (sz := 1) (es := xs.map fun n => [fI n]) (v' := .tup [vP fI xs, Is xs]) (by omega) (by rw [flat_P]; exact hq) (szP _ _) (.tup (.cons frz_row (.cons (.same _) .nil)))) h
theorem rw_len {q : Qn} {st lp : List Int} : (rwS q st lp).length ≤ 24 ∧ (rwL q st lp).length ≤ 24 := by
  unfold rwS rwL
  by_cases h : rwOk q st lp = true
  · rw [if_pos h, if_pos h]
    simp only [rwOk, goodL, Bool.and_eq_true, decide_eq_true_eq] at h
    exact ⟨h.2.1.1, h.2.1.2.2⟩
  · rw [if_neg h, if_neg h]; simp
set_option maxRecDepth 20000 in
set_option maxHeartbeats 1000000 in
theorem FnExactRunWord_true {q : Qn} {a b : List Int} (hok : okQ q) (hn : nQ q) (o1 : ok a.length) (o2 : ok b.length) : Pu Tryz.prog 6 [aQ q, Is a, Is b] (B true) := by
  refine Pu.of fun H => ?_
  refine W6_ok ?_; simp (maxSteps := 1000000) (disch := first | assumption | (apply ν6; assumption)) only [W6, vz, vu, vv, eqS, eF_, ↓c1_, ↓c2_, tabs, reduceCtorEq, ι5, ↓reduceIte, ν1, ν2, ν3, ν4, ν5, ι1, ι2, ι3, ι4]
  intro r hr
  have st := (St.nil H).cell hr (cQ q)
  generalize H.set r [I q.prog.wide, I q.prog.vars, Ns q.prog.start, Cms q.prog.cmds, Nss q.asks, Ds q.say] = G0 at st ⊢
  (try simp (maxSteps := 1000000) (disch := first | assumption | (apply ν6; assumption)) only [vz, vu, vv, eqS, eF_, ↓c1_, ↓c2_, tabs, reduceCtorEq, ι5, ↓reduceIte, ν1, ν2, ν3, ν4, ν5, ι1, ι2, ι3, ι4, load_at (st.get 0 rfl)])
  refine ⟨fun _ => st.le, fun c1 => ⟨fun _ => st.le, fun c2 => ?_⟩⟩
  have hal : a.length ≤ 1048576 := by omega
  have hbl : b.length ≤ 1048576 := by omega
  refine Pu.use (szQuestion_spec q 1048576 (by omega) (by omega) hok) ?_
  (try simp (maxSteps := 1000000) (disch := first | assumption | (apply ν6; assumption)) only [vz, vu, vv, eqS, eF_, ↓c1_, ↓c2_, tabs, reduceCtorEq, ι5, ↓reduceIte, ν1, ν2, ν3, ν4, ν5, ι1, ι2, ι3, ι4, load_at (st.get 0 rfl)])
  refine ⟨fun _ => st.le, fun h1 => ?_⟩
  obtain ⟨t1, e1⟩ := szR_nonneg h1
  have hsm := smQ_of_tot t1
  have hv := vQ_of hsm hn
  refine Pu.use (toQuestion_spec q hsm) ?_
  refine Pu.use (toIntS_spec a hal) ?_
  refine Pu.use (toIntS_spec b hbl) ?_
  refine Pu.use (RunWord_ref q hv a b hal hbl) ?_
  have hres := rw_len (q := q) (st := a) (lp := b)
  have hI : ∀ {H : Heap} {K : AV → Heap → Prop}, (∀ v G D, RL (rwS q a b) (rwL q a b) v G D → New H G D → K (.tup [v, B (rwOk q a b)]) G) → CallT Tryz.prog 20 [aQ q, Is a, Is b] H K := RunWord_impl q hv a b hal hbl
  generalize rwS q a b = s at hres hI
  generalize rwL q a b = l at hres hI
  generalize rwOk q a b = ok at hI
  obtain ⟨hs24, hl24⟩ := hres
  (try simp (maxSteps := 1000000) (disch := first | assumption | (apply ν6; assumption)) only [vz, vu, vv, eqS, eF_, ↓c1_, ↓c2_, tabs, reduceCtorEq, ι5, ↓reduceIte, ν1, ν2, ν3, ν4, ν5, ι1, ι2, ι3, ι4])
  intro w hw
  replace st := st.cell hw [Is s, Is l]
  (try simp (maxSteps := 1000000) (disch := first | assumption | (apply ν6; assumption)) only [vz, vu, vv, eqS, eF_, ↓c1_, ↓c2_, tabs, reduceCtorEq, ι5, ↓reduceIte, ν1, ν2, ν3, ν4, ν5, ι1, ι2, ι3, ι4, load_at (st.get 1 rfl)])
  generalize G0.set w [Is s, Is l] = G01 at st ⊢
  refine toQuestion_live q hsm fun v G1 D1 hP hn1 => ?_
  replace st := st.push (tQn q v D1) hn1 hP
  obtain ⟨qa, qb, qc, qd, rfl⟩ := hP.sl
  clear hP hn1
  (try simp (maxSteps := 1000000) (disch := first | assumption | (apply ν6; assumption)) only [vz, vu, vv, eqS, eF_, ↓c1_, ↓c2_, tabs, reduceCtorEq, ι5, ↓reduceIte, ν1, ν2, ν3, ν4, ν5, ι1, ι2, ι3, ι4])
  intro z hz
  replace st := st.cell hz [I q.prog.wide, I q.prog.vars, .sl qa 2 0 q.prog.start.length, .sl qb 2 0 q.prog.cmds.length, .sl qc 1 0 q.asks.length, .sl qd 2 0 q.say.length]
  (try simp (maxSteps := 1000000) (disch := first | assumption | (apply ν6; assumption)) only [vz, vu, vv, eqS, eF_, ↓c1_, ↓c2_, tabs, reduceCtorEq, ι5, ↓reduceIte, ν1, ν2, ν3, ν4, ν5, ι1, ι2, ι3, ι4])
  generalize G1.set z [I q.prog.wide, I q.prog.vars, .sl qa 2 0 q.prog.start.length, .sl qb 2 0 q.prog.cmds.length, .sl qc 1 0 q.asks.length, .sl qd 2 0 q.say.length] = G2 at st ⊢
  refine toIntS_live a hal fun v2 G5 D5 hS hn5 => ?_
  obtain ⟨q1, rfl, hq1, rfl⟩ := LI_row hS
  replace st := st.push (cellT q1 (cP fI a)) hn5 (by rw [← cells_P]; exact hq1)
  clear hS hn5 hq1
  (try simp (maxSteps := 1000000) (disch := first | assumption | (apply ν6; assumption)) only [vz, vu, vv, eqS, eF_, ↓c1_, ↓c2_, tabs, reduceCtorEq, ι5, ↓reduceIte, ν1, ν2, ν3, ν4, ν5, ι1, ι2, ι3, ι4])
  refine toIntS_live b hbl fun v2 G6 D6 hS hn5 => ?_
  obtain ⟨q2, rfl, hq2, rfl⟩ := LI_row hS
  replace st := st.push (cellT q2 (cP fI b)) hn5 (by rw [← cells_P]; exact hq2)
  clear hS hn5 hq2
  (try simp (maxSteps := 1000000) (disch := first | assumption | (apply ν6; assumption)) only [vz, vu, vv, eqS, eF_, ↓c1_, ↓c2_, tabs, reduceCtorEq, ι5, ↓reduceIte, ν1, ν2, ν3, ν4, ν5, ι1, ι2, ι3, ι4, load_at (st.get 2 rfl)])
  have d1 : q1 ∉ D1 := fun hm => st.disjI 1 3 rfl rfl (by omega) q1 (List.mem_singleton.2 rfl) hm
  have d2 : q2 ∉ D1 := fun hm => st.disjI 0 3 rfl rfl (by omega) q2 (List.mem_singleton.2 rfl) hm
  have d3 : q1 ≠ q2 := fun e => st.disjI 0 1 rfl rfl (by omega) q2 (List.mem_singleton.2 rfl) (List.mem_singleton.2 e.symm)
  obtain ⟨Gw, hw⟩ := wkQII (st.get 3 rfl) (st.ndT 3 rfl) (st.get 1 rfl) (st.get 0 rfl) d1 d2 d3
  clear d1 d2 d3
  refine thawU (RLt.res s l ok) (fun hK => hI fun v G D h1 h2 => hK _ _ _ ⟨v, rfl, h1⟩ h2) hw fun rr G7 D7 hr7 hn7 => ?_
  obtain ⟨vr, rfl, hrs⟩ := hr7
  obtain ⟨xr, yr, rfl, hxr, hyr⟩ := hrs.ag
  replace st := st.push (tRL s l (.agg [xr, yr]) D7) hn7 hrs
  clear hrs hn7 hw
  (try simp (maxSteps := 1000000) (disch := first | assumption | (apply ν6; assumption)) only [vz, vu, vv, eqS, eF_, ↓c1_, ↓c2_, tabs, reduceCtorEq, ι5, ↓reduceIte, ν1, ν2, ν3, ν4, ν5, ι1, ι2, ι3, ι4])
  intro u hu
  replace st := st.cell hu [xr, yr]
  (try simp (maxSteps := 1000000) (disch := first | assumption | (apply ν6; assumption)) only [vz, vu, vv, eqS, eF_, ↓c1_, ↓c2_, tabs, reduceCtorEq, ι5, ↓reduceIte, ν1, ν2, ν3, ν4, ν5, ι1, ι2, ι3, ι4, load_at (st.get 6 rfl)])
  generalize G7.set u [xr, yr] = G8 at st ⊢
  refine ⟨by rw [hxr, hyr]; rfl, ?_⟩
  refine RL.eq (st.get 1 rfl) (by omega) (by omega) ?_
  (try simp (maxSteps := 1000000) (disch := first | assumption | (apply ν6; assumption)) only [vz, vu, vv, eqS, eF_, ↓c1_, ↓c2_, tabs, reduceCtorEq, ι5, ↓reduceIte, ν1, ν2, ν3, ν4, ν5, ι1, ι2, ι3, ι4, load_at (st.get 4 rfl), load_at (st.get 7 rfl)])
  refine Pu.use (toQuestion_spec q hsm) ?_
  (try simp (maxSteps := 1000000) (disch := first | assumption | (apply ν6; assumption)) only [vz, vu, vv, eqS, eF_, ↓c1_, ↓c2_, tabs, reduceCtorEq, ι5, ↓reduceIte, ν1, ν2, ν3, ν4, ν5, ι1, ι2, ι3, ι4, load_at (st.get 4 rfl)])
  refine LQn.eq (st.get 5 rfl) (st.ndT 5 rfl) hsm ?_
  (try simp (maxSteps := 1000000) (disch := first | assumption | (apply ν6; assumption)) only [vz, vu, vv, eqS, eF_, ↓c1_, ↓c2_, tabs, reduceCtorEq, ι5, ↓reduceIte, ν1, ν2, ν3, ν4, ν5, ι1, ι2, ι3, ι4])
  refine Pu.use (toIntS_spec a hal) ?_
  refine eqIrw (st.get 3 rfl) hal ?_
  (try simp (maxSteps := 1000000) (disch := first | assumption | (apply ν6; assumption)) only [vz, vu, vv, eqS, eF_, ↓c1_, ↓c2_, tabs, reduceCtorEq, ι5, ↓reduceIte, ν1, ν2, ν3, ν4, ν5, ι1, ι2, ι3, ι4])
  refine Pu.use (toIntS_spec b hbl) ?_
  refine eqIrw (st.get 2 rfl) hbl ?_
  (try simp (maxSteps := 1000000) (disch := first | assumption | (apply ν6; assumption)) only [vz, vu, vv, eqS, eF_, ↓c1_, ↓c2_, tabs, reduceCtorEq, ι5, ↓reduceIte, ν1, ν2, ν3, ν4, ν5, ι1, ι2, ι3, ι4, load_at (st.get 4 rfl)])
  refine markQuestion_live q (by omega) (st.get 5 rfl) (st.ndT 5 rfl) (by omega) (by omega) fun k' G9 hfr hk1 hk2 => ?_
  replace st := st.lose 5 rfl hfr
  clear hfr
  simp only [List.eraseIdx_cons_succ, List.eraseIdx_cons_zero] at st
  (try simp (maxSteps := 1000000) (disch := first | assumption | (apply ν6; assumption)) only [vz, vu, vv, eqS, eF_, ↓c1_, ↓c2_, tabs, reduceCtorEq, ι5, ↓reduceIte, ν1, ν2, ν3, ν4, ν5, ι1, ι2, ι3, ι4])
  refine markIntS_live a hal (by omega) (by omega) (by rw [cells_P]; exact st.get 3 rfl) ?_
  replace st := st.put 3 rfl (cells ((marked k' a.length).map eI))
  generalize G9.set q1 (cells ((marked k' a.length).map eI)) = G10 at st ⊢
  (try simp (maxSteps := 1000000) (disch := first | assumption | (apply ν6; assumption)) only [vz, vu, vv, eqS, eF_, ↓c1_, ↓c2_, tabs, reduceCtorEq, ι5, ↓reduceIte, ν1, ν2, ν3, ν4, ν5, ι1, ι2, ι3, ι4])
  refine markIntS_live b hbl (by omega) (by omega) (by rw [cells_P]; exact st.get 2 rfl) ?_
  replace st := st.put 2 rfl (cells ((marked (k' + a.length) b.length).map eI))
  generalize G10.set q2 (cells ((marked (k' + a.length) b.length).map eI)) = G11 at st ⊢
  (try simp (maxSteps := 1000000) (disch := first | assumption | (apply ν6; assumption)) only [vz, vu, vv, eqS, eF_, ↓c1_, ↓c2_, tabs, reduceCtorEq, ι5, ↓reduceIte, ν1, ν2, ν3, ν4, ν5, ι1, ι2, ι3, ι4, load_at (st.get 0 rfl), load_at (st.get 5 rfl)])
  refine ⟨fun h => by omega, fun _ => ?_⟩
  refine RL.eq (st.get 1 rfl) (by omega) (by omega) ?_
  (try simp (maxSteps := 1000000) (disch := first | assumption | (apply ν6; assumption)) only [vz, vu, vv, eqS, eF_, ↓c1_, ↓c2_, tabs, reduceCtorEq, ι5, ↓reduceIte, ν1, ν2, ν3, ν4, ν5, ι1, ι2, ι3, ι4, load_at (st.get 0 rfl)])
  refine RL.mark (st.get 1 rfl) (by omega) (by omega) (by omega) (by omega) fun G12 hrs hfr => ?_
  replace st := st.upd 1 rfl (tRL (marked 1 s.length) (marked (1 + s.length) l.length) (.agg [xr, yr]) D7) rfl hfr hrs
  clear hfr hrs
  (try simp (maxSteps := 1000000) (disch := first | assumption | (apply ν6; assumption)) only [vz, vu, vv, eqS, eF_, ↓c1_, ↓c2_, tabs, reduceCtorEq, ι5, ↓reduceIte, ν1, ν2, ν3, ν4, ν5, ι1, ι2, ι3, ι4, load_at (st.get 0 rfl)])
  refine RL.held (st.get 1 rfl) (by omega) (by omega) ?_
  (try simp (maxSteps := 1000000) (disch := first | assumption | (apply ν6; assumption)) only [vz, vu, vv, eqS, eF_, ↓c1_, ↓c2_, tabs, reduceCtorEq, ι5, ↓reduceIte, ν1, ν2, ν3, ν4, ν5, ι1, ι2, ι3, ι4, load_at (st.get 6 rfl)])
  refine ⟨fun h => by omega, fun _ => ?_⟩
  refine Pu.use (toQuestion_spec q hsm) ?_
  refine Pu.use (toIntS_spec a hal) ?_
  refine Pu.use (toIntS_spec b hbl) ?_
  refine hI fun v G13 E hrs hn13 => ?_
  obtain ⟨xe, ye, rfl, hxe, hye⟩ := hrs.ag
  replace st := st.push (tRL s l (.agg [xe, ye]) E) hn13 hrs
  clear hrs hn13
  (try simp (maxSteps := 1000000) (disch := first | assumption | (apply ν6; assumption)) only [vz, vu, vv, eqS, eF_, ↓c1_, ↓c2_, tabs, reduceCtorEq, ι5, ↓reduceIte, ν1, ν2, ν3, ν4, ν5, ι1, ι2, ι3, ι4])
  intro u2 hu2
  replace st := st.cell hu2 [xe, ye]
  (try simp (maxSteps := 1000000) (disch := first | assumption | (apply ν6; assumption)) only [vz, vu, vv, eqS, eF_, ↓c1_, ↓c2_, tabs, reduceCtorEq, ι5, ↓reduceIte, ν1, ν2, ν3, ν4, ν5, ι1, ι2, ι3, ι4, load_at (st.get 7 rfl)])
  generalize G13.set u2 [xe, ye] = G14 at st ⊢
  refine ⟨by rw [hxe, hye]; rfl, ?_⟩
  refine RL.eq (st.get 1 rfl) (by omega) (by omega) ?_
  (try simp (maxSteps := 1000000) (disch := first | assumption | (apply ν6; assumption)) only [vz, vu, vv, eqS, eF_, ↓c1_, ↓c2_, tabs, reduceCtorEq, ι5, ↓reduceIte, ν1, ν2, ν3, ν4, ν5, ι1, ι2, ι3, ι4, load_at (st.get 2 rfl)])
  refine RL.held (st.get 3 rfl) (by omega) (by omega) ?_
  (try simp (maxSteps := 1000000) (disch := first | assumption | (apply ν6; assumption)) only [vz, vu, vv, eqS, eF_, ↓c1_, ↓c2_, tabs, reduceCtorEq, ι5, ↓reduceIte, ν1, ν2, ν3, ν4, ν5, ι1, ι2, ι3, ι4])
  exact ⟨fun h => by omega, fun _ => st.le⟩
end Go.Proofs.YtgcklgeifdefhaaGreat
namespace Go.Proofs.YtgcklgeifdefhaaGreat.runWord
open Go Go.Sep Go.ChangeShapes Go.WideShapes Go.ChangeAt Go.RowKit
theorem own : ownKnob Tryz.prog.godebug = none := by kernel_rfl
theorem told (avs : List AV) (h : ArgsT Tryz.prog [29, 46, 46] avs) : CallT Tryz.prog 6 avs (fun _ => none) (fun v _ => v = .p (.bool true)) := by
  obtain ⟨a, b, rfl, h1, h⟩ := args_cons h
  obtain ⟨b, c, rfl, h2, h⟩ := args_cons h
  obtain ⟨c, d, rfl, h3, h⟩ := args_cons h
  cases args_nil h
  obtain ⟨x1, hx1, hn1, rfl⟩ := arg_question h1
  obtain ⟨x2, hx2, rfl⟩ := arg_ints h2
  obtain ⟨x3, hx3, rfl⟩ := arg_ints h3
  exact (FnExactRunWord_true hx1 hn1 hx2 hx3).use rfl
set_option maxRecDepth 100000 in
theorem lifted (os : Os) (started : os.Started) (H : Type) (enc : TypeId × Value → H) :
    ReturnsInHanded {} Tryz.checked os 6 .any (Rows.fnExactRunWordSpec.pre6 enc Tryz.prog Tryz.f6 Rows.fnExactRunWordRow.domain false) (Rows.fnExactRunWordSpec.post enc Tryz.prog Tryz.f6 false true false false) := by
  refine returnsInHanded_of_change (C := Tryz.checked) own started (by kernel_rfl) Tryz.func6
    (ChangeSpec.witness6 (enc := enc) (C := Tryz.checked) false ⟨#[], #[.agg #[.int .i64 0, .int .i64 0, .slice none 0 0, .slice none 0 0, .slice none 0 0, .slice none 0 0], .slice none 0 0, .slice none 0 0], []⟩ 12 (by kernel_rfl) (by kernel_rfl) (by kernel_rfl) (by kernel_rfl)) ?_
  intro W base args ds gs before hval hW _ _
  refine row_of_true (n := 12) (tb := 4) (by kernel_rfl) rfl (by kernel_rfl) (by kernel_rfl) ?_ ?_ ?_ hval hW
  · have : (Tryz.f6.params.toList.all fun t => Tryz.prog.readableRec t && decide (t < Tryz.prog.types.size) && plainB Tryz.prog 12 t) = true := by kernel_rfl
    intro t ht
    have := List.all_eq_true.1 this t ht
    rw [Bool.and_eq_true, Bool.and_eq_true, decide_eq_true_eq] at this
    exact ⟨this.1.1, this.1.2, this.2⟩
  · intro ds hd
    rw [Tryz.params6] at hd
    match ds, hd with
    | [a, b, c], _ => rfl
  · rw [Tryz.params6]
    exact told
theorem over : Rows.fnExactRunWordRow.holds Tryz.pinned (OpenSpec.ofChange Rows.fnExactRunWordSpec) :=
  OpenClaim.holds_of_wide 6 Tryz.f6 rfl rfl rfl rfl rfl rfl rfl ⟨rfl, rfl, rfl, rfl, rfl⟩ rfl rfl rfl rfl rfl (by kernel_rfl) Tryz.func6 (by kernel_rfl)
    (of_decide_eq_true (by kernel_rfl)) (by unfold Func.isWrapper; first | (rw [if_pos (by decide +kernel)]; kernel_rfl) | (rw [if_neg (by decide +kernel)]; exact ⟨rfl, rfl⟩))
    (fun os started H enc _ => lifted os started H enc)
theorem proved : Rows.FnExactRunWordSaid :=
  over
#print axioms proved
end Go.Proofs.YtgcklgeifdefhaaGreat.runWord
