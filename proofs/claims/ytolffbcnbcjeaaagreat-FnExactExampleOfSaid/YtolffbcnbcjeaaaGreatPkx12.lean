/- Texts laid together: Tp3 Ql3 Tp4 Tp5 Mf1 Mf2 Mf3 Mf4 Mf5. -/
import Derived.Test.YtolffbcnbcjeaaaGreatPkx11
set_option linter.unusedVariables false
set_option linter.unusedSimpArgs false
open Go.Sep.AV renaming any → Q_
open Nat renaming reduceAdd→ν1,reduceLeDiff→ν2,reduceLT→ν3,reduceMul→ν4,reduceSub→ν5
open Int renaming reduceToNat→ι1,reduceSub→ι2,reduceAdd→ι3,reduceNeg→ι4
open Array renaming toList→ι5
open Ne renaming symm→ν6
open List renaming forall_mem_cons→ν7
namespace Go.Proofs.YtolffbcnbcjeaaaGreat
open Go Go.Sep Go.Pt
attribute [local irreducible] CallT
noncomputable def wS (a:Au):List Nat:=laS (rwF (gA a)) (gA a).length (nN a.first) (goN a.goals)
noncomputable def wL (a:Au):List Nat:=laL (rwF (gA a)) (gA a).length (nN a.first) (goN a.goals)
def wyF (S L:List Nat):List Nat:=S++L++[L.getD 0 0]
def ltsF (a:Au) (wy:List Nat) (n:Nat):List Int:=(List.range n).map fun i=>ltF a (wy.getD i 0) (wy.getD (i+1) 0)
theorem ltsF_len (a:Au) (wy:List Nat) (n:Nat):(ltsF a wy n).length=n:=by simp [ltsF]
theorem ltsF_succ (a:Au) (wy:List Nat) (n:Nat):ltsF a wy (n+1)=ltsF a wy n++[ltF a (wy.getD n 0) (wy.getD (n+1) 0)]:=by simp [ltsF,List.range_succ]
structure WayA (a:Au) (S L:List Nat):Prop where
 ne:0 < L.length
 sz:S.length≤100∧L.length≤2000
 way:∀i,i < S.length+L.length→a.edges.any (ltP (((wyF S L).getD i 0:Nat):Int) (((wyF S L).getD (i+1) 0:Nat):Int))=true
theorem arc_edge {a:Au} (fa:GoodF a) {u w:Nat} (h:w∈rwF (gA a) u):a.edges.any (ltP (u:Int) (w:Int))=true:=by
 have hu:u < (nextG a).length:=by
  rcases Nat.lt_or_ge u (gA a).length with h2 | h2
  ·simpa [gA] using h2
  ·rw [rwF_out (by omega)] at h;cases h
 have e:rwF (gA a) u=nN (sc (outN a a.edges.length u)):=by
  have hu2:u < a.states.toNat:=by rw [nextG_len] at hu;exact hu
  simp [rwF,gA,nextG,List.getD,hu2]
 rw [e] at h
 obtain ⟨x,hx,rfl⟩:=List.mem_map.1 h
 rw [sc_mem] at hx
 simp only [outN,List.mem_map,List.mem_filter,List.take_length,decide_eq_true_eq] at hx
 obtain ⟨e,⟨he,h1⟩,rfl⟩:=hx
 have:=edIn_iff.1 (fa.ei e he)
 refine List.any_eq_true.2 ⟨e,he,?_⟩
 simp only [ltP,Bool.and_eq_true,decide_eq_true_eq]
 omega
theorem wayA_of {a:Au} (h:AutoN a) (hf:fairA a=true):WayA a (wS a) (wL a):=by
 obtain ⟨h1,h2,h3⟩:=h.gob
 have hst:=h.f.st
 have hl:=gA_len a
 have hg:=gA_B h.f
 have hm:¬meetF (rwF (gA a)) (gA a).length (nN a.first) (goN a.goals) < 0:=by
  simpa [fairA,laB] using hf
 have hfi:∀v∈nN a.first,v < (gA a).length:=by rw [hl];exact nN_lt h.fr
 obtain ⟨m,em,hml,hfair,hreach⟩:=meetF_pos hg.gr hfi hm
 obtain ⟨FL,hsl2,hrl2,_,_⟩:=fair_lasso (b:=96) hg.gr hml hfair (fun l hl=>⟨h1.lt l hl,h2 l hl⟩) hreach
 have eS:wS a=stemF (rwF (gA a)) (gA a).length m (nN a.first):=by rw [wS,laS,if_neg hm,em];rfl
 have eL:wL a=ringF (rwF (gA a)) (gA a).length m (goN a.goals):=by rw [wL,laL,if_neg hm,em];rfl
 rw [← eS,← eL] at FL
 rw [← eS] at hsl2
 rw [← eL] at hrl2
 have hgl:(goN a.goals).length≤6:=by have:=h.f.gl;simpa [goN] using this
 refine ⟨FL.ne,⟨by omega,?_⟩,fun i hi=>arc_edge h.f ?_⟩
 ·have:(goN a.goals).length*((gA a).length+96)≤6*192:=Nat.mul_le_mul hgl (by omega)
  omega
 ·exact FL.way i (by simp only [List.length_append,List.length_cons,List.length_nil];omega)
theorem wyF_len (S L:List Nat):(wyF S L).length=S.length+L.length+1:=by simp [wyF];omega
noncomputable def woB (a:Au):Bool:=goodA a && (fairA a && goodL (ltsF a (wyF (wS a) (wL a)) (wS a).length) ((ltsF a (wyF (wS a) (wL a)) ((wS a).length+(wL a).length)).drop (wS a).length))
noncomputable def woS (a:Au):List Int:=if woB a then ltsF a (wyF (wS a) (wL a)) (wS a).length else []
noncomputable def woL (a:Au):List Int:=if woB a then (ltsF a (wyF (wS a) (wL a)) ((wS a).length+(wL a).length)).drop (wS a).length else []
theorem ltsF_take (a:Au) (wy:List Nat) {n k:Nat} (h:k≤n):(ltsF a wy n).take k=ltsF a wy k:=by
 rw [ltsF,ltsF,← List.map_take,List.take_range]
 congr 2;omega
theorem wk_la {H G:Heap} {Ts:List Th} {z1 z2:Nat} {x y:AV} {l m:List Int} {D1 D2:List Nat} (s:St H Ts G) (i j:Nat) (hi:Ts[i]?=some (riT z1 x l D1)) (hj:Ts[j]?=some (riT z2 y m D2)) (hij:i≠j) :
  ∃G',Wk (.tup [.agg [x,y]]) G (.tup [aL2 l m]) G'∧∀w,w∉D1→w∉D2→G' w=G w:=by
 obtain ⟨x',hx,lx⟩:=(s.get i hi:RZ (LPl eI) 1 z1 x l G D1).row
 obtain ⟨y',hy,ly⟩:=(s.get j hj:RZ (LPl eI) 1 z2 y m G D2).row
 obtain ⟨q1,c1,E1,rfl,hq1,ll1,rfl⟩:=lx
 obtain ⟨q2,c2,E2,rfl,hq2,ll2,rfl⟩:=ly
 obtain ⟨rfl,rfl⟩:=LL.plain' ll1
 obtain ⟨rfl,rfl⟩:=LL.plain' ll2
 have hne:q2≠q1:=fun e=>s.disjI i j hi hj hij q1 (by simp [rzT]) (by simp [rzT,e])
 have f1:FrzR q1 1 (l.map eI) (.tup [.agg [.sl q1 1 0 l.length,.sl q2 1 0 m.length]]) (.tup [.agg [Is l,.sl q2 1 0 m.length]]):=by
  have:FrzR q1 1 (l.map eI) (.sl q1 1 0 (l.map eI).length) (.p (.sl (l.map eI))):=.here
  rw [List.length_map] at this
  exact .tup (.cons (.agg (.cons this (.cons (.same _) .nil))) .nil)
 have f2:FrzR q2 1 (m.map eI) (.tup [.agg [Is l,.sl q2 1 0 m.length]]) (.tup [.agg [Is l,Is m]]):=by
  have:FrzR q2 1 (m.map eI) (.sl q2 1 0 (m.map eI).length) (.p (.sl (m.map eI))):=.here
  rw [List.length_map] at this
  exact .tup (.cons (.agg (.cons (.same _) (.cons this .nil))) .nil)
 have w1:Wk (.tup [.agg [x,y]]) G (.tup [.agg [.sl q1 1 0 l.length,.sl q2 1 0 m.length]]) G:=.val (wk_tup ⟨wk_agg ⟨hx,hy,trivial⟩,trivial⟩)
 have w2:=Wk.frz (sz:=1) (by omega) hq1 (sized_map (f:=eI) (fun _=>rfl) l) f1
 have w3:=Wk.frz (H:=G.del q1) (sz:=1) (by omega) (by rw [Heap.del_other hne];exact hq2) (sized_map (f:=eI) (fun _=>rfl) m) f2
 refine ⟨_,.trans w1 (.trans w2 w3),fun w h1 h2=>?_⟩
 rw [Heap.del_other (fun e=>h2 (by simp [e])),Heap.del_other (fun e=>h1 (by simp [e]))]
theorem take_grow {l:List Int} {c:Int} {s:Nat} (h:l.length < s):(l++[c]).take s=l.take s++[c]:=by
 rw [List.take_of_length_le (by simp;omega),List.take_of_length_le (by omega)]
theorem drop_grow {l:List Int} {c:Int} {s:Nat} (h:l.length < s):(l++[c]).drop s=l.drop s:=by
 rw [List.drop_eq_nil_of_le (by simp;omega),List.drop_eq_nil_of_le (by omega)]
theorem WordOf_ref (a:Au) (sa:smAu a):Pu Tryz.prog 8 [aAu a] (.tup [aL2 (woS a) (woL a),B (woB a)]):=by
 refine ⟨fun H=>CallT.fin ?_⟩
 refine CallT.ghost W8_hb fun z1 hz1=>?_
 refine CallT.ghost W8_hb fun z2 hz2=>?_
 have st:=lent (LPl.local eI) (LPl.has eI) 1 (lent (LPl.local eI) (LPl.has eI) 1 (((St.nil H).cell hz1 []).cell hz2 []) 1 rfl) 0 rfl
 generalize (H.set z1 []).set z2 []=G0 at st ⊢
 clear hz1 hz2
 refine W8_ok ?_;simp (maxSteps:=1000000) (disch:=first | assumption | (apply ν6;assumption)) only [W8,vz,vu,vv,eqS,eF_,↓c1_,↓c2_,tabs,reduceCtorEq,ι5,↓reduceIte,ν1,ν2,ν3,ν4,ν5,ι1,ι2,ι3,ι4]
 intro r hr r2 n2r hr2
 replace st:=(st.cell hr [I a.states,Is a.first,Es a.edges,Ls a.goals]).cell (r:=r2) (by rw [Heap.set_other n2r];exact hr2) [.p .nil,.p .nil]
 generalize (G0.set r [I a.states,Is a.first,Es a.edges,Ls a.goals]).set r2 [.p .nil,.p .nil]=G at st ⊢
 clear hr hr2 n2r G0
 have no:∀G',Heap.le H G'→woB a=false→wkK (fun r H'=>r=AV.tup [aL2 (woS a) (woL a),B (woB a)]∧H'=H) (.tup [.agg [.p .nil,.p .nil],.p (.bool false)]) G':=fun G' hle hb=>by
  rw [woS,woL,hb]
  exact ⟨_,_,.trans (.val (v':=.tup [aL2 [] [],B false]) (wk_tup ⟨wk_agg ⟨.nil,.nil,trivial⟩,.refl _,trivial⟩)) (.forget hle),rfl,rfl⟩
 (try simp (maxSteps:=1000000) (disch:=first | assumption | (apply ν6;assumption)) only [vz,vu,vv,eqS,eF_,↓c1_,↓c2_,tabs,reduceCtorEq,ι5,↓reduceIte,ν1,ν2,ν3,ν4,ν5,ι1,ι2,ι3,ι4,lA_ (st.get 1 rfl)])
 refine Pu.use (GoodAuto_spec a sa) ?_
 cases ga:goodA a
 ·(try simp (maxSteps:=1000000) (disch:=first | assumption | (apply ν6;assumption)) only [vz,vu,vv,eqS,eF_,↓c1_,↓c2_,tabs,reduceCtorEq,ι5,↓reduceIte,ν1,ν2,ν3,ν4,ν5,ι1,ι2,ι3,ι4,sA_ (st.get 0 rfl)])
  exact no _ (st.put 0 rfl _).le (by rw [woB,ga];rfl)
 ·have hN:=autoN ga
  (try simp (maxSteps:=1000000) (disch:=first | assumption | (apply ν6;assumption)) only [vz,vu,vv,eqS,eF_,↓c1_,↓c2_,tabs,reduceCtorEq,ι5,↓reduceIte,ν1,ν2,ν3,ν4,ν5,ι1,ι2,ι3,ι4,lA_ (st.get 1 rfl)])
  refine Pu.use (l12Graph_spec a hN.f) ?_
  (try simp (maxSteps:=1000000) (disch:=first | assumption | (apply ν6;assumption)) only [vz,vu,vv,eqS,eF_,↓c1_,↓c2_,tabs,reduceCtorEq,ι5,↓reduceIte,ν1,ν2,ν3,ν4,ν5,ι1,ι2,ι3,ι4,lA_ (st.get 1 rfl)])
  refine Pu.use (lasso_A hN) ?_
  have ev:lassoV (rwF (gA a)) (gA a).length (nN a.first) (goN a.goals)=.tup [Is (nI (wS a)),Is (nI (wL a)),B (fairA a)]:=rfl
  rw [ev]
  cases hf:fairA a
  ·(try simp (maxSteps:=1000000) (disch:=first | assumption | (apply ν6;assumption)) only [vz,vu,vv,eqS,eF_,↓c1_,↓c2_,tabs,reduceCtorEq,ι5,↓reduceIte,ν1,ν2,ν3,ν4,ν5,ι1,ι2,ι3,ι4,sA_ (st.get 0 rfl)])
   exact no _ (st.put 0 rfl _).le (by rw [woB,hf,ga];rfl)
  have hw:=wayA_of hN hf
  have hb:woB a=goodL (ltsF a (wyF (wS a) (wL a)) (wS a).length) ((ltsF a (wyF (wS a) (wL a)) ((wS a).length+(wL a).length)).drop (wS a).length):=by rw [woB,ga,hf];rfl
  rw [woS,woL,hb]
  clear no hb
  generalize wS a=S at hw ⊢
  generalize wL a=L at hw ⊢
  have hS:=nL_ S
  have hL:=nL_ L
  have hne:=hw.ne
  obtain ⟨hs1,hs2⟩:=hw.sz
  have hl0:(nI L).getD 0 default=((L.getD 0 0:Nat):Int):=nI_get hne
  have hbn:=buildN_1 (L.getD 0 0)
  (try simp (maxSteps:=1000000) (disch:=first | assumption | (apply ν6;assumption)) only [vz,vu,vv,eqS,eF_,↓c1_,↓c2_,tabs,reduceCtorEq,ι5,↓reduceIte,ν1,ν2,ν3,ν4,ν5,ι1,ι2,ι3,ι4,hL,hl0,hbn,safeV,newV,Int.toNat_zero])
  refine ⟨by omega,by omega,?_⟩
  refine l1Own_row (nI S) (by omega) fun q hq=>?_
  replace st:=st.cell hq (cP fI (nI S))
  generalize G.set q (cP fI (nI S))=G1 at st ⊢
  clear hq
  refine st_appI (ys:=nI L) st 0 rfl (by omega) fun q1 G1 hq1 st=>?_
  intro r1 hr1
  change aP_ _ _ _ _ _ (G1.set r1 (cP fI (nI [L.getD 0 0]))) _
  replace st:=st.cell hr1 (cP fI (nI [L.getD 0 0]))
  generalize G1.set r1 (cP fI (nI [L.getD 0 0]))=G2 at st ⊢
  clear hr1 hq1
  refine st_appL (off:=0) (n:=1) st 1 rfl (st.get 0 rfl) (by simp [nI]) (by rw [List.length_append];omega) fun q2 G3 hq2 st=>?_
  have ew:nI S++nI L++((nI [L.getD 0 0]).drop 0).take 1=nI (wyF S L):=by simp [wyF,nI]
  rw [ew] at st ⊢
  have hwl:=wyF_len S L
  have hwI:=nL_ (wyF S L)
  intro r8 hr8
  replace st:=st.cell hr8 [.p .nil,.p .nil]
  generalize G3.set r8 [.p .nil,.p .nil]=G4 at st ⊢
  clear hr8 hq2
  have hway:=hw.way
  clear ew hw hl0 hbn hL
  generalize wyF S L=wy at st hwl hwI hway ⊢
  have st2:St H [cT_ r8 [.p .nil,.p .nil],cT_ r1 (cP fI (nI [L.getD 0 0])),cT_ q2 (cP fI (nI wy)),cT_ r2 [.p .nil,.p .nil],cT_ r [I a.states,Is a.first,Es a.edges,Ls a.goals],riT z2 (.p .nil) [] [z2],riT z1 (.p .nil) [] [z1]] G4:=st
  clear st
  have hed:=hN.f.ed
  refine L8_0_rule ((0:Nat),(.p .nil:AV),[z1],(.p .nil:AV),[z2],G4) (fun z=>I z.1) (fun z=>z.2.2.2.2.2)
   (fun z=>z.1≤S.length+L.length∧St H [cT_ r8 [z.2.1,z.2.2.2.1],cT_ r1 (cP fI (nI [L.getD 0 0])),cT_ q2 (cP fI (nI wy)),cT_ r2 [.p .nil,.p .nil],cT_ r [I a.states,Is a.first,Es a.edges,Ls a.goals],riT z2 z.2.2.2.1 ((ltsF a wy z.1).drop S.length) z.2.2.2.2.1,riT z1 z.2.1 ((ltsF a wy z.1).take S.length) z.2.2.1] z.2.2.2.2.2) (fun z=>S.length+L.length - z.1)
   ⟨⟨by simp,by simpa [ltsF] using st2⟩,.refl _,Heap.le_refl _⟩ ?_
  clear st2 G4
  rintro ⟨i,x,D1,y,D2,G⟩ ⟨hi,st⟩
  dsimp only at hi st
  have e5:IntKind.i64.wrap ((i:Int)+1)=((i+1:Nat):Int):=by rw [i6_ (by omega) (by omega)];simp
  (try simp (maxSteps:=1000000) (disch:=first | assumption | (apply ν6;assumption)) only [vz,vu,vv,eqS,eF_,↓c1_,↓c2_,tabs,reduceCtorEq,ι5,↓reduceIte,ν1,ν2,ν3,ν4,ν5,ι1,ι2,ι3,ι4,B8_0,hwI,e5])
  refine ⟨fun h1=>?_,fun h1=>?_⟩
  ·have hlt:i < S.length+L.length:=by omega
   have g1:=cI_rd (l:=nI wy) (i:=i) (by omega)
   have g2:=cI_rd (l:=nI wy) (i:=i+1) (by omega)
   rw [nI_get (by omega)] at g1 g2
   have hcl:(cP fI (nI wy)).length=wy.length:=by simp [cP,hwI]
   (try simp (maxSteps:=1000000) (disch:=first | assumption | (apply ν6;assumption)) only [vz,vu,vv,eqS,eF_,↓c1_,↓c2_,tabs,reduceCtorEq,ι5,↓reduceIte,ν1,ν2,ν3,ν4,ν5,ι1,ι2,ι3,ι4,lA_ (st.get 4 rfl),lA_ (st.get 2 rfl),hcl,g1,g2,Int.toNat_natCast])
   repeat refine ⟨by omega,?_⟩
   refine Pu.use (l12Letter_spec a (by omega) _ _) ?_
   have hsu:=ltsF_succ a wy i
   have hlen:=ltsF_len a wy i
   generalize ltF a (wy.getD i 0:Nat) (wy.getD (i+1) 0:Nat)=c at hsu ⊢
   have h8:=st.get 0 rfl
   (try simp (maxSteps:=1000000) (disch:=first | assumption | (apply ν6;assumption)) only [vz,vu,vv,eqS,eF_,↓c1_,↓c2_,tabs,reduceCtorEq,ι5,↓reduceIte,ν1,ν2,ν3,ν4,ν5,ι1,ι2,ι3,ι4,hS])
   refine ⟨fun h2=>?_,fun h2=>?_⟩
   ·have et:(ltsF a wy (i+1)).take S.length=(ltsF a wy i).take S.length++[c]:=by rw [hsu,take_grow (by omega)]
    have ed:(ltsF a wy (i+1)).drop S.length=(ltsF a wy i).drop S.length:=by rw [hsu,drop_grow (by omega)]
    (try simp (maxSteps:=1000000) (disch:=first | assumption | (apply ν6;assumption)) only [vz,vu,vv,eqS,eF_,↓c1_,↓c2_,tabs,reduceCtorEq,ι5,↓reduceIte,ν1,ν2,ν3,ν4,ν5,ι1,ι2,ι3,ι4,lA_ h8])
    refine lit1 tab_22 rfl tab_3 ⟨rfl,rfl⟩ ?_
    refine rz_appI (ys:=[c]) st 6 rfl (by rw [List.length_take];simp only [List.length_cons,List.length_nil];omega) fun q' G' hq' st=>?_
    rw [← et] at st ⊢
    rw [← ed] at st
    obtain ⟨l',hl'⟩:∃l',(ltsF a wy (i+1)).take S.length=l':=⟨_,rfl⟩
    rw [hl'] at st ⊢
    (try simp (maxSteps:=1000000) (disch:=first | assumption | (apply ν6;assumption)) only [vz,vu,vv,eqS,eF_,↓c1_,↓c2_,tabs,reduceCtorEq,ι5,↓reduceIte,ν1,ν2,ν3,ν4,ν5,ι1,ι2,ι3,ι4,sA_ (st.get 0 rfl)])
    replace st:=st.put 0 rfl [rowP q' l',y]
    rw [← hl'] at st
    exact ⟨(i+1,_,_,_,_,_),⟨by simp only;omega,st⟩,by simp only;omega,.refl _,by rw [hl'];exact Heap.le_refl _⟩
   ·have et:(ltsF a wy (i+1)).take S.length=(ltsF a wy i).take S.length:=by rw [hsu,List.take_append_of_le_length (by omega)]
    have ed:(ltsF a wy (i+1)).drop S.length=(ltsF a wy i).drop S.length++[c]:=by rw [hsu,List.drop_append_of_le_length (by omega)]
    (try simp (maxSteps:=1000000) (disch:=first | assumption | (apply ν6;assumption)) only [vz,vu,vv,eqS,eF_,↓c1_,↓c2_,tabs,reduceCtorEq,ι5,↓reduceIte,ν1,ν2,ν3,ν4,ν5,ι1,ι2,ι3,ι4,lA_ h8])
    refine lit1 tab_22 rfl tab_3 ⟨rfl,rfl⟩ ?_
    refine rz_appI (ys:=[c]) st 5 rfl (by rw [List.length_drop];simp only [List.length_cons,List.length_nil];omega) fun q' G' hq' st=>?_
    rw [← ed] at st ⊢
    rw [← et] at st
    obtain ⟨l',hl'⟩:∃l',(ltsF a wy (i+1)).drop S.length=l':=⟨_,rfl⟩
    rw [hl'] at st ⊢
    (try simp (maxSteps:=1000000) (disch:=first | assumption | (apply ν6;assumption)) only [vz,vu,vv,eqS,eF_,↓c1_,↓c2_,tabs,reduceCtorEq,ι5,↓reduceIte,ν1,ν2,ν3,ν4,ν5,ι1,ι2,ι3,ι4,sA_ (st.get 0 rfl)])
    replace st:=st.put 0 rfl [x,rowP q' l']
    rw [← hl'] at st
    exact ⟨(i+1,_,_,_,_,_),⟨by simp only;omega,st⟩,by simp only;omega,.refl _,by rw [hl'];exact Heap.le_refl _⟩
  ·have:i=S.length+L.length:=by omega
   subst this
   have hlen:=ltsF_len a wy (S.length+L.length)
   have et:=ltsF_take a wy (n:=S.length+L.length) (k:=S.length) (by omega)
   have hlen2:=ltsF_len a wy S.length
   rw [et] at st
   obtain ⟨Gw,hwk,hfr⟩:=wk_la st 6 5 rfl rfl (by decide)
   have hle:Heap.le H Gw:=fun v b hb=>by
    rw [hfr v (st.wkNone v b hb _ (List.mem_of_getElem? (i:=6) rfl)) (st.wkNone v b hb _ (List.mem_of_getElem? (i:=5) rfl))];exact st.le v b hb
   have g2:Gw r2=some [.p .nil,.p .nil]:=by
    rw [hfr r2 (fun hm=>st.disjI 6 3 rfl rfl (by decide) r2 hm (by simp [cT_])) (fun hm=>st.disjI 5 3 rfl rfl (by decide) r2 hm (by simp [cT_]))];exact st.get 3 rfl
   have hle2:∀b,Heap.le H (Gw.set r2 b):=fun b v c hb=>by
    rw [Heap.set_other (fun e=>st.wkNone v c hb _ (List.mem_of_getElem? (i:=3) rfl) (by simp [cT_,e]))];exact hle v c hb
   have hdl:((ltsF a wy (S.length+L.length)).drop S.length).length≤1000000000:=by rw [List.length_drop];omega
   generalize (ltsF a wy (S.length+L.length)).drop S.length=dl at hwk hdl ⊢
   generalize ltsF a wy S.length=sl at hwk hlen2 ⊢
   have hx:=RZ.sl (st.get 6 rfl:RZ (LPl eI) 1 z1 x _ G D1)
   have hy:=RZ.sl (st.get 5 rfl:RZ (LPl eI) 1 z2 y _ G D2)
   (try simp (maxSteps:=1000000) (disch:=first | assumption | (apply ν6;assumption)) only [vz,vu,vv,eqS,eF_,↓c1_,↓c2_,tabs,reduceCtorEq,ι5,↓reduceIte,ν1,ν2,ν3,ν4,ν5,ι1,ι2,ι3,ι4,lA_ (st.get 0 rfl)])
   refine CallT.pre (Pu.use (l9Made_spec sl dl (by omega) hdl) ?_) hwk
   (try simp (maxSteps:=1000000) (disch:=first | assumption | (apply ν6;assumption)) only [vz,vu,vv,eqS,eF_,↓c1_,↓c2_,tabs,reduceCtorEq,ι5,↓reduceIte,ν1,ν2,ν3,ν4,ν5,ι1,ι2,ι3,ι4,sA_ g2])
   refine ⟨_,_,.forget (hle2 _),?_,rfl⟩
   cases goodL sl dl<;>rfl
end Go.Proofs.YtolffbcnbcjeaaaGreat
namespace Go.Proofs.YtolffbcnbcjeaaaGreat
open Go Go.Sep Go.Pt
attribute [local irreducible] CallT
abbrev aS2 (q:Nat) (s l:List Int):AV:=.agg [.sl q 1 0 s.length,.sl q 1 s.length l.length]
def RS (s l:List Int) (v:AV) (G:Heap) (D:List Nat):Prop:=(s=[]∧l=[]∧v=.agg [.p .nil,.p .nil]∧D=[])∨∃q,v=aS2 q s l∧G q=some (cP fI (s++l))∧D=[q]
theorem RS.local {s l:List Int} {v:AV} {G G':Heap} {D:List Nat} (h:RS s l v G D) (hf:∀y∈D,∀b,G y=some b→G' y=some b):RS s l v G' D:=by
 rcases h with h | ⟨q,rfl,h1,rfl⟩
 ·exact .inl h
 ·exact .inr ⟨q,rfl,hf q (by simp) _ h1,rfl⟩
theorem RS.has {s l:List Int} {v:AV} {G:Heap} {D:List Nat} (h:RS s l v G D):∀y∈D,G y≠none:=by
 rcases h with ⟨_,_,_,rfl⟩ | ⟨q,rfl,h1,rfl⟩
 ·intro y hy;cases hy
 ·intro y hy
  rw [List.mem_singleton.1 hy,h1];simp
theorem RS.ag {s l:List Int} {v:AV} {G:Heap} {D:List Nat} (h:RS s l v G D):∃x y,v=.agg [x,y]∧x.isCell=true∧y.isCell=true:=by
 rcases h with ⟨_,_,rfl,_⟩ | ⟨q,rfl,_⟩
 ·exact ⟨_,_,rfl,rfl,rfl⟩
 ·exact ⟨_,_,rfl,rfl,rfl⟩
def tRS (s l:List Int) (v:AV) (D:List Nat):Th:=⟨D,fun G=>RS s l v G D,fun h f=>h.local f,fun h=>h.has⟩
def RSt (s l:List Int) (ok:Bool) (r:AV) (G:Heap) (D:List Nat):Prop:=∃v,r=.tup [v,B ok]∧RS s l v G D
theorem RSt.res (s l:List Int) (ok:Bool):ResU (RSt s l ok):=by
 refine ⟨?_,?_,?_⟩
 ·rintro r G G' D ⟨v,rfl,h⟩ hf
  exact ⟨v,rfl,h.local hf⟩
 ·rintro r G D ⟨v,rfl,h⟩
  have gb:Gd1 (B ok):=.inr ⟨.p (.bool ok),fun _=>rfl⟩
  have gv:Gd1 v∧∀y∈D,∀bs,G y=some bs→∀c∈bs,GdC c:=by
   rcases h with ⟨_,_,rfl,rfl⟩ | ⟨q,rfl,h1,rfl⟩
   ·exact ⟨.inl ⟨_,rfl,fun c hc=>by
     simp only [List.mem_cons,List.not_mem_nil,or_false] at hc
     rcases hc with rfl | rfl<;>exact .p .nil⟩,fun y hy=>by cases hy⟩
   ·refine ⟨.inl ⟨_,rfl,fun c hc=>by
     simp only [List.mem_cons,List.not_mem_nil,or_false] at hc
     rcases hc with rfl | rfl<;>exact .inl ⟨_,_,_,_,rfl⟩⟩,fun y hy bs hb c hc=>?_⟩
    rw [List.mem_singleton.1 hy,h1] at hb;cases hb
    obtain ⟨x,_,rfl⟩:=List.mem_map.1 hc
    exact .p (.int _ _)
  refine ⟨.inl ⟨_,rfl,fun u hu=>?_⟩,gv.2⟩
  rcases List.mem_cons.1 hu with rfl | hu
  ·exact gv.1
  ·rw [List.mem_singleton] at hu;rw [hu];exact gb
 ·rintro r G D n G0 h0 ⟨v,rfl,h⟩
  have e:∀xs:List Int,(cP fI xs).map (shC n)=cP fI xs:=fun xs=>by
   simp only [cP,List.map_map];rfl
  rcases h with ⟨rfl,rfl,rfl,rfl⟩ | ⟨q,rfl,h1,rfl⟩
  ·exact ⟨_,rfl,.inl ⟨rfl,rfl,rfl,rfl⟩⟩
  ·refine ⟨_,rfl,.inr ⟨q+n,rfl,?_,rfl⟩⟩
   simp only [Heap.or,h0 (q+n) (by omega),shH,Nat.le_add_left,if_true,Nat.add_sub_cancel,h1,Option.map_some,e]
theorem wkS2 {s l:List Int} {q:Nat} {G:Heap} (hq:G q=some (cP fI (s++l))) (C:AV→AV) (hC:∀{es a a'},FrzS q es a a'→FrzS q es (C a) (C a')):Wk (C (aS2 q s l)) G (C (aL2 s l)) (G.del q):=by
 refine Wk.frzS (r:=q) (es:=(s++l).map fI) (by rw [hq,List.map_map];rfl) (hC (.agg (.cons ?_ (.cons ?_ .nil))))
 ·have:=FrzS.part (r:=q) (es:=(s++l).map fI) 0 s.length (by rw [List.length_map,List.length_append];omega)
  have e:((((s++l).map fI).drop 0).take s.length).map (fun v=>[v])=s.map eI:=by
   rw [List.drop_zero,← List.map_take,List.take_left' rfl,List.map_map];rfl
  rwa [e] at this
 ·have:=FrzS.part (r:=q) (es:=(s++l).map fI) s.length l.length (by rw [List.length_map,List.length_append];omega)
  have e:((((s++l).map fI).drop s.length).take l.length).map (fun v=>[v])=l.map eI:=by
   rw [← List.map_drop,← List.map_take,List.drop_left' rfl,List.take_length,List.map_map];rfl
  rwa [e] at this
theorem checkedLasso_part (s l:List Int) (h1:s.length≤1000000000) (h2:l.length≤1000000000) {q:Nat} {G:Heap} (hq:G q=some (cP fI (s++l))) {K:AV→Heap→Prop}
  (h0:goodL s l=false→K (.tup [.agg [.p .nil,.p .nil],B false]) G) (h:goodL s l=true→K (.tup [aS2 q s l,B true]) G):CallT Tryz.prog 43 [aS2 q s l] G K:=by
 refine CallT.fin ?_
 refine W43_ok ?_;simp (maxSteps:=1000000) (disch:=first | assumption | (apply ν6;assumption)) only [W43,vz,vu,vv,eqS,eF_,↓c1_,↓c2_,tabs,reduceCtorEq,ι5,↓reduceIte,ν1,ν2,ν3,ν4,ν5,ι1,ι2,ι3,ι4]
 intro r1 hr1 r2 n21 hr2
 have n12:=Ne.symm n21
 have hle:∀z,Heap.le G ((G.set r1 [.sl q 1 0 s.length,.sl q 1 s.length l.length]).set r2 z):=fun z=>Heap.le_setN (Heap.le_set hr1) hr2
 (try simp (maxSteps:=1000000) (disch:=first | assumption | (apply ν6;assumption)) only [vz,vu,vv,eqS,eF_,↓c1_,↓c2_,tabs,reduceCtorEq,ι5,↓reduceIte,ν1,ν2,ν3,ν4,ν5,ι1,ι2,ι3,ι4])
 have g1:=hle [.p .nil,.p .nil] _ _ hq
 refine Pu.thaw (GoodLassoI s l h1 h2) (.bool _) (wkS2 g1 (fun v=>.tup [v]) (fun h=>.tup (.cons h .nil))) ?_
 cases hg:goodL s l
 ·(try simp (maxSteps:=1000000) (disch:=first | assumption | (apply ν6;assumption)) only [vz,vu,vv,eqS,eF_,↓c1_,↓c2_,tabs,reduceCtorEq,ι5,↓reduceIte,ν1,ν2,ν3,ν4,ν5,ι1,ι2,ι3,ι4])
  exact fin_le (hle _) (h0 hg)
 ·(try simp (maxSteps:=1000000) (disch:=first | assumption | (apply ν6;assumption)) only [vz,vu,vv,eqS,eF_,↓c1_,↓c2_,tabs,reduceCtorEq,ι5,↓reduceIte,ν1,ν2,ν3,ν4,ν5,ι1,ι2,ι3,ι4])
  exact fin_le (hle _) (h hg)
theorem RS.eq {s l:List Int} {v:AV} {G:Heap} {D:List Nat} (h:RS s l v G D) (hs:s.length≤1048576) (hl:l.length≤1048576) {K:AV→Heap→Prop} (k:K (B true) G):CallT Tryz.prog 11 [v,aL2 s l] G K:=by
 rcases h with ⟨rfl,rfl,rfl,rfl⟩ | ⟨q,rfl,h1,rfl⟩
 ·exact CallT.args (args':=[aL2 [] [],aL2 [] []]) ((eqLassoQ [] [] (by simp) (by simp)).use k) ⟨wk_agg ⟨.nil,.nil,trivial⟩,.refl _,trivial⟩
 ·exact Pu.thaw (eqLassoQ s l hs hl) (.bool _) (wkS2 h1 (fun v=>.tup [v,aL2 s l]) (fun h=>.tup (.cons h (.cons (.same _) .nil)))) k
theorem RS.held {n m:Nat} {v:AV} {G:Heap} {D:List Nat} (h:RS (marked 1 n) (marked (1+n) m) v G D) (h1:n≤1048576) (h2:m≤1048576) {K:AV→Heap→Prop} (k:K (I (1+n+m)) G):CallT Tryz.prog 15 [v,I 1] G K:=by
 rcases h with ⟨e1,e2,rfl,rfl⟩ | ⟨q,rfl,g1,rfl⟩
 ·have:n=0:=by
   have:=congrArg List.length e1
   simpa [marked_len] using this
  subst this
  have:m=0:=by
   have:=congrArg List.length e2
   simpa [marked_len] using this
  subst this
  exact CallT.args (args':=[aL2 [] [],I 1]) ((heldLassoQ 0 0 h1 h2).use k) ⟨wk_agg ⟨.nil,.nil,trivial⟩,.refl _,trivial⟩
 ·exact Pu.thaw (heldLassoQ n m h1 h2) (.int _ _) (wkS2 g1 (fun v=>.tup [v,I 1]) (fun h=>.tup (.cons h (.cons (.same _) .nil)))) k
theorem markIntS_part {off:Nat} (pre xs post:List Int) (ho:off=pre.length) (hl:xs.length≤1048576) {k:Int} (h0:0≤k) (h1:k≤1000000000) {q:Nat} {G:Heap} (hG:G q=some (cP fI (pre++xs++post))) {K:AV→Heap→Prop}
  (h:K (I (k+xs.length)) (G.set q (cP fI (pre++marked k xs.length++post)))):CallT Tryz.prog 47 [.sl q 1 off xs.length,I k] G K:=by
 subst ho
 refine W47_ok ?_;simp (maxSteps:=1000000) (disch:=first | assumption | (apply ν6;assumption)) only [W47,vz,vu,vv,eqS,eF_,↓c1_,↓c2_,tabs,reduceCtorEq,ι5,↓reduceIte,ν1,ν2,ν3,ν4,ν5,ι1,ι2,ι3,ι4]
 refine L47_0_rule (0:Nat) (fun i=>I (k+i)) (fun i=>I i) (fun i=>G.set q (cP fI (pre++(marked k i++xs.drop i)++post))) (fun i=>i≤xs.length) (fun i=>xs.length - i) ⟨by omega,?_,.refl _,?_⟩ ?_
 ·rw [wk_int];simp
 ·intro y b hy
  by_cases e:y=q
  ·subst e;rw [Heap.set_same] at hy;rw [hG];simpa [marked] using hy
  ·rw [Heap.set_other e] at hy;exact hy
 intro i hi
 have hcl:(cP fI (pre++(marked k i++xs.drop i)++post)).length=pre.length+xs.length+post.length:=by
  simp only [cP,List.length_map,List.length_append,marked_len,List.length_drop];omega
 (try simp (maxSteps:=1000000) (disch:=first | assumption | (apply ν6;assumption)) only [vz,vu,vv,eqS,eF_,↓c1_,↓c2_,tabs,reduceCtorEq,ι5,↓reduceIte,ν1,ν2,ν3,ν4,ν5,ι1,ι2,ι3,ι4,B47_0,hcl])
 refine ⟨fun h5=>?_,fun h5=>?_⟩
 ·have hlt:i < xs.length:=by omega
  refine ⟨by omega,by omega,by omega,i+1,by omega,by omega,?_,?_,?_⟩
  ·rw [wk_int,i6_ (by omega) (by omega)];omega
  ·rw [wk_int,i6_ (by omega) (by omega)];simp
  ·have e1:xs.drop i=xs.getD i 0::xs.drop (i+1):=by rw [List.drop_eq_getElem_cons hlt];simp [List.getD,hlt]
   have e2:marked k (i+1)=marked k i++[k+i]:=by simp [marked,List.range_succ]
   have e3:cP fI (pre++(marked k i++xs.drop i)++post)=cP fI (pre++marked k i)++([I (xs.getD i 0)]++cP fI (xs.drop (i+1)++post)):=by rw [e1];simp [cP,fI]
   have e4:cP fI (pre++(marked k (i+1)++xs.drop (i+1))++post)=cP fI (pre++marked k i)++([I (k+i)]++cP fI (xs.drop (i+1)++post)):=by rw [e2];simp [cP,fI]
   have e5:=splice_at (pre:=cP fI (pre++marked k i)) (c:=[I (xs.getD i 0)]) (c':=[I (k+i)]) (post:=cP fI (xs.drop (i+1)++post)) (off:=pre.length+i*1) (n:=1) (by simp [cP,marked_len]) rfl rfl
   rw [← e3,← e4] at e5
   rw [← e5];exact Heap.le_refl _
 ·have:i=xs.length:=by omega
  subst this
  simpa using h
theorem RS.mark {s l:List Int} {v:AV} {G:Heap} {D:List Nat} (hx:RS s l v G D) (hs:s.length≤1048576) (hl:l.length≤1048576) {k:Int} (h0:0≤k) (hk:k≤900000000) {K:AV→Heap→Prop}
  (h:∀G',RS (marked k s.length) (marked (k+s.length) l.length) v G' D→(∀y,y∉D→G' y=G y)→K (I (k+s.length+l.length)) G'):CallT Tryz.prog 14 [v,I k] G K:=by
 refine CallT.fin ?_
 rcases hx with ⟨rfl,rfl,rfl,rfl⟩ | ⟨q,rfl,h1,rfl⟩
 ·refine W14_ok ?_;simp (maxSteps:=1000000) (disch:=first | assumption | (apply ν6;assumption)) only [W14,vz,vu,vv,eqS,eF_,↓c1_,↓c2_,tabs,reduceCtorEq,ι5,↓reduceIte,ν1,ν2,ν3,ν4,ν5,ι1,ι2,ι3,ι4]
  intro r hr
  refine markI0 ?_
  (try simp (maxSteps:=1000000) (disch:=first | assumption | (apply ν6;assumption)) only [vz,vu,vv,eqS,eF_,↓c1_,↓c2_,tabs,reduceCtorEq,ι5,↓reduceIte,ν1,ν2,ν3,ν4,ν5,ι1,ι2,ι3,ι4])
  refine markI0 ?_
  (try simp (maxSteps:=1000000) (disch:=first | assumption | (apply ν6;assumption)) only [vz,vu,vv,eqS,eF_,↓c1_,↓c2_,tabs,reduceCtorEq,ι5,↓reduceIte,ν1,ν2,ν3,ν4,ν5,ι1,ι2,ι3,ι4])
  have:=h G (.inl ⟨rfl,rfl,rfl,rfl⟩) (fun _ _=>rfl)
  simp only [List.length_nil,Int.ofNat_zero,Int.add_zero] at this
  exact fin_le (Heap.le_set hr) this
 ·refine W14_ok ?_;simp (maxSteps:=1000000) (disch:=first | assumption | (apply ν6;assumption)) only [W14,vz,vu,vv,eqS,eF_,↓c1_,↓c2_,tabs,reduceCtorEq,ι5,↓reduceIte,ν1,ν2,ν3,ν4,ν5,ι1,ι2,ι3,ι4]
  intro r hr
  have st:=((St.nil G).cell hr [.sl q 1 0 s.length,.sl q 1 s.length l.length])
  have ne1:q≠r:=fun e=>by rw [e,hr] at h1;cases h1
  have hm1:=marked_len k s.length
  have hm2:=marked_len (k+s.length) l.length
  refine markIntS_part [] s l rfl hs h0 (by omega) (by rw [Heap.set_other ne1];simpa using h1) ?_
  rw [List.nil_append]
  have en1:=Ne.symm ne1
  (try simp (maxSteps:=1000000) (disch:=first | assumption | (apply ν6;assumption)) only [vz,vu,vv,eqS,eF_,↓c1_,↓c2_,tabs,reduceCtorEq,ι5,↓reduceIte,ν1,ν2,ν3,ν4,ν5,ι1,ι2,ι3,ι4])
  refine markIntS_part (marked k s.length) l [] hm1.symm hl (by omega) (by omega) (by rw [Heap.set_same];simp) ?_
  (try simp (maxSteps:=1000000) (disch:=first | assumption | (apply ν6;assumption)) only [vz,vu,vv,eqS,eF_,↓c1_,↓c2_,tabs,reduceCtorEq,ι5,↓reduceIte,ν1,ν2,ν3,ν4,ν5,ι1,ι2,ι3,ι4])
  refine fin_le (H:=G.set q (cP fI (marked k s.length++marked (k+s.length) l.length))) ?_ (h _ (.inr ⟨q,by rw [aS2,aS2,hm1,hm2],Heap.set_same _ _ _,rfl⟩) fun z hz=>?_)
  ·generalize cP fI (marked k s.length++marked (k+s.length) l.length)=z
   generalize cP fI (marked k s.length++l)=z2
   clear h
   (intro y b hy;simp only [Heap.set,Heap.del] at hy ⊢;(repeat' split at hy)<;>(repeat' split)<;>simp_all [cells])
  ·rw [Heap.set_other (fun e=>hz (by simp [e]))]
end Go.Proofs.YtolffbcnbcjeaaaGreat
namespace Go.Proofs.YtolffbcnbcjeaaaGreat
open Go Go.Sep Go.Pt
attribute [local irreducible] CallT
theorem fairLasso_A {a:Au} (h:AutoN a):Pu Tryz.prog 39 [Ls (nextG a),Is a.first,Ls a.goals] (lassoV (rwF (gA a)) (gA a).length (nN a.first) (goN a.goals)):=by
 obtain ⟨h1,h2,h3⟩:=h.gob
 have hl:=gA_len a
 have hf:=h.f.fi
 have:=fairLasso_spec (gA a) (gA_B h.f) (nN a.first) (by rw [hl];exact nN_lt h.fr) (by rw [nN_len];omega) (goN a.goals) 96 h1 h2 h3
 rwa [gA_I h.f,nI_of h.fr,goN,gI_of h.go] at this
theorem WordOf_impl (a:Au) (sa:smAu a) {H:Heap} {K:AV→Heap→Prop} (hK:∀v G D,RS (woS a) (woL a) v G D→New H G D→K (.tup [v,B (woB a)]) G):CallT Tryz.prog 10 [aAu a] H K:=by
 refine CallT.fin ?_
 refine W10_ok ?_;simp (maxSteps:=1000000) (disch:=first | assumption | (apply ν6;assumption)) only [W10,vz,vu,vv,eqS,eF_,↓c1_,↓c2_,tabs,reduceCtorEq,ι5,↓reduceIte,ν1,ν2,ν3,ν4,ν5,ι1,ι2,ι3,ι4]
 intro r hr r2 n2r hr2
 have st:=((St.nil H).cell hr [I a.states,Is a.first,Es a.edges,Ls a.goals]).cell (r:=r2) (by rw [Heap.set_other n2r];exact hr2) [.p .nil,.p .nil]
 generalize (H.set r [I a.states,Is a.first,Es a.edges,Ls a.goals]).set r2 [.p .nil,.p .nil]=G at st ⊢
 clear hr hr2 n2r
 have no:∀G',Heap.le H G'→woB a=false→wkK K (.tup [.agg [.p .nil,.p .nil],.p (.bool false)]) G':=fun G' hle hb=>by
  have:=hK (.agg [.p .nil,.p .nil]) H [] (.inl ⟨by rw [woS,hb];rfl,by rw [woL,hb];rfl,rfl,rfl⟩) ⟨List.nodup_nil,fun y hy=>(by cases hy),Heap.le_refl _⟩
  rw [hb] at this
  exact fin_le hle this
 (try simp (maxSteps:=1000000) (disch:=first | assumption | (apply ν6;assumption)) only [vz,vu,vv,eqS,eF_,↓c1_,↓c2_,tabs,reduceCtorEq,ι5,↓reduceIte,ν1,ν2,ν3,ν4,ν5,ι1,ι2,ι3,ι4,lA_ (st.get 1 rfl)])
 refine Pu.use (GoodAuto_impl a sa) ?_
 cases ga:goodA a
 ·(try simp (maxSteps:=1000000) (disch:=first | assumption | (apply ν6;assumption)) only [vz,vu,vv,eqS,eF_,↓c1_,↓c2_,tabs,reduceCtorEq,ι5,↓reduceIte,ν1,ν2,ν3,ν4,ν5,ι1,ι2,ι3,ι4,sA_ (st.get 0 rfl)])
  exact no _ (st.put 0 rfl _).le (by rw [woB,ga];rfl)
 ·have hN:=autoN ga
  (try simp (maxSteps:=1000000) (disch:=first | assumption | (apply ν6;assumption)) only [vz,vu,vv,eqS,eF_,↓c1_,↓c2_,tabs,reduceCtorEq,ι5,↓reduceIte,ν1,ν2,ν3,ν4,ν5,ι1,ι2,ι3,ι4,lA_ (st.get 1 rfl)])
  refine Pu.use (next_spec a hN.f) ?_
  (try simp (maxSteps:=1000000) (disch:=first | assumption | (apply ν6;assumption)) only [vz,vu,vv,eqS,eF_,↓c1_,↓c2_,tabs,reduceCtorEq,ι5,↓reduceIte,ν1,ν2,ν3,ν4,ν5,ι1,ι2,ι3,ι4,lA_ (st.get 1 rfl)])
  refine Pu.use (fairLasso_A hN) ?_
  have ev:lassoV (rwF (gA a)) (gA a).length (nN a.first) (goN a.goals)=.tup [Is (nI (wS a)),Is (nI (wL a)),B (fairA a)]:=rfl
  rw [ev]
  cases hf:fairA a
  ·(try simp (maxSteps:=1000000) (disch:=first | assumption | (apply ν6;assumption)) only [vz,vu,vv,eqS,eF_,↓c1_,↓c2_,tabs,reduceCtorEq,ι5,↓reduceIte,ν1,ν2,ν3,ν4,ν5,ι1,ι2,ι3,ι4,sA_ (st.get 0 rfl)])
   exact no _ (st.put 0 rfl _).le (by rw [woB,hf,ga];rfl)
  have hw:=wayA_of hN hf
  have hb:woB a=goodL (ltsF a (wyF (wS a) (wL a)) (wS a).length) ((ltsF a (wyF (wS a) (wL a)) ((wS a).length+(wL a).length)).drop (wS a).length):=by rw [woB,ga,hf];rfl
  rw [woS,woL,hb] at hK
  clear no hb
  generalize wS a=S at hw hK ⊢
  generalize wL a=L at hw hK ⊢
  have hS:=nL_ S
  have hL:=nL_ L
  have hne:=hw.ne
  obtain ⟨hs1,hs2⟩:=hw.sz
  have hL1:(nI L).take 1=nI [L.getD 0 0]:=by
   rw [nI_take]
   cases L with
   | nil=>simp at hne
   | cons x L=>simp [List.getD]
  (try simp (maxSteps:=1000000) (disch:=first | assumption | (apply ν6;assumption)) only [vz,vu,vv,eqS,eF_,↓c1_,↓c2_,tabs,reduceCtorEq,ι5,↓reduceIte,ν1,ν2,ν3,ν4,ν5,ι1,ι2,ι3,ι4,hL])
  refine ⟨by omega,by omega,by omega,fun e he=>by obtain ⟨x,_,rfl⟩:=List.mem_map.1 he;rfl,?_⟩
  rw [hL1]
  refine lit3 tab_24 rfl tab_22 ⟨rfl,rfl⟩ ?_
  have hfl:[nI S,nI L,nI [L.getD 0 0]].flatten=nI (wyF S L):=by simp [wyF,nI]
  have hwl:=wyF_len S L
  have hwI:=nL_ (wyF S L)
  refine ConcatI_spec [nI S,nI L,nI [L.getD 0 0]] (by rw [hfl];omega) (by simp) fun q hq=>?_
  rw [hfl]
  replace st:=st.cell hq (cP fI (nI (wyF S L)))
  generalize G.set q (cP fI (nI (wyF S L)))=G1 at st ⊢
  clear hq hfl
  refine lit0I fun q8 hq8=>?_
  replace st:=st.cell hq8 (cP fI [])
  generalize G1.set q8 (cP fI [])=G2 at st ⊢
  clear hq8
  have hway:=hw.way
  clear hL1 hw hL
  generalize wyF S L=wy at st hwl hwI hway hK ⊢
  refine L10_0_rule ((0:Nat),q8,G2) (fun z=>rowP z.2.1 (ltsF a wy z.1)) (fun z=>I ((z.1:Int)+1)) (fun z=>z.2.2)
   (fun z=>z.1≤S.length+L.length∧St H [cT_ z.2.1 (cP fI (ltsF a wy z.1)),cT_ q (cP fI (nI wy)),cT_ r2 [.p .nil,.p .nil],cT_ r [I a.states,Is a.first,Es a.edges,Ls a.goals]] z.2.2) (fun z=>S.length+L.length - z.1)
   ⟨⟨by simp,st⟩,.refl _,.refl _,Heap.le_refl _⟩ ?_
  clear st G2 G1 G q8
  rintro ⟨i,q8,G⟩ ⟨hi,st⟩
  dsimp only at hi st
  have e5:IntKind.i64.wrap ((i:Int)+1+1)=((i+1:Nat):Int)+1:=by rw [i6_ (by omega) (by omega)];simp
  have e6:IntKind.i64.wrap ((i:Int)+1 - 1)=(i:Int):=by rw [i6_ (by omega) (by omega)];omega
  have e7:((i:Int)+1).toNat=i+1:=by omega
  (try simp (maxSteps:=1000000) (disch:=first | assumption | (apply ν6;assumption)) only [vz,vu,vv,eqS,eF_,↓c1_,↓c2_,tabs,reduceCtorEq,ι5,↓reduceIte,ν1,ν2,ν3,ν4,ν5,ι1,ι2,ι3,ι4,B10_0,hwI,e5,e6,hS])
  refine ⟨fun h1=>?_,fun h1=>?_⟩
  ·have hlt:i < S.length+L.length:=by omega
   have g1:=cI_rd (l:=nI wy) (i:=i) (by omega)
   have g2:=cI_rd (l:=nI wy) (i:=i+1) (by omega)
   rw [nI_get (by omega)] at g1 g2
   have hcl:(cP fI (nI wy)).length=wy.length:=by simp [cP,hwI]
   (try simp (maxSteps:=1000000) (disch:=first | assumption | (apply ν6;assumption)) only [vz,vu,vv,eqS,eF_,↓c1_,↓c2_,tabs,reduceCtorEq,ι5,↓reduceIte,ν1,ν2,ν3,ν4,ν5,ι1,ι2,ι3,ι4,lA_ (st.get 3 rfl),lA_ (st.get 1 rfl),hcl,g1,g2,Int.toNat_natCast,e7])
   repeat refine ⟨by omega,?_⟩
   refine Pu.use (letterOf_spec a ga (hway i hlt)) ?_
   have hsu:=ltsF_succ a wy i
   have hlen:=ltsF_len a wy i
   generalize ltF a (wy.getD i 0:Nat) (wy.getD (i+1) 0:Nat)=c at hsu ⊢
   refine lit1 tab_22 rfl tab_3 ⟨rfl,rfl⟩ ?_
   refine st_appI (ys:=[c]) st 0 rfl (by simp only [List.length_cons,List.length_nil];omega) fun q' G' hq' st=>?_
   rw [← hsu] at st ⊢
   (try simp (maxSteps:=1000000) (disch:=first | assumption | (apply ν6;assumption)) only [vz,vu,vv,eqS,eF_,↓c1_,↓c2_,tabs,reduceCtorEq,ι5,↓reduceIte,ν1,ν2,ν3,ν4,ν5,ι1,ι2,ι3,ι4,e5])
   exact ⟨(i+1,q',G'),⟨by simp only;omega,st⟩,by simp only;omega,.refl _,.refl _,Heap.le_refl _⟩
  ·have:i=S.length+L.length:=by omega
   subst this
   have hlen:=ltsF_len a wy (S.length+L.length)
   have et:=ltsF_take a wy (n:=S.length+L.length) (k:=S.length) (by omega)
   have hlen2:=ltsF_len a wy S.length
   have eall:ltsF a wy S.length++(ltsF a wy (S.length+L.length)).drop S.length=ltsF a wy (S.length+L.length):=by rw [← et,List.take_append_drop]
   have hdl:((ltsF a wy (S.length+L.length)).drop S.length).length=L.length:=by rw [List.length_drop];omega
   rw [← eall] at st
   have em:((S.length+L.length:Nat):Int) - (S.length:Int)=(L.length:Int):=by omega
   have fin:CallT Tryz.prog 43 [aS2 q8 (ltsF a wy S.length) ((ltsF a wy (S.length+L.length)).drop S.length)] G fun v66 H14=>
     xV_ v66 0 fun v67=>xV_ v66 1 fun v68=>sV_ tab 29 (.ptr r2 0) v67 H14 fun H15=>lV_ tab 29 (.ptr r2 0) H15 fun r0=>wkK K (.tup [r0,v68]) H15:=by
    refine checkedLasso_part _ _ (by omega) (by omega) (st.get 0 rfl) (fun hb=>?_) (fun hb=>?_)
    ·rw [hb] at hK
     (try simp (maxSteps:=1000000) (disch:=first | assumption | (apply ν6;assumption)) only [vz,vu,vv,eqS,eF_,↓c1_,↓c2_,tabs,reduceCtorEq,ι5,↓reduceIte,ν1,ν2,ν3,ν4,ν5,ι1,ι2,ι3,ι4,sA_ (st.get 2 rfl)])
     exact fin_le (st.put 2 rfl _).le (hK (.agg [.p .nil,.p .nil]) H [] (.inl ⟨rfl,rfl,rfl,rfl⟩) ⟨List.nodup_nil,fun y hy=>(by cases hy),Heap.le_refl _⟩)
    ·rw [hb] at hK
     (try simp (maxSteps:=1000000) (disch:=first | assumption | (apply ν6;assumption)) only [vz,vu,vv,eqS,eF_,↓c1_,↓c2_,tabs,reduceCtorEq,ι5,↓reduceIte,ν1,ν2,ν3,ν4,ν5,ι1,ι2,ι3,ι4,sA_ (st.get 2 rfl)])
     replace st:=st.put 2 rfl [.sl q8 1 0 (ltsF a wy S.length).length,.sl q8 1 (ltsF a wy S.length).length ((ltsF a wy (S.length+L.length)).drop S.length).length]
     refine ⟨_,_,.forget (H':=H.set q8 (cP fI (ltsF a wy S.length++(ltsF a wy (S.length+L.length)).drop S.length))) ?_,hK _ _ [q8] (.inr ⟨q8,rfl,Heap.set_same _ _ _,rfl⟩) (New.cell (st.fr _ (List.mem_of_getElem? (i:=0) rfl) q8 (by simp [cT_])))⟩
     intro y b hb2
     by_cases e:y=q8
     ·subst e;rw [Heap.set_same] at hb2;rw [← hb2];exact st.get 0 rfl
     ·rw [Heap.set_other e] at hb2;exact st.le y b hb2
   rw [aS2,hlen2,hdl] at fin
   rcases Nat.eq_zero_or_pos S.length with hz | hz
   ·have hz':(S.length:Int)=0:=by omega
    (try simp (maxSteps:=1000000) (disch:=first | assumption | (apply ν6;assumption)) only [vz,vu,vv,eqS,eF_,↓c1_,↓c2_,tabs,reduceCtorEq,ι5,↓reduceIte,ν1,ν2,ν3,ν4,ν5,ι1,ι2,ι3,ι4,hlen,hS,sliceV,hz'])
    repeat refine ⟨by omega,?_⟩
    have e9:S.length+L.length=L.length:=by omega
    rw [Nat.mul_one,e9]
    exact CallT.args (args':=[.agg [.sl q8 1 0 S.length,.sl q8 1 S.length L.length]]) fin ⟨wk_agg ⟨by rw [hz];exact .eslo _ _ _,.refl _,trivial⟩,trivial⟩
   ·have hz':¬(S.length:Int)=0:=by omega
    (try simp (maxSteps:=1000000) (disch:=first | assumption | (apply ν6;assumption)) only [vz,vu,vv,eqS,eF_,↓c1_,↓c2_,tabs,reduceCtorEq,ι5,↓reduceIte,ν1,ν2,ν3,ν4,ν5,ι1,ι2,ι3,ι4,hlen,hS,sliceV,hz',em,Int.toNat_natCast])
    repeat refine ⟨by omega,?_⟩
    rw [Nat.mul_one]
    exact fin
end Go.Proofs.YtolffbcnbcjeaaaGreat
namespace Go.Proofs.YtolffbcnbcjeaaaGreat
open Go Go.Sep Go.Pt
attribute [local irreducible] CallT
theorem goodL_len {s l:List Int} (h:goodL s l=true):s.length≤24∧l.length≤24:=by
 simp only [goodL,Bool.and_eq_true,decide_eq_true_eq] at h
 exact ⟨h.1.1,h.1.2.2⟩
theorem wo_len (a:Au):(woS a).length≤24∧(woL a).length≤24:=by
 unfold woS woL
 by_cases h:woB a=true
 ·rw [if_pos h,if_pos h]
  simp only [woB,Bool.and_eq_true] at h
  exact goodL_len h.2.2
 ·rw [if_neg h,if_neg h];simp
end Go.Proofs.YtolffbcnbcjeaaaGreat
namespace Go.Proofs.YtolffbcnbcjeaaaGreat
open Go Go.Sep Go.Pt
attribute [local irreducible] CallT
theorem need_impl.operandsOfSaid_spec (op:Int):Pu Tryz.prog 125 [I op] (I (need op)):=by
 refine Pu.of fun H=>?_
 refine W125_ok ?_;simp (maxSteps:=1000000) (disch:=first | assumption | (apply ν6;assumption)) only [W125,vz,vu,vv,eqS,eF_,↓c1_,↓c2_,tabs,reduceCtorEq,ι5,↓reduceIte,ν1,ν2,ν3,ν4,ν5,ι1,ι2,ι3,ι4,J125_0,J125_1]
 by_cases h1:op=1
 ·subst h1;simp [need]
 by_cases h2:op=2
 ·subst h2;simp [need]
 by_cases h3:op=3
 ·subst h3;simp [need]
 by_cases h4:op=4
 ·subst h4;simp [need]
 by_cases h5:op=5
 ·subst h5;simp [need]
 by_cases h6:op=6
 ·subst h6;simp [need]
 by_cases h7:op=7
 ·subst h7;simp [need]
 by_cases h8:op=8
 ·subst h8;simp [need]
 simp [need,h1,h2,h3,h4,h5,h6,h7,h8]
theorem need_spec.l10Need_spec (op:Int):Pu Tryz.prog 122 [I op] (I (need op)):=by
 refine Pu.of fun H=>?_
 refine W122_ok ?_;simp (maxSteps:=1000000) (disch:=first | assumption | (apply ν6;assumption)) only [W122,vz,vu,vv,eqS,eF_,↓c1_,↓c2_,tabs,reduceCtorEq,ι5,↓reduceIte,ν1,ν2,ν3,ν4,ν5,ι1,ι2,ι3,ι4,J122_0,J122_1]
 by_cases h1:op=1
 ·subst h1;simp [need]
 by_cases h2:op=2
 ·subst h2;simp [need]
 by_cases h3:op=3
 ·subst h3;simp [need]
 by_cases h4:op=4
 ·subst h4;simp [need]
 by_cases h5:op=5
 ·subst h5;simp [need]
 by_cases h6:op=6
 ·subst h6;simp [need]
 by_cases h7:op=7
 ·subst h7;simp [need]
 by_cases h8:op=8
 ·subst h8;simp [need]
 simp [need,h1,h2,h3,h4,h5,h6,h7,h8]
theorem isSaid_spec (x:Sd):Pu Tryz.prog 126 [aD x] (B (sdOk x)):=by
 refine Pu.of fun H=>?_
 refine W126_ok ?_;simp (maxSteps:=1000000) (disch:=first | assumption | (apply ν6;assumption)) only [W126,vz,vu,vv,eqS,eF_,↓c1_,↓c2_,tabs,reduceCtorEq,ι5,↓reduceIte,ν1,ν2,ν3,ν4,ν5,ι1,ι2,ι3,ι4]
 intro r hr
 have hle:=Heap.le_set (b:=[I x.op,I x.n]) hr
 refine ⟨fun h1=>?_,fun h1=>⟨fun h2=>?_,fun h2=>?_⟩⟩
 ·rw [sdOk,if_pos h1]
  exact ⟨fun h3=>⟨by rw [decide_eq_true h3,Bool.true_and],hle⟩,fun h3=>⟨by rw [decide_eq_false h3,Bool.false_and],hle⟩⟩
 ·rw [sdOk,if_neg h1,if_pos h2]
  exact ⟨fun h3=>⟨by rw [decide_eq_true h3,Bool.true_or],hle⟩,fun h3=>⟨by rw [decide_eq_false h3,Bool.false_or],hle⟩⟩
 ·refine Pu.use (need_impl.operandsOfSaid_spec x.op) ?_
  rw [sdOk,if_neg h1,if_neg h2]
  (try simp (maxSteps:=1000000) (disch:=first | assumption | (apply ν6;assumption)) only [vz,vu,vv,eqS,eF_,↓c1_,↓c2_,tabs,reduceCtorEq,ι5,↓reduceIte,ν1,ν2,ν3,ν4,ν5,ι1,ι2,ι3,ι4])
  exact ⟨fun h3=>⟨by rw [decide_eq_true h3,Bool.true_and],hle⟩,fun h3=>⟨by rw [decide_eq_false h3,Bool.false_and],hle⟩⟩
theorem l10N_spec (x:Sd) (h:0≤need x.op):Pu Tryz.prog 123 [aD x] (B (sdOk x)):=by
 refine Pu.of fun H=>?_
 refine W123_ok ?_;simp (maxSteps:=1000000) (disch:=first | assumption | (apply ν6;assumption)) only [W123,vz,vu,vv,eqS,eF_,↓c1_,↓c2_,tabs,reduceCtorEq,ι5,↓reduceIte,ν1,ν2,ν3,ν4,ν5,ι1,ι2,ι3,ι4]
 intro r hr
 have hle:=Heap.le_set (b:=[I x.op,I x.n]) hr
 refine ⟨fun h1=>?_,fun h1=>⟨fun h2=>?_,fun h2=>?_⟩⟩
 ·rw [sdOk,if_pos h1]
  refine Pu.use (l1In_spec x.n 0 2) ⟨?_,hle⟩
  exact congrArg (fun b:Bool=>B b) (by rw [Bool.eq_iff_iff];simp only [Bool.and_eq_true,decide_eq_true_eq];omega)
 ·rw [sdOk,if_neg h1,if_pos h2]
  refine Pu.use (l1In_spec x.n 0 1) ⟨?_,hle⟩
  exact congrArg (fun b:Bool=>B b) (by rw [Bool.eq_iff_iff];simp only [Bool.and_eq_true,Bool.or_eq_true,decide_eq_true_eq];omega)
 ·rw [sdOk,if_neg h1,if_neg h2]
  have:0 < need x.op:=by
   rcases need_cases x.op with h3 | h3 | h3 | h3<;>omega
  exact ⟨by rw [decide_eq_true this,Bool.true_and],hle⟩
theorem goodF_false {f:List Sd} {i:Nat} (hi:i < f.length) (h:sdAt f i=false):goodF f=false:=by
 rw [goodF,Bool.and_eq_false_iff,Bool.and_eq_false_iff]
 exact .inl (.inr (range_all_false hi h))
theorem vals_bd {f:List Sd}:∀i,(∀j,j < i→sdAt f j=true)→0≤vals f i∧vals f i≤i:=by
 intro i
 induction i with
 | zero=>intro _;exact ⟨Int.le_refl _,Int.le_refl _⟩
 | succ i ih=>
  intro h
  have h1:=ih fun j hj=>h j (by omega)
  have h2:=h i (by omega)
  simp only [sdAt,Bool.and_eq_true,decide_eq_true_eq] at h2
  have h3:=sdOk_need h2.1
  have h4:=h2.2
  simp only [vals]
  omega
theorem GoodSaid_impl (f:List Sd) (hl:f.length≤1048576):Pu Tryz.prog 99 [Ds f] (B (goodF f)):=by
 refine Pu.of fun H=>?_
 refine W99_ok ?_;simp (maxSteps:=1000000) (disch:=first | assumption | (apply ν6;assumption)) only [W99,vz,vu,vv,eqS,eF_,↓c1_,↓c2_,tabs,reduceCtorEq,ι5,↓reduceIte,ν1,ν2,ν3,ν4,ν5,ι1,ι2,ι3,ι4]
 refine ⟨fun h1=>by rw [goodF,decide_eq_false (by omega)];rfl,fun h1=>⟨fun h2=>by rw [goodF,decide_eq_false (show ¬f.length≤16 by omega),Bool.and_false];rfl,fun h2=>?_⟩⟩
 refine L99_0_rule (0:Nat) (fun i=>I (vals f i)) (fun i=>I i) (fun _=>H) (fun i=>i≤f.length∧∀j,j < i→sdAt f j=true) (fun i=>f.length - i) ⟨⟨by omega,by intros;omega⟩,.refl _,.refl _,Heap.le_refl _⟩ ?_
 rintro i ⟨hi,ha⟩
 have hv:=vals_bd i ha
 (try simp (maxSteps:=1000000) (disch:=first | assumption | (apply ν6;assumption)) only [vz,vu,vv,eqS,eF_,↓c1_,↓c2_,tabs,reduceCtorEq,ι5,↓reduceIte,ν1,ν2,ν3,ν4,ν5,ι1,ι2,ι3,ι4,B99_0])
 refine ⟨fun h3=>⟨by omega,h3,?_⟩,fun h3=>?_⟩
 ·have hlt:i < f.length:=by omega
  have hat:sdAt f i=(sdOk (f.getD i default) && decide (need (f.getD i default).op≤vals f i)):=rfl
  have hvs:vals f (i+1)=vals f i+(1 - need (f.getD i default).op):=rfl
  generalize f.getD i default=x at hat hvs ⊢
  intro r hr
  have hle:=Heap.le_set (b:=[I x.op,I x.n]) hr
  refine Pu.use (need_impl.operandsOfSaid_spec x.op) ?_
  (try simp (maxSteps:=1000000) (disch:=first | assumption | (apply ν6;assumption)) only [vz,vu,vv,eqS,eF_,↓c1_,↓c2_,tabs,reduceCtorEq,ι5,↓reduceIte,ν1,ν2,ν3,ν4,ν5,ι1,ι2,ι3,ι4])
  refine Pu.use (isSaid_spec x) ?_
  cases hok:sdOk x
  ·(try simp (maxSteps:=1000000) (disch:=first | assumption | (apply ν6;assumption)) only [vz,vu,vv,eqS,eF_,↓c1_,↓c2_,tabs,reduceCtorEq,ι5,↓reduceIte,ν1,ν2,ν3,ν4,ν5,ι1,ι2,ι3,ι4])
   exact ⟨by rw [goodF_false hlt (by rw [hat,hok];rfl)],hle⟩
  ·have hnd:=sdOk_need hok
   (try simp (maxSteps:=1000000) (disch:=first | assumption | (apply ν6;assumption)) only [vz,vu,vv,eqS,eF_,↓c1_,↓c2_,tabs,reduceCtorEq,ι5,↓reduceIte,ν1,ν2,ν3,ν4,ν5,ι1,ι2,ι3,ι4])
   refine ⟨fun h4=>⟨by rw [goodF_false hlt (by rw [hat,hok,Bool.true_and,decide_eq_false (by omega)])],hle⟩,fun h4=>⟨i+1,⟨by omega,fun j hj=>?_⟩,by omega,?_,?_,hle⟩⟩
   ·rcases Nat.lt_succ_iff_lt_or_eq.1 hj with h | rfl
    ·exact ha j h
    ·rw [hat,hok,Bool.true_and,decide_eq_true (by omega)]
   ·rw [wk_int,i6_ (n:=1 - need x.op) (by omega) (by omega),i6_ (by omega) (by omega),hvs]
   ·rw [wk_int,i6_ (by omega) (by omega)];simp
 ·have:i=f.length:=by omega
  subst this
  refine congrArg (fun b:Bool=>B b) ?_
  have hall:(List.range f.length).all (sdAt f)=true:=List.all_eq_true.2 fun j hj=>ha j (List.mem_range.1 hj)
  rw [goodF,hall,decide_eq_true (show 1≤f.length by omega),decide_eq_true (show f.length≤16 by omega)];rfl
theorem GoodSaid_spec (f:List Sd) (hl:f.length≤1048576):Pu Tryz.prog 91 [Ds f] (B (goodF f)):=by
 refine Pu.of fun H=>?_
 refine W91_ok ?_;simp (maxSteps:=1000000) (disch:=first | assumption | (apply ν6;assumption)) only [W91,vz,vu,vv,eqS,eF_,↓c1_,↓c2_,tabs,reduceCtorEq,ι5,↓reduceIte,ν1,ν2,ν3,ν4,ν5,ι1,ι2,ι3,ι4]
 refine Pu.use (l1In_spec f.length 1 16) ?_
 cases hin:(decide ((1:Int)≤f.length) && decide ((f.length:Int)≤16))
 ·(try simp (maxSteps:=1000000) (disch:=first | assumption | (apply ν6;assumption)) only [vz,vu,vv,eqS,eF_,↓c1_,↓c2_,tabs,reduceCtorEq,ι5,↓reduceIte,ν1,ν2,ν3,ν4,ν5,ι1,ι2,ι3,ι4])
  rw [Bool.and_eq_false_iff,decide_eq_false_iff_not,decide_eq_false_iff_not] at hin
  rcases hin with h | h
  ·rw [goodF,decide_eq_false (by omega)];rfl
  ·rw [goodF,decide_eq_false (show ¬f.length≤16 by omega),Bool.and_false];rfl
 rw [Bool.and_eq_true,decide_eq_true_eq,decide_eq_true_eq] at hin
 (try simp (maxSteps:=1000000) (disch:=first | assumption | (apply ν6;assumption)) only [vz,vu,vv,eqS,eF_,↓c1_,↓c2_,tabs,reduceCtorEq,ι5,↓reduceIte,ν1,ν2,ν3,ν4,ν5,ι1,ι2,ι3,ι4])
 refine L91_0_rule (0:Nat) (fun i=>I (vals f i)) (fun i=>I i) (fun _=>H) (fun i=>i≤f.length∧∀j,j < i→sdAt f j=true) (fun i=>f.length - i) ⟨⟨by omega,by intros;omega⟩,.refl _,.refl _,Heap.le_refl _⟩ ?_
 rintro i ⟨hi,ha⟩
 have hv:=vals_bd i ha
 (try simp (maxSteps:=1000000) (disch:=first | assumption | (apply ν6;assumption)) only [vz,vu,vv,eqS,eF_,↓c1_,↓c2_,tabs,reduceCtorEq,ι5,↓reduceIte,ν1,ν2,ν3,ν4,ν5,ι1,ι2,ι3,ι4,B91_0])
 refine ⟨fun h3=>⟨by omega,h3,?_⟩,fun h3=>?_⟩
 ·have hlt:i < f.length:=by omega
  have hat:sdAt f i=(sdOk (f.getD i default) && decide (need (f.getD i default).op≤vals f i)):=rfl
  have hvs:vals f (i+1)=vals f i+(1 - need (f.getD i default).op):=rfl
  generalize f.getD i default=x at hat hvs ⊢
  intro r hr
  have hle:=Heap.le_set (b:=[I x.op,I x.n]) hr
  refine Pu.use (need_spec.l10Need_spec x.op) ?_
  (try simp (maxSteps:=1000000) (disch:=first | assumption | (apply ν6;assumption)) only [vz,vu,vv,eqS,eF_,↓c1_,↓c2_,tabs,reduceCtorEq,ι5,↓reduceIte,ν1,ν2,ν3,ν4,ν5,ι1,ι2,ι3,ι4])
  refine ⟨fun h0=>⟨?_,hle⟩,fun h0=>?_⟩
  ·have:sdOk x=false:=by
    cases hok:sdOk x
    ·rfl
    ·have:=sdOk_need hok;omega
   rw [goodF_false hlt (by rw [hat,this];rfl)]
  refine Pu.use (l10N_spec x (by omega)) ?_
  cases hok:sdOk x
  ·(try simp (maxSteps:=1000000) (disch:=first | assumption | (apply ν6;assumption)) only [vz,vu,vv,eqS,eF_,↓c1_,↓c2_,tabs,reduceCtorEq,ι5,↓reduceIte,ν1,ν2,ν3,ν4,ν5,ι1,ι2,ι3,ι4])
   exact ⟨by rw [goodF_false hlt (by rw [hat,hok];rfl)],hle⟩
  ·have hnd:=sdOk_need hok
   (try simp (maxSteps:=1000000) (disch:=first | assumption | (apply ν6;assumption)) only [vz,vu,vv,eqS,eF_,↓c1_,↓c2_,tabs,reduceCtorEq,ι5,↓reduceIte,ν1,ν2,ν3,ν4,ν5,ι1,ι2,ι3,ι4])
   refine ⟨fun h4=>⟨by rw [goodF_false hlt (by rw [hat,hok,Bool.true_and,decide_eq_false (by omega)])],hle⟩,fun h4=>⟨i+1,⟨by omega,fun j hj=>?_⟩,by omega,?_,?_,hle⟩⟩
   ·rcases Nat.lt_succ_iff_lt_or_eq.1 hj with h | rfl
    ·exact ha j h
    ·rw [hat,hok,Bool.true_and,decide_eq_true (by omega)]
   ·rw [wk_int,i6_ (n:=1 - need x.op) (by omega) (by omega),i6_ (by omega) (by omega),hvs]
   ·rw [wk_int,i6_ (by omega) (by omega)];simp
 ·have:i=f.length:=by omega
  subst this
  refine congrArg (fun b:Bool=>B b) ?_
  have hall:(List.range f.length).all (sdAt f)=true:=List.all_eq_true.2 fun j hj=>ha j (List.mem_range.1 hj)
  rw [goodF,hall,decide_eq_true (show 1≤f.length by omega),decide_eq_true (show f.length≤16 by omega)];rfl
end Go.Proofs.YtolffbcnbcjeaaaGreat
namespace Go.Proofs.YtolffbcnbcjeaaaGreat
open Go Go.Sep Go.Pt
attribute [local irreducible] CallT
theorem lit0G {G:Heap} {K:AV→Heap→Prop} (h:∀q,G q=none→K (.sl q 1 0 0) (G.set q [])):bS_ tab 24 0 [] G (wkK K):=by
 simp only [bS_,tab_24,tab_22]
 refine ⟨by omega,?_⟩
 simp only [fillV,zA_,List.replicate_zero,List.flatten_nil]
 exact fun r hr=>wkK.keep (h r hr)
theorem rg_new {H G:Heap} {Ts:List Th} {q:Nat} (s:St H Ts G) (hq:G q=none):St H (rnG (.sl q 1 0 0) [] [q]::Ts) (G.set q []):=
 s.push (rnG (.sl q 1 0 0) [] [q]) (New.cell hq) (.inr ⟨q,[],[],rfl,Heap.set_same _ _ _,⟨rfl,rfl⟩,rfl⟩)
theorem fin_rows {H G:Heap} {Ts:List Th} {x:AV} {gs:List (List Int)} {D:List Nat} (s:St H Ts G) (i:Nat) (hi:Ts[i]?=some (rnG x gs D)):wkK (fun r H'=>r=Ls gs∧H'=H) x G:=by
 have hr:RN LIc 1 x gs G D:=s.get i hi
 rcases hr with ⟨rfl,rfl,rfl⟩ | hr
 ·exact ⟨_,_,.trans (.val .nil) (.forget s.le),rfl,rfl⟩
 ·obtain ⟨q,rfl⟩:=LRow.sl hr
  obtain ⟨G',w,f⟩:=LRow.frzV (e:=eL) (sz:=1) (v:=.sl q 1 0 gs.length) (v':=Ls gs) (by omega) (fun _=>rfl) LIc.local LIc.frz hr (s.ndT i hi) (fun q _ hr=>hr)
  refine ⟨_,_,.trans w (.forget (H':=H) fun y b hb=>?_),rfl,rfl⟩
  rw [f y (fun hm=>by have:=s.fr _ (List.mem_of_getElem? hi) y hm;rw [this] at hb;cases hb)]
  exact s.le y b hb
def RowR (l:List Int) (r:AV) (G:Heap) (D:List Nat):Prop:=∃q,r=rowP q l∧G q=some (cP fI l)∧D=[q]
theorem RowR.res (l:List Int):ResT (RowR l):=by
 refine ⟨?_,?_,?_⟩
 ·rintro r G G' D ⟨q,rfl,hq,rfl⟩ hf
  exact ⟨q,rfl,hf q (by simp) _ hq,rfl⟩
 ·rintro r G D ⟨q,rfl,hq,rfl⟩
  refine ⟨.inr ⟨.inr ⟨.inl ⟨_,_,_,_,rfl⟩,fun _=>rfl⟩,fun _=>rfl⟩,fun y hy bs hb c hc=>?_⟩
  rw [List.mem_singleton.1 hy,hq] at hb
  cases hb
  obtain ⟨x,_,rfl⟩:=List.mem_map.1 hc
  exact .p (.int _ _)
 ·rintro r G D n G0 h0 ⟨q,rfl,hq,rfl⟩
  refine ⟨q+n,rfl,?_,rfl⟩
  have hr:=LRow.sh (LPl.sh eI) h0 (LI_mk' hq)
  obtain ⟨q',cs,D',e1,e2,e3,e4⟩:=hr
  obtain ⟨rfl,-⟩:=LL.plain' e3
  have e:q'=q+n:=by
   have h1:shC n (rowP q l)=.sl (q+n) 1 0 l.length:=rfl
   rw [h1] at e1
   injection e1 with e1;exact e1.symm
  subst e
  have e5:cells (l.map eI)=cP fI l:=cells_P fI l
  rw [← e5];exact e2
theorem Clone_part {q off n:Nat} {l:List Int} {G:Heap} (hq:G q=some (cP fI l)) (hb:off+n≤l.length) (hl:l.length≤100000) {K:AV→Heap→Prop} (h:∀qn G',RowR ((l.drop off).take n) (rowP qn ((l.drop off).take n)) G' [qn]→New G G' [qn]→K (rowP qn ((l.drop off).take n)) G'):CallT Tryz.prog 82 [.sl q 1 off n] G K:=by
 refine thawR (R:=RowR ((l.drop off).take n)) (RowR.res _) (args':=[Is ((l.drop off).take n)]) (G1:=G.del q) (fun {K} h=>CloneI_row _ (by rw [List.length_take,List.length_drop];omega) fun q hq=>h _ _ [q] ⟨q,rfl,Heap.set_same _ _ _,rfl⟩ (New.cell hq)) ?_ ?_
 ·refine Wk.frzS (es:=l.map fI) (by rw [hq,List.map_map];rfl) (.tup (.cons ?_ .nil))
  have:=FrzS.part (r:=q) (es:=l.map fI) off n (by rw [List.length_map];exact hb)
  have e:(((l.map fI).drop off).take n).map (fun v=>[v])=((l.drop off).take n).map eI:=by rw [← List.map_drop,← List.map_take,List.map_map];rfl
  rw [e] at this
  exact this
 ·rintro r G' D ⟨qn,rfl,h1,rfl⟩ hn
  exact h qn G' ⟨qn,rfl,h1,rfl⟩ hn
def opsA (f:List Sd) (i:Nat):List (List Int):=(List.range i).map (opsF f)
theorem opsA_succ (f:List Sd) (i:Nat):opsA f (i+1)=opsA f i++[opsF f i]:=by simp [opsA,List.range_succ]
theorem opsA_len (f:List Sd) (i:Nat):(opsA f i).length=i:=by simp [opsA]
theorem opsA_get (f:List Sd) {n i:Nat} (h:i < n):(opsA f n).getD i default=opsF f i:=by simp [opsA,List.getD,h]
theorem roots_len {f:List Sd} (g:GoodFm f) (i:Nat) (hi:i≤f.length):(roots f i).length=(vals f i).toNat∧vals f i≤16∧0≤vals f i:=by
 have h:=stk_len g i hi
 have h2:vals f i≤i:=(vals_bd i fun j hj=>by
  have:=g.ok j (by omega)
  rw [sdAt,this.1,decide_eq_true this.2];rfl).2
 have:=g.l1
 rw [roots,List.length_map,List.length_reverse]
 omega
theorem operandIndexes_spec (f:List Sd) (g:GoodFm f):Pu Tryz.prog 127 [Ds f] (Ls (opsA f f.length)):=by
 have hl:=g.l1
 refine ⟨fun H=>CallT.fin ?_⟩
 refine W127_ok ?_;simp (maxSteps:=1000000) (disch:=first | assumption | (apply ν6;assumption)) only [W127,vz,vu,vv,eqS,eF_,↓c1_,↓c2_,tabs,reduceCtorEq,ι5,↓reduceIte,ν1,ν2,ν3,ν4,ν5,ι1,ι2,ι3,ι4]
 refine lit0G fun q0 hq0=>?_
 have st:=rg_new (St.nil H) hq0
 generalize H.set q0 []=G at st ⊢
 refine lit0I fun q1 hq1=>?_
 replace st:=st.cell hq1 (cP fI [])
 generalize G.set q1 (cP fI [])=G1 at st ⊢
 (try simp (maxSteps:=1000000) (disch:=first | assumption | (apply ν6;assumption)) only [vz,vu,vv,eqS,eF_,↓c1_,↓c2_,tabs,reduceCtorEq,ι5,↓reduceIte,ν1,ν2,ν3,ν4,ν5,ι1,ι2,ι3,ι4])
 refine L127_0_rule ((0:Nat),(.sl q0 1 0 0:AV),[q0],q1,G1) (fun s=>s.2.1) (fun s=>rowP s.2.2.2.1 (roots f s.1)) (fun s=>I s.1) (fun s=>s.2.2.2.2)
  (fun s=>s.1≤f.length∧St H [cT_ s.2.2.2.1 (cP fI (roots f s.1)),rnG s.2.1 (opsA f s.1) s.2.2.1] s.2.2.2.2) (fun s=>f.length - s.1)
  ⟨⟨by simp,st⟩,.refl _,.refl _,.refl _,Heap.le_refl _⟩ ?_
 clear st
 rintro ⟨i,x,D,q,G⟩ ⟨hi,st⟩
 dsimp only at hi st
 (try simp (maxSteps:=1000000) (disch:=first | assumption | (apply ν6;assumption)) only [vz,vu,vv,eqS,eF_,↓c1_,↓c2_,tabs,reduceCtorEq,ι5,↓reduceIte,ν1,ν2,ν3,ν4,ν5,ι1,ι2,ι3,ι4,B127_0])
 refine ⟨fun h1=>⟨by omega,h1,?_⟩,fun h1=>?_⟩
 ·have hlt:i < f.length:=by omega
  obtain ⟨rr,e1,e2,e3⟩:=roots_succ g hlt
  have hok:=g.ok i hlt
  have hnd:=sdOk_need hok.1
  have hrl:=roots_len g i hi
  have hlen:(roots f i).length=rr.length+(opsF f i).length:=by rw [e1,List.length_append]
  have hsucc:=opsA_succ f i
  generalize f.getD i default=y at e3 hok hnd ⊢
  intro r hr
  replace st:=st.cell hr [I y.op,I y.n]
  generalize G.set r [I y.op,I y.n]=G2 at st ⊢
  (try simp (maxSteps:=1000000) (disch:=first | assumption | (apply ν6;assumption)) only [vz,vu,vv,eqS,eF_,↓c1_,↓c2_,tabs,reduceCtorEq,ι5,↓reduceIte,ν1,ν2,ν3,ν4,ν5,ι1,ι2,ι3,ι4,lA_ (st.get 0 rfl)])
  refine Pu.use (need_impl.operandsOfSaid_spec y.op) ?_
  have ew:IntKind.i64.wrap ((roots f i).length - need y.op)=(rr.length:Nat):=by rw [i6_ (by omega) (by omega)];omega
  (try simp (maxSteps:=1000000) (disch:=first | assumption | (apply ν6;assumption)) only [vz,vu,vv,eqS,eF_,↓c1_,↓c2_,tabs,reduceCtorEq,ι5,↓reduceIte,ν1,ν2,ν3,ν4,ν5,ι1,ι2,ι3,ι4,sliceV,ew])
  refine ⟨by omega,by omega,by omega,?_⟩
  have en:((roots f i).length - (rr.length:Int)).toNat=(opsF f i).length:=by omega
  have ep:((roots f i).drop (rr.length*1)).take (opsF f i).length=opsF f i:=by rw [e1,Nat.mul_one,List.drop_left,List.take_length]
  rw [en]
  refine Clone_part (st.get 1 rfl) (by omega) (by omega) fun qn G3 hrow hn=>?_
  rw [ep] at hrow ⊢
  obtain ⟨qn',e4,hqn,_⟩:=hrow
  injection e4 with e4;subst e4
  replace st:=st.push (cT_ qn (cP fI (opsF f i))) hn hqn
  refine lit_live1 fun ql hql=>?_
  replace st:=st.cell hql [rowP qn (opsF f i)]
  generalize G3.set ql [.sl qn 1 0 (opsF f i).length]=G4 at st ⊢
  refine rn_pushL st 2 rfl (by rw [opsA_len];omega) fun q' D' G5 hq' st=>?_
  rw [← hsucc] at st
  simp only [List.set_cons_succ,List.set_cons_zero] at st
  have hq5:=(st.get 1 rfl:G5 q=_)
  rw [e1,cI_app] at hq5
  refine ⟨by omega,by omega,by omega,?_⟩
  refine lit1 tab_22 rfl tab_3 ⟨rfl,rfl⟩ ?_
  refine app_intsX (xs:=rr) (ys:=[(i:Int)]) hq5 (by simp only [List.length_singleton];omega) fun q2 hq2 hne=>?_
  rw [← e2]
  refine ⟨(i+1,.sl q' 1 0 ((opsA f i).length+1),D',q2,_),⟨by simp only;omega,(st.moved 1 rfl hq2 (c:=cP fI (roots f (i+1)))).drop⟩,by simp only;omega,.refl _,.refl _,?_,Heap.le_refl _⟩
  rw [wk_int,i6_ (by omega) (by omega)];simp
 ·have:i=f.length:=by omega
  subst this
  exact fin_rows st 1 rfl
theorem lit1r {G:Heap} {K:AV→Heap→Prop} {n:Int} (h:∀q,G q=none→K (rowP q [n]) (G.set q (cP fI [n]))):bS_ tab 22 1 [(0,I n)] G (wkK K):=by
 simp only [bS_,tab_22,tab_3]
 refine ⟨by omega,?_⟩
 simp only [fillV,zA_,List.replicate_succ,List.replicate_zero,List.flatten_cons,List.flatten_nil,List.append_nil,AV.cells,splice]
 simp only [List.length_cons,List.length_nil,Nat.reduceAdd,Nat.zero_mul,Nat.zero_add,Nat.le_refl,and_self,if_true,List.take_zero,List.nil_append,List.drop_succ_cons,List.drop_zero,List.append_nil]
 exact fun r hr=>wkK.keep (h r hr)
def tr (f:List Sd):List Int:=sc (trL f f.length)
theorem tr_len (f:List Sd):(tr f).length≤2*f.length+1:=Nat.le_trans (sc_len _) (trL_len f f.length)
theorem tracked_row (f:List Sd) (g:GoodFm f) {H:Heap} {K:AV→Heap→Prop} (h:∀q G,RowR (tr f) (rowP q (tr f)) G [q]→New H G [q]→K (rowP q (tr f)) G):CallT Tryz.prog 100 [Ds f] H K:=by
 have hl:=g.l1
 have hl0:=g.l0
 refine CallT.fin ?_
 have e0:IntKind.i64.wrap ((f.length:Int) - 1)=f.length - 1:=i6_ (by omega) (by omega)
 refine W100_ok ?_;simp (maxSteps:=1000000) (disch:=first | assumption | (apply ν6;assumption)) only [W100,vz,vu,vv,eqS,eF_,↓c1_,↓c2_,tabs,reduceCtorEq,ι5,↓reduceIte,ν1,ν2,ν3,ν4,ν5,ι1,ι2,ι3,ι4,e0]
 refine lit1r (n:=(f.length:Int) - 1) fun q0 hq0=>?_
 have st:=(St.nil H).cell hq0 (cP fI (trL f 0))
 have ez:[(f.length:Int) - 1]=trL f 0:=by simp [trL]
 rw [ez]
 generalize H.set q0 (cP fI (trL f 0))=G at st ⊢
 refine Pu.use (operandIndexes_spec f g) ?_
 (try simp (maxSteps:=1000000) (disch:=first | assumption | (apply ν6;assumption)) only [vz,vu,vv,eqS,eF_,↓c1_,↓c2_,tabs,reduceCtorEq,ι5,↓reduceIte,ν1,ν2,ν3,ν4,ν5,ι1,ι2,ι3,ι4])
 refine L100_0_rule ((0:Nat),q0,G) (fun s=>rowP s.2.1 (trL f s.1)) (fun s=>I s.1) (fun s=>s.2.2)
  (fun s=>s.1≤f.length∧St H [cT_ s.2.1 (cP fI (trL f s.1))] s.2.2) (fun s=>f.length - s.1)
  ⟨⟨by simp,st⟩,.refl _,.refl _,Heap.le_refl _⟩ ?_
 clear st
 rintro ⟨i,q,G⟩ ⟨hi,st⟩
 dsimp only at hi st
 have htl:=trL_len f i
 (try simp (maxSteps:=1000000) (disch:=first | assumption | (apply ν6;assumption)) only [vz,vu,vv,eqS,eF_,↓c1_,↓c2_,tabs,reduceCtorEq,ι5,↓reduceIte,ν1,ν2,ν3,ν4,ν5,ι1,ι2,ι3,ι4,B100_0])
 refine ⟨fun h1=>⟨by omega,h1,?_⟩,fun h1=>?_⟩
 ·have hlt:i < f.length:=by omega
  have hok:=g.ok i hlt
  have hsucc:=trL_succ f i
  have e5:IntKind.i64.wrap ((i:Int)+1)=((i+1:Nat):Int):=by rw [i6_ (by omega) (by omega)];simp
  have hog:=opsA_get f hlt
  have hol:=opsA_len f f.length
  have hat:trAt f i=if (f.getD i default).op=7∨(f.getD i default).op=8 then [(i:Int),(i:Int) - 1] else if (f.getD i default).op=4 then [(i:Int) - 1] else []:=rfl
  have hop2:(f.getD i default).op=7∨(f.getD i default).op=8→opsF f i=[(tst f (i - 1):Int) - 1,(i:Int) - 1]:=fun h=>by
   have:need (f.getD i default).op=2:=by rcases h with h | h<;>rw [h]<;>rfl
   rw [opsF,if_neg (by omega),if_neg (by omega)]
  have hop1:(f.getD i default).op=4→opsF f i=[(i:Int) - 1]:=fun h=>by
   have:need (f.getD i default).op=1:=by rw [h];rfl
   rw [opsF,if_neg (by omega),if_pos this]
  generalize f.getD i default=y at hat hop1 hop2 hok ⊢
  intro r hr
  replace st:=st.cell hr [I y.op,I y.n]
  generalize G.set r [I y.op,I y.n]=G2 at st ⊢
  (try simp (maxSteps:=1000000) (disch:=first | assumption | (apply ν6;assumption)) only [vz,vu,vv,eqS,eF_,↓c1_,↓c2_,tabs,reduceCtorEq,ι5,↓reduceIte,ν1,ν2,ν3,ν4,ν5,ι1,ι2,ι3,ι4,lA_ (st.get 0 rfl)])
  have key:∀b:Bool,(b=true↔(y.op=7∨y.op=8))→∀N:AV→AV→Heap→Prop,(∀q' G',St H [cT_ q' (cP fI (trL f (i+1)))] G'→N (rowP q' (trL f (i+1))) (I ((i+1:Nat):Int)) G')→
    J100_1 (wkK K) N (rowP q (trL f i)) (Ls (opsA f f.length)) (I i) (Ds f) (I f.length) (I i) (I y.op) (B b) G2:=by
   intro b hb N hN
   (try simp (maxSteps:=1000000) (disch:=first | assumption | (apply ν6;assumption)) only [vz,vu,vv,eqS,eF_,↓c1_,↓c2_,tabs,reduceCtorEq,ι5,↓reduceIte,ν1,ν2,ν3,ν4,ν5,ι1,ι2,ι3,ι4,J100_1,e5])
   have e6:trL f i++trAt f i=trL f (i+1):=hsucc.symm
   refine ⟨fun h2=>?_,fun h2=>⟨fun h4=>?_,fun h4=>?_⟩⟩
   ·have h7:=hb.1 h2
    have ho:=hop2 h7
    rw [hat,if_pos h7] at e6
    rw [hog,ho]
    refine ⟨by omega,by rw [hol];omega,by omega,by simp,?_⟩
    refine lit2 tab_22 rfl tab_3 ⟨rfl,rfl⟩ ?_
    refine st_appI (ys:=[(i:Int),(i:Int) - 1]) st 1 rfl (by simp only [List.length_cons,List.length_nil];omega) fun q' G' hq' st=>?_
    rw [e6] at st ⊢
    exact hN _ _ st.drop
   ·have h7:¬(y.op=7∨y.op=8):=fun h=>by rw [hb.2 h] at h2;cases h2
    rw [hat,if_neg h7,if_pos h4] at e6
    rw [hog,hop1 h4]
    refine ⟨by omega,by rw [hol];omega,by omega,by simp,?_⟩
    refine lit1 tab_22 rfl tab_3 ⟨rfl,rfl⟩ ?_
    refine st_appI (ys:=[(i:Int) - 1]) st 1 rfl (by simp only [List.length_cons,List.length_nil];omega) fun q' G' hq' st=>?_
    rw [e6] at st ⊢
    exact hN _ _ st.drop
   ·have h7:¬(y.op=7∨y.op=8):=fun h=>by rw [hb.2 h] at h2;cases h2
    rw [hat,if_neg h7,if_neg h4,List.append_nil] at e6
    rw [e6] at st ⊢
    exact hN _ _ st.drop
  refine ⟨fun h7=>key (decide (y.op=7)) (by simp [h7]) _ fun q' G' st=>⟨(i+1,q',G'),⟨by simp only;omega,st⟩,by simp only;omega,.refl _,.refl _,Heap.le_refl _⟩,fun h7=>key (decide (y.op=8)) (by simp [h7]) _ fun q' G' st=>⟨(i+1,q',G'),⟨by simp only;omega,st⟩,by simp only;omega,.refl _,.refl _,Heap.le_refl _⟩⟩
 ·have:i=f.length:=by omega
  subst this
  have hq:G q=some (cP fI (trL f f.length)):=st.get 0 rfl
  have hsl:(srt (trL f f.length)).length=(trL f f.length).length:=List.length_mergeSort ..
  refine Sort_row hq (by omega) ?_
  replace st:=st.put 0 rfl (cP fI (srt (trL f f.length)))
  have hq:(G.set q (cP fI (srt (trL f f.length)))) q=some (cP fI (srt (trL f f.length))):=Heap.set_same _ _ _
  generalize G.set q (cP fI (srt (trL f f.length)))=G2 at st hq ⊢
  rw [show rowP q (trL f f.length)=rowP q (srt (trL f f.length)) by simp only [rowP,hsl]]
  refine Compact_row hq (by omega) ?_
  replace st:=st.put 0 rfl (cP fI (tr f))
  exact wkK.keep (h q _ ⟨q,rfl,st.get 0 rfl,rfl⟩ ⟨st.ndT 0 rfl,st.fr _ (List.mem_cons_self ..),st.le⟩)
end Go.Proofs.YtolffbcnbcjeaaaGreat
namespace Go.Proofs.YtolffbcnbcjeaaaGreat
open Go Go.Sep Go.Pt
attribute [local irreducible] CallT
def trQ (f:List Sd) (i:Nat):List Int:=(((List.range i).map (trAt f)).flatten).foldl put [(f.length:Int) - 1]
theorem trQ_succ (f:List Sd) (i:Nat):trQ f (i+1)=(trAt f i).foldl put (trQ f i):=by simp [trQ,List.range_succ,List.foldl_append]
theorem trQ_lt (f:List Sd) (i:Nat):(trQ f i).Pairwise (· < ·):=(foldl_put _ _ (by simp)).1
theorem foldl_putlen (xs:List Int):∀l,(xs.foldl put l).length≤l.length+xs.length:=by
 induction xs with
 | nil=>intro l;simp
 | cons a xs ih=>intro l;have:=ih (put l a);have:=put_len l a;rw [List.foldl_cons,List.length_cons];omega
theorem trQ_len (f:List Sd) (i:Nat):(trQ f i).length≤2*i+1:=by
 have h1:=foldl_putlen (((List.range i).map (trAt f)).flatten) [(f.length:Int) - 1]
 have h2:=trL_len f i
 rw [trL,List.length_cons] at h2
 rw [List.length_singleton] at h1
 unfold trQ;omega
theorem trQ_all (f:List Sd):trQ f f.length=tr f:=by
 have h:=foldl_put (((List.range f.length).map (trAt f)).flatten) [(f.length:Int) - 1] (by simp)
 refine rise_ext h.1 (sc_lt _) fun x=>?_
 unfold trQ tr
 rw [h.2,sc_mem,trL,List.mem_cons]
 simp
theorem l13Tracked_spec (f:List Sd) (g:GoodFm f):Pu Tryz.prog 92 [Ds f] (Is (tr f)):=by
 have hl:=g.l1
 have hl0:=g.l0
 refine Pu.of fun H=>?_
 have e0:IntKind.i64.wrap ((f.length:Int) - 1)=f.length - 1:=i6_ (by omega) (by omega)
 refine W92_ok ?_;simp (maxSteps:=1000000) (disch:=first | assumption | (apply ν6;assumption)) only [W92,vz,vu,vv,eqS,eF_,↓c1_,↓c2_,tabs,reduceCtorEq,ι5,↓reduceIte,ν1,ν2,ν3,ν4,ν5,ι1,ι2,ι3,ι4,e0]
 refine lit1 tab_22 rfl tab_3 ⟨rfl,rfl⟩ ?_
 (try simp (maxSteps:=1000000) (disch:=first | assumption | (apply ν6;assumption)) only [vz,vu,vv,eqS,eF_,↓c1_,↓c2_,tabs,reduceCtorEq,ι5,↓reduceIte,ν1,ν2,ν3,ν4,ν5,ι1,ι2,ι3,ι4])
 refine L92_0_rule (0:Nat) (fun i=>Is (trQ f i)) (fun i=>I i) (fun _=>H) (fun i=>i≤f.length) (fun i=>f.length - i) ⟨by omega,.refl _,.refl _,Heap.le_refl _⟩ ?_
 intro i hi
 have htl:=trQ_len f i
 have hlt:=trQ_lt f i
 (try simp (maxSteps:=1000000) (disch:=first | assumption | (apply ν6;assumption)) only [vz,vu,vv,eqS,eF_,↓c1_,↓c2_,tabs,reduceCtorEq,ι5,↓reduceIte,ν1,ν2,ν3,ν4,ν5,ι1,ι2,ι3,ι4,B92_0])
 refine ⟨fun h1=>⟨by omega,h1,?_⟩,fun h1=>?_⟩
 ·have hlt:i < f.length:=by omega
  have e5:IntKind.i64.wrap ((i:Int)+1)=((i+1:Nat):Int):=by rw [i6_ (by omega) (by omega)];simp
  have e7:IntKind.i64.wrap ((i:Int) - 1)=(i:Int) - 1:=i6_ (by omega) (by omega)
  have hsucc:=trQ_succ f i
  have hat:trAt f i=if (f.getD i default).op=7∨(f.getD i default).op=8 then [(i:Int),(i:Int) - 1] else if (f.getD i default).op=4 then [(i:Int) - 1] else []:=rfl
  generalize f.getD i default=y at hat ⊢
  intro r hr
  have hle:=Heap.le_set (b:=[I y.op,I y.n]) hr
  generalize H.set r [I y.op,I y.n]=G at hle ⊢
  have key:∀b:Bool,(b=true↔(y.op=7∨y.op=8))→∀(K N),(∀G',Heap.le G G'→N (Is (trQ f (i+1))) (I ((i+1:Nat):Int)) G')→
    J92_1 K N (Is (trQ f i)) (I i) (Ds f) (I f.length) (I i) (I y.op) (B b) G:=by
   intro b hb K N hN
   (try simp (maxSteps:=1000000) (disch:=first | assumption | (apply ν6;assumption)) only [vz,vu,vv,eqS,eF_,↓c1_,↓c2_,tabs,reduceCtorEq,ι5,↓reduceIte,ν1,ν2,ν3,ν4,ν5,ι1,ι2,ι3,ι4,J92_1,e5,e7])
   refine ⟨fun h2=>?_,fun h2=>⟨fun h4=>?_,fun h4=>?_⟩⟩
   ·rw [hat,if_pos (hb.1 h2)] at hsucc
    refine Pu.use (l1Put_spec _ (i:Int) ‹_› (by omega)) ?_
    have hpl:=put_len (trQ f i) (i:Int)
    refine Pu.use (l1Put_spec _ ((i:Int) - 1) (put_lt _ ‹_›) (by omega)) ?_
    rw [show put (put (trQ f i) i) (i - 1)=trQ f (i+1) by rw [hsucc];rfl]
    (try simp (maxSteps:=1000000) (disch:=first | assumption | (apply ν6;assumption)) only [vz,vu,vv,eqS,eF_,↓c1_,↓c2_,tabs,reduceCtorEq,ι5,↓reduceIte,ν1,ν2,ν3,ν4,ν5,ι1,ι2,ι3,ι4,e5])
    exact hN G (Heap.le_refl _)
   ·have h7:¬(y.op=7∨y.op=8):=fun h=>by rw [hb.2 h] at h2;cases h2
    rw [hat,if_neg h7,if_pos h4] at hsucc
    refine Pu.use (l1Put_spec _ ((i:Int) - 1) ‹_› (by omega)) ?_
    rw [show put (trQ f i) (i - 1)=trQ f (i+1) by rw [hsucc];rfl]
    (try simp (maxSteps:=1000000) (disch:=first | assumption | (apply ν6;assumption)) only [vz,vu,vv,eqS,eF_,↓c1_,↓c2_,tabs,reduceCtorEq,ι5,↓reduceIte,ν1,ν2,ν3,ν4,ν5,ι1,ι2,ι3,ι4,e5])
    exact hN G (Heap.le_refl _)
   ·have h7:¬(y.op=7∨y.op=8):=fun h=>by rw [hb.2 h] at h2;cases h2
    rw [hat,if_neg h7,if_neg h4] at hsucc
    rw [show trQ f i=trQ f (i+1) by rw [hsucc];rfl]
    exact hN G (Heap.le_refl _)
  refine ⟨fun h7=>key (decide (y.op=7)) (by simp [h7]) _ _ fun G' hg=>⟨i+1,by omega,by omega,.refl _,.refl _,Heap.le_trans hle hg⟩,fun h7=>key (decide (y.op=8)) (by simp [h7]) _ _ fun G' hg=>⟨i+1,by omega,by omega,.refl _,.refl _,Heap.le_trans hle hg⟩⟩
 ·have:i=f.length:=by omega
  subst this
  rw [trQ_all]
def goodT (f:List Sd):Bool:=goodF f && decide ((tr f).length≤5)
theorem isTracked_spec (f:List Sd) (hl:f.length≤1048576):Pu Tryz.prog 60 [Ds f] (B (goodT f)):=by
 refine Pu.of fun H=>?_
 refine W60_ok ?_;simp (maxSteps:=1000000) (disch:=first | assumption | (apply ν6;assumption)) only [W60,vz,vu,vv,eqS,eF_,↓c1_,↓c2_,tabs,reduceCtorEq,ι5,↓reduceIte,ν1,ν2,ν3,ν4,ν5,ι1,ι2,ι3,ι4]
 refine Pu.use (GoodSaid_impl f hl) ?_
 cases hg:goodF f
 ·(try simp (maxSteps:=1000000) (disch:=first | assumption | (apply ν6;assumption)) only [vz,vu,vv,eqS,eF_,↓c1_,↓c2_,tabs,reduceCtorEq,ι5,↓reduceIte,ν1,ν2,ν3,ν4,ν5,ι1,ι2,ι3,ι4])
  rw [goodT,hg]
  first | rfl | exact ⟨rfl,Heap.le_refl _⟩
 ·(try simp (maxSteps:=1000000) (disch:=first | assumption | (apply ν6;assumption)) only [vz,vu,vv,eqS,eF_,↓c1_,↓c2_,tabs,reduceCtorEq,ι5,↓reduceIte,ν1,ν2,ν3,ν4,ν5,ι1,ι2,ι3,ι4])
  refine tracked_row f (goodF_iff.1 hg) fun q G hr hn=>?_
  (try simp (maxSteps:=1000000) (disch:=first | assumption | (apply ν6;assumption)) only [vz,vu,vv,eqS,eF_,↓c1_,↓c2_,tabs,reduceCtorEq,ι5,↓reduceIte,ν1,ν2,ν3,ν4,ν5,ι1,ι2,ι3,ι4])
  refine ⟨?_,hn.le⟩
  refine congrArg (fun b:Bool=>B b) ?_
  rw [goodT,hg,Bool.true_and]
  rw [Bool.eq_iff_iff];simp only [decide_eq_true_eq];omega
theorem l13Good_spec (f:List Sd) (hl:f.length≤1048576):Pu Tryz.prog 51 [Ds f] (B (goodT f)):=by
 refine Pu.of fun H=>?_
 refine W51_ok ?_;simp (maxSteps:=1000000) (disch:=first | assumption | (apply ν6;assumption)) only [W51,vz,vu,vv,eqS,eF_,↓c1_,↓c2_,tabs,reduceCtorEq,ι5,↓reduceIte,ν1,ν2,ν3,ν4,ν5,ι1,ι2,ι3,ι4]
 refine Pu.use (GoodSaid_spec f hl) ?_
 cases hg:goodF f
 ·(try simp (maxSteps:=1000000) (disch:=first | assumption | (apply ν6;assumption)) only [vz,vu,vv,eqS,eF_,↓c1_,↓c2_,tabs,reduceCtorEq,ι5,↓reduceIte,ν1,ν2,ν3,ν4,ν5,ι1,ι2,ι3,ι4])
  rw [goodT,hg]
  first | rfl | exact ⟨rfl,Heap.le_refl _⟩
 ·(try simp (maxSteps:=1000000) (disch:=first | assumption | (apply ν6;assumption)) only [vz,vu,vv,eqS,eF_,↓c1_,↓c2_,tabs,reduceCtorEq,ι5,↓reduceIte,ν1,ν2,ν3,ν4,ν5,ι1,ι2,ι3,ι4])
  refine Pu.use (l13Tracked_spec f (goodF_iff.1 hg)) ?_
  (try simp (maxSteps:=1000000) (disch:=first | assumption | (apply ν6;assumption)) only [vz,vu,vv,eqS,eF_,↓c1_,↓c2_,tabs,reduceCtorEq,ι5,↓reduceIte,ν1,ν2,ν3,ν4,ν5,ι1,ι2,ι3,ι4])
  refine congrArg (fun b:Bool=>B b) ?_
  rw [goodT,hg,Bool.true_and]
  rw [Bool.eq_iff_iff];simp only [decide_eq_true_eq];omega
theorem goodT_facts {f:List Sd} (h:goodT f=true):GoodFm f∧(tr f).length≤5:=by
 rw [goodT,Bool.and_eq_true,decide_eq_true_eq] at h
 exact ⟨goodF_iff.1 h.1,h.2⟩
theorem tracked_spec (f:List Sd) (g:GoodFm f):Pu Tryz.prog 100 [Ds f] (Is (tr f)):=by
 refine ⟨fun H=>CallT.fin (tracked_row f g fun q G hr hn=>?_)⟩
 obtain ⟨q',e,hq,_⟩:=hr
 injection e with e;subst e
 have hHq:=hn.fr q (by simp)
 refine fin_int hHq fun y b hb=>?_
 by_cases e:y=q
 ·subst e;rw [Heap.set_same] at hb;rw [hq];exact hb
 ·rw [Heap.set_other e] at hb;exact hn.le y b hb
def RowB (l:List Int) (ok:Bool) (r:AV) (G:Heap) (D:List Nat):Prop:=∃q,r=.tup [rowP q l,B ok]∧G q=some (cP fI l)∧D=[q]
theorem RowB.res (l:List Int) (ok:Bool):ResT (RowB l ok):=by
 refine ⟨?_,?_,?_⟩
 ·rintro r G G' D ⟨q,rfl,hq,rfl⟩ hf
  exact ⟨q,rfl,hf q (by simp) _ hq,rfl⟩
 ·rintro r G D ⟨q,rfl,hq,rfl⟩
  refine ⟨.inl ⟨_,rfl,fun u hu=>?_⟩,fun y hy bs hb c hc=>?_⟩
  ·rcases List.mem_cons.1 hu with rfl | hu
   ·exact .inr ⟨.inl ⟨_,_,_,_,rfl⟩,fun _=>rfl⟩
   ·rw [List.mem_singleton] at hu;rw [hu];exact .inr ⟨.p (.bool ok),fun _=>rfl⟩
  ·rw [List.mem_singleton.1 hy,hq] at hb
   cases hb
   obtain ⟨x,_,rfl⟩:=List.mem_map.1 hc
   exact .p (.int _ _)
 ·rintro r G D n G0 h0 ⟨q,rfl,hq,rfl⟩
  obtain ⟨q',e,h1,_⟩:=(RowR.res l).sh h0 ⟨q,rfl,hq,rfl⟩
  have e2:q'=q+n:=by
   have h1:sh2 n (rowP q l)=.sl (q+n) 1 0 l.length:=rfl
   rw [h1] at e
   injection e with e;exact e.symm
  subst e2
  exact ⟨q+n,rfl,h1,rfl⟩
end Go.Proofs.YtolffbcnbcjeaaaGreat
namespace Go.Proofs.YtolffbcnbcjeaaaGreat
open Go Go.Sep Go.Pt
attribute [local irreducible] CallT
end Go.Proofs.YtolffbcnbcjeaaaGreat
namespace Go.Proofs.YtolffbcnbcjeaaaGreat
open Go Go.Sep Go.Pt
attribute [local irreducible] CallT
def bitF (g:Int) (i:Nat):Bool:=decide (bitsI .and .i64 (Int.fdiv g (2^(min i 64))) 1=1)
def saysF (t:List Int) (g node:Int):Bool:=if node∈t then bitF g (t.idxOf node) else false
def lft (f:List Sd) (i:Nat):Nat:=tst f (i - 1) - 1
def evV (f:List Sd) (t:List Int) (lt nx:Int) (out:List Bool) (i:Nat):Bool:=
 if (f.getD i default).op=1 then bitF lt (f.getD i default).n.toNat
 else if (f.getD i default).op=2 then decide ((f.getD i default).n=1)
 else if (f.getD i default).op=3 then !out.getD (i - 1) default
 else if (f.getD i default).op=4 then saysF t nx ((i:Int) - 1)
 else if (f.getD i default).op=5 then out.getD (lft f i) default && out.getD (i - 1) default
 else if (f.getD i default).op=6 then out.getD (lft f i) default || out.getD (i - 1) default
 else if (f.getD i default).op=7 then out.getD (i - 1) default || (out.getD (lft f i) default && saysF t nx i)
 else out.getD (i - 1) default && (out.getD (lft f i) default || saysF t nx i)
def evL (f:List Sd) (t:List Int) (lt nx:Int):Nat→List Bool
 | 0=>[]
 | i+1=>evL f t lt nx i++[evV f t lt nx (evL f t lt nx i) i]
theorem evL_len (f:List Sd) (t:List Int) (lt nx:Int) (i:Nat):(evL f t lt nx i).length=i:=by
 induction i with
 | zero=>rfl
 | succ i ih=>rw [evL,List.length_append,ih];rfl
abbrev rnB (x:AV) (l:List Bool) (D:List Nat):Th:=rnT (LPl.local eBo) (LPl.has eBo) 1 x l D
theorem rnB_cases {x:AV} {l:List Bool} {G:Heap} {D:List Nat} (h:RN (LPl eBo) 1 x l G D):(x=.p .nil∧l=[]∧D=[])∨∃q,x=rowP q l∧G q=some (cP fB l)∧D=[q]:=by
 rcases h with h | ⟨q,cs,D',rfl,hq,hll,rfl⟩
 ·exact .inl h
 ·obtain ⟨rfl,rfl⟩:=LL.plain' hll
  refine .inr ⟨q,rfl,?_,rfl⟩
  have e:cells (l.map eBo)=cP fB l:=cells_P fB l
  rw [← e];exact hq
theorem rn_appB {H G:Heap} {Ts:List Th} {x:AV} {xs ys:List Bool} {D:List Nat} (s:St H Ts G) (i:Nat) (hi:Ts[i]?=some (rnB x xs D)) (hl:xs.length+ys.length≤1000000) {K:AV→Heap→Prop}
  (h:∀q' G',G q'=none→St H (Ts.set i (rnB (rowP q' (xs++ys)) (xs++ys) [q'])) G'→K (rowP q' (xs++ys)) G'):aP_ tab 116 116 x (.p (.sl (ys.map eBo))) G (wkK K):=
 RN.app (bz:=1) tab_116 rfl tab_4 tab_116 rfl rfl rfl (fun _=>rfl) s i hi rfl (by omega) (by omega) h
theorem lit0B {G:Heap} {K:AV→Heap→Prop} (h:∀q,G q=none→K (.sl q 1 0 0) (G.set q [])):bS_ tab 116 0 [] G (wkK K):=by
 simp only [bS_,tab_116,tab_4]
 refine ⟨by omega,?_⟩
 simp only [fillV,zA_,List.replicate_zero,List.flatten_nil]
 exact fun r hr=>wkK.keep (h r hr)
theorem tr_mem0 {f:List Sd}:∀{i:Nat},i < f.length→∀x∈trAt f i,x∈tr f:=by
 intro i hi x hx
 rw [tr,sc_mem,trL,List.mem_cons,List.mem_flatten]
 exact .inr ⟨trAt f i,List.mem_map.2 ⟨i,List.mem_range.2 hi,rfl⟩,hx⟩
theorem assumes_spec (t:List Int) (g node:Int) (hl:t.length≤1000) (hm:node∈t):Pu Tryz.prog 131 [Is t,I g,I node] (B (saysF t g node)):=by
 refine Pu.of fun H=>?_
 refine W131_ok ?_;simp (maxSteps:=1000000) (disch:=first | assumption | (apply ν6;assumption)) only [W131,vz,vu,vv,eqS,eF_,↓c1_,↓c2_,tabs,reduceCtorEq,ι5,↓reduceIte,ν1,ν2,ν3,ν4,ν5,ι1,ι2,ι3,ι4]
 refine Pu.use (IndexI_spec t node (by omega)) ?_
 rw [if_pos hm]
 (try simp (maxSteps:=1000000) (disch:=first | assumption | (apply ν6;assumption)) only [vz,vu,vv,eqS,eF_,↓c1_,↓c2_,tabs,reduceCtorEq,ι5,↓reduceIte,ν1,ν2,ν3,ν4,ν5,ι1,ι2,ι3,ι4])
 refine ⟨by omega,?_⟩
 rw [saysF,if_pos hm];rfl
theorem l13Says_spec (t:List Int) (g node:Int) (hl:t.length≤1000):Pu Tryz.prog 94 [Is t,I g,I node] (B (saysF t g node)):=by
 refine Pu.of fun H=>?_
 refine W94_ok ?_;simp (maxSteps:=1000000) (disch:=first | assumption | (apply ν6;assumption)) only [W94,vz,vu,vv,eqS,eF_,↓c1_,↓c2_,tabs,reduceCtorEq,ι5,↓reduceIte,ν1,ν2,ν3,ν4,ν5,ι1,ι2,ι3,ι4]
 refine L94_0_rule (0:Nat) (fun i=>I i) (fun _=>H) (fun i=>i≤t.length∧∀j,j < i→t.getD j default≠node) (fun i=>t.length - i) ⟨⟨by omega,by intros;omega⟩,.refl _,Heap.le_refl _⟩ ?_
 rintro i ⟨hi,ha⟩
 (try simp (maxSteps:=1000000) (disch:=first | assumption | (apply ν6;assumption)) only [vz,vu,vv,eqS,eF_,↓c1_,↓c2_,tabs,reduceCtorEq,ι5,↓reduceIte,ν1,ν2,ν3,ν4,ν5,ι1,ι2,ι3,ι4,B94_0])
 refine ⟨fun h1=>⟨by omega,h1,fun h2=>?_,fun h2=>⟨i+1,⟨by omega,fun j hj=>?_⟩,by omega,?_⟩⟩,fun h1=>?_⟩
 ·have hlt:i < t.length:=by omega
  have hm:node∈t:=by rw [← h2];exact getD_all (p:=fun x=>x∈t) (fun _ h=>h) hlt
  have hix:t.idxOf node=i:=by
   rw [List.idxOf,List.findIdx_eq hlt]
   refine ⟨by rw [← getD_lt (d:=default) hlt,h2];simp,fun j hj=>?_⟩
   have:=ha j hj
   rw [getD_lt (by omega:j < t.length)] at this
   simpa using this
  have eu:IntKind.u64.wrap (i:Int)=i:=by rw [IntKind.wrap_u64];omega
  rw [eu]
  refine ⟨by omega,?_⟩
  rw [saysF,if_pos hm,hix];rfl
 ·rcases Nat.lt_succ_iff_lt_or_eq.1 hj with h | rfl
  ·exact ha j h
  ·exact h2
 ·rw [wk_int,i6_ (by omega) (by omega)];simp
 ·have hm:node∉t:=by
   intro hm
   obtain ⟨j,hj,e⟩:=List.mem_iff_getElem.1 hm
   exact ha j (by omega) (by rw [getD_lt hj];exact e)
  rw [saysF,if_neg hm]
def frJ (f:List Sd) (k j:Nat):Nat:=if j=0 then k else if j=1 then tst f (k - 1) else tst f (tst f (k - 1) - 1)
theorem l10From_spec (f:List Sd) (g:GoodFm f):∀k,k < f.length→Pu Tryz.prog 152 [Ds f,I k] (I (tst f k)):=by
 intro k
 induction k using Nat.strongRecOn with
 | ind k ih=>
  intro hk
  have hl:=g.l1
  have hok:=g.ok k hk
  have hnd:=sdOk_need hok.1
  refine Pu.of fun H=>?_
  refine W152_ok ?_;simp (maxSteps:=1000000) (disch:=first | assumption | (apply ν6;assumption)) only [W152,vz,vu,vv,eqS,eF_,↓c1_,↓c2_,tabs,reduceCtorEq,ι5,↓reduceIte,ν1,ν2,ν3,ν4,ν5,ι1,ι2,ι3,ι4]
  refine ⟨by omega,by omega,?_⟩
  refine Pu.use (need_spec.l10Need_spec (f.getD k default).op) ?_
  have t0:need (f.getD k default).op=0→tst f k=k:=fun h=>tst0 h
  have t1:need (f.getD k default).op=1→1≤k∧tst f k=tst f (k - 1):=fun h=>tst1 g hk h
  have t2:need (f.getD k default).op=2→1≤k∧1≤tst f (k - 1)∧tst f (k - 1)≤k - 1∧tst f k=tst f (tst f (k - 1) - 1):=fun h=>by
   obtain ⟨a,b,c,d,_⟩:=tst2 g hk h;exact ⟨a,b,c,d⟩
  generalize need (f.getD k default).op=m at hnd t0 t1 t2 ⊢
  refine L152_0_rule (0:Nat) (fun j=>I (frJ f k j)) (fun j=>I (m - j)) (fun _=>H) (fun j=>(j:Int)≤m) (fun j=>m.toNat - j) ⟨by omega,.refl _,by rw [wk_int];omega,Heap.le_refl _⟩ ?_
  intro j hj
  (try simp (maxSteps:=1000000) (disch:=first | assumption | (apply ν6;assumption)) only [vz,vu,vv,eqS,eF_,↓c1_,↓c2_,tabs,reduceCtorEq,ι5,↓reduceIte,ν1,ν2,ν3,ν4,ν5,ι1,ι2,ι3,ι4,B152_0])
  refine ⟨fun h1=>?_,fun h1=>?_⟩
  ·have e1:IntKind.i64.wrap ((frJ f k j:Int) - 1)=((frJ f k j - 1:Nat):Int)∧frJ f k j - 1 < k∧tst f (frJ f k j - 1)=frJ f k (j+1):=by
    rcases (by omega:(j=0∧m=1)∨(j=0∧m=2)∨(j=1∧m=2)) with ⟨rfl,hm⟩ | ⟨rfl,hm⟩ | ⟨rfl,hm⟩
    ·have:=t1 hm
     simp only [frJ,if_true]
     rw [i6_ (by omega) (by omega)]
     exact ⟨by omega,by omega,rfl⟩
    ·have:=t2 hm
     simp only [frJ,if_true]
     rw [i6_ (by omega) (by omega)]
     exact ⟨by omega,by omega,rfl⟩
    ·have:=t2 hm
     have h9:frJ f k 1=tst f (k - 1):=by simp [frJ]
     have h8:frJ f k 2=tst f (tst f (k - 1) - 1):=by simp [frJ]
     rw [h9,h8,i6_ (by omega) (by omega)]
     exact ⟨by omega,by omega,rfl⟩
   rw [e1.1]
   refine Pu.use (ih _ e1.2.1 (by omega)) ?_
   rw [e1.2.2]
   (try simp (maxSteps:=1000000) (disch:=first | assumption | (apply ν6;assumption)) only [vz,vu,vv,eqS,eF_,↓c1_,↓c2_,tabs,reduceCtorEq,ι5,↓reduceIte,ν1,ν2,ν3,ν4,ν5,ι1,ι2,ι3,ι4])
   refine ⟨j+1,by omega,by omega,.refl _,?_⟩
   rw [wk_int,i6_ (by omega) (by omega)];omega
  ·refine congrArg (fun n:Int=>I n) ?_
   rcases (by omega:(j=0∧m=0)∨(j=1∧m=1)∨(j=2∧m=2)) with ⟨rfl,hm⟩ | ⟨rfl,hm⟩ | ⟨rfl,hm⟩
   ·rw [t0 hm];simp [frJ]
   ·rw [(t1 hm).2];simp [frJ]
   ·rw [(t2 hm).2.2.2];simp [frJ]
structure Rd (f:List Sd) (out:List Bool) (i:Nat):Prop where
 i1:1≤i
 il:i - 1 < out.length
theorem evalNow_row (f:List Sd) (g:GoodFm f) (lt nx:Int) (hlt0:0≤lt) {H:Heap} {K:AV→Heap→Prop} (h:∀q G,New H G [q]→G q=some (cP fB (evL f (tr f) lt nx f.length))→K (rowP q (evL f (tr f) lt nx f.length)) G):CallT Tryz.prog 133 [Ds f,I lt,I nx] H K:=by
 have hl:=g.l1
 have htl:=tr_len f
 refine CallT.fin ?_
 refine W133_ok ?_;simp (maxSteps:=1000000) (disch:=first | assumption | (apply ν6;assumption)) only [W133,vz,vu,vv,eqS,eF_,↓c1_,↓c2_,tabs,reduceCtorEq,ι5,↓reduceIte,ν1,ν2,ν3,ν4,ν5,ι1,ι2,ι3,ι4]
 refine lit0B fun q0 hq0=>?_
 have st:=(St.nil H).push (rnB (.sl q0 1 0 0) [] [q0]) (New.cell hq0 (b:=[])) (.inr ⟨q0,[],[],rfl,Heap.set_same _ _ _,⟨rfl,rfl⟩,rfl⟩)
 generalize H.set q0 []=G at st ⊢
 refine Pu.use (operandIndexes_spec f g) ?_
 (try simp (maxSteps:=1000000) (disch:=first | assumption | (apply ν6;assumption)) only [vz,vu,vv,eqS,eF_,↓c1_,↓c2_,tabs,reduceCtorEq,ι5,↓reduceIte,ν1,ν2,ν3,ν4,ν5,ι1,ι2,ι3,ι4])
 refine Pu.use (tracked_spec f g) ?_
 (try simp (maxSteps:=1000000) (disch:=first | assumption | (apply ν6;assumption)) only [vz,vu,vv,eqS,eF_,↓c1_,↓c2_,tabs,reduceCtorEq,ι5,↓reduceIte,ν1,ν2,ν3,ν4,ν5,ι1,ι2,ι3,ι4])
 refine L133_0_rule ((0:Nat),(.sl q0 1 0 0:AV),[q0],G) (fun s=>s.2.1) (fun s=>I s.1) (fun s=>s.2.2.2)
  (fun s=>s.1≤f.length∧(s.2.1≠.p .nil)∧St H [rnB s.2.1 (evL f (tr f) lt nx s.1) s.2.2.1] s.2.2.2) (fun s=>f.length - s.1)
  ⟨⟨by simp,by simp,st⟩,.refl _,.refl _,Heap.le_refl _⟩ ?_
 clear st
 rintro ⟨i,x,D,G⟩ ⟨hi,hx,st⟩
 dsimp only at hi st hx
 obtain ⟨q,rfl,hq,rfl⟩:∃q,x=rowP q (evL f (tr f) lt nx i)∧G q=some (cP fB (evL f (tr f) lt nx i))∧D=[q]:=by
  rcases rnB_cases (st.get 0 rfl) with ⟨h,_⟩ | h
  ·exact absurd h hx
  ·exact h
 have hel:=evL_len f (tr f) lt nx i
 (try simp (maxSteps:=1000000) (disch:=first | assumption | (apply ν6;assumption)) only [vz,vu,vv,eqS,eF_,↓c1_,↓c2_,tabs,reduceCtorEq,ι5,↓reduceIte,ν1,ν2,ν3,ν4,ν5,ι1,ι2,ι3,ι4,B133_0])
 refine ⟨fun h1=>⟨by omega,h1,?_⟩,fun h1=>?_⟩
 ·have hlt:i < f.length:=by omega
  have hok:=g.ok i hlt
  have hev:evL f (tr f) lt nx (i+1)=evL f (tr f) lt nx i++[evV f (tr f) lt nx (evL f (tr f) lt nx i) i]:=rfl
  have hval:=evV.eq_1 f (tr f) lt nx (evL f (tr f) lt nx i) i
  have hog:=opsA_get f hlt
  have hol:=opsA_len f f.length
  have e5:IntKind.i64.wrap ((i:Int)+1)=((i+1:Nat):Int):=by rw [i6_ (by omega) (by omega)];simp
  have k1:(f.getD i default).op=3∨(f.getD i default).op=4→1≤i∧opsF f i=[(i:Int) - 1]:=fun h=>by
   have hn:need (f.getD i default).op=1:=by rcases h with h | h<;>rw [h]<;>rfl
   exact ⟨(tst1 g hlt hn).1,by rw [opsF,if_neg (by omega),if_pos hn]⟩
  have k2:(f.getD i default).op=5∨(f.getD i default).op=6∨(f.getD i default).op=7∨(f.getD i default).op=8→1≤i∧lft f i < i∧opsF f i=[(lft f i:Int),(i:Int) - 1]:=fun h=>by
   have hn:need (f.getD i default).op=2:=by rcases h with h | h | h | h<;>rw [h]<;>rfl
   obtain ⟨a,b,c,_⟩:=tst2 g hlt hn
   exact ⟨a,by unfold lft;omega,by rw [opsF,if_neg (by omega),if_neg (by omega),lft];congr 1;omega⟩
  have m7:(f.getD i default).op=7∨(f.getD i default).op=8→(i:Int)∈tr f:=fun h=>tr_mem0 hlt _ (by rw [trAt,if_pos h];simp)
  have m4:(f.getD i default).op=4→(i:Int) - 1∈tr f:=fun h=>tr_mem0 hlt _ (by rw [trAt,if_neg (by omega),if_pos h];simp)
  generalize hy:f.getD i default=y at hok hval k1 k2 m7 m4 ⊢
  generalize evL f (tr f) lt nx i=out at hq st hel hev hval ⊢
  generalize evV f (tr f) lt nx out i=b0 at hev hval
  intro r hr
  replace st:=st.cell hr [I y.op,I y.n]
  have hq:=Heap.le_set (b:=[I y.op,I y.n]) hr _ _ hq
  generalize G.set r [I y.op,I y.n]=G2 at st hq ⊢
  (try simp (maxSteps:=1000000) (disch:=first | assumption | (apply ν6;assumption)) only [vz,vu,vv,eqS,eF_,↓c1_,↓c2_,tabs,reduceCtorEq,ι5,↓reduceIte,ν1,ν2,ν3,ν4,ν5,ι1,ι2,ι3,ι4,lA_ (st.get 0 rfl)])
  have key:∀b,b=b0→∀N:AV→AV→Heap→Prop,(∀q' G',St H [rnB (rowP q' (evL f (tr f) lt nx (i+1))) (evL f (tr f) lt nx (i+1)) [q']] G'→N (rowP q' (evL f (tr f) lt nx (i+1))) (I ((i+1:Nat):Int)) G')→
    J133_1 (wkK K) N (I lt) (I nx) (rowP q out) (Ls (opsA f f.length)) (Is (tr f)) (B b) (Ds f) (I f.length) (I i) G2:=by
   intro b hb N hN
   rw [← hb] at hev
   (try simp (maxSteps:=1000000) (disch:=first | assumption | (apply ν6;assumption)) only [vz,vu,vv,eqS,eF_,↓c1_,↓c2_,tabs,reduceCtorEq,ι5,↓reduceIte,ν1,ν2,ν3,ν4,ν5,ι1,ι2,ι3,ι4,J133_1,e5])
   refine lit1 tab_116 rfl tab_4 ⟨rfl,rfl⟩ ?_
   refine rn_appB (ys:=[b]) st 1 rfl (by simp only [List.length_singleton];omega) fun q' G' hq' st=>?_
   rw [← hev] at st ⊢
   exact hN _ _ st.drop
  have done:∀b,b=b0→J133_1 (wkK K) (fun w7 w20 H'=>∃s':Nat×AV×List Nat×Heap,(s'.1≤f.length∧(s'.2.1≠.p .nil)∧St H [rnB s'.2.1 (evL f (tr f) lt nx s'.1) s'.2.2.1] s'.2.2.2)∧f.length - s'.1 < f.length - i∧AV.wk w7 s'.2.1∧AV.wk w20 (I s'.1)∧Heap.le s'.2.2.2 H') (I lt) (I nx) (rowP q out) (Ls (opsA f f.length)) (Is (tr f)) (B b) (Ds f) (I f.length) (I i) G2:=
   fun b hb=>key b hb _ fun q' G' st=>⟨(i+1,rowP q' (evL f (tr f) lt nx (i+1)),[q'],G'),⟨by simp only;omega,by simp,st⟩,by simp only;omega,.refl _,.refl _,Heap.le_refl _⟩
  have en:1≤i→((i:Int) - 1).toNat=i - 1:=fun _=>by omega
  have r1:1≤i→(List.take 1 (List.drop ((i - 1)*1) (cP fB out))).headD Q_=B (out.getD (i - 1) default):=fun h=>mapB_rd (by omega)
  have r2:lft f i < i→(List.take 1 (List.drop (lft f i*1) (cP fB out))).headD Q_=B (out.getD (lft f i) default):=fun h=>mapB_rd (by omega)
  have bd:∀k,k < i→k*1+1≤out.length:=fun k h=>by omega
  refine ⟨fun h1=>?_,fun h1=>⟨fun h3=>?_,fun h3=>⟨fun h4=>?_,fun h4=>⟨fun h5=>?_,fun h5=>⟨fun h6=>?_,fun h6=>⟨fun h7=>?_,fun h7=>⟨fun h8=>?_,fun h8=>?_⟩⟩⟩⟩⟩⟩⟩
  ·rw [if_pos h1] at hval
   have hn:=hok.1
   rw [sdOk,if_pos h1,Bool.and_eq_true,decide_eq_true_eq,decide_eq_true_eq] at hn
   exact ⟨hn.1,done _ hval.symm⟩
  ·obtain ⟨i1,ho⟩:=k1 (.inl h3)
   rw [if_neg h1,if_neg (by omega),if_pos h3] at hval
   have b1:=bd (i - 1) (by omega)
   (try simp (maxSteps:=1000000) (disch:=first | assumption | (apply ν6;assumption)) only [vz,vu,vv,eqS,eF_,↓c1_,↓c2_,tabs,reduceCtorEq,ι5,↓reduceIte,ν1,ν2,ν3,ν4,ν5,ι1,ι2,ι3,ι4,hog,ho,hol,List.getD_cons_zero,en i1,lA_ hq,r1 i1])
   generalize out.getD (i - 1) default=ob at hval ⊢
   repeat' (with_reducible (first | apply And.intro | intro hh))
   all_goals first | omega | (refine done _ ?_;(first | exact hval.symm | (rw [hval];(first | rfl | simp [*])));done) | (refine done false ?_;(first | exact hval.symm | (rw [hval];(first | rfl | simp [*])));done) | (refine done true ?_;(first | exact hval.symm | (rw [hval];(first | rfl | simp [*])));done)
  ·obtain ⟨i1,ho⟩:=k1 (.inr h4)
   rw [if_neg h1,if_neg (by omega),if_neg h3,if_pos h4] at hval
   (try simp (maxSteps:=1000000) (disch:=first | assumption | (apply ν6;assumption)) only [vz,vu,vv,eqS,eF_,↓c1_,↓c2_,tabs,reduceCtorEq,ι5,↓reduceIte,ν1,ν2,ν3,ν4,ν5,ι1,ι2,ι3,ι4,hog,ho,hol,List.getD_cons_zero])
   repeat' (with_reducible (first | apply And.intro | intro hh))
   all_goals first | omega | (refine Pu.use (assumes_spec (tr f) nx ((i:Int) - 1) (by omega) (m4 h4)) ?_;exact done _ hval.symm)
  ·obtain ⟨i1,i2,ho⟩:=k2 (.inl h5)
   rw [if_neg h1,if_neg (by omega),if_neg h3,if_neg h4,if_pos h5] at hval
   have b1:=bd (i - 1) (by omega)
   have b2:=bd (lft f i) i2
   (try simp (maxSteps:=1000000) (disch:=first | assumption | (apply ν6;assumption)) only [vz,vu,vv,eqS,eF_,↓c1_,↓c2_,tabs,reduceCtorEq,ι5,↓reduceIte,ν1,ν2,ν3,ν4,ν5,ι1,ι2,ι3,ι4,hog,ho,hol,List.getD_cons_zero,List.getD_cons_succ,Int.toNat_natCast,en i1,lA_ hq,r1 i1,r2 i2])
   generalize out.getD (i - 1) default=ob at hval ⊢
   generalize out.getD (lft f i) default=oa at hval ⊢
   repeat' (with_reducible (first | apply And.intro | intro hh))
   all_goals first | omega | (refine done _ ?_;(first | exact hval.symm | (rw [hval];(first | rfl | simp [*])));done) | (refine done false ?_;(first | exact hval.symm | (rw [hval];(first | rfl | simp [*])));done) | (refine done true ?_;(first | exact hval.symm | (rw [hval];(first | rfl | simp [*])));done)
  ·obtain ⟨i1,i2,ho⟩:=k2 (.inr (.inl h6))
   rw [if_neg h1,if_neg (by omega),if_neg h3,if_neg h4,if_neg h5,if_pos h6] at hval
   have b1:=bd (i - 1) (by omega)
   have b2:=bd (lft f i) i2
   (try simp (maxSteps:=1000000) (disch:=first | assumption | (apply ν6;assumption)) only [vz,vu,vv,eqS,eF_,↓c1_,↓c2_,tabs,reduceCtorEq,ι5,↓reduceIte,ν1,ν2,ν3,ν4,ν5,ι1,ι2,ι3,ι4,hog,ho,hol,List.getD_cons_zero,List.getD_cons_succ,Int.toNat_natCast,en i1,lA_ hq,r1 i1,r2 i2])
   generalize out.getD (i - 1) default=ob at hval ⊢
   generalize out.getD (lft f i) default=oa at hval ⊢
   repeat' (with_reducible (first | apply And.intro | intro hh))
   all_goals first | omega | (refine done _ ?_;(first | exact hval.symm | (rw [hval];(first | rfl | simp [*])));done) | (refine done false ?_;(first | exact hval.symm | (rw [hval];(first | rfl | simp [*])));done) | (refine done true ?_;(first | exact hval.symm | (rw [hval];(first | rfl | simp [*])));done)
  ·obtain ⟨i1,i2,ho⟩:=k2 (.inr (.inr (.inl h7)))
   rw [if_neg h1,if_neg (by omega),if_neg h3,if_neg h4,if_neg h5,if_neg h6,if_pos h7] at hval
   have b1:=bd (i - 1) (by omega)
   have b2:=bd (lft f i) i2
   (try simp (maxSteps:=1000000) (disch:=first | assumption | (apply ν6;assumption)) only [vz,vu,vv,eqS,eF_,↓c1_,↓c2_,tabs,reduceCtorEq,ι5,↓reduceIte,ν1,ν2,ν3,ν4,ν5,ι1,ι2,ι3,ι4,hog,ho,hol,List.getD_cons_zero,List.getD_cons_succ,Int.toNat_natCast,en i1,lA_ hq,r1 i1,r2 i2])
   generalize out.getD (i - 1) default=ob at hval ⊢
   generalize out.getD (lft f i) default=oa at hval ⊢
   repeat' (with_reducible (first | apply And.intro | intro hh))
   all_goals first | omega | (refine Pu.use (assumes_spec (tr f) nx i (by omega) (m7 (.inl h7))) ?_;refine done _ ?_;(first | exact hval.symm | (rw [hval];(first | rfl | simp [*])));done) | (refine done false ?_;(first | exact hval.symm | (rw [hval];(first | rfl | simp [*])));done) | (refine done true ?_;(first | exact hval.symm | (rw [hval];(first | rfl | simp [*])));done)
  ·obtain ⟨i1,i2,ho⟩:=k2 (.inr (.inr (.inr h8)))
   rw [if_neg h1,if_neg (by omega),if_neg h3,if_neg h4,if_neg h5,if_neg h6,if_neg h7] at hval
   have b1:=bd (i - 1) (by omega)
   have b2:=bd (lft f i) i2
   (try simp (maxSteps:=1000000) (disch:=first | assumption | (apply ν6;assumption)) only [vz,vu,vv,eqS,eF_,↓c1_,↓c2_,tabs,reduceCtorEq,ι5,↓reduceIte,ν1,ν2,ν3,ν4,ν5,ι1,ι2,ι3,ι4,hog,ho,hol,List.getD_cons_zero,List.getD_cons_succ,Int.toNat_natCast,en i1,lA_ hq,r1 i1,r2 i2])
   generalize out.getD (i - 1) default=ob at hval ⊢
   generalize out.getD (lft f i) default=oa at hval ⊢
   repeat' (with_reducible (first | apply And.intro | intro hh))
   all_goals first | omega | (refine Pu.use (assumes_spec (tr f) nx i (by omega) (m7 (.inr h8))) ?_;refine done _ ?_;(first | exact hval.symm | (rw [hval];(first | rfl | simp [*])));done) | (refine done false ?_;(first | exact hval.symm | (rw [hval];(first | rfl | simp [*])));done) | (refine done true ?_;(first | exact hval.symm | (rw [hval];(first | rfl | simp [*])));done)
  ·have h2:y.op=2:=by
    have hn:=sdOk_need hok.1
    rcases need_cases y.op with h | h | h | h
    ·omega
    ·omega
    ·omega
    ·omega
   rw [if_neg h1,if_pos h2] at hval
   exact done _ hval.symm
 ·have:i=f.length:=by omega
  subst this
  exact wkK.keep (h q G ⟨st.ndT 0 rfl,st.fr _ (List.mem_cons_self ..),st.le⟩ hq)
theorem l13Now_row (f:List Sd) (g:GoodFm f) (t:List Int) (lt nx:Int) (htl:t.length≤1000) (hlt0:0≤lt) {H:Heap} {K:AV→Heap→Prop} (h:∀q G,New H G [q]→G q=some (cP fB (evL f t lt nx f.length))→K (rowP q (evL f t lt nx f.length)) G):CallT Tryz.prog 124 [Ds f,Is t,I lt,I nx] H K:=by
 have hl:=g.l1
 have hl0:=g.l0
 refine CallT.fin ?_
 refine W124_ok ?_;simp (maxSteps:=1000000) (disch:=first | assumption | (apply ν6;assumption)) only [W124,vz,vu,vv,eqS,eF_,↓c1_,↓c2_,tabs,reduceCtorEq,ι5,↓reduceIte,ν1,ν2,ν3,ν4,ν5,ι1,ι2,ι3,ι4]
 have st:=(St.nil H).push (rnB (.p .nil) [] []) (⟨List.nodup_nil,fun y hy=>(by cases hy),Heap.le_refl _⟩:New H H []) (.inl ⟨rfl,rfl,rfl⟩)
 refine L124_0_rule ((0:Nat),(.p .nil:AV),([]:List Nat),H) (fun s=>s.2.1) (fun s=>I s.1) (fun s=>s.2.2.2)
  (fun s=>s.1≤f.length∧St H [rnB s.2.1 (evL f t lt nx s.1) s.2.2.1] s.2.2.2) (fun s=>f.length - s.1)
  ⟨⟨by simp,st⟩,.refl _,.refl _,Heap.le_refl _⟩ ?_
 clear st
 rintro ⟨i,x,D,G⟩ ⟨hi,st⟩
 dsimp only at hi st
 have hel:=evL_len f t lt nx i
 have hx:1≤i→∃q,x=rowP q (evL f t lt nx i)∧G q=some (cP fB (evL f t lt nx i))∧D=[q]:=fun h1=>by
  rcases rnB_cases (st.get 0 rfl) with ⟨_,h,_⟩ | h
  ·rw [h] at hel;simp at hel;omega
  ·exact h
 (try simp (maxSteps:=1000000) (disch:=first | assumption | (apply ν6;assumption)) only [vz,vu,vv,eqS,eF_,↓c1_,↓c2_,tabs,reduceCtorEq,ι5,↓reduceIte,ν1,ν2,ν3,ν4,ν5,ι1,ι2,ι3,ι4,B124_0])
 refine ⟨fun h1=>⟨by omega,h1,?_⟩,fun h1=>?_⟩
 ·have hlt:i < f.length:=by omega
  have hok:=g.ok i hlt
  have hev:evL f t lt nx (i+1)=evL f t lt nx i++[evV f t lt nx (evL f t lt nx i) i]:=rfl
  have hval:=evV.eq_1 f t lt nx (evL f t lt nx i) i
  have e5:IntKind.i64.wrap ((i:Int)+1)=((i+1:Nat):Int):=by rw [i6_ (by omega) (by omega)];simp
  have e1:IntKind.i64.wrap ((i:Int) - 1)=(i:Int) - 1:=i6_ (by omega) (by omega)
  have e2:1≤i→IntKind.i64.wrap ((i:Int) - 1)=((i - 1:Nat):Int):=fun h=>by rw [e1];omega
  have k1:(f.getD i default).op=3∨(f.getD i default).op=4→1≤i:=fun h=>by
   have hn:need (f.getD i default).op=1:=by rcases h with h | h<;>rw [h]<;>rfl
   exact (tst1 g hlt hn).1
  have k2:(f.getD i default).op=5∨(f.getD i default).op=6∨(f.getD i default).op=7∨(f.getD i default).op=8→1≤i∧lft f i < i∧IntKind.i64.wrap ((tst f (i - 1):Int) - 1)=(lft f i:Nat):=fun h=>by
   have hn:need (f.getD i default).op=2:=by rcases h with h | h | h | h<;>rw [h]<;>rfl
   obtain ⟨a,b,c,_⟩:=tst2 g hlt hn
   exact ⟨a,by unfold lft;omega,by unfold lft;rw [i6_ (by omega) (by omega)];omega⟩
  have hfr:1≤i→Pu Tryz.prog 152 [Ds f,I ((i - 1:Nat):Int)] (I (tst f (i - 1))):=fun h=>l10From_spec f g (i - 1) (by omega)
  generalize hy:f.getD i default=y at hok hval k1 k2 ⊢
  generalize evL f t lt nx i=out at st hel hev hval hx ⊢
  generalize evV f t lt nx out i=b0 at hev hval
  intro r hr
  replace st:=st.cell hr [I y.op,I y.n]
  have hx:=fun h1=>Exists.imp (fun q (h:x=rowP q out∧G q=some (cP fB out)∧D=[q])=>And.intro h.1 (Heap.le_set (b:=[I y.op,I y.n]) hr _ _ h.2.1)) (hx h1)
  generalize G.set r [I y.op,I y.n]=G2 at st hx ⊢
  (try simp (maxSteps:=1000000) (disch:=first | assumption | (apply ν6;assumption)) only [vz,vu,vv,eqS,eF_,↓c1_,↓c2_,tabs,reduceCtorEq,ι5,↓reduceIte,ν1,ν2,ν3,ν4,ν5,ι1,ι2,ι3,ι4,lA_ (st.get 0 rfl)])
  have key:∀b,b=b0→∀N:AV→AV→Heap→Prop,(∀q' G',St H [rnB (rowP q' (evL f t lt nx (i+1))) (evL f t lt nx (i+1)) [q']] G'→N (rowP q' (evL f t lt nx (i+1))) (I ((i+1:Nat):Int)) G')→
    J124_1 (wkK K) N (Ds f) (Is t) (I lt) (I nx) x (B b) (Ds f) (I f.length) (I i) G2:=by
   intro b hb N hN
   rw [← hb] at hev
   (try simp (maxSteps:=1000000) (disch:=first | assumption | (apply ν6;assumption)) only [vz,vu,vv,eqS,eF_,↓c1_,↓c2_,tabs,reduceCtorEq,ι5,↓reduceIte,ν1,ν2,ν3,ν4,ν5,ι1,ι2,ι3,ι4,J124_1,e5])
   refine lit1 tab_116 rfl tab_4 ⟨rfl,rfl⟩ ?_
   refine rn_appB (ys:=[b]) st 1 rfl (by simp only [List.length_singleton];omega) fun q' G' hq' st=>?_
   rw [← hev] at st ⊢
   exact hN _ _ st.drop
  have done:∀b,b=b0→J124_1 (wkK K) (fun w7 w20 H'=>∃s':Nat×AV×List Nat×Heap,(s'.1≤f.length∧St H [rnB s'.2.1 (evL f t lt nx s'.1) s'.2.2.1] s'.2.2.2)∧f.length - s'.1 < f.length - i∧AV.wk w7 s'.2.1∧AV.wk w20 (I s'.1)∧Heap.le s'.2.2.2 H') (Ds f) (Is t) (I lt) (I nx) x (B b) (Ds f) (I f.length) (I i) G2:=
   fun b hb=>key b hb _ fun q' G' st=>⟨(i+1,rowP q' (evL f t lt nx (i+1)),[q'],G'),⟨by simp only;omega,st⟩,by simp only;omega,.refl _,.refl _,Heap.le_refl _⟩
  have r1:1≤i→(List.take 1 (List.drop ((i - 1)*1) (cP fB out))).headD Q_=B (out.getD (i - 1) default):=fun h=>mapB_rd (by omega)
  have r2:lft f i < i→(List.take 1 (List.drop (lft f i*1) (cP fB out))).headD Q_=B (out.getD (lft f i) default):=fun h=>mapB_rd (by omega)
  have bd:∀k,k < i→k*1+1≤out.length:=fun k h=>by omega
  refine ⟨fun h1=>?_,fun h1=>⟨fun h2=>?_,fun h2=>⟨fun h3=>?_,fun h3=>⟨fun h4=>?_,fun h4=>⟨fun h5=>?_,fun h5=>⟨fun h6=>?_,fun h6=>⟨fun h7=>?_,fun h7=>⟨fun h8=>?_,fun h8=>?_⟩⟩⟩⟩⟩⟩⟩⟩
  ·rw [if_pos h1] at hval
   have hn:=hok.1
   rw [sdOk,if_pos h1,Bool.and_eq_true,decide_eq_true_eq,decide_eq_true_eq] at hn
   have eu:IntKind.u64.wrap y.n=y.n:=by rw [IntKind.wrap_u64];omega
   rw [eu]
   exact ⟨hn.1,done _ hval.symm⟩
  ·rw [if_neg h1,if_pos h2] at hval
   exact done _ hval.symm
  ·have i1:=k1 (.inl h3)
   obtain ⟨q,rfl,hq⟩:=hx i1
   rw [if_neg h1,if_neg h2,if_pos h3] at hval
   have b1:=bd (i - 1) (by omega)
   (try simp (maxSteps:=1000000) (disch:=first | assumption | (apply ν6;assumption)) only [vz,vu,vv,eqS,eF_,↓c1_,↓c2_,tabs,reduceCtorEq,ι5,↓reduceIte,ν1,ν2,ν3,ν4,ν5,ι1,ι2,ι3,ι4,e2 i1,Int.toNat_natCast,lA_ hq,r1 i1])
   generalize out.getD (i - 1) default=ob at hval ⊢
   repeat' (with_reducible (first | apply And.intro | intro hh))
   all_goals first | omega | (refine done _ ?_;(first | exact hval.symm | (rw [hval];(first | rfl | simp [*])));done) | (refine done false ?_;(first | exact hval.symm | (rw [hval];(first | rfl | simp [*])));done) | (refine done true ?_;(first | exact hval.symm | (rw [hval];(first | rfl | simp [*])));done)
  ·have i1:=k1 (.inr h4)
   obtain ⟨q,rfl,hq⟩:=hx i1
   rw [if_neg h1,if_neg h2,if_neg h3,if_pos h4] at hval
   (try simp (maxSteps:=1000000) (disch:=first | assumption | (apply ν6;assumption)) only [vz,vu,vv,eqS,eF_,↓c1_,↓c2_,tabs,reduceCtorEq,ι5,↓reduceIte,ν1,ν2,ν3,ν4,ν5,ι1,ι2,ι3,ι4,e1])
   refine Pu.use (l13Says_spec t nx ((i:Int) - 1) htl) ?_
   exact done _ hval.symm
  ·obtain ⟨i1,i2,i3⟩:=k2 (.inl h5)
   obtain ⟨q,rfl,hq⟩:=hx i1
   rw [if_neg h1,if_neg h2,if_neg h3,if_neg h4,if_pos h5] at hval
   have b1:=bd (i - 1) (by omega)
   have b2:=bd (lft f i) i2
   (try simp (maxSteps:=1000000) (disch:=first | assumption | (apply ν6;assumption)) only [vz,vu,vv,eqS,eF_,↓c1_,↓c2_,tabs,reduceCtorEq,ι5,↓reduceIte,ν1,ν2,ν3,ν4,ν5,ι1,ι2,ι3,ι4,e2 i1])
   refine Pu.use (hfr i1) ?_
   (try simp (maxSteps:=1000000) (disch:=first | assumption | (apply ν6;assumption)) only [vz,vu,vv,eqS,eF_,↓c1_,↓c2_,tabs,reduceCtorEq,ι5,↓reduceIte,ν1,ν2,ν3,ν4,ν5,ι1,ι2,ι3,ι4,e2 i1,i3,Int.toNat_natCast,lA_ hq,r1 i1,r2 i2])
   generalize out.getD (i - 1) default=ob at hval ⊢
   generalize out.getD (lft f i) default=oa at hval ⊢
   repeat' (with_reducible (first | apply And.intro | intro hh))
   all_goals first | omega | (refine done _ ?_;(first | exact hval.symm | (rw [hval];(first | rfl | simp [*])));done) | (refine done false ?_;(first | exact hval.symm | (rw [hval];(first | rfl | simp [*])));done) | (refine done true ?_;(first | exact hval.symm | (rw [hval];(first | rfl | simp [*])));done)
  ·obtain ⟨i1,i2,i3⟩:=k2 (.inr (.inl h6))
   obtain ⟨q,rfl,hq⟩:=hx i1
   rw [if_neg h1,if_neg h2,if_neg h3,if_neg h4,if_neg h5,if_pos h6] at hval
   have b1:=bd (i - 1) (by omega)
   have b2:=bd (lft f i) i2
   (try simp (maxSteps:=1000000) (disch:=first | assumption | (apply ν6;assumption)) only [vz,vu,vv,eqS,eF_,↓c1_,↓c2_,tabs,reduceCtorEq,ι5,↓reduceIte,ν1,ν2,ν3,ν4,ν5,ι1,ι2,ι3,ι4,e2 i1])
   refine Pu.use (hfr i1) ?_
   (try simp (maxSteps:=1000000) (disch:=first | assumption | (apply ν6;assumption)) only [vz,vu,vv,eqS,eF_,↓c1_,↓c2_,tabs,reduceCtorEq,ι5,↓reduceIte,ν1,ν2,ν3,ν4,ν5,ι1,ι2,ι3,ι4,e2 i1,i3,Int.toNat_natCast,lA_ hq,r1 i1,r2 i2])
   generalize out.getD (i - 1) default=ob at hval ⊢
   generalize out.getD (lft f i) default=oa at hval ⊢
   repeat' (with_reducible (first | apply And.intro | intro hh))
   all_goals first | omega | (refine done _ ?_;(first | exact hval.symm | (rw [hval];(first | rfl | simp [*])));done) | (refine done false ?_;(first | exact hval.symm | (rw [hval];(first | rfl | simp [*])));done) | (refine done true ?_;(first | exact hval.symm | (rw [hval];(first | rfl | simp [*])));done)
  ·obtain ⟨i1,i2,i3⟩:=k2 (.inr (.inr (.inl h7)))
   obtain ⟨q,rfl,hq⟩:=hx i1
   rw [if_neg h1,if_neg h2,if_neg h3,if_neg h4,if_neg h5,if_neg h6,if_pos h7] at hval
   have b1:=bd (i - 1) (by omega)
   have b2:=bd (lft f i) i2
   (try simp (maxSteps:=1000000) (disch:=first | assumption | (apply ν6;assumption)) only [vz,vu,vv,eqS,eF_,↓c1_,↓c2_,tabs,reduceCtorEq,ι5,↓reduceIte,ν1,ν2,ν3,ν4,ν5,ι1,ι2,ι3,ι4,e2 i1,Int.toNat_natCast,lA_ hq,r1 i1])
   generalize out.getD (i - 1) default=ob at hval ⊢
   repeat' (with_reducible (first | apply And.intro | intro hh))
   all_goals first | omega | (refine done false ?_;(first | exact hval.symm | (rw [hval];(first | rfl | simp [*])));done) | (refine done true ?_;(first | exact hval.symm | (rw [hval];(first | rfl | simp [*])));done) | skip
   refine Pu.use (hfr i1) ?_
   (try simp (maxSteps:=1000000) (disch:=first | assumption | (apply ν6;assumption)) only [vz,vu,vv,eqS,eF_,↓c1_,↓c2_,tabs,reduceCtorEq,ι5,↓reduceIte,ν1,ν2,ν3,ν4,ν5,ι1,ι2,ι3,ι4,i3,Int.toNat_natCast,lA_ hq,r2 i2])
   generalize out.getD (lft f i) default=oa at hval ⊢
   repeat' (with_reducible (first | apply And.intro | intro hh))
   all_goals first | omega | (refine Pu.use (l13Says_spec t nx i htl) ?_;refine done _ ?_;(first | exact hval.symm | (rw [hval];(first | rfl | simp [*])));done) | (refine done false ?_;(first | exact hval.symm | (rw [hval];(first | rfl | simp [*])));done) | (refine done true ?_;(first | exact hval.symm | (rw [hval];(first | rfl | simp [*])));done)
  ·obtain ⟨i1,i2,i3⟩:=k2 (.inr (.inr (.inr h8)))
   obtain ⟨q,rfl,hq⟩:=hx i1
   rw [if_neg h1,if_neg h2,if_neg h3,if_neg h4,if_neg h5,if_neg h6,if_neg h7] at hval
   have b1:=bd (i - 1) (by omega)
   have b2:=bd (lft f i) i2
   (try simp (maxSteps:=1000000) (disch:=first | assumption | (apply ν6;assumption)) only [vz,vu,vv,eqS,eF_,↓c1_,↓c2_,tabs,reduceCtorEq,ι5,↓reduceIte,ν1,ν2,ν3,ν4,ν5,ι1,ι2,ι3,ι4,e2 i1,Int.toNat_natCast,lA_ hq,r1 i1])
   generalize out.getD (i - 1) default=ob at hval ⊢
   repeat' (with_reducible (first | apply And.intro | intro hh))
   all_goals first | omega | (refine done false ?_;(first | exact hval.symm | (rw [hval];(first | rfl | simp [*])));done) | (refine done true ?_;(first | exact hval.symm | (rw [hval];(first | rfl | simp [*])));done) | skip
   refine Pu.use (hfr i1) ?_
   (try simp (maxSteps:=1000000) (disch:=first | assumption | (apply ν6;assumption)) only [vz,vu,vv,eqS,eF_,↓c1_,↓c2_,tabs,reduceCtorEq,ι5,↓reduceIte,ν1,ν2,ν3,ν4,ν5,ι1,ι2,ι3,ι4,i3,Int.toNat_natCast,lA_ hq,r2 i2])
   generalize out.getD (lft f i) default=oa at hval ⊢
   repeat' (with_reducible (first | apply And.intro | intro hh))
   all_goals first | omega | (refine Pu.use (l13Says_spec t nx i htl) ?_;refine done _ ?_;(first | exact hval.symm | (rw [hval];(first | rfl | simp [*])));done) | (refine done false ?_;(first | exact hval.symm | (rw [hval];(first | rfl | simp [*])));done) | (refine done true ?_;(first | exact hval.symm | (rw [hval];(first | rfl | simp [*])));done)
  ·exfalso
   have hn:=sdOk_need hok.1
   rcases need_cases y.op with h | h | h | h<;>omega
 ·have:i=f.length:=by omega
  subst this
  obtain ⟨q,rfl,hq,rfl⟩:=hx hl0
  exact wkK.keep (h q G ⟨st.ndT 0 rfl,st.fr _ (List.mem_cons_self ..),st.le⟩ hq)
end Go.Proofs.YtolffbcnbcjeaaaGreat
