/- The row of the law FnOneGoal: whatever the arguments, it answers true, and what it is told reads as it did. -/
import Derived.Test.YtohkciilfkhomaaGreatPO13
import Derived.Test.YtohkciilfkhomaaGreatRows
import Derived.WalkKit
import Derived.ProofKit
import Derived.OpenShut
set_option linter.unusedVariables false
set_option linter.unusedSimpArgs false
open Go.Sep.AV renaming any → Q_
open Nat renaming reduceAdd→Y1,reduceLeDiff→Y2,reduceLT→Y3,reduceMul→Y4,reduceSub→Y5
open Int renaming reduceToNat→X1,reduceSub→X2,reduceAdd→X3,reduceNeg→X4
open Array renaming toList→X5
open Ne renaming symm→Y6
open List renaming forall_mem_cons→Y7
namespace Go.Proofs.YtohkciilfkhomaaGreat
open Go Go.Sep Go.Pt
attribute [local irreducible] a_a
theorem buildN_W (x:Int):b_f tab 24 1 [(0,I x)]=some (fun r=>.sl r 1 0 1,cP fI [x]):=by
 simp only [b_f,a_g,a_u]
 rfl
theorem g_a (a:Au) (sa:smAu a) {H:Heap} {K:k_} (h:∀v G D,LAu (trR a).1 v G D→New H G D→K (.tup [v,B (trR a).2]) G):a_a Tryz.prog 18 [aAu a] H K:=by
 refine a_a.fin ?_
 refine lend3 (St.nil H) W18_hb fun z1 z2 z3 G0 st=>?_
 refine W18_ok ?_;simp (maxSteps:=1000000) (disch:=first|assumption|apply Y6;assumption) only [W18,vz,vu,vv,eqS,eF_,↓c1_,↓c2_,tabs,reduceCtorEq,X5,↓reduceIte,Y1,Y2,Y3,Y4,Y5,X1,X2,X3,X4]
 intro r hr r2 n2r hr2
 replace st:=(st.cell hr [I a.states,Is a.first,Es a.edges,Ls a.goals]).cell (r:=r2) (by rw [Heap.set_other n2r];exact hr2) [I 0,.p .nil,.p .nil,.p .nil]
 have ei:∀G:Heap,G.set r2 [AV.p (PV.int IntKind.i64 0),AV.p PV.nil,AV.p PV.nil,AV.p PV.nil]=G.set r2 [I 0,.p .nil,.p .nil,.p .nil]:=fun _=>rfl
 generalize (G0.set r [I a.states,Is a.first,Es a.edges,Ls a.goals]).set r2 [I 0,.p .nil,.p .nil,.p .nil]=G at st ⊢
 clear hr hr2 n2r G0 ei
 (try simp (disch:=first|assumption|apply Y6;assumption) only [vz,vu,vv,eqS,eF_,↓c1_,↓c2_,tabs,reduceCtorEq,X5,↓reduceIte,Y1,Y2,Y3,Y4,Y5,X1,X2,X3,X4,lA_ (st.get 1 rfl)])
 refine Pu.use (a_O a sa) ?_
 cases ga:a_l a
 ·have er:trR a=(c_t,false):=by simp [trR,ga]
  rw [er] at h
  (try simp (disch:=first|assumption|apply Y6;assumption) only [vz,vu,vv,eqS,eF_,↓c1_,↓c2_,tabs,reduceCtorEq,X5,↓reduceIte,Y1,Y2,Y3,Y4,Y5,X1,X2,X3,X4,sA_ (st.get 0 rfl)])
  exact e_c (st.put 0 rfl [I 0,.p .nil,.p .nil,.p .nil]) 2 3 4 rfl rfl rfl (by decide) (by decide) (by decide) h
 have er:trR a=(trT a,true):=by simp [trR,ga]
 rw [er] at h
 have hN:=d_u ga
 have fa:=hN.f
 have sta:=fa.st
 have hed:=fa.ed
 obtain ⟨hgo1,hgo2,_⟩:=hN.gob
 have hgB:=gA_B fa
 have hgl:=c_A a
 have hfi:=fa.fi
 (try simp (disch:=first|assumption|apply Y6;assumption) only [vz,vu,vv,eqS,eF_,↓c1_,↓c2_,tabs,reduceCtorEq,X5,↓reduceIte,Y1,Y2,Y3,Y4,Y5,X1,X2,X3,X4,lA_ (st.get 1 rfl)])
 refine Pu.use (next_spec a fa) ?_
 have hst:=c_k (gA a) hgB (nN a.first) (fun v hv=>by rw [hgl];exact c_v hN.fr v hv) (by rw [b_0];omega)
 rw [gA_I fa,e_K hN.fr] at hst
 have hbn:=buildN_W (-1)
 (try simp (disch:=first|assumption|apply Y6;assumption) only [vz,vu,vv,eqS,eF_,↓c1_,↓c2_,tabs,reduceCtorEq,X5,↓reduceIte,Y1,Y2,Y3,Y4,Y5,X1,X2,X3,X4,lA_ (st.get 1 rfl),hbn,b_g,newV])
 refine Pu.use hst ?_
 (try simp (disch:=first|assumption|apply Y6;assumption) only [vz,vu,vv,eqS,eF_,↓c1_,↓c2_,tabs,reduceCtorEq,X5,↓reduceIte,Y1,Y2,Y3,Y4,Y5,X1,X2,X3,X4,lA_ (st.get 1 rfl)])
 intro r25 hr25
 change a_a _ _ _ (G.set r25 (cP fI [-1])) _
 have hfrz:Wk (.tup [.sl r25 1 0 1,I a.states]) (G.set r25 (cP fI [-1])) (.tup [Is [-1],I a.states]) ((G.set r25 (cP fI [-1])).del r25):=Wk.frz (r:=r25) (sz:=1) (es:=[(-1:Int)].map fun n=>[fI n]) (by omega) (by rw [flat_P];exact Heap.set_same _ _ _) (szP _ _) (.tup (.cons frz_row (.cons (.same _) .nil)))
 refine a_a.pre ?_ hfrz
 obtain ⟨n,hn⟩:∃n,a.states.toNat=n:=⟨_,rfl⟩
 have hni:a.states=(n:Int):=by omega
 have hle25:Heap.le G ((G.set r25 (cP fI [-1])).del r25):=fun v b hb=>by
  rw [Heap.del_other (fun e=>by rw [e,hr25] at hb;cases hb),Heap.set_other (fun e=>by rw [e,hr25] at hb;cases hb)];exact hb
 have st2:=st.new
 replace st:St H [cT_ r2 [I 0,.p .nil,.p .nil,.p .nil],cT_ r [I a.states,Is a.first,Es a.edges,Ls a.goals],riT z1 (.p .nil) [] [z1],reT z2 (.p .nil) [] [z2],rgT z3 (.p .nil) [] [z3]] ((G.set r25 (cP fI [-1])).del r25):=⟨Heap.le_trans st.le hle25,st.nd,st.fr,fun t ht=>t.loc (st.ok t ht) fun y _ b hb=>hle25 y b hb⟩
 generalize (G.set r25 (cP fI [-1])).del r25=G1 at st ⊢
 clear hfrz hle25 st2 hr25 G
 have hrep:=fun {H:Heap} {K:k_}=>d_r (-1) n (by omega) (H:=H) (K:=K)
 rw [← hni] at hrep
 refine hrep fun q hq=>?_
 replace st:=st.cell hq (cP fI (List.replicate n (-1)))
 have hml:∀f,(mpI f n).length=n:=fun f=>a_f f n
 have er0:(List.replicate n (-1:Int))=mpI (nmF []) n:=by rw [b_c,nmF_nil]
 rw [er0] at st ⊢
 generalize G1.set q (cP fI (mpI (nmF []) n))=G2 at st ⊢
 clear hq hrep er0
 rw [rowP,hml]
 intro r6 hr6 r7 n76 hr7
 replace st:=(st.cell hr6 [.p .nil]).cell (r:=r7) (by rw [Heap.set_other n76];exact hr7) [I 0,.p .nil,.p .nil,.p .nil]
 have ez3:∀H:Heap,H.set r7 [AV.p (PV.int IntKind.i64 0),AV.p PV.nil,AV.p PV.nil,AV.p PV.nil]=H.set r7 [I 0,.p .nil,.p .nil,.p .nil]:=fun _=>rfl
 rw [ez3]
 generalize (G2.set r6 [.p .nil]).set r7 [I 0,.p .nil,.p .nil,.p .nil]=G3 at st ⊢
 clear hr6 hr7 n76 ez3
 (try simp (disch:=first|assumption|apply Y6;assumption) only [vz,vu,vv,eqS,eF_,↓c1_,↓c2_,tabs,reduceCtorEq,X5,↓reduceIte,Y1,Y2,Y3,Y4,Y5,X1,X2,X3,X4,sA_ (st.get 1 rfl)])
 replace st:=st.put 1 rfl [.sl q 1 0 n]
 generalize G3.set r6 [.sl q 1 0 n]=G4 at st ⊢
 (try simp (disch:=first|assumption|apply Y6;assumption) only [vz,vu,vv,eqS,eF_,↓c1_,↓c2_,tabs,reduceCtorEq,X5,↓reduceIte,Y1,Y2,Y3,Y4,Y5,X1,X2,X3,X4,sA_ (st.get 0 rfl)])
 replace st:=st.put 0 rfl [I 0,.p .nil,.p .nil,.p .nil]
 have ez4:∀H:Heap,H.set r7 [AV.p (PV.int IntKind.i64 0),AV.p PV.nil,AV.p PV.nil,AV.p PV.nil]=H.set r7 [I 0,.p .nil,.p .nil,.p .nil]:=fun _=>rfl
 try rw [ez4]
 generalize G4.set r7 [I 0,.p .nil,.p .nil,.p .nil]=G5 at st ⊢
 clear ez4
 (try simp (disch:=first|assumption|apply Y6;assumption) only [vz,vu,vv,eqS,eF_,↓c1_,↓c2_,tabs,reduceCtorEq,X5,↓reduceIte,Y1,Y2,Y3,Y4,Y5,X1,X2,X3,X4,lA_ (st.get 4 rfl)])
 have hfp:=e_u (gA a) hgB (goN a.goals) hgo1
 rw [gA_I fa,goN,gI_of hN.go] at hfp
 refine Pu.use hfp ?_
 have hgn:(gA a).length=n:=by omega
 have hFP:fpF (gA a) (goN a.goals)=gwB n (kp1 a):=by rw [fpF,← hgn];rfl
 have hFP2:fpF (gA a) (List.map nN a.goals)=gwB n (kp1 a):=hFP
 rw [hFP2]
 have hst2:∀v,(0≤farF (rwF (gA a)) n (nN a.first) v)↔kp2 a v=true:=fun v=>by rw [kp2,hgn,decide_eq_true_eq]
 rw [hgn]
 generalize farF (rwF (gA a)) n (nN a.first)=stp at hst2 ⊢
 have hKL:(gwB n (kp1 a)).filter (fun v=>kp2 a v)=kpL a n:=by
  unfold kpL gwB
  rw [List.filter_filter]
  congr 1
  funext v
  rw [Bool.and_comm]
 have hFl:(gwB n (kp1 a)).length≤n:=a_3 n _
 have hFb:∀v∈gwB n (kp1 a),v < n:=fun v hv=>gwB_lt hv
 have hFn:(gwB n (kp1 a)).Pairwise (·≠·):=List.Pairwise.filter _ List.nodup_range
 have htr:trT a=⟨if (kpL a n).length=0 then 1 else ((kpL a n).length:Int),a_S (nmF (kpL a n)) (nN a.first),keE (nmF (kpL a n)) a.edges,keG (nmF (kpL a n)) a.goals⟩:=by rw [trT,hgn]
 rw [htr] at h
 generalize gwB n (kp1 a)=FP at hKL hFl hFb hFn ⊢
 have hfl:=nL_ FP
 (try simp (disch:=first|assumption|apply Y6;assumption) only [vz,vu,vv,eqS,eF_,↓c1_,↓c2_,tabs,reduceCtorEq,X5,↓reduceIte,Y1,Y2,Y3,Y4,Y5,X1,X2,X3,X4,hfl])
 refine L18_0_rule ((0:Nat),G5) (fun s=>I s.1) (fun s=>s.2)
  (fun s=>s.1≤FP.length∧St H [cT_ r7 [I ((FP.take s.1).filter (fun v=>kp2 a v)).length,.p .nil,.p .nil,.p .nil],cT_ r6 [.sl q 1 0 n],cT_ q (cP fI (mpI (nmF ((FP.take s.1).filter (fun v=>kp2 a v))) n)),cT_ r2 [I 0,.p .nil,.p .nil,.p .nil],cT_ r [I a.states,Is a.first,Es a.edges,Ls a.goals],riT z1 (.p .nil) [] [z1],reT z2 (.p .nil) [] [z2],rgT z3 (.p .nil) [] [z3]] s.2) (fun s=>FP.length - s.1)
  ⟨⟨by simp,by simpa using st⟩,.refl _,Heap.le_refl _⟩ ?_
 clear st G5
 rintro ⟨i,G⟩ ⟨hi,st⟩
 dsimp only at hi st
 have e5:IntKind.i64.wrap ((i:Int)+1)=((i+1:Nat):Int):=by rw [i6_ (by omega) (by omega)];simp
 have hcl:∀f,(cP fI (mpI f n)).length=n:=fun f=>by simp [cP,hml]
 have hLl:((FP.take i).filter (fun v=>kp2 a v)).length≤i:=by
  have:=List.length_filter_le (fun v=>kp2 a v) (FP.take i);rw [List.length_take] at this;omega
 have e6:IntKind.i64.wrap ((((FP.take i).filter (fun v=>kp2 a v)).length:Int)+1)=((((FP.take i).filter (fun v=>kp2 a v)).length+1:Nat):Int):=by rw [i6_ (by omega) (by omega)];simp
 (try simp (disch:=first|assumption|apply Y6;assumption) only [vz,vu,vv,eqS,eF_,↓c1_,↓c2_,tabs,reduceCtorEq,X5,↓reduceIte,Y1,Y2,Y3,Y4,Y5,X1,X2,X3,X4,B18_0,hfl,e5])
 refine ⟨fun h1=>⟨by omega,h1,?_⟩,fun h1=>?_⟩
 ·have hlt:i < FP.length:=by omega
  rw [a_D hlt]
  have hv:=hFb (FP.getD i 0) (by simp [List.getD,hlt])
  have htk:(FP.take (i+1)).filter (fun v=>kp2 a v)=if kp2 a (FP.getD i 0) then (FP.take i).filter (fun v=>kp2 a v)++[FP.getD i 0] else (FP.take i).filter (fun v=>kp2 a v):=by
   have e:FP.take (i+1)=FP.take i++[FP.getD i 0]:=by rw [List.take_succ_eq_append_getElem hlt];simp [List.getD,hlt]
   rw [e,List.filter_append]
   generalize FP.getD i 0=w
   cases hk:kp2 a w<;>simp [hk]
  have hnot:FP.getD i 0∉(FP.take i).filter (fun v=>kp2 a v):=fun hm=>by
   have h2:=(List.mem_filter.1 hm).1
   obtain ⟨j,hj,e⟩:=List.mem_iff_getElem.1 h2
   rw [List.length_take] at hj
   rw [List.getElem_take] at e
   have h3:FP.getD i 0=FP[i]:=by simp [List.getD,hlt]
   rw [h3] at e
   exact List.pairwise_iff_getElem.1 hFn j i (by omega) hlt (by omega) e
  generalize FP.getD i 0=v at hv htk hnot ⊢
  generalize (FP.take i).filter (fun v=>kp2 a v)=L at st hLl e6 htk hnot ⊢
  have hg:=a_P stp hv
  have hsl:(mpI stp n).length=n:=hml stp
  (try simp (disch:=first|assumption|apply Y6;assumption) only [vz,vu,vv,eqS,eF_,↓c1_,↓c2_,tabs,reduceCtorEq,X5,↓reduceIte,Y1,Y2,Y3,Y4,Y5,X1,X2,X3,X4,hsl,hg,Int.toNat_natCast])
  refine ⟨by omega,by omega,fun h2=>?_,fun h2=>?_⟩
  ·rw [(hst2 v).1 h2] at htk
   simp only [if_true] at htk
   have hset:=c_8 (l:=mpI (nmF L) n) (t:=v) (by rw [hml];exact hv) (L.length:Int)
   rw [b_T,← nmF_snoc hnot,← htk] at hset
   have hlen1:((FP.take (i+1)).filter (fun v=>kp2 a v)).length=L.length+1:=by rw [htk];simp
   (try simp (disch:=first|assumption|apply Y6;assumption) only [vz,vu,vv,eqS,eF_,↓c1_,↓c2_,tabs,reduceCtorEq,X5,↓reduceIte,Y1,Y2,Y3,Y4,Y5,X1,X2,X3,X4,lA_ (st.get 1 rfl),lA_ (st.get 0 rfl),sA_ (st.get 2 rfl),hcl,hset,Int.toNat_natCast])
   refine ⟨by omega,by omega,by omega,?_⟩
   replace st:=st.put 2 rfl (cP fI (mpI (nmF ((FP.take (i+1)).filter (fun v=>kp2 a v))) n))
   generalize G.set q (cP fI (mpI (nmF ((FP.take (i+1)).filter (fun v=>kp2 a v))) n))=G3 at st ⊢
   (try simp (disch:=first|assumption|apply Y6;assumption) only [vz,vu,vv,eqS,eF_,↓c1_,↓c2_,tabs,reduceCtorEq,X5,↓reduceIte,Y1,Y2,Y3,Y4,Y5,X1,X2,X3,X4,lA_ (st.get 0 rfl),e6,sA_ (st.get 0 rfl)])
   exact ⟨(i+1,_),⟨by simp only;omega,by rw [hlen1];exact st.put 0 rfl _⟩,by simp only;omega,.refl _,Heap.le_refl _⟩
  ·have hk:kp2 a v=false:=by rw [Bool.eq_false_iff];exact fun hk=>h2 ((hst2 v).2 hk)
   rw [hk] at htk
   simp only [Bool.false_eq_true,if_false] at htk
   exact ⟨(i+1,G),⟨by simp only;omega,by rw [htk];exact st⟩,by simp only;omega,.refl _,Heap.le_refl _⟩
 ·have:i=FP.length:=by omega
  subst this
  rw [List.take_length,hKL] at st
  have hcnt0:(kpL a n).length≤n:=a_3 n _
  generalize hf:nmF (kpL a n)=f at st h
  generalize hcnt:(kpL a n).length=cnt at st h hcnt0
  have hmx:(if (cnt:Int) > 1 then (cnt:Int) else 1)=if cnt=0 then 1 else (cnt:Int):=by
   by_cases h0:cnt=0
   ·subst h0;rfl
   ·rw [if_neg h0];split<;>omega
  generalize (if cnt=0 then 1 else (cnt:Int))=m at h hmx
  (try simp (disch:=first|assumption|apply Y6;assumption) only [vz,vu,vv,eqS,eF_,↓c1_,↓c2_,tabs,reduceCtorEq,X5,↓reduceIte,Y1,Y2,Y3,Y4,Y5,X1,X2,X3,X4,lA_ (st.get 0 rfl),sA_ (st.get 0 rfl),hmx])
  replace st:=st.put 0 rfl [I m,.p .nil,.p .nil,.p .nil]
  generalize G.set r7 [I m,.p .nil,.p .nil,.p .nil]=G2 at st ⊢
  (try simp (disch:=first|assumption|apply Y6;assumption) only [vz,vu,vv,eqS,eF_,↓c1_,↓c2_,tabs,reduceCtorEq,X5,↓reduceIte,Y1,Y2,Y3,Y4,Y5,X1,X2,X3,X4,lA_ (st.get 4 rfl),f_w,List.cons_append,List.nil_append])
  have hk0:=fun (l:List Int) (hl:l.length≤96) (hb:∀x∈l,0≤x∧x < a.states.toNat) {G:Heap} {Ts:List Th} {K:k_} (st:St H Ts G) (i6 j6:Nat) (h6:Ts[i6]?=some (cT_ r6 [rowP q (mpI f n)])) (h7:Ts[j6]?=some (cT_ q (cP fI (mpI f n))))=>f_4 f n (nN l) (by rw [b_0];omega) (fun v hv=>by have:=c_v hb v hv;omega) st i6 j6 h6 h7 (K:=K)
  have hrw:∀f:Nat→Int,AV.sl q 1 0 n=rowP q (mpI f n):=fun f=>by rw [rowP,hml]
  rw [hrw f] at st
  have hk1:=fun {G:Heap} {Ts:List Th} {K:k_}=>hk0 a.first (by omega) hN.fr (G:=G) (Ts:=Ts) (K:=K)
  rw [e_K hN.fr] at hk1
  refine hk1 st 1 2 rfl rfl fun q1 G3 st=>?_
  generalize a_S f (nN a.first)=fst' at st h ⊢
  (try simp (disch:=first|assumption|apply Y6;assumption) only [vz,vu,vv,eqS,eF_,↓c1_,↓c2_,tabs,reduceCtorEq,X5,↓reduceIte,Y1,Y2,Y3,Y4,Y5,X1,X2,X3,X4,sA_ (st.get 1 rfl)])
  replace st:=st.put 1 rfl [I m,rowP q1 fst',.p .nil,.p .nil]
  generalize G3.set r7 [I m,rowP q1 fst',.p .nil,.p .nil]=G4 at st ⊢
  replace st:=c_d st 0 rfl
  simp only [List.set_cons_zero] at st
  clear hk1
  (try simp (disch:=first|assumption|apply Y6;assumption) only [vz,vu,vv,eqS,eF_,↓c1_,↓c2_,tabs,reduceCtorEq,X5,↓reduceIte,Y1,Y2,Y3,Y4,Y5,X1,X2,X3,X4,lA_ (st.get 5 rfl)])
  refine L18_1_rule ((0:Nat),(.p .nil:AV),[z2],G4) (fun s=>I s.1) (fun s=>s.2.2.2)
   (fun k=>k.1≤a.edges.length∧St H [riT 0 (rowP q1 fst') fst' [q1],cT_ r7 [I m,rowP q1 fst',k.2.1,.p .nil],cT_ r6 [rowP q (mpI f n)],cT_ q (cP fI (mpI f n)),cT_ r2 [I 0,.p .nil,.p .nil,.p .nil],cT_ r [I a.states,Is a.first,Es a.edges,Ls a.goals],riT z1 (.p .nil) [] [z1],reT z2 k.2.1 (keE f (a.edges.take k.1)) k.2.2.1,rgT z3 (.p .nil) [] [z3]] k.2.2.2) (fun k=>a.edges.length - k.1)
   ⟨⟨by simp,by simpa [keE] using st⟩,.refl _,Heap.le_refl _⟩ ?_
  clear st G4
  rintro ⟨k,y,D,G⟩ ⟨hk,st⟩
  dsimp only at hk st
  have e7:IntKind.i64.wrap ((k:Int)+1)=((k+1:Nat):Int):=by rw [i6_ (by omega) (by omega)];simp
  have hkel:=keE_len f (a.edges.take k)
  rw [List.length_take] at hkel
  (try simp (disch:=first|assumption|apply Y6;assumption) only [vz,vu,vv,eqS,eF_,↓c1_,↓c2_,tabs,reduceCtorEq,X5,↓reduceIte,Y1,Y2,Y3,Y4,Y5,X1,X2,X3,X4,B18_1,e7])
  refine ⟨fun h2=>⟨by omega,h2,?_⟩,fun h2=>?_⟩
  ·have hltk:k < a.edges.length:=by omega
   have hei:=a_h.1 (fa.ei _ (a_e (p:=fun x=>x∈a.edges) (d:=default) (fun _ h=>h) hltk))
   have hs:=keE_succ f hltk
   generalize a.edges.getD k default=e at hei hs ⊢
   have hmf:=hml f
   have hcf:=hcl f
   have rd1:=c_u (l:=mpI f n) (i:=e.src.toNat) (by omega)
   have rd2:=c_u (l:=mpI f n) (i:=e.dst.toNat) (by omega)
   rw [a_P f (by omega)] at rd1 rd2
   intro r11 hr11
   replace st:=st.cell hr11 [I e.src,I e.lt,I e.dst]
   generalize G.set r11 [I e.src,I e.lt,I e.dst]=G5 at st ⊢
   clear hr11
   (try simp (disch:=first|assumption|apply Y6;assumption) only [vz,vu,vv,eqS,eF_,↓c1_,↓c2_,tabs,reduceCtorEq,X5,↓reduceIte,Y1,Y2,Y3,Y4,Y5,X1,X2,X3,X4,lA_ (st.get 0 rfl),lA_ (st.get 3 rfl),lA_ (st.get 4 rfl),hmf,hcf,rd1,rd2])
   have nx:¬(0≤f e.src.toNat∧0≤f e.dst.toNat)→∃s':Nat×AV×List Nat×Heap,(s'.1≤a.edges.length∧St H [riT 0 (rowP q1 fst') fst' [q1],cT_ r7 [I m,rowP q1 fst',s'.2.1,.p .nil],cT_ r6 [rowP q (mpI f n)],cT_ q (cP fI (mpI f n)),cT_ r2 [I 0,.p .nil,.p .nil,.p .nil],cT_ r [I a.states,Is a.first,Es a.edges,Ls a.goals],riT z1 (.p .nil) [] [z1],reT z2 s'.2.1 (keE f (a.edges.take s'.1)) s'.2.2.1,rgT z3 (.p .nil) [] [z3]] s'.2.2.2)∧a.edges.length - s'.1 < a.edges.length - k∧(AV.p (PV.int IntKind.i64 ((k+1:Nat):Int))).wk (I s'.1)∧Heap.le s'.2.2.2 G5:=fun hc=>by
    rw [if_neg hc] at hs
    exact ⟨(k+1,y,D,G5),⟨by simp only;omega,by rw [hs];exact st.drop⟩,by simp only;omega,.refl _,Heap.le_refl _⟩
   refine ⟨by clear nx;omega,by clear nx;omega,by clear nx;omega,fun h3=>⟨by clear nx;omega,by clear nx;omega,by clear nx;omega,fun h4=>?_,fun h4=>nx fun h=>h4 h.2⟩,fun h3=>nx fun h=>h3 h.1⟩
   clear nx
   rw [if_pos ⟨h3,h4⟩] at hs
   (try simp (disch:=first|assumption|apply Y6;assumption) only [vz,vu,vv,eqS,eF_,↓c1_,↓c2_,tabs,reduceCtorEq,X5,↓reduceIte,Y1,Y2,Y3,Y4,Y5,X1,X2,X3,X4,lA_ (st.get 2 rfl)])
   refine ⟨by omega,by omega,by omega,by omega,by omega,by omega,?_⟩
   refine c_n (x:=⟨f e.src.toNat,e.lt,f e.dst.toNat⟩) ?_
   (try simp (disch:=first|assumption|apply Y6;assumption) only [vz,vu,vv,eqS,eF_,↓c1_,↓c2_,tabs,reduceCtorEq,X5,↓reduceIte,Y1,Y2,Y3,Y4,Y5,X1,X2,X3,X4,lA_ (st.get 2 rfl)])
   refine d_j (ys:=[⟨f e.src.toNat,e.lt,f e.dst.toNat⟩]) st 8 rfl (by simp only [List.length_cons,List.length_nil];omega) fun q' G' hq' st=>?_
   rw [← hs] at st ⊢
   obtain ⟨es',hes⟩:∃es',keE f (a.edges.take (k+1))=es':=⟨_,rfl⟩
   rw [hes] at st ⊢
   (try simp (disch:=first|assumption|apply Y6;assumption) only [vz,vu,vv,eqS,eF_,↓c1_,↓c2_,tabs,reduceCtorEq,X5,↓reduceIte,Y1,Y2,Y3,Y4,Y5,X1,X2,X3,X4,sA_ (st.get 2 rfl),e7])
   replace st:=st.put 2 rfl [I m,rowP q1 fst',rowE q' es',.p .nil]
   rw [← hes] at st
   exact ⟨(k+1,_,[q'],_),⟨by simp only;omega,st.drop⟩,by simp only;omega,.refl _,by rw [hes];exact Heap.le_refl _⟩
  ·have:k=a.edges.length:=by omega
   subst this
   rw [List.take_length] at st
   (try simp (disch:=first|assumption|apply Y6;assumption) only [vz,vu,vv,eqS,eF_,↓c1_,↓c2_,tabs,reduceCtorEq,X5,↓reduceIte,Y1,Y2,Y3,Y4,Y5,X1,X2,X3,X4,lA_ (st.get 5 rfl)])
   have hgol:=fa.gl
   refine L18_2_rule ((0:Nat),(.p .nil:AV),[z3],G) (fun s=>I s.1) (fun s=>s.2.2.2)
    (fun k=>k.1≤a.goals.length∧St H [riT 0 (rowP q1 fst') fst' [q1],cT_ r7 [I m,rowP q1 fst',y,k.2.1],cT_ r6 [rowP q (mpI f n)],cT_ q (cP fI (mpI f n)),cT_ r2 [I 0,.p .nil,.p .nil,.p .nil],cT_ r [I a.states,Is a.first,Es a.edges,Ls a.goals],riT z1 (.p .nil) [] [z1],reT z2 y (keE f a.edges) D,rgT z3 k.2.1 (keG f (a.goals.take k.1)) k.2.2.1] k.2.2.2) (fun k=>a.goals.length - k.1)
    ⟨⟨by simp,by simpa [keG] using st⟩,.refl _,Heap.le_refl _⟩ ?_
   clear st G
   rintro ⟨k,w,D3,G⟩ ⟨hk,st⟩
   dsimp only at hk st
   have e8:IntKind.i64.wrap ((k:Int)+1)=((k+1:Nat):Int):=by rw [i6_ (by omega) (by omega)];simp
   have hgll:(keG f (a.goals.take k)).length≤6:=by rw [keG,List.length_map,List.length_take];omega
   (try simp (disch:=first|assumption|apply Y6;assumption) only [vz,vu,vv,eqS,eF_,↓c1_,↓c2_,tabs,reduceCtorEq,X5,↓reduceIte,Y1,Y2,Y3,Y4,Y5,X1,X2,X3,X4,B18_2,e8])
   refine ⟨fun h3=>⟨by omega,h3,?_⟩,fun h3=>?_⟩
   ·have hltk:k < a.goals.length:=by omega
    have hmem:a.goals.getD k default∈a.goals:=a_e (p:=fun x=>x∈a.goals) (fun _ h=>h) hltk
    have hgi:=(fa.gi _ hmem).2
    have hgo:=hN.go _ hmem
    have hs:keG f (a.goals.take (k+1))=keG f (a.goals.take k)++[a_S f (nN (a.goals.getD k default))]:=by unfold keG;rw [tS_ hltk,List.map_append];rfl
    generalize a.goals.getD k default=g at hgi hgo hs ⊢
    have hk1:=fun {G:Heap} {Ts:List Th} {K:k_}=>hk0 g hgi hgo (G:=G) (Ts:=Ts) (K:=K)
    rw [e_K hgo] at hk1
    (try simp (disch:=first|assumption|apply Y6;assumption) only [vz,vu,vv,eqS,eF_,↓c1_,↓c2_,tabs,reduceCtorEq,X5,↓reduceIte,Y1,Y2,Y3,Y4,Y5,X1,X2,X3,X4,lA_ (st.get 1 rfl),f_w,List.cons_append,List.nil_append])
    refine hk1 st 2 3 rfl rfl fun qn G3 st=>?_
    generalize a_S f (nN g)=kg at st hs ⊢
    (try simp (disch:=first|assumption|apply Y6;assumption) only [vz,vu,vv,eqS,eF_,↓c1_,↓c2_,tabs,reduceCtorEq,X5,↓reduceIte,Y1,Y2,Y3,Y4,Y5,X1,X2,X3,X4,lA_ (st.get 2 rfl)])
    refine a_2 fun ql hql=>?_
    replace st:=st.cell hql [rowP qn kg]
    generalize G3.set ql [.sl qn 1 0 kg.length]=G4 at st ⊢
    (try simp (disch:=first|assumption|apply Y6;assumption) only [vz,vu,vv,eqS,eF_,↓c1_,↓c2_,tabs,reduceCtorEq,X5,↓reduceIte,Y1,Y2,Y3,Y4,Y5,X1,X2,X3,X4,lA_ (st.get 3 rfl)])
    refine c_Y st 8 rfl (by omega) fun q' D' G5 hq' st=>?_
    rw [← hs] at st
    have hgl2:(keG f (a.goals.take k)).length+1=(keG f (a.goals.take (k+1))).length:=by rw [hs];simp
    (try simp (disch:=first|assumption|apply Y6;assumption) only [vz,vu,vv,eqS,eF_,↓c1_,↓c2_,tabs,reduceCtorEq,X5,↓reduceIte,Y1,Y2,Y3,Y4,Y5,X1,X2,X3,X4,sA_ (st.get 1 rfl),e8])
    exact ⟨(k+1,_,D',_),⟨by simp only;omega,st.put 1 rfl [I m,rowP q1 fst',y,.sl q' 1 0 ((keG f (a.goals.take k)).length+1)]⟩,by simp only;omega,.refl _,Heap.le_refl _⟩
   ·have:k=a.goals.length:=by omega
    subst this
    rw [List.take_length] at st
    have hy:=RZ.sl (st.get 7 rfl:RZ (LPl eE) 3 z2 y _ G D)
    have hw:=RZ.sl (st.get 8 rfl:RZ LIc 1 z3 w _ G D3)
    (try simp (disch:=first|assumption|apply Y6;assumption) only [vz,vu,vv,eqS,eF_,↓c1_,↓c2_,tabs,reduceCtorEq,X5,↓reduceIte,Y1,Y2,Y3,Y4,Y5,X1,X2,X3,X4,lA_ (st.get 1 rfl),sA_ (st.get 4 rfl)])
    replace st:=st.put 4 rfl [I m,rowP q1 fst',y,w]
    obtain ⟨x',y',w',hw',hl,hn⟩:=b_A m st 0 7 8 rfl rfl rfl (by decide) (by decide) (by decide)
    refine ⟨by rcases hy with rfl | ⟨q,rfl⟩<;>rcases hw with rfl | ⟨q,rfl⟩<;>rfl,?_⟩
    exact ⟨_,_,.val (v':=.tup [.agg [I m,x',y',w'],B true]) (a_W ⟨hw',.refl _,trivial⟩),h _ _ _ hl hn⟩
end Go.Proofs.YtohkciilfkhomaaGreat
namespace Go.Proofs.YtohkciilfkhomaaGreat
open Go Go.Sep Go.Pt
attribute [local irreducible] a_a
theorem g_b {a:Au} (ga:a_l a=true):a_l (onZ a)=true:=by
 have na:=d_u ga
 have sa:=na.f.st
 rw [b_J] at ga ⊢
 simp only [a_1,Bool.and_eq_true,decide_eq_true_eq,List.all_eq_true] at ga ⊢
 obtain ⟨h1,h2,h3,⟨h4,h5⟩,h6⟩:=ga
 refine ⟨h1,h2,h3,⟨by simp [onZ],fun g hg=>?_⟩,h6⟩
 have hg:g=a_o a 0:=List.mem_singleton.1 hg
 subst hg
 show a_x (a_o a 0) a.states=true
 unfold a_o
 split
 ·rename_i hk
  have hk2:0 < a.goals.length:=by omega
  exact h5 _ (by rw [Int.toNat_zero,a_k hk2];exact List.getElem_mem _)
 ·exact rising_of (below_lt _) fun x hx=>by have:=b_O.1 hx;omega
theorem sm_good {a:Au} (h:a_l a=true):smAu a:=by
 have f:=a_B h
 obtain ⟨h1,h2⟩:=f.fi
 have h3:=f.ed
 have h4:=f.gl
 refine ⟨by omega,by omega,by omega,fun c hc=>?_⟩
 have:=(f.gi c hc).2
 omega
theorem sm_zero:smAu c_t:=⟨by simp [c_t],by simp [c_t],by simp [c_t],by simp [c_t]⟩
theorem someOf_spec {code:List Int} (hc:CodeC code) {H:Heap} {r:Nat} {k0:Nat} {seed:Int} (hr:H r=some (cur code k0 seed)) (hk:k0≤400000000) (n:Int) (hn:n≤1000) {K:k_}
  (h:∀l k' seed',l.length≤10→k0≤k'→k'≤k0+100→K (Is l) (H.set r (cur code k' seed'))):a_a Tryz.prog 68 [.ptr r 0,I n,I 3] H K:=by
 refine a_a.fin ?_
 refine a_a.ghost W68_hb fun z hz=>?_
 have st:=lent (LPl.local eI) (LPl.has eI) 1 ((St.start hr).cell hz []) 0 rfl
 generalize H.set z []=G0 at st ⊢
 clear hz
 refine W68_ok ?_;simp (maxSteps:=1000000) (disch:=first|assumption|apply Y6;assumption) only [W68,vz,vu,vv,eqS,eF_,↓c1_,↓c2_,tabs,reduceCtorEq,X5,↓reduceIte,Y1,Y2,Y3,Y4,Y5,X1,X2,X3,X4]
 refine a_j hc 4 (by omega) (k:=k0) (by omega) (st.get 1 rfl) fun n0 k1 s1 hx0 hx1 hk1 hk2=>?_
 replace st:=st.put 1 rfl (cur code k1 s1)
 generalize G0.set r (cur code k1 s1)=G1 at st ⊢
 obtain ⟨n0,rfl⟩:∃n:Nat,n0=(n:Int):=⟨n0.toNat,by omega⟩
 refine L68_0_rule (n0,(.p .nil:AV),([]:List Int),[z],k1,s1,G1) (fun s=>s.2.1) (fun s=>I s.1) (fun s=>s.2.2.2.2.2.2)
  (fun s=>s.1≤n0∧s.2.2.1.length+s.1≤n0∧s.2.2.1.Pairwise (· < ·)∧k1≤s.2.2.2.2.1∧s.2.2.2.2.1+2*s.1≤k1+2*n0∧St (H.del r) [riT z s.2.1 s.2.2.1 s.2.2.2.1,cT_ r (cur code s.2.2.2.2.1 s.2.2.2.2.2.1)] s.2.2.2.2.2.2) (fun s=>s.1)
  ⟨⟨by simp,by simp,by simp,by simp,by simp,st⟩,.refl _,.refl _,Heap.le_refl _⟩ ?_
 clear st G1 s1
 rintro ⟨n1,x,l,D,k2,s2,G⟩ ⟨hn1,hl,hp,hk3,hk4,st⟩
 dsimp only at hn1 hl hp hk3 hk4 st
 have e7:0 < n1→IntKind.i64.wrap ((n1:Int) - 1)=((n1 - 1:Nat):Int):=fun h=>by rw [i6_ (by omega) (by omega)];omega
 (try simp (disch:=first|assumption|apply Y6;assumption) only [vz,vu,vv,eqS,eF_,↓c1_,↓c2_,tabs,reduceCtorEq,X5,↓reduceIte,Y1,Y2,Y3,Y4,Y5,X1,X2,X3,X4,B68_0])
 refine ⟨fun h3=>?_,fun h3=>?_⟩
 ·have e7':=e7 (by omega)
  refine a_j hc n (by omega) (k:=k2) (by omega) (st.get 1 rfl) fun x1 k3 s3 hy0 hy1 hk7 hk8=>?_
  replace st:=st.put 1 rfl (cur code k3 s3)
  generalize G.set r (cur code k3 s3)=G2 at st ⊢
  refine l1Put_rz st 0 rfl x1 hp (by omega) fun q' G' st=>?_
  have pl:=f_H l x1
  have pp:=put_pw x1 hp
  generalize put l x1=l' at pl pp st ⊢
  (try simp (disch:=first|assumption|apply Y6;assumption) only [vz,vu,vv,eqS,eF_,↓c1_,↓c2_,tabs,reduceCtorEq,X5,↓reduceIte,Y1,Y2,Y3,Y4,Y5,X1,X2,X3,X4,e7'])
  exact ⟨(n1 - 1,_,l',[q'],k3,s3,G'),⟨by simp only;omega,by simp only;omega,pp,by simp only;omega,by simp only;omega,st⟩,by simp only;omega,.refl _,.refl _,Heap.le_refl _⟩
 ·refine c_Z hc 40 (by omega) (k:=k2) (by omega) (st.get 1 rfl) fun b k3 s3 hk5 hk6=>?_
  replace st:=st.put 1 rfl (cur code k3 s3)
  generalize G.set r (cur code k3 s3)=G2 at st ⊢
  have fin:∀(x:AV) (l:List Int) (D:List Nat) (G:Heap),l.length≤10→St (H.del r) [riT z x l D,cT_ r (cur code k3 s3)] G→wkK K x G:=by
   intro x l D G hl st
   obtain ⟨x',hx,lx⟩:=(st.get 0 rfl:RZ (LPl eI) 1 z x l G D).row
   obtain ⟨G1,w1,f1⟩:=LRow.frzV (e:=eI) (sz:=1) (v:=x') (v':=Is l) (by omega) (fun _=>rfl) (LPl.local eI) (LPl.frz eI) lx (st.ndT 0 rfl) (fun q _ hr=>hr)
   refine ⟨_,_,.trans (.val hx) (.trans w1 (.forget (H':=H.set r (cur code k3 s3)) fun v bb hb=>?_)),h l k3 s3 hl (by omega) (by omega)⟩
   have hG:=set_le st 1 rfl v bb hb
   rw [f1 v ?_];· exact hG
   by_cases e:v=r
   ·subst e;exact st.disjI 1 0 rfl rfl (by decide) v (by simp [cT_])
   ·rw [Heap.set_other e] at hb
    exact st.wkNone v bb (by rw [Heap.del_other e];exact hb) _ (List.mem_of_getElem? (i:=0) rfl)
  (try simp (disch:=first|assumption|apply Y6;assumption) only [vz,vu,vv,eqS,eF_,↓c1_,↓c2_,tabs,reduceCtorEq,X5,↓reduceIte,Y1,Y2,Y3,Y4,Y5,X1,X2,X3,X4])
  refine ⟨fun hb=>?_,fun hb=>fin x l D G2 (by omega) st⟩
  refine lit1 a_g rfl a_u ⟨rfl,rfl⟩ ?_
  refine c_I (ys:=[n]) st 0 rfl (by simp only [List.length_cons,List.length_nil];omega) fun q' G' hq' st=>?_
  exact fin _ _ _ G' (by simp only [List.length_append,List.length_cons,List.length_nil];omega) st
theorem g_c {code:List Int} (hc:CodeC code) {H:Heap} {K:k_} (h:∀a l c,smAu a→l.length≤10→K (.tup [aAu a,Is l,I c]) H):a_a Tryz.prog 21 [.p (.sl (code.map e8))] H K:=by
 refine a_a.fin ?_
 refine W21_ok ?_;simp (maxSteps:=1000000) (disch:=first|assumption|apply Y6;assumption) only [W21,vz,vu,vv,eqS,eF_,↓c1_,↓c2_,tabs,reduceCtorEq,X5,↓reduceIte,Y1,Y2,Y3,Y4,Y5,X1,X2,X3,X4]
 intro r2 hr2 r7 n72 hr7
 have st:=((St.nil H).cell hr2 [I 0,.p .nil,.p .nil,.p .nil]).cell (r:=r7) (by rw [Heap.set_other n72];exact hr7) (cur code 0 0)
 have ec:(H.set r2 [AV.p (PV.int IntKind.i64 0),AV.p PV.nil,AV.p PV.nil,AV.p PV.nil]).set r7 [AV.p (PV.sl (List.map e8 code)),AV.p (PV.int IntKind.i64 0),AV.p (PV.int IntKind.u64 0)]=(H.set r2 [I 0,.p .nil,.p .nil,.p .nil]).set r7 (cur code 0 0):=rfl
 rw [ec]
 generalize (H.set r2 [I 0,.p .nil,.p .nil,.p .nil]).set r7 (cur code 0 0)=G at st ⊢
 clear ec hr2 n72 hr7
 refine auto_spec hc (st.get 0 rfl) (by omega) 6 (by omega) fun a k1 s1 sa hst hk1 hk2=>?_
 replace st:=st.put 0 rfl (cur code k1 s1)
 generalize G.set r7 (cur code k1 s1)=G1 at st ⊢
 (try simp (disch:=first|assumption|apply Y6;assumption) only [vz,vu,vv,eqS,eF_,↓c1_,↓c2_,tabs,reduceCtorEq,X5,↓reduceIte,Y1,Y2,Y3,Y4,Y5,X1,X2,X3,X4])
 intro r6 hr6
 replace st:=st.cell hr6 [I a.states,Is a.first,Es a.edges,Ls a.goals]
 generalize G1.set r6 [I a.states,Is a.first,Es a.edges,Ls a.goals]=G2 at st ⊢
 clear hr6
 (try simp (disch:=first|assumption|apply Y6;assumption) only [vz,vu,vv,eqS,eF_,↓c1_,↓c2_,tabs,reduceCtorEq,X5,↓reduceIte,Y1,Y2,Y3,Y4,Y5,X1,X2,X3,X4,lA_ (st.get 0 rfl)])
 refine someOf_spec hc (st.get 1 rfl) (by omega) a.states (by omega) fun l k2 s2 hl hk3 hk4=>?_
 replace st:=st.put 1 rfl (cur code k2 s2)
 generalize G2.set r7 (cur code k2 s2)=G3 at st ⊢
 (try simp (disch:=first|assumption|apply Y6;assumption) only [vz,vu,vv,eqS,eF_,↓c1_,↓c2_,tabs,reduceCtorEq,X5,↓reduceIte,Y1,Y2,Y3,Y4,Y5,X1,X2,X3,X4,lA_ (st.get 0 rfl)])
 refine a_j hc 10 (by omega) (k:=k2) (by omega) (st.get 1 rfl) fun x1 k3 s3 hx0 hx1 hk5 hk6=>?_
 replace st:=st.put 1 rfl (cur code k3 s3)
 generalize G3.set r7 (cur code k3 s3)=G4 at st ⊢
 (try simp (disch:=first|assumption|apply Y6;assumption) only [vz,vu,vv,eqS,eF_,↓c1_,↓c2_,tabs,reduceCtorEq,X5,↓reduceIte,Y1,Y2,Y3,Y4,Y5,X1,X2,X3,X4,lA_ (st.get 0 rfl)])
 refine a_j hc 9 (by omega) (k:=k3) (by omega) (st.get 1 rfl) fun x2 k4 s4 hy0 hy1 hk7 hk8=>?_
 replace st:=st.put 1 rfl (cur code k4 s4)
 generalize G4.set r7 (cur code k4 s4)=G5 at st ⊢
 (try simp (disch:=first|assumption|apply Y6;assumption) only [vz,vu,vv,eqS,eF_,↓c1_,↓c2_,tabs,reduceCtorEq,X5,↓reduceIte,Y1,Y2,Y3,Y4,Y5,X1,X2,X3,X4,lA_ (st.get 0 rfl)])
 refine ⟨by omega,?_⟩
 generalize IntKind.i64.wrap (x1 - IntKind.i64.wrap (x2.tdiv 8))=c
 (try simp (disch:=first|assumption|apply Y6;assumption) only [vz,vu,vv,eqS,eF_,↓c1_,↓c2_,tabs,reduceCtorEq,X5,↓reduceIte,Y1,Y2,Y3,Y4,Y5,X1,X2,X3,X4,sA_ (st.get 2 rfl)])
 replace st:=st.put 2 rfl [I a.states,Is a.first,Es a.edges,Ls a.goals]
 generalize G5.set r2 [I a.states,Is a.first,Es a.edges,Ls a.goals]=G6 at st ⊢
 (try simp (disch:=first|assumption|apply Y6;assumption) only [vz,vu,vv,eqS,eF_,↓c1_,↓c2_,tabs,reduceCtorEq,X5,↓reduceIte,Y1,Y2,Y3,Y4,Y5,X1,X2,X3,X4,lA_ (st.get 2 rfl)])
 exact ⟨_,H,.forget st.le,h a l c sa hl⟩
theorem gr_val {f:Nat} {args:List AV} {g:List (List Int)} {ok:Bool} (h:∀{H:Heap} {K:k_},(∀v G D,LGr g v G D→New H G D→K (.tup [v,B ok]) G)→a_a Tryz.prog f args H K):Pu Tryz.prog f args (.tup [aG g,B ok]):=by
 refine ⟨fun H=>a_a.fin (h fun v G D hv hn=>?_)⟩
 obtain ⟨G',w,fr⟩:=LGr.wk hv hn.nd (fun v=>.tup [v,B ok]) (fun h=>.tup (.cons h (.cons (.same _) .nil)))
 refine ⟨_,H,.trans w (.forget fun y b hb=>?_),rfl,rfl⟩
 rw [fr y (fun hy=>by rw [hn.fr y hy] at hb;cases hb)]
 exact hn.le y b hb
theorem sm_gr (a:Au):smLs (grR a).1:=by
 unfold grR
 split
 ·rename_i ga
  have fa:=(d_u ga).f
  have sa:=fa.st
  have hl:=c_4 a
  refine ⟨by simp only;omega,fun c hc=>?_⟩
  have:=(d_S fa c hc).2
  omega
 ·exact ⟨by simp,by simp⟩
theorem sm_on (a:Au):smAu (onR a).1:=by
 unfold onR
 split
 ·rename_i ga
  split
  ·exact sm_good (g_b ga)
  ·split
   ·rename_i h;exact sm_good h
   ·exact sm_zero
 ·exact sm_zero
theorem sm_tr (a:Au):smAu (trR a).1:=by
 unfold trR
 split
 ·rename_i ga;exact sm_good (f_9 ga)
 ·exact sm_zero
theorem takes_tr {a:Au} (ga:a_l a=true) {s l:List Int} (hs:s.length≤24) (hl:1≤l.length∧l.length≤24):twF (wpA (trT a) s l)=twF (wpA a s l):=by
 rw [Bool.eq_iff_iff,c_r (f_9 ga) hs hl,c_r ga hs hl]
 exact accR_tr ga _
theorem takes_onZ {a:Au} (ga:a_l a=true) (h2:a.goals.length < 2) {s l:List Int} (hs:s.length≤24) (hl:1≤l.length∧l.length≤24):twF (wpA (onZ a) s l)=twF (wpA a s l):=by
 rw [Bool.eq_iff_iff,c_r (g_b ga) hs hl,c_r ga hs hl]
 exact accR_onZ ga h2 _
theorem takes_onT {a:Au} (ga:a_l a=true) (gT:a_l (onT a)=true) (h2:¬a.goals.length < 2) {s l:List Int} (hs:s.length≤24) (hl:1≤l.length∧l.length≤24):twF (wpA (onT a) s l)=twF (wpA a s l):=by
 rw [Bool.eq_iff_iff,c_r gT hs hl,c_r ga hs hl]
 exact accR_onT ga h2 _
theorem one_tail {more:List Int} (hc2:CodeC more) {H G:Heap} (hle:Heap.le H G):J4_0 (fun v H'=>v=B true∧Heap.le H H') (.p (.sl (more.map e8))) G:=by
 unfold J4_0
 refine g_c hc2 fun u l c su hl=>?_
 (try simp (disch:=first|assumption|apply Y6;assumption) only [vz,vu,vv,eqS,eF_,↓c1_,↓c2_,tabs,reduceCtorEq,X5,↓reduceIte,Y1,Y2,Y3,Y4,Y5,X1,X2,X3,X4])
 intro r1 hr1
 have st:=(St.nil G).cell hr1 [I u.states,Is u.first,Es u.edges,Ls u.goals]
 generalize G.set r1 [I u.states,Is u.first,Es u.edges,Ls u.goals]=G1 at st ⊢
 clear hr1
 have h1:=f_6 u su l c (by omega)
 have h2:=StepAuto_ref u su l c (by omega)
 have hs:(saR u l c).1.length≤1000000:=by
  unfold saR
  split
  ·rename_i h
   rw [Bool.and_eq_true] at h
   have st:=(a_B h.1).st
   have:=List.length_filter_le (fun t=>u.edges.any fun e=>decide (e.lt=c) && (decide (e.src∈l) && decide (e.dst=t))) (below u.states.toNat)
   rw [a_H] at this
   show (stpL u.states u.edges l c).length≤_
   unfold stpL
   omega
  ·simp
 generalize (saR u l c).1=x at h1 h2 hs
 generalize (saR u l c).2=ok at h1 h2
 (try simp (disch:=first|assumption|apply Y6;assumption) only [vz,vu,vv,eqS,eF_,↓c1_,↓c2_,tabs,reduceCtorEq,X5,↓reduceIte,Y1,Y2,Y3,Y4,Y5,X1,X2,X3,X4,lA_ (st.get 0 rfl)])
 refine Pu.use h1 ?_
 (try simp (disch:=first|assumption|apply Y6;assumption) only [vz,vu,vv,eqS,eF_,↓c1_,↓c2_,tabs,reduceCtorEq,X5,↓reduceIte,Y1,Y2,Y3,Y4,Y5,X1,X2,X3,X4,lA_ (st.get 0 rfl)])
 refine Pu.use h2 ?_
 have h3:=gr_val (Graph_impl u su)
 have h4:=Graph_ref u su
 have hsg:=sm_gr u
 generalize (grR u).1=g at h3 h4 hsg
 generalize (grR u).2=ok2 at h3 h4
 (try simp (disch:=first|assumption|apply Y6;assumption) only [vz,vu,vv,eqS,eF_,↓c1_,↓c2_,tabs,reduceCtorEq,X5,↓reduceIte,Y1,Y2,Y3,Y4,Y5,X1,X2,X3,X4,lA_ (st.get 0 rfl)])
 refine Pu.use h3 ?_
 (try simp (disch:=first|assumption|apply Y6;assumption) only [vz,vu,vv,eqS,eF_,↓c1_,↓c2_,tabs,reduceCtorEq,X5,↓reduceIte,Y1,Y2,Y3,Y4,Y5,X1,X2,X3,X4])
 intro r2 hr2
 replace st:=st.cell hr2 [Ls g]
 generalize G1.set r2 [Ls g]=G2 at st ⊢
 clear hr2
 (try simp (disch:=first|assumption|apply Y6;assumption) only [vz,vu,vv,eqS,eF_,↓c1_,↓c2_,tabs,reduceCtorEq,X5,↓reduceIte,Y1,Y2,Y3,Y4,Y5,X1,X2,X3,X4,lA_ (st.get 1 rfl)])
 refine Pu.use h4 ?_
 (try simp (disch:=first|assumption|apply Y6;assumption) only [vz,vu,vv,eqS,eF_,↓c1_,↓c2_,tabs,reduceCtorEq,X5,↓reduceIte,Y1,Y2,Y3,Y4,Y5,X1,X2,X3,X4])
 intro r3 hr3
 replace st:=st.cell hr3 [Ls g]
 generalize G2.set r3 [Ls g]=G3 at st ⊢
 clear hr3
 (try simp (disch:=first|assumption|apply Y6;assumption) only [vz,vu,vv,eqS,eF_,↓c1_,↓c2_,tabs,reduceCtorEq,X5,↓reduceIte,Y1,Y2,Y3,Y4,Y5,X1,X2,X3,X4])
 refine Pu.use (b_V x (by omega)) ?_
 (try simp (disch:=first|assumption|apply Y6;assumption) only [vz,vu,vv,eqS,eF_,↓c1_,↓c2_,tabs,reduceCtorEq,X5,↓reduceIte,Y1,Y2,Y3,Y4,Y5,X1,X2,X3,X4,lA_ (st.get 0 rfl),lA_ (st.get 1 rfl)])
 refine Pu.use (c_C g hsg) ?_
 (try simp (disch:=first|assumption|apply Y6;assumption) only [vz,vu,vv,eqS,eF_,↓c1_,↓c2_,tabs,reduceCtorEq,X5,↓reduceIte,Y1,Y2,Y3,Y4,Y5,X1,X2,X3,X4])
 exact Heap.le_trans hle st.le
set_option maxHeartbeats 1000000 in
theorem e_Q {code more:List Int} (hb:∀b∈code,0≤b∧b < 256) (hb2:∀b∈more,0≤b∧b < 256):Pu Tryz.prog 4 [.p (.sl (code.map e8)),.p (.sl (more.map e8))] (B true):=by
 refine Pu.of fun H=>?_
 refine W4_ok ?_;simp (maxSteps:=1000000) (disch:=first|assumption|apply Y6;assumption) only [W4,vz,vu,vv,eqS,eF_,↓c1_,↓c2_,tabs,reduceCtorEq,X5,↓reduceIte,Y1,Y2,Y3,Y4,Y5,X1,X2,X3,X4]
 refine Pu.use (bigC code more) ?_
 (try simp (disch:=first|assumption|apply Y6;assumption) only [vz,vu,vv,eqS,eF_,↓c1_,↓c2_,tabs,reduceCtorEq,X5,↓reduceIte,Y1,Y2,Y3,Y4,Y5,X1,X2,X3,X4])
 intro hsz
 have hc:CodeC code:=⟨hb,by omega⟩
 have hc2:CodeC more:=⟨hb2,by omega⟩
 refine e_O hc fun a s l sa hs hl=>?_
 (try simp (disch:=first|assumption|apply Y6;assumption) only [vz,vu,vv,eqS,eF_,↓c1_,↓c2_,tabs,reduceCtorEq,X5,↓reduceIte,Y1,Y2,Y3,Y4,Y5,X1,X2,X3,X4])
 intro r5 hr5 r6 n6 hr6
 have st:=((St.nil H).cell hr5 [I 0,.p .nil,.p .nil,.p .nil]).cell (r:=r6) (by rw [Heap.set_other n6];exact hr6) [.p .nil,.p .nil]
 have ec:(H.set r5 [AV.p (PV.int IntKind.i64 0),AV.p PV.nil,AV.p PV.nil,AV.p PV.nil]).set r6 [AV.p PV.nil,AV.p PV.nil]=(H.set r5 [I 0,.p .nil,.p .nil,.p .nil]).set r6 [.p .nil,.p .nil]:=rfl
 rw [ec]
 generalize (H.set r5 [I 0,.p .nil,.p .nil,.p .nil]).set r6 [.p .nil,.p .nil]=G at st ⊢
 clear ec hr5 n6 hr6
 (try simp (disch:=first|assumption|apply Y6;assumption) only [vz,vu,vv,eqS,eF_,↓c1_,↓c2_,tabs,reduceCtorEq,X5,↓reduceIte,Y1,Y2,Y3,Y4,Y5,X1,X2,X3,X4,sA_ (st.get 1 rfl)])
 replace st:=st.put 1 rfl [I a.states,Is a.first,Es a.edges,Ls a.goals]
 generalize G.set r5 [I a.states,Is a.first,Es a.edges,Ls a.goals]=G1 at st ⊢
 (try simp (disch:=first|assumption|apply Y6;assumption) only [vz,vu,vv,eqS,eF_,↓c1_,↓c2_,tabs,reduceCtorEq,X5,↓reduceIte,Y1,Y2,Y3,Y4,Y5,X1,X2,X3,X4,sA_ (st.get 0 rfl)])
 replace st:=st.put 0 rfl [Is s,Is l]
 generalize G1.set r6 [Is s,Is l]=G2 at st ⊢
 have t1:=b_B a sa s l (by omega) (by omega)
 have t2:=f_2 a sa s l (by omega) (by omega)
 obtain ⟨x,hx⟩:∃x,(twR a s l).1=x:=⟨_,rfl⟩
 obtain ⟨ok,hok⟩:∃x,(twR a s l).2=x:=⟨_,rfl⟩
 rw [hx,hok] at t1 t2
 (try simp (disch:=first|assumption|apply Y6;assumption) only [vz,vu,vv,eqS,eF_,↓c1_,↓c2_,tabs,reduceCtorEq,X5,↓reduceIte,Y1,Y2,Y3,Y4,Y5,X1,X2,X3,X4,lA_ (st.get 0 rfl),lA_ (st.get 1 rfl)])
 refine Pu.use t1 ?_
 (try simp (disch:=first|assumption|apply Y6;assumption) only [vz,vu,vv,eqS,eF_,↓c1_,↓c2_,tabs,reduceCtorEq,X5,↓reduceIte,Y1,Y2,Y3,Y4,Y5,X1,X2,X3,X4,lA_ (st.get 0 rfl),lA_ (st.get 1 rfl)])
 refine Pu.use t2 ?_
 have o1:=aus_val (One_impl a sa)
 have o2:=aus_val (One_ref a sa)
 have so:=sm_on a
 obtain ⟨o,ho⟩:∃x,(onR a).1=x:=⟨_,rfl⟩
 obtain ⟨one,hone⟩:∃x,(onR a).2=x:=⟨_,rfl⟩
 rw [ho,hone] at o1 o2
 rw [ho] at so
 (try simp (disch:=first|assumption|apply Y6;assumption) only [vz,vu,vv,eqS,eF_,↓c1_,↓c2_,tabs,reduceCtorEq,X5,↓reduceIte,Y1,Y2,Y3,Y4,Y5,X1,X2,X3,X4,lA_ (st.get 1 rfl)])
 refine Pu.use o1 ?_
 (try simp (disch:=first|assumption|apply Y6;assumption) only [vz,vu,vv,eqS,eF_,↓c1_,↓c2_,tabs,reduceCtorEq,X5,↓reduceIte,Y1,Y2,Y3,Y4,Y5,X1,X2,X3,X4])
 intro r7 hr7
 replace st:=st.cell hr7 [I o.states,Is o.first,Es o.edges,Ls o.goals]
 generalize G2.set r7 [I o.states,Is o.first,Es o.edges,Ls o.goals]=G3 at st ⊢
 clear hr7
 (try simp (disch:=first|assumption|apply Y6;assumption) only [vz,vu,vv,eqS,eF_,↓c1_,↓c2_,tabs,reduceCtorEq,X5,↓reduceIte,Y1,Y2,Y3,Y4,Y5,X1,X2,X3,X4,lA_ (st.get 2 rfl)])
 refine Pu.use o2 ?_
 (try simp (disch:=first|assumption|apply Y6;assumption) only [vz,vu,vv,eqS,eF_,↓c1_,↓c2_,tabs,reduceCtorEq,X5,↓reduceIte,Y1,Y2,Y3,Y4,Y5,X1,X2,X3,X4])
 intro r8 hr8
 replace st:=st.cell hr8 [I o.states,Is o.first,Es o.edges,Ls o.goals]
 generalize G3.set r8 [I o.states,Is o.first,Es o.edges,Ls o.goals]=G4 at st ⊢
 clear hr8
 have u1:=aus_val (g_a a sa)
 have u2:=TrimAuto_ref a sa
 have su:=sm_tr a
 obtain ⟨t,ht⟩:∃x,(trR a).1=x:=⟨_,rfl⟩
 obtain ⟨two,htwo⟩:∃x,(trR a).2=x:=⟨_,rfl⟩
 rw [ht,htwo] at u1 u2
 rw [ht] at su
 (try simp (disch:=first|assumption|apply Y6;assumption) only [vz,vu,vv,eqS,eF_,↓c1_,↓c2_,tabs,reduceCtorEq,X5,↓reduceIte,Y1,Y2,Y3,Y4,Y5,X1,X2,X3,X4,lA_ (st.get 3 rfl)])
 refine Pu.use u1 ?_
 (try simp (disch:=first|assumption|apply Y6;assumption) only [vz,vu,vv,eqS,eF_,↓c1_,↓c2_,tabs,reduceCtorEq,X5,↓reduceIte,Y1,Y2,Y3,Y4,Y5,X1,X2,X3,X4])
 intro r9 hr9
 replace st:=st.cell hr9 [I t.states,Is t.first,Es t.edges,Ls t.goals]
 generalize G4.set r9 [I t.states,Is t.first,Es t.edges,Ls t.goals]=G5 at st ⊢
 clear hr9
 (try simp (disch:=first|assumption|apply Y6;assumption) only [vz,vu,vv,eqS,eF_,↓c1_,↓c2_,tabs,reduceCtorEq,X5,↓reduceIte,Y1,Y2,Y3,Y4,Y5,X1,X2,X3,X4,lA_ (st.get 4 rfl)])
 refine Pu.use u2 ?_
 (try simp (disch:=first|assumption|apply Y6;assumption) only [vz,vu,vv,eqS,eF_,↓c1_,↓c2_,tabs,reduceCtorEq,X5,↓reduceIte,Y1,Y2,Y3,Y4,Y5,X1,X2,X3,X4])
 intro r10 hr10
 replace st:=st.cell hr10 [I t.states,Is t.first,Es t.edges,Ls t.goals]
 generalize G5.set r10 [I t.states,Is t.first,Es t.edges,Ls t.goals]=G6 at st ⊢
 clear hr10
 (try simp (disch:=first|assumption|apply Y6;assumption) only [vz,vu,vv,eqS,eF_,↓c1_,↓c2_,tabs,reduceCtorEq,X5,↓reduceIte,Y1,Y2,Y3,Y4,Y5,X1,X2,X3,X4,lA_ (st.get 3 rfl),lA_ (st.get 2 rfl)])
 refine Pu.use (d_c o so) ?_
 (try simp (disch:=first|assumption|apply Y6;assumption) only [vz,vu,vv,eqS,eF_,↓c1_,↓c2_,tabs,reduceCtorEq,X5,↓reduceIte,Y1,Y2,Y3,Y4,Y5,X1,X2,X3,X4,lA_ (st.get 1 rfl),lA_ (st.get 0 rfl)])
 refine Pu.use (d_c t su) ?_
 have tl:=one_tail hc2 st.le
 (try simp (disch:=first|assumption|apply Y6;assumption) only [vz,vu,vv,eqS,eF_,↓c1_,↓c2_,tabs,reduceCtorEq,X5,↓reduceIte,Y1,Y2,Y3,Y4,Y5,X1,X2,X3,X4])
 refine ⟨fun h1=>?_,fun h1=>tl⟩
 subst h1
 have hg:a_l a=true∧b_e s l=true:=by
  unfold twR at hok
  split at hok
  ·rename_i h;rwa [Bool.and_eq_true] at h
  ·cases hok
 obtain ⟨ga,gl⟩:=hg
 obtain ⟨b1,b2⟩:=f_0 gl
 have hx2:twF (wpA a s l)=x:=by rw [← hx];simp [twR,ga,gl]
 have etr:trR a=(trT a,true):=by rw [trR,if_pos ga]
 rw [etr] at ht htwo
 have ht:trT a=t:=ht
 have htwo:true=two:=htwo
 subst htwo
 have kt:twR t s l=(x,true):=by
  rw [← ht,← hx2,← takes_tr ga b1 b2];simp [twR,f_9 ga,gl]
 have t4:=b_B t su s l (by omega) (by omega)
 rw [kt] at t4
 have ko:one=true→twR o s l=(x,true)∧o.goals.length=1:=fun h=>by
  subst h
  rw [onR,if_pos ga] at ho hone
  by_cases h2:a.goals.length < 2
  ·rw [if_pos h2] at ho
   have ho:onZ a=o:=ho
   refine ⟨?_,by rw [← ho];rfl⟩
   rw [← ho,← hx2,← takes_onZ ga h2 b1 b2];simp [twR,g_b ga,gl]
  ·rw [if_neg h2] at ho hone
   cases gT:a_l (onT a)
   ·rw [gT] at hone;cases hone
   ·rw [if_pos gT] at ho
    have ho:onT a=o:=ho
    refine ⟨?_,by rw [← ho];rfl⟩
    rw [← ho,← hx2,← takes_onT ga gT h2 b1 b2];simp [twR,gT,gl]
 have t3:=b_B o so s l (by omega) (by omega)
 clear hok hx hx2 ho hone t1 t2 o1 o2 u1 u2 ht etr kt
 obtain ⟨y,hy⟩:∃y,twR o s l=y:=⟨_,rfl⟩
 rw [hy] at ko t3
 obtain ⟨y1,y2⟩:=y
 clear hy
 (try simp (disch:=first|assumption|apply Y6;assumption) only [vz,vu,vv,eqS,eF_,↓c1_,↓c2_,tabs,reduceCtorEq,X5,↓reduceIte,Y1,Y2,Y3,Y4,Y5,X1,X2,X3,X4,lA_ (st.get 3 rfl),lA_ (st.get 4 rfl)])
 refine Pu.use t3 ?_
 (try simp (disch:=first|assumption|apply Y6;assumption) only [vz,vu,vv,eqS,eF_,↓c1_,↓c2_,tabs,reduceCtorEq,X5,↓reduceIte,Y1,Y2,Y3,Y4,Y5,X1,X2,X3,X4,lA_ (st.get 1 rfl),lA_ (st.get 4 rfl)])
 refine Pu.use t4 ?_
 have t5:J4_1 (fun r H'=>r=B true∧Heap.le H H') (.p (.sl (more.map e8))) (B x) (B x) (B true) (.p (.bool (!true))) G6:=by
  (try simp (disch:=first|assumption|apply Y6;assumption) only [vz,vu,vv,eqS,eF_,↓c1_,↓c2_,tabs,reduceCtorEq,X5,↓reduceIte,Y1,Y2,Y3,Y4,Y5,X1,X2,X3,X4,J4_1])
  exact tl
 (try simp (disch:=first|assumption|apply Y6;assumption) only [vz,vu,vv,eqS,eF_,↓c1_,↓c2_,tabs,reduceCtorEq,X5,↓reduceIte,Y1,Y2,Y3,Y4,Y5,X1,X2,X3,X4,lA_ (st.get 3 rfl)])
 refine ⟨fun h2=>?_,fun h2=>t5⟩
 obtain ⟨k1,k2⟩:=ko h2
 have k3:y1=x:=congrArg Prod.fst k1
 have k4:y2=true:=congrArg Prod.snd k1
 have k5:(y1==x)=true:=by rw [k3];simp
 refine ⟨fun h=>(by rw [k4] at h;cases h),fun _=>⟨fun h=>(by rw [k5] at h;cases h),fun _=>⟨fun h=>absurd (by rw [k2];rfl) h,fun _=>t5⟩⟩⟩
end Go.Proofs.YtohkciilfkhomaaGreat
namespace Go.Proofs.YtohkciilfkhomaaGreat.fnOneGoal
open Go Go.Sep Go.ChangeShapes Go.WideShapes Go.ChangeAt Go.RowKit
theorem own:ownKnob Tryz.prog.godebug=none:=by kernel_rfl
theorem told (avs:List AV) (h:ArgsT Tryz.prog [22,22] avs):a_a Tryz.prog 4 avs (fun _=>none) (fun v _=>v=.p (.bool true)):=by
 obtain ⟨a,b,rfl,h1,h⟩:=args_cons h
 obtain ⟨b,c,rfl,h2,h⟩:=args_cons h
 cases args_nil h
 obtain ⟨x1,hx1,rfl⟩:=arg_bytes h1
 obtain ⟨x2,hx2,rfl⟩:=arg_bytes h2
 exact (e_Q hx1 hx2).use rfl
set_option maxRecDepth 100000 in
theorem lifted (os:Os) (started:os.Started) (H:Type) (enc:TypeId×Value→H) :
  ReturnsInHanded {} Tryz.checked os 4 .any (Rows.fnOneGoalSpec.pre6 enc Tryz.prog Tryz.f4 Rows.fnOneGoalRow.domain false) (Rows.fnOneGoalSpec.post enc Tryz.prog Tryz.f4 false true false false):=by
 refine returnsInHanded_of_change (C:=Tryz.checked) own started (by kernel_rfl) Tryz.func4
  (ChangeSpec.witness6 (enc:=enc) (C:=Tryz.checked) false ⟨#[],#[.slice none 0 0,.slice none 0 0],[]⟩ 12 (by kernel_rfl) (by kernel_rfl) (by kernel_rfl) (by kernel_rfl)) ?_
 intro W base args ds gs before hval hW _ _
 refine row_of_true (n:=12) (tb:=4) (by kernel_rfl) rfl (by kernel_rfl) (by kernel_rfl) ?_ ?_ ?_ hval hW
 ·have:(Tryz.f4.params.toList.all fun t=>Tryz.prog.readableRec t && decide (t < Tryz.prog.types.size) && b_F Tryz.prog 12 t)=true:=by kernel_rfl
  intro t ht
  have:=List.all_eq_true.1 this t ht
  rw [Bool.and_eq_true,Bool.and_eq_true,decide_eq_true_eq] at this
  exact ⟨this.1.1,this.1.2,this.2⟩
 ·intro ds hd
  rw [Tryz.params4] at hd
  match ds,hd with
  | [a,b],_=>rfl
 ·rw [Tryz.params4]
  exact told
theorem over:Rows.fnOneGoalRow.holds Tryz.pinned (OpenSpec.ofChange Rows.fnOneGoalSpec):=
 OpenClaim.holds_of_wide 4 Tryz.f4 rfl rfl rfl rfl rfl rfl rfl ⟨rfl,rfl,rfl,rfl,rfl⟩ rfl rfl rfl rfl rfl (by kernel_rfl) Tryz.func4 (by kernel_rfl)
  (of_decide_eq_true (by kernel_rfl)) (by unfold Func.isWrapper;first | (rw [if_pos (by decide +kernel)];kernel_rfl) | (rw [if_neg (by decide +kernel)];exact ⟨rfl,rfl⟩))
  (fun os started H enc _=>lifted os started H enc)
theorem proved:Rows.FnOneGoalSaid:=
 over
#print axioms proved
end Go.Proofs.YtohkciilfkhomaaGreat.fnOneGoal
