/- Texts laid together: Tg3 Tg10 Lt5 Lu0 Tg11 Tg12 Mg2 Ma7 Ma8 Tg13 LayF Ss3 Ss4 Mi0. -/
import Derived.Test.YtolffbcnbcjeaaaGreatPke8
import Derived.Shelf.SlGeneric
import Derived.Shelf.SlLaysF0
import Derived.Test.YtolffbcnbcjeaaaGreatProg
import Derived.Shelf.SlSortCmp.NoneTotal
set_option linter.unusedVariables false
set_option linter.unusedSimpArgs false
open Go.Sep.AV renaming any → Q_
open Nat renaming reduceAdd→ν1,reduceLeDiff→ν2,reduceLT→ν3,reduceMul→ν4,reduceSub→ν5
open Int renaming reduceToNat→ι1,reduceSub→ι2,reduceAdd→ι3,reduceNeg→ι4
open Array renaming toList→ι5
open Ne renaming symm→ν6
open List renaming forall_mem_cons→ν7
namespace Go.Proofs.YtolffbcnbcjeaaaGreat
open Go Go.Sep Go.Pt
attribute [local irreducible] CallT
theorem sp_l11Far (g:List (List Nat)) (hg:GrB g) (some:List Nat) (hs:∀v∈some,v < g.length) (hsl:some.length≤100000):Pu Tryz.prog 67 [Ls (gI g),Is (nI some)] (Is (mpI (farF (rwF g) g.length some) g.length)):=by
 refine ⟨fun H=>CallT.fin ?_⟩
 have hn:=hg.n
 have hgl:=gI_len g
 have hil:=nL_ some
 have hrow:=hg.gr.lt
 have hml:∀f,(mpI f g.length).length=g.length:=fun f=>mpI_len f g.length
 have lnm:∀f,(cP fI (mpI f g.length)).length=g.length:=fun f=>by rw [cI_len,mpI_len]
 refine W67_ok ?_;simp (maxSteps:=1000000) (disch:=first | assumption | (apply ν6;assumption)) only [W67,vz,vu,vv,eqS,eF_,↓c1_,↓c2_,tabs,reduceCtorEq,ι5,↓reduceIte,ν1,ν2,ν3,ν4,ν5,ι1,ι2,ι3,ι4,mS_,hgl,hil]
 refine ⟨by omega,by omega,by omega,by omega,fun q hq=>?_⟩
 have st:=(St.nil H).cell hq (cP fI (mpI (fun v=>if v < 0 then -1 else 0) g.length))
 have ez:zA_ g.length [I 0]=cP fI (mpI (fun v=>if v < 0 then -1 else 0) g.length):=by
  rw [cP_rep,mpI_const];simp
 rw [ez]
 generalize H.set q (cP fI (mpI (fun v=>if v < 0 then -1 else 0) g.length))=G1 at st ⊢
 have rounds:∀q2 G,St H [cT_ q2 (cP fI (nI some)),cT_ q (cP fI (mpI (sI0 some some.length) g.length))] G→
   L67_2 (wkK fun r H'=>r=Is (mpI (farF (rwF g) g.length some) g.length)∧H'=H) (Ls (gI g)) (.sl q 1 0 g.length) (rowP q2 (nI some)) G:=by
  intro q2 G st
  refine L67_2_rule ((0:Nat),([]:List Nat),q2,G) (fun s=>.sl s.2.2.1 1 s.2.1.length (bst (rwF g) some s.1).q.length) (fun s=>s.2.2.2)
   (fun s=>BInv (rwF g) g.length some s.1 (bst (rwF g) some s.1)∧St H [cT_ s.2.2.1 (cP fI (nI s.2.1++nI (bst (rwF g) some s.1).q)),cT_ q (cP fI (mpI (bst (rwF g) some s.1).s g.length))] s.2.2.2)
   (fun s=>g.length+some.length - s.1) ⟨⟨B_ini hs,by rw [sI0_all] at st;exact st⟩,by simp [rowP,nL_,bst,bini];exact .refl _,Heap.le_refl _⟩ ?_
  clear st G q2
  rintro ⟨i,J,q2,G⟩ ⟨hb,st⟩
  dsimp only at hb st
  generalize hbe:bst (rwF g) some i=b at hb st
  simp only [hbe]
  have hms:=hb.ms
  (try simp (maxSteps:=1000000) (disch:=first | assumption | (apply ν6;assumption)) only [vz,vu,vv,eqS,eF_,↓c1_,↓c2_,tabs,reduceCtorEq,ι5,↓reduceIte,ν1,ν2,ν3,ν4,ν5,ι1,ι2,ι3,ι4,B67_2])
  refine ⟨fun h1=>?_,fun h1=>?_⟩
  ·obtain ⟨k,bq,hbq⟩:∃k bq,b.q=k::bq:=by
    cases e:b.q with
    | nil=>rw [e] at h1;simp at h1
    | cons k bq=>exact ⟨k,bq,rfl⟩
   have hstep:bst (rwF g) some (i+1)=bstep (rwF g) b:=by rw [bst,hbe]
   have hnxt:=B_step hrow hb (by rw [hbq];simp)
   rw [bstep_cons hbq] at hstep hnxt
   have hk0:0≤b.s k:=hb.qs k (by rw [hbq];simp)
   have hkn:=hb.lt k hk0
   have hki:=hb.hi k
   rw [hbq] at st hms
   simp only [List.length_cons] at hms
   have rdk:∀(J l:List Nat),(List.take 1 (List.drop J.length (cP fI (nI J++nI (k::l))))).headD Q_=I k:=by
    intro J l
    have e:nI (k::l)=(k:Int)::nI l:=rfl
    rw [cI_app,List.drop_left' (by rw [cI_len,nL_]),e];rfl
   have ln:∀(J l:List Nat),(cP fI (nI J++nI (k::l))).length=J.length+(l.length+1):=by
    intro J l;rw [cI_len,List.length_append,nL_,nL_,List.length_cons]
   have hrl:=hg.row hkn
   have hrn:=nL_ (rwF g k)
   have hlq:b.q.length=bq.length+1:=by rw [hbq];rfl
   (try simp (maxSteps:=1000000) (disch:=first | assumption | (apply ν6;assumption)) only [vz,vu,vv,eqS,eF_,↓c1_,↓c2_,tabs,reduceCtorEq,ι5,↓reduceIte,ν1,ν2,ν3,ν4,ν5,ι1,ι2,ι3,ι4,lA_ (st.get 0 rfl),rdk,ln,hgl,hlq])
   refine ⟨by omega,by omega,by omega,by omega,by omega,?_⟩
   rw [gI_get hkn]
   (try simp (maxSteps:=1000000) (disch:=first | assumption | (apply ν6;assumption)) only [vz,vu,vv,eqS,eF_,↓c1_,↓c2_,tabs,reduceCtorEq,ι5,↓reduceIte,ν1,ν2,ν3,ν4,ν5,ι1,ι2,ι3,ι4,hrn])
   have eJ:∀(J l:List Nat),nI J++nI (k::l)=nI (J++[k])++nI l:=fun J l=>by rw [← nI_app,← nI_app];simp
   rw [eJ] at st
   have et:(((bq.length+1:Nat):Int) - 1).toNat=bq.length:=by omega
   refine ⟨by omega,by omega,by omega,?_⟩
   refine L67_3_rule ((0:Nat),J++[k],q2,G) (fun s=>.sl s.2.2.1 1 s.2.1.length (((rwF g k).take s.1).foldl (bput (b.s k+1)) ⟨b.s,bq⟩).q.length) (fun s=>I s.1) (fun s=>s.2.2.2)
    (fun s=>s.1≤(rwF g k).length∧St H [cT_ s.2.2.1 (cP fI (nI s.2.1++nI ((((rwF g k).take s.1).foldl (bput (b.s k+1)) ⟨b.s,bq⟩).q))),cT_ q (cP fI (mpI (((rwF g k).take s.1).foldl (bput (b.s k+1)) ⟨b.s,bq⟩).s g.length))] s.2.2.2)
    (fun s=>(rwF g k).length - s.1) ⟨⟨by simp,st⟩,by simp only [List.length_append,List.length_singleton,et,List.take_zero,List.foldl_nil];exact .refl _,.refl _,Heap.le_refl _⟩ ?_
   clear st J q2 G
   rintro ⟨j,J,q2,G⟩ ⟨hj,st⟩
   dsimp only at hj st
   have hbr:=BRow.fold (n:=g.length) (k:=k) (d:=b.s k+1) (b0:=⟨b.s,bq⟩) (by omega) (l:=(rwF g k).take j) fun w hw=>hrow k w (List.mem_of_mem_take hw)
   generalize hc:((rwF g k).take j).foldl (bput (b.s k+1)) ⟨b.s,bq⟩=c at hbr st
   have hcm:=hbr.ms
   simp only at hcm
   have hck:c.s k=b.s k:=hbr.old k hk0
   have e5:IntKind.i64.wrap ((j:Int)+1)=((j+1:Nat):Int):=by rw [i6_ (by omega) (by omega)];simp
   simp only [hc]
   (try simp (maxSteps:=1000000) (disch:=first | assumption | (apply ν6;assumption)) only [vz,vu,vv,eqS,eF_,↓c1_,↓c2_,tabs,reduceCtorEq,ι5,↓reduceIte,ν1,ν2,ν3,ν4,ν5,ι1,ι2,ι3,ι4,B67_3,hrn])
   refine ⟨fun h2=>?_,fun h2=>?_⟩
   ·have hlj:j < (rwF g k).length:=by omega
    refine ⟨by omega,h2,?_⟩
    rw [nI_get hlj]
    have hw:=hg.lt hlj
    have hsc:=fold_take_succ (bput (b.s k+1)) ⟨b.s,bq⟩ hlj
    rw [hc] at hsc
    have edf:(rwF g k).getD j default=(rwF g k).getD j 0:=rfl
    rw [edf] at hsc
    generalize (rwF g k).getD j 0=w at hw hsc ⊢
    have rdw:=fun (f:Nat→Int) (v:Nat) (hv:v < g.length)=>(cI_rd (l:=mpI f g.length) (i:=v) (by rw [mpI_len];exact hv)).trans (by rw [mpI_get f hv])
    have lnm:∀f,(cP fI (mpI f g.length)).length=g.length:=fun f=>by rw [cI_len,mpI_len]
    have hwb:=rdw c.s w hw
    have hkb:=rdw c.s k hkn
    (try simp (maxSteps:=1000000) (disch:=first | assumption | (apply ν6;assumption)) only [vz,vu,vv,eqS,eF_,↓c1_,↓c2_,tabs,reduceCtorEq,ι5,↓reduceIte,ν1,ν2,ν3,ν4,ν5,ι1,ι2,ι3,ι4,lA_ (st.get 1 rfl),lnm,hwb,Int.toNat_natCast])
    refine ⟨by omega,by omega,by omega,fun h3=>?_,fun h3=>?_⟩
    ·have hsc2:bput (b.s k+1) c w=⟨updI c.s w (b.s k+1),c.q++[w]⟩:=by rw [bput,if_pos h3]
     rw [hsc2] at hsc
     have e6:IntKind.i64.wrap (b.s k+1)=b.s k+1:=i6_ (by omega) (by omega)
     (try simp (maxSteps:=1000000) (disch:=first | assumption | (apply ν6;assumption)) only [vz,vu,vv,eqS,eF_,↓c1_,↓c2_,tabs,reduceCtorEq,ι5,↓reduceIte,ν1,ν2,ν3,ν4,ν5,ι1,ι2,ι3,ι4,lA_ (st.get 1 rfl),sA_ (st.get 1 rfl),lnm,hkb,hck,e6,Int.toNat_natCast])
     refine ⟨by omega,by omega,by omega,by omega,by omega,by omega,?_⟩
     have hset:=cI_set (l:=mpI c.s g.length) (t:=w) (by rw [mpI_len];exact hw) (b.s k+1)
     rw [hset,mpI_set]
     replace st:=st.put 1 rfl (cP fI (mpI (updI c.s w (b.s k+1)) g.length))
     generalize G.set q (cP fI (mpI (updI c.s w (b.s k+1)) g.length))=G2 at st ⊢
     refine lit1 tab_22 rfl tab_3 ⟨rfl,rfl⟩ ?_
     refine st_appN (w:=w) st 0 rfl rfl (by omega) fun q' G' hq' st=>?_
     (try simp (maxSteps:=1000000) (disch:=first | assumption | (apply ν6;assumption)) only [vz,vu,vv,eqS,eF_,↓c1_,↓c2_,tabs,reduceCtorEq,ι5,↓reduceIte,ν1,ν2,ν3,ν4,ν5,ι1,ι2,ι3,ι4,e5])
     refine ⟨(j+1,[],q',G'),⟨by simp only;omega,by simp only [hsc];exact st⟩,by simp only;omega,?_,.refl _,Heap.le_refl _⟩
     simp only [hsc,List.length_append,List.length_singleton];exact .refl _
    ·have hsc2:bput (b.s k+1) c w=c:=by rw [bput,if_neg h3]
     rw [hsc2] at hsc
     (try simp (maxSteps:=1000000) (disch:=first | assumption | (apply ν6;assumption)) only [vz,vu,vv,eqS,eF_,↓c1_,↓c2_,tabs,reduceCtorEq,ι5,↓reduceIte,ν1,ν2,ν3,ν4,ν5,ι1,ι2,ι3,ι4,e5])
     refine ⟨(j+1,J,q2,G),⟨by simp only;omega,by simp only [hsc];exact st⟩,by simp only;omega,?_,.refl _,Heap.le_refl _⟩
     simp only [hsc];exact .refl _
   ·have:j=(rwF g k).length:=by omega
    subst this
    rw [List.take_length] at hc
    rw [hc] at hstep hnxt
    (try simp (maxSteps:=1000000) (disch:=first | assumption | (apply ν6;assumption)) only [vz,vu,vv,eqS,eF_,↓c1_,↓c2_,tabs,reduceCtorEq,ι5,↓reduceIte,ν1,ν2,ν3,ν4,ν5,ι1,ι2,ι3,ι4])
    refine ⟨(i+1,J,q2,G),⟨by simp only [hstep];exact hnxt,by simp only [hstep];exact st⟩,by simp only;omega,?_,Heap.le_refl _⟩
    simp only [hstep];exact .refl _
  ·have hq0:b.q=[]:=List.eq_nil_of_length_eq_zero (by omega)
   rw [hq0] at hms
   have hfar:=far_of (row:=rwF g) (n:=g.length) (some:=some) (i:=i) (by simp at hms;omega) (by rw [hbe];exact hq0)
   rw [hbe] at hfar
   rw [hfar]
   have:=st_int st 1 rfl
   rw [rowP,mpI_len] at this
   exact this
 have seeds:∀G,St H [cT_ q (cP fI (mpI (sI0 some 0) g.length))] G→L67_1 (wkK fun r H'=>r=Is (mpI (farF (rwF g) g.length some) g.length)∧H'=H) (Ls (gI g)) (Is (nI some)) (.sl q 1 0 g.length) (Is (nI some)) (I some.length) (I 0) G:=by
  intro G st
  refine L67_1_rule ((0:Nat),G) (fun s=>I s.1) (fun s=>s.2) (fun s=>s.1≤some.length∧St H [cT_ q (cP fI (mpI (sI0 some s.1) g.length))] s.2) (fun s=>some.length - s.1)
   ⟨⟨by simp,st⟩,.refl _,Heap.le_refl _⟩ ?_
  clear st G
  rintro ⟨k,G⟩ ⟨hk,st⟩
  dsimp only at hk st
  (try simp (maxSteps:=1000000) (disch:=first | assumption | (apply ν6;assumption)) only [vz,vu,vv,eqS,eF_,↓c1_,↓c2_,tabs,reduceCtorEq,ι5,↓reduceIte,ν1,ν2,ν3,ν4,ν5,ι1,ι2,ι3,ι4,B67_1,hil])
  refine ⟨fun h1=>?_,fun h1=>?_⟩
  ·have hlt:k < some.length:=by omega
   refine ⟨by omega,h1,?_⟩
   rw [nI_get hlt]
   have hv:=hs (some.getD k 0) (by simp [List.getD,hlt])
   have hsc:=sI0_succ hlt
   generalize some.getD k 0=v at hv hsc ⊢
   have e5:IntKind.i64.wrap ((k:Int)+1)=((k+1:Nat):Int):=by rw [i6_ (by omega) (by omega)];simp
   (try simp (maxSteps:=1000000) (disch:=first | assumption | (apply ν6;assumption)) only [vz,vu,vv,eqS,eF_,↓c1_,↓c2_,tabs,reduceCtorEq,ι5,↓reduceIte,ν1,ν2,ν3,ν4,ν5,ι1,ι2,ι3,ι4,sA_ (st.get 0 rfl),lnm,e5,Int.toNat_natCast])
   refine ⟨by omega,by omega,by omega,?_⟩
   have hset:=cI_set (l:=mpI (sI0 some k) g.length) (t:=v) (by rw [mpI_len];exact hv) 0
   rw [hset,mpI_set,hsc]
   exact ⟨(k+1,_),⟨by simp only;omega,st.put 0 rfl (cP fI (mpI (sI0 some (k+1)) g.length))⟩,by simp only;omega,.refl _,Heap.le_refl _⟩
  ·have:k=some.length:=by omega
   subst this
   refine l1Own_row (nI some) (by omega) fun q2 hq2=>?_
   replace st:=st.cell hq2 (cP fI (nI some))
   exact rounds q2 _ st
 refine L67_0_rule ((0:Nat),G1) (fun s=>I s.1) (fun s=>s.2) (fun s=>s.1≤g.length∧St H [cT_ q (cP fI (mpI (fun v=>if v < s.1 then -1 else 0) g.length))] s.2) (fun s=>g.length - s.1)
  ⟨⟨by simp,st⟩,.refl _,Heap.le_refl _⟩ ?_
 clear st G1
 rintro ⟨k,G⟩ ⟨hk,st⟩
 dsimp only at hk st
 (try simp (maxSteps:=1000000) (disch:=first | assumption | (apply ν6;assumption)) only [vz,vu,vv,eqS,eF_,↓c1_,↓c2_,tabs,reduceCtorEq,ι5,↓reduceIte,ν1,ν2,ν3,ν4,ν5,ι1,ι2,ι3,ι4,B67_0,hil])
 refine ⟨fun h1=>?_,fun h1=>?_⟩
 ·have hlt:k < g.length:=by omega
  have e5:IntKind.i64.wrap ((k:Int)+1)=((k+1:Nat):Int):=by rw [i6_ (by omega) (by omega)];simp
  (try simp (maxSteps:=1000000) (disch:=first | assumption | (apply ν6;assumption)) only [vz,vu,vv,eqS,eF_,↓c1_,↓c2_,tabs,reduceCtorEq,ι5,↓reduceIte,ν1,ν2,ν3,ν4,ν5,ι1,ι2,ι3,ι4,sA_ (st.get 0 rfl),lnm,e5,Int.toNat_natCast])
  refine ⟨by omega,by omega,by omega,?_⟩
  have hset:=cI_set (l:=mpI (fun v=>if v < k then -1 else 0) g.length) (t:=k) (by rw [mpI_len];exact hlt) (-1)
  have hup:updI (fun v=>if v < k then -1 else 0) k (-1)=fun v=>if v < k+1 then -1 else 0:=by
   funext v
   unfold updI
   by_cases e:v=k
   ·subst e;simp
   ·have:v < k+1↔v < k:=by omega
    simp [e,this]
  rw [hset,mpI_set,hup]
  exact ⟨(k+1,_),⟨by simp only;omega,st.put 0 rfl (cP fI (mpI (fun v=>if v < k+1 then -1 else 0) g.length))⟩,by simp only;omega,.refl _,Heap.le_refl _⟩
 ·have:k=g.length:=by omega
  subst this
  have e0:mpI (fun v=>if v < g.length then -1 else 0) g.length=mpI (sI0 some 0) g.length:=by
   rw [sI0_zero]
   unfold mpI
   apply List.map_congr_left
   intro v hv
   rw [if_pos (List.mem_range.1 hv)]
  rw [e0] at st
  exact seeds G st
end Go.Proofs.YtolffbcnbcjeaaaGreat
namespace Go.Proofs.YtolffbcnbcjeaaaGreat
open Go Go.Sep Go.Pt
attribute [local irreducible] CallT
theorem filter_range_succ (p:Nat→Bool) (k:Nat):(List.range (k+1)).filter p=if p k=true then (List.range k).filter p++[k] else (List.range k).filter p:=by
 rw [List.range_succ,List.filter_append]
 by_cases h:p k=true<;>simp [h]
theorem filter_range_len (p:Nat→Bool) (k:Nat):((List.range k).filter p).length≤k:=by
 have:=List.length_filter_le p (List.range k)
 rwa [List.length_range] at this
theorem l11Fair_spec (g:List (List Nat)) (hg:GrB g) (hg2:GrB (turnG g)) (goals:List (List Nat)) (hgo:GoB goals g.length):Pu Tryz.prog 68 [Ls (gI g),Ls (gI goals)] (Is (nI ((List.range g.length).filter (fairF (rwF g) goals)))):=by
 refine ⟨fun H=>CallT.fin ?_⟩
 have hn:=hg.n
 have hgl:=gI_len g
 have hol:=gI_len goals
 have hon:=hgo.len
 have hpl:=prtI_len g
 have hig:=gI_len (inG g)
 rw [inG_len] at hig
 have hpf:∀v,v < g.length→partF (aO_ (rwF g)) v < g.length:=fun v hv=>by have:=partF_le (aO_ (rwF g)) v;omega
 have hfair:=fun v hv=>fair_ref (goals:=goals) hg.gr (v:=v) hv
 have hpg:=fun v (h:v < g.length)=>prtI_get h
 have haw:=aw1_succ (rwF g)
 have hgi:∀k,k < g.length→(gI (inG g)).getD k default=nI (inF (rwF g) k):=fun k h=>by rw [gI_get (by rw [inG_len];exact h),inG_row hg]
 have hil:∀k,(inF (rwF g) k).length≤(rwF g k).length:=fun k=>by rw [inF_cB];exact List.length_filter_le _ _
 refine W68_ok ?_;simp (maxSteps:=1000000) (disch:=first | assumption | (apply ν6;assumption)) only [W68,vz,vu,vv,eqS,eF_,↓c1_,↓c2_,tabs,reduceCtorEq,ι5,↓reduceIte,ν1,ν2,ν3,ν4,ν5,ι1,ι2,ι3,ι4,hgl]
 refine Pu.use (l11Parts_spec g hg hg2) ?_
 refine Pu.use (within_spec g hg) ?_
 generalize partF (aO_ (rwF g))=pf at hpf hfair hpg haw
 generalize prtI g=pr at hpl hpg ⊢
 have ez:zA_ g.length [B false]=cP fB (mpB (aw1 (rwF g) 0) g.length):=by rw [cB_zero];rfl
 have ez3:zA_ g.length [I 0]=cP fI (mpI (fun p=>((mtF pf goals 0 p:Nat):Int)) g.length):=by rw [cP_rep,mpI_const];rfl
 (try simp (maxSteps:=1000000) (disch:=first | assumption | (apply ν6;assumption)) only [vz,vu,vv,eqS,eF_,↓c1_,↓c2_,tabs,reduceCtorEq,ι5,↓reduceIte,ν1,ν2,ν3,ν4,ν5,ι1,ι2,ι3,ι4,mS_,hig])
 refine ⟨by omega,by omega,by omega,by omega,fun q1 hq1=>?_⟩
 refine ⟨by omega,by omega,by omega,by omega,fun q2 hq21 hq2=>?_⟩
 rw [ez,ez3] at *
 have st:=((St.nil H).cell hq1 (cP fB (mpB (aw1 (rwF g) 0) g.length))).cell (r:=q2) (by rw [Heap.set_other hq21];exact hq2) (cP fI (mpI (fun p=>((mtF pf goals 0 p:Nat):Int)) g.length))
 generalize (H.set q1 (cP fB (mpB (aw1 (rwF g) 0) g.length))).set q2 (cP fI (mpI (fun p=>((mtF pf goals 0 p:Nat):Int)) g.length))=G1 at st ⊢
 clear hq1 hq21 hq2
 have last:∀G,St H [cT_ q2 (cP fI (mpI (fun p=>((mtF pf goals goals.length p:Nat):Int)) g.length)),cT_ q1 (cP fB (mpB (aw1 (rwF g) g.length) g.length))] G→
   L68_3 (wkK fun r H'=>r=Is (nI ((List.range g.length).filter (fairF (rwF g) goals)))∧H'=H) (Ls (gI goals)) (Is pr) (.sl q1 1 0 g.length) (.sl q2 1 0 g.length) (.p .nil) (I g.length) (I 0) G:=by
  intro G st
  have st:=(st.push (skT (.p .nil) [] []) ⟨.nil,fun y hy=>(by cases hy),Heap.le_refl _⟩ (.inl ⟨rfl,rfl,rfl⟩))
  refine L68_3_rule ((0:Nat),(.p .nil:AV),([]:List Nat),G) (fun z=>z.2.1) (fun z=>I z.1) (fun z=>z.2.2.2) (fun z=>z.1≤g.length∧St H [skT z.2.1 ((List.range z.1).filter (fairF (rwF g) goals)) z.2.2.1,cT_ q2 (cP fI (mpI (fun p=>((mtF pf goals goals.length p:Nat):Int)) g.length)),cT_ q1 (cP fB (mpB (aw1 (rwF g) g.length) g.length))] z.2.2.2) (fun z=>g.length - z.1)
   ⟨⟨by simp,by simpa using st⟩,.refl _,.refl _,Heap.le_refl _⟩ ?_
  clear st
  rintro ⟨i,x,D,G⟩ ⟨hi,st⟩
  dsimp only at hi st
  have e5:IntKind.i64.wrap ((i:Int)+1)=((i+1:Nat):Int):=by rw [i6_ (by omega) (by omega)];simp
  have hfl:=filter_range_len (fairF (rwF g) goals) i
  (try simp (maxSteps:=1000000) (disch:=first | assumption | (apply ν6;assumption)) only [vz,vu,vv,eqS,eF_,↓c1_,↓c2_,tabs,reduceCtorEq,ι5,↓reduceIte,ν1,ν2,ν3,ν4,ν5,ι1,ι2,ι3,ι4,B68_3,hpl,hol])
  refine ⟨fun h1=>?_,fun h1=>?_⟩
  ·have hlt:i < g.length:=by omega
   have hp:=hpf i hlt
   have hr1:=rdB (aw1 (rwF g) g.length) hp
   have hr2:=rdN (fun p=>((mtF pf goals goals.length p:Nat):Int)) hp
   have hf:=hfair i hlt
   have hsc:=filter_range_succ (fairF (rwF g) goals) i
   rw [hpg i hlt]
   (try simp (maxSteps:=1000000) (disch:=first | assumption | (apply ν6;assumption)) only [vz,vu,vv,eqS,eF_,↓c1_,↓c2_,tabs,reduceCtorEq,ι5,↓reduceIte,ν1,ν2,ν3,ν4,ν5,ι1,ι2,ι3,ι4,lA_ (st.get 2 rfl),lnB,mpB_len,hr1,Int.toNat_natCast])
   refine ⟨by omega,by omega,by omega,by omega,by omega,?_⟩
   have no:fairF (rwF g) goals i=false→∃z:Nat×AV×List Nat×Heap,(z.1≤g.length∧St H [skT z.2.1 ((List.range z.1).filter (fairF (rwF g) goals)) z.2.2.1,cT_ q2 (cP fI (mpI (fun p=>((mtF pf goals goals.length p:Nat):Int)) g.length)),cT_ q1 (cP fB (mpB (aw1 (rwF g) g.length) g.length))] z.2.2.2)∧g.length - z.1 < g.length - i∧x.wk z.2.1∧(I ((i+1:Nat):Int)).wk (I z.1)∧z.2.2.2.le G:=by
    intro h
    rw [if_neg (by rw [h];simp)] at hsc
    exact ⟨(i+1,x,D,G),⟨by simp only;omega,by simp only [hsc];exact st⟩,by simp only;omega,.refl _,.refl _,Heap.le_refl _⟩
   cases ha:aw1 (rwF g) g.length (pf i)
   ·rw [ha,Bool.false_and] at hf
    (try simp (maxSteps:=1000000) (disch:=first | assumption | (apply ν6;assumption)) only [vz,vu,vv,eqS,eF_,↓c1_,↓c2_,tabs,reduceCtorEq,ι5,↓reduceIte,ν1,ν2,ν3,ν4,ν5,ι1,ι2,ι3,ι4,e5])
    exact no hf.symm
   ·rw [ha,Bool.true_and] at hf
    (try simp (maxSteps:=1000000) (disch:=first | assumption | (apply ν6;assumption)) only [vz,vu,vv,eqS,eF_,↓c1_,↓c2_,tabs,reduceCtorEq,ι5,↓reduceIte,ν1,ν2,ν3,ν4,ν5,ι1,ι2,ι3,ι4,lA_ (st.get 1 rfl),lnN,mpI_len,hr2,e5,Int.toNat_natCast])
    refine ⟨by omega,by omega,by omega,by omega,by omega,fun h2=>?_,fun h2=>?_⟩
    ·have ht:fairF (rwF g) goals i=true:=by rw [← hf,decide_eq_true_eq];omega
     rw [if_pos ht] at hsc
     refine lit1 tab_22 rfl tab_3 ⟨rfl,rfl⟩ ?_
     refine sk_app (w:=i) st 0 rfl (by omega) fun q' G' st=>?_
     simp only [List.set_cons_zero] at st
     rw [← hsc] at st
     (try simp (maxSteps:=1000000) (disch:=first | assumption | (apply ν6;assumption)) only [vz,vu,vv,eqS,eF_,↓c1_,↓c2_,tabs,reduceCtorEq,ι5,↓reduceIte,ν1,ν2,ν3,ν4,ν5,ι1,ι2,ι3,ι4,e5])
     exact ⟨(i+1,_,[q'],G'),⟨by simp only;omega,st⟩,by simp only;omega,.refl _,.refl _,Heap.le_refl _⟩
    ·refine no ?_
     rw [← hf,decide_eq_false_iff_not]
     omega
  ·have:i=g.length:=by omega
   subst this
   exact sk_val st 0 rfl
 have gos:∀G,St H [cT_ q2 (cP fI (mpI (fun p=>((mtF pf goals 0 p:Nat):Int)) g.length)),cT_ q1 (cP fB (mpB (aw1 (rwF g) g.length) g.length))] G→
   L68_1 (wkK fun r H'=>r=Is (nI ((List.range g.length).filter (fairF (rwF g) goals)))∧H'=H) (Ls (gI g)) (Ls (gI goals)) (Is pr) (.sl q1 1 0 g.length) (.sl q2 1 0 g.length) (Ls (gI goals)) (I goals.length) (I 0) G:=by
  intro G st
  refine L68_1_rule ((0:Nat),G) (fun z=>I z.1) (fun z=>z.2) (fun z=>z.1≤goals.length∧St H [cT_ q2 (cP fI (mpI (fun p=>((mtF pf goals z.1 p:Nat):Int)) g.length)),cT_ q1 (cP fB (mpB (aw1 (rwF g) g.length) g.length))] z.2) (fun z=>goals.length - z.1)
   ⟨⟨by simp,st⟩,.refl _,Heap.le_refl _⟩ ?_
  clear st G
  rintro ⟨t,G⟩ ⟨ht,st⟩
  dsimp only at ht st
  have e5:IntKind.i64.wrap ((t:Int)+1)=((t+1:Nat):Int):=by rw [i6_ (by omega) (by omega)];simp
  (try simp (maxSteps:=1000000) (disch:=first | assumption | (apply ν6;assumption)) only [vz,vu,vv,eqS,eF_,↓c1_,↓c2_,tabs,reduceCtorEq,ι5,↓reduceIte,ν1,ν2,ν3,ν4,ν5,ι1,ι2,ι3,ι4,B68_1,hol,hgl])
  refine ⟨fun h1=>?_,fun h1=>?_⟩
  ·have hlt:t < goals.length:=by omega
   refine ⟨by omega,h1,?_⟩
   rw [gI_get hlt]
   obtain ⟨hsz,hxlt⟩:=hgo.get hlt
   have hnl:=nL_ (rwF goals t)
   have hgd:goals.getD t []=rwF goals t:=rfl
   (try simp (maxSteps:=1000000) (disch:=first | assumption | (apply ν6;assumption)) only [vz,vu,vv,eqS,eF_,↓c1_,↓c2_,tabs,reduceCtorEq,ι5,↓reduceIte,ν1,ν2,ν3,ν4,ν5,ι1,ι2,ι3,ι4,hnl])
   refine L68_2_rule ((0:Nat),G) (fun z=>I z.1) (fun z=>z.2) (fun z=>z.1≤(rwF goals t).length∧St H [cT_ q2 (cP fI (mpI (fun p=>((mtP pf goals t z.1 p:Nat):Int)) g.length)),cT_ q1 (cP fB (mpB (aw1 (rwF g) g.length) g.length))] z.2) (fun z=>(rwF goals t).length - z.1)
    ⟨⟨by simp,by rw [mtP_zero];exact st⟩,.refl _,Heap.le_refl _⟩ ?_
   clear st G
   rintro ⟨j,G⟩ ⟨hj,st⟩
   dsimp only at hj st
   have e6:IntKind.i64.wrap ((j:Int)+1)=((j+1:Nat):Int):=by rw [i6_ (by omega) (by omega)];simp
   (try simp (maxSteps:=1000000) (disch:=first | assumption | (apply ν6;assumption)) only [vz,vu,vv,eqS,eF_,↓c1_,↓c2_,tabs,reduceCtorEq,ι5,↓reduceIte,ν1,ν2,ν3,ν4,ν5,ι1,ι2,ι3,ι4,B68_2,hnl,hpl])
   refine ⟨fun h2=>?_,fun h2=>?_⟩
   ·have hlj:j < (rwF goals t).length:=by omega
    refine ⟨by omega,h2,?_⟩
    rw [nI_get hlj]
    have hx:=hxlt j hlj
    have hs:=mtP_succ pf goals (j:=t) (t:=j) hlj
    rw [hgd] at hs
    generalize (rwF goals t).getD j 0=w at hx hs ⊢
    have hp:=hpf w hx
    have hr:=rdN (fun p=>((mtP pf goals t j p:Nat):Int)) hp
    rw [Int.toNat_natCast,hpg w hx]
    (try simp (maxSteps:=1000000) (disch:=first | assumption | (apply ν6;assumption)) only [vz,vu,vv,eqS,eF_,↓c1_,↓c2_,tabs,reduceCtorEq,ι5,↓reduceIte,ν1,ν2,ν3,ν4,ν5,ι1,ι2,ι3,ι4,lA_ (st.get 0 rfl),lnN,mpI_len,hr,e6,Int.toNat_natCast])
    refine ⟨by omega,by omega,by omega,by omega,by omega,fun h3=>?_,fun h3=>?_⟩
    ·have hset:=setN (fun p=>((mtP pf goals t j p:Nat):Int)) hp ((t+1:Nat):Int)
     have hup:updI (fun p=>((mtP pf goals t j p:Nat):Int)) (pf w) ((t+1:Nat):Int)=fun p=>((mtP pf goals t (j+1) p:Nat):Int):=by
      funext p
      rw [hs]
      unfold updI
      by_cases e:p=pf w
      ·subst e
       have h3':mtP pf goals t j (pf w)=t:=by omega
       simp only [if_pos,h3',and_self]
      ·simp only [e,false_and,if_false]
     (try simp (maxSteps:=1000000) (disch:=first | assumption | (apply ν6;assumption)) only [vz,vu,vv,eqS,eF_,↓c1_,↓c2_,tabs,reduceCtorEq,ι5,↓reduceIte,ν1,ν2,ν3,ν4,ν5,ι1,ι2,ι3,ι4,sA_ (st.get 0 rfl),lnN,mpI_len,e5,e6,Int.toNat_natCast])
     repeat refine ⟨by omega,?_⟩
     rw [hset,hup]
     exact ⟨(j+1,_),⟨by simp only;omega,st.put 0 rfl (cP fI (mpI (fun p=>((mtP pf goals t (j+1) p:Nat):Int)) g.length))⟩,by simp only;omega,.refl _,Heap.le_refl _⟩
    ·have e:mtP pf goals t (j+1)=mtP pf goals t j:=by
      funext p
      rw [hs]
      simp only
      by_cases h:p=pf w∧mtP pf goals t j p=t
      ·obtain ⟨rfl,h⟩:=h
       exact absurd (by omega) h3
      ·rw [if_neg h]
     exact ⟨(j+1,G),⟨by simp only;omega,by simp only [e];exact st⟩,by simp only;omega,.refl _,Heap.le_refl _⟩
   ·have:j=(rwF goals t).length:=by omega
    subst this
    have hal:=mtP_all pf goals t
    rw [hgd] at hal
    rw [hal] at st
    (try simp (maxSteps:=1000000) (disch:=first | assumption | (apply ν6;assumption)) only [vz,vu,vv,eqS,eF_,↓c1_,↓c2_,tabs,reduceCtorEq,ι5,↓reduceIte,ν1,ν2,ν3,ν4,ν5,ι1,ι2,ι3,ι4,e5])
    exact ⟨(t+1,G),⟨by simp only;omega,st⟩,by simp only;omega,.refl _,Heap.le_refl _⟩
  ·have:t=goals.length:=by omega
   subst this
   exact last G st
 refine L68_0_rule ((0:Nat),G1) (fun z=>I z.1) (fun z=>z.2) (fun z=>z.1≤g.length∧St H [cT_ q2 (cP fI (mpI (fun p=>((mtF pf goals 0 p:Nat):Int)) g.length)),cT_ q1 (cP fB (mpB (aw1 (rwF g) z.1) g.length))] z.2) (fun z=>g.length - z.1)
  ⟨⟨by simp,st⟩,.refl _,Heap.le_refl _⟩ ?_
 clear st
 rintro ⟨k,G⟩ ⟨hk,st⟩
 dsimp only at hk st
 have e5:IntKind.i64.wrap ((k:Int)+1)=((k+1:Nat):Int):=by rw [i6_ (by omega) (by omega)];simp
 (try simp (maxSteps:=1000000) (disch:=first | assumption | (apply ν6;assumption)) only [vz,vu,vv,eqS,eF_,↓c1_,↓c2_,tabs,reduceCtorEq,ι5,↓reduceIte,ν1,ν2,ν3,ν4,ν5,ι1,ι2,ι3,ι4,B68_0,hig,hol,hpl])
 refine ⟨fun h1=>?_,fun h1=>?_⟩
 ·have hlt:k < g.length:=by omega
  have hrl:=hg.row hlt
  have hikl:=hil k
  have hp:=hpf k hlt
  have hr:=rdB (aw1 (rwF g) k) hp
  have hnl:=nL_ (inF (rwF g) k)
  have hup:updB (aw1 (rwF g) k) (pf k) (aw1 (rwF g) k (pf k) || decide (0 < (inF (rwF g) k).length))=aw1 (rwF g) (k+1):=by
   rw [haw];funext p;unfold updB
   by_cases e:p=pf k
   ·subst e;simp
   ·simp [e]
  have hset:=setB (aw1 (rwF g) k) hp (aw1 (rwF g) k (pf k) || decide (0 < (inF (rwF g) k).length))
  rw [hup] at hset
  have hput:=st.put 1 rfl (cP fB (mpB (aw1 (rwF g) (k+1)) g.length))
  rw [hgi k hlt,hpg k hlt]
  (try simp (maxSteps:=1000000) (disch:=first | assumption | (apply ν6;assumption)) only [vz,vu,vv,eqS,eF_,↓c1_,↓c2_,tabs,reduceCtorEq,ι5,↓reduceIte,ν1,ν2,ν3,ν4,ν5,ι1,ι2,ι3,ι4,lA_ (st.get 1 rfl),lnB,mpB_len,hr,hnl,Int.toNat_natCast])
  refine ⟨by omega,by omega,by omega,by omega,by omega,by omega,by omega,?_⟩
  cases ha:aw1 (rwF g) k (pf k)
  ·have ed:decide ((0:Int) < ((inF (rwF g) k).length:Int))=decide (0 < (inF (rwF g) k).length):=by rw [decide_eq_decide];omega
   rw [ha,Bool.false_or] at hset
   (try simp (maxSteps:=1000000) (disch:=first | assumption | (apply ν6;assumption)) only [vz,vu,vv,eqS,eF_,↓c1_,↓c2_,tabs,reduceCtorEq,ι5,↓reduceIte,ν1,ν2,ν3,ν4,ν5,ι1,ι2,ι3,ι4,sA_ (st.get 1 rfl),lnB,mpB_len,e5,ed,gt_iff_lt,Int.toNat_natCast])
   repeat refine ⟨by omega,?_⟩
   rw [hset]
   exact ⟨(k+1,_),⟨by simp only;omega,hput⟩,by simp only;omega,.refl _,Heap.le_refl _⟩
  ·rw [ha,Bool.true_or] at hset
   (try simp (maxSteps:=1000000) (disch:=first | assumption | (apply ν6;assumption)) only [vz,vu,vv,eqS,eF_,↓c1_,↓c2_,tabs,reduceCtorEq,ι5,↓reduceIte,ν1,ν2,ν3,ν4,ν5,ι1,ι2,ι3,ι4,sA_ (st.get 1 rfl),lnB,mpB_len,e5,Int.toNat_natCast])
   repeat refine ⟨by omega,?_⟩
   rw [hset]
   exact ⟨(k+1,_),⟨by simp only;omega,hput⟩,by simp only;omega,.refl _,Heap.le_refl _⟩
 ·have:k=g.length:=by omega
  subst this
  exact gos G st
end Go.Proofs.YtolffbcnbcjeaaaGreat
namespace Go.Proofs.YtolffbcnbcjeaaaGreat
open Go Go.Sep Go.Pt
attribute [local irreducible] CallT
end Go.Proofs.YtolffbcnbcjeaaaGreat
namespace Go.Sep
open Go Go.RowKit Go.Proofs.YtolffbcnbcjeaaaGreat
structure ResU (R:AV→Heap→List Nat→Prop):Prop where
 loc:∀{r G G' D},R r G D→(∀y∈D,∀b,G y=some b→G' y=some b)→R r G' D
 gd:∀{r G D},R r G D→Gd2 r∧∀y∈D,∀bs,G y=some bs→∀c∈bs,GdC c
 sh:∀{r G D n G0},(∀q,n≤q→G0 q=none)→R r G D→R (sh2 n r) (Heap.or G0 (shH n G)) (D.map (·+n))
theorem thawU {R:AV→Heap→List Nat→Prop} (hR:ResU R) {P:Program} {f:Nat} {args args':List AV} {G G1:Heap} {K:AV→Heap→Prop}
  (hf:∀{K:AV→Heap→Prop},(∀r G D,R r G D→New (fun _=>none) G D→K r G)→CallT P f args' (fun _=>none) K)
  (hw:Wk (.tup args) G (.tup args') G1) (h:∀r G' D,R r G' D→New G G' D→K r G'):CallT P f args G K:=by
 refine CallT.thawX (Q':=fun r H'=>∃D,R r H' D∧D.Nodup∧∀y,y∉D→H' y=none) ?_ ?_ hw ?_
 ·refine CallT.fin (hf fun r G D hl hn=>⟨_,only D G,.forget (only_le D G),D,hR.loc hl fun y hy b hb=>by rw [only_in hy];exact hb,hn.nd,fun y hy=>only_out hy⟩)
 ·rintro r H' ⟨D,hl,_,hout⟩
  refine ⟨(hR.gd hl).1,fun q cs hq=>?_⟩
  by_cases hD:q∈D
  ·exact (hR.gd hl).2 q hD cs hq
  ·rw [hout q hD] at hq;cases hq
 ·rintro r H' n ⟨D,hl,hnd,hout⟩ hn
  refine h _ _ (D.map (·+n)) (hR.sh hn hl) ⟨?_,fun y hy=>?_,fun y b hb=>by simp only [Heap.or,hb]⟩
  ·exact List.pairwise_map.2 (hnd.imp fun h e=>h (Nat.add_right_cancel e))
  ·obtain ⟨z,_,rfl⟩:=List.mem_map.1 hy
   exact hn _ (by omega)
end Go.Sep
namespace Go.Proofs.YtolffbcnbcjeaaaGreat
open Go Go.Sep Go.Pt
attribute [local irreducible] CallT
theorem LPg.sl {p:Pg} {v:AV} {G:Heap} {D:List Nat} (h:LPg p v G D):∃q1 q2,v=.agg [I p.wide,I p.vars,.sl q1 2 0 p.start.length,.sl q2 2 0 p.cmds.length]:=by
 obtain ⟨x,y,E1,E2,rfl,rfl,hx,hy⟩:=h
 obtain ⟨qx,rfl⟩:=LRow.sl hx
 obtain ⟨qy,rfl⟩:=LRow.sl hy
 exact ⟨qx,qy,rfl⟩
end Go.Proofs.YtolffbcnbcjeaaaGreat
namespace Go.Proofs.YtolffbcnbcjeaaaGreat
open Go Go.Sep Go.Pt
attribute [local irreducible] CallT
theorem lit_row {x:Int} {G:Heap} {K:AV→Heap→Prop} (h:∀q,G q=none→K (.sl q 1 0 1) (G.set q (cP fI [x]))):bS_ tab 22 1 [(0,I x)] G (wkK K):=by
 simp only [bS_,tab_22,tab_3]
 refine ⟨by omega,?_⟩
 exact fun r hr=>wkK.keep (h r hr)
theorem nxt_at {s:Nat→Int} {row:Nat→List Nat} {v j:Nat} (hj:j < (row v).length) (hn:∀i,i < j→s ((row v).getD i 0)≠s v - 1) (hp:s ((row v).getD j 0)=s v - 1):nxtF s row v=(row v).getD j 0:=by
 have e:(row v).find? (fun w=>decide (s w=s v - 1))=some ((row v).getD j 0):=by
  rw [List.find?_eq_some_iff_getElem]
  refine ⟨by simpa using hp,j,hj,by simp [List.getD,hj],fun i hi=>?_⟩
  have:=hn i hi
  simp [List.getD,show i < (row v).length by omega] at this
  simpa using this
 rw [nxtF,e];rfl
theorem near_at {s:Nat→Int} {row:Nat→List Nat} (h:Near s row) {v:Nat} (hv:0 < s v):∃j,j < (row v).length∧s ((row v).getD j 0)=s v - 1:=by
 obtain ⟨w,h1,h2⟩:=h.nx v hv
 obtain ⟨j,hj,e⟩:=List.getElem_of_mem h1
 exact ⟨j,hj,by simp [List.getD,hj,e,h2]⟩
theorem toF_turn {g:List (List Nat)} (hg:GrB g) (to:List Nat):farF (rwF (turnG g)) (turnG g).length to=toF (rwF g) g.length to:=by rw [turnG_row hg.gr,turnG_len];rfl
theorem itK_succ (s:Nat→Int) (row:Nat→List Nat) (v k:Nat):(List.range (k+1+1)).map (itF s row v)=(List.range (k+1)).map (itF s row v)++[nxtF s row (itF s row v k)]:=by
 rw [List.range_succ,List.map_append];rfl
def wayV (row:Nat→List Nat) (n:Nat) (some to:List Nat):AV:=.tup [Is (nI (lwayF row n some to)),B (!decide (bestF (toF row n to) some < 0))]
def RPt (l:List Nat) (ok:Bool) (r:AV) (G:Heap) (D:List Nat):Prop:=∃x,r=.tup [x,B ok]∧RN (LPl eI) 1 x (nI l) G D
theorem RPt.res (l:List Nat) (ok:Bool):ResU (RPt l ok):=by
 refine ⟨?_,?_,?_⟩
 ·rintro r G G' D ⟨v,rfl,h⟩ hf
  exact ⟨v,rfl,h.local (LPl.local eI) hf⟩
 ·rintro r G D ⟨v,rfl,h⟩
  have gb:Gd1 (B ok):=.inr ⟨.p (.bool ok),fun _=>rfl⟩
  have gv:Gd1 v∧∀y∈D,∀bs,G y=some bs→∀c∈bs,GdC c:=by
   rcases rnI_cases h with ⟨rfl,_,rfl⟩ | ⟨q,rfl,hq,rfl⟩
   ·exact ⟨.inr ⟨.p .nil,fun _=>rfl⟩,fun y hy=>by cases hy⟩
   ·refine ⟨.inr ⟨.inl ⟨_,_,_,_,rfl⟩,fun _=>rfl⟩,fun y hy bs hb c hc=>?_⟩
    rw [List.mem_singleton.1 hy,hq] at hb;cases hb
    obtain ⟨z,_,rfl⟩:=List.mem_map.1 hc
    exact .p (.int _ _)
  refine ⟨.inl ⟨_,rfl,fun u hu=>?_⟩,gv.2⟩
  rcases List.mem_cons.1 hu with rfl | hu
  ·exact gv.1
  ·rw [List.mem_singleton] at hu;rw [hu];exact gb
 ·rintro r G D n G0 h0 ⟨v,rfl,h⟩
  rcases rnI_cases h with ⟨rfl,hl,rfl⟩ | ⟨q,rfl,hq,rfl⟩
  ·exact ⟨_,rfl,.inl ⟨rfl,hl,rfl⟩⟩
  ·refine ⟨_,rfl,?_⟩
   have e:shC n (rowP q (nI l))=rowP (q+n) (nI l):=rfl
   refine rnI_mk ?_
   have em:(cP fI (nI l)).map (shC n)=cP fI (nI l):=by rw [cP,List.map_map];rfl
   simp only [Heap.or,h0 (q+n) (by omega),shH,Nat.le_add_left,if_true,Nat.add_sub_cancel,hq,Option.map_some,em]
theorem l11Path_row (g:List (List Nat)) (hg:GrB g) (hg2:GrB (turnG g)) (some to:List Nat) (hs:∀v∈some,v < g.length) (hsl:some.length≤500000) (ht:∀v∈to,v < g.length) (htl:to.length≤100000)
  {H:Heap} {K:AV→Heap→Prop} (hK:∀x G D,RN (LPl eI) 1 x (nI (lwayF (rwF g) g.length some to)) G D→New H G D→K (.tup [x,B (!decide (bestF (toF (rwF g) g.length to) some < 0))]) G) :
  CallT Tryz.prog 69 [Ls (gI g),Is (nI some),Is (nI to)] H K:=by
 have hn:=hg.n
 have hgl:=gI_len g
 have hsn:=nL_ some
 refine W69_ok ?_;simp (maxSteps:=1000000) (disch:=first | assumption | (apply ν6;assumption)) only [W69,vz,vu,vv,eqS,eF_,↓c1_,↓c2_,tabs,reduceCtorEq,ι5,↓reduceIte,ν1,ν2,ν3,ν4,ν5,ι1,ι2,ι3,ι4,hsn]
 refine Pu.use (sp_spec.l11Turn g hg) ?_
 have hfar:=sp_l11Far (turnG g) hg2 to (by rw [turnG_len];exact ht) htl
 rw [toF_turn hg,turnG_len] at hfar
 refine Pu.use hfar ?_
 have hnear:=toF_near hg.gr ht
 have hbd:=toF_bd hg.gr ht
 have hwl:lwayF (rwF g) g.length some to=if bestF (toF (rwF g) g.length to) some < 0 then [] else wayF (toF (rwF g) g.length to) (rwF g) (bestF (toF (rwF g) g.length to) some).toNat:=rfl
 have hbc:=bestF_cases (toF (rwF g) g.length to)
 generalize toF (rwF g) g.length to=far at hnear hbd hwl hbc hK
 have hml:=mpI_len far g.length
 have hmg:=fun v (h:v < g.length)=>mpI_get far h
 (try simp (maxSteps:=1000000) (disch:=first | assumption | (apply ν6;assumption)) only [vz,vu,vv,eqS,eF_,↓c1_,↓c2_,tabs,reduceCtorEq,ι5,↓reduceIte,ν1,ν2,ν3,ν4,ν5,ι1,ι2,ι3,ι4])
 have go:∀(v q:Nat) (G:Heap),v < g.length→0≤far v→bestF far some=(v:Int)→St H [rnI (rowP q (nI [v])) (nI [v]) [q]] G→
   L69_1 K (Ls (gI g)) (Is (mpI far g.length)) (I v) (rowP q (nI [v])) G:=by
  intro v q G hv h0 hb st
  have hvb:=hbd v
  refine L69_1_rule ((0:Nat),q,G) (fun z=>I (itF far (rwF g) v z.1:Nat)) (fun z=>rowP z.2.1 (nI ((List.range (z.1+1)).map (itF far (rwF g) v)))) (fun z=>z.2.2) (fun z=>(z.1:Int)≤far v∧St H [rnI (rowP z.2.1 (nI ((List.range (z.1+1)).map (itF far (rwF g) v)))) (nI ((List.range (z.1+1)).map (itF far (rwF g) v))) [z.2.1]] z.2.2) (fun z=>(far v).toNat - z.1)
   ⟨⟨by simpa using h0,st⟩,.refl _,.refl _,Heap.le_refl _⟩ ?_
  clear st q G
  rintro ⟨k,q,G⟩ ⟨hk,st⟩
  dsimp only at hk st
  have hsk:=itF_s hnear (v:=v) k hk
  have hbk:=hbd (itF far (rwF g) v k)
  have hisc:=itK_succ far (rwF g) v k
  have hik:itF far (rwF g) v (k+1)=nxtF far (rwF g) (itF far (rwF g) v k):=rfl
  generalize hu:itF far (rwF g) v k=u at hsk hbk hisc hik
  have hun:u < g.length:=hbk.2.2 (by omega)
  simp only [hu]
  (try simp (maxSteps:=1000000) (disch:=first | assumption | (apply ν6;assumption)) only [vz,vu,vv,eqS,eF_,↓c1_,↓c2_,tabs,reduceCtorEq,ι5,↓reduceIte,ν1,ν2,ν3,ν4,ν5,ι1,ι2,ι3,ι4,B69_1,hml,hgl])
  rw [hmg u hun]
  refine ⟨by omega,by omega,fun h1=>?_,fun h1=>?_⟩
  ·refine ⟨by omega,by omega,?_⟩
   rw [gI_get hun]
   have hrn:=nL_ (rwF g u)
   have hrl:=hg.row hun
   have e6:IntKind.i64.wrap (far u - 1)=far u - 1:=i6_ (by omega) (by omega)
   (try simp (maxSteps:=1000000) (disch:=first | assumption | (apply ν6;assumption)) only [vz,vu,vv,eqS,eF_,↓c1_,↓c2_,tabs,reduceCtorEq,ι5,↓reduceIte,ν1,ν2,ν3,ν4,ν5,ι1,ι2,ι3,ι4,hrn])
   refine L69_2_rule (0:Nat) (fun _=>I (u:Nat)) (fun j=>I j) (fun _=>G) (fun j=>j≤(rwF g u).length∧∀i,i < j→far ((rwF g u).getD i 0)≠far u - 1) (fun j=>(rwF g u).length - j) ⟨⟨by simp,fun i hi=>by omega⟩,.refl _,.refl _,Heap.le_refl _⟩ ?_
   rintro j ⟨hj,hno⟩
   have e5:IntKind.i64.wrap ((j:Int)+1)=((j+1:Nat):Int):=by rw [i6_ (by omega) (by omega)];simp
   (try simp (maxSteps:=1000000) (disch:=first | assumption | (apply ν6;assumption)) only [vz,vu,vv,eqS,eF_,↓c1_,↓c2_,tabs,reduceCtorEq,ι5,↓reduceIte,ν1,ν2,ν3,ν4,ν5,ι1,ι2,ι3,ι4,B69_2,hrn,hml])
   refine ⟨fun h2=>?_,fun h2=>?_⟩
   ·have hlj:j < (rwF g u).length:=by omega
    refine ⟨by omega,h2,?_⟩
    rw [nI_get hlj,Int.toNat_natCast]
    have hw:=hg.lt hlj
    have hnx:=nxt_at (s:=far) (row:=rwF g) (v:=u) hlj hno
    generalize hwe:(rwF g u).getD j 0=w at hw hnx ⊢
    rw [hmg w hw,hmg u hun,e6]
    refine ⟨by omega,by omega,by omega,by omega,fun h3=>?_,fun h3=>?_⟩
    ·have hnx:=hnx h3
     rw [hnx] at hisc hik
     refine lit1 tab_22 rfl tab_3 ⟨rfl,rfl⟩ ?_
     refine rn_appI (ys:=[(w:Int)]) st 0 rfl (by rw [nL_,List.length_map,List.length_range];simp only [List.length_cons,List.length_nil];omega) fun q' G' hq' st=>?_
     simp only [List.set_cons_zero] at st
     rw [← nI_one,← nI_app,← hisc] at st ⊢
     exact ⟨(k+1,q',G'),⟨by simp only;omega,st⟩,by simp only;omega,by simp only [hik];exact .refl _,.refl _,Heap.le_refl _⟩
    ·(try simp (maxSteps:=1000000) (disch:=first | assumption | (apply ν6;assumption)) only [vz,vu,vv,eqS,eF_,↓c1_,↓c2_,tabs,reduceCtorEq,ι5,↓reduceIte,ν1,ν2,ν3,ν4,ν5,ι1,ι2,ι3,ι4,e5])
     refine ⟨j+1,⟨by omega,fun i hi=>?_⟩,by omega,.refl _,.refl _⟩
     rcases Nat.lt_succ_iff_lt_or_eq.1 hi with h | rfl
     ·exact hno i h
     ·rw [hwe];exact h3
   ·exfalso
    obtain ⟨i,hi,hp⟩:=near_at hnear (v:=u) h1
    exact hno i (by omega) hp
  ·have hek:(far v).toNat+1=k+1:=by omega
   have hway:lwayF (rwF g) g.length some to=(List.range (k+1)).map (itF far (rwF g) v):=by
    rw [hwl,if_neg (by omega),hb,Int.toNat_natCast,wayF,hek]
   have hdb:decide (bestF far some < 0)=false:=by rw [decide_eq_false_iff_not];omega
   have:=hK (rowP q (nI ((List.range (k+1)).map (itF far (rwF g) v)))) G [q] (by rw [hway];exact st.get 0 rfl) ⟨st.ndT 0 rfl,st.fr _ (List.mem_cons_self ..),st.le⟩
   rw [hdb] at this
   exact this
 refine L69_0_rule (0:Nat) (fun k=>I (bestF far (some.take k))) (fun k=>I k) (fun _=>H) (fun k=>k≤some.length) (fun k=>some.length - k) ⟨by simp,.refl _,.refl _,Heap.le_refl _⟩ ?_
 intro k hk
 have e5:IntKind.i64.wrap ((k:Int)+1)=((k+1:Nat):Int):=by rw [i6_ (by omega) (by omega)];simp
 (try simp (maxSteps:=1000000) (disch:=first | assumption | (apply ν6;assumption)) only [vz,vu,vv,eqS,eF_,↓c1_,↓c2_,tabs,reduceCtorEq,ι5,↓reduceIte,ν1,ν2,ν3,ν4,ν5,ι1,ι2,ι3,ι4,B69_0,hsn,hml,e5])
 refine ⟨fun h1=>?_,fun h1=>?_⟩
 ·have hlt:k < some.length:=by omega
  refine ⟨by omega,h1,?_⟩
  rw [nI_get hlt,Int.toNat_natCast]
  have hv:=hs (some.getD k 0) (by simp [List.getD,hlt])
  have hsc:bestF far (some.take (k+1))=bput1 far (bestF far (some.take k)) (some.getD k 0):=by
   rw [tS_ hlt,bestF_snoc];rfl
  have hbk:bestF far (some.take k) < 0∨bestF far (some.take k) < g.length:=by
   rcases hbc (some.take k) with ⟨e,_⟩ | ⟨u,hu,e,_⟩
   ·omega
   ·have:=hs u (List.mem_of_mem_take hu)
    omega
  generalize some.getD k 0=w at hv hsc ⊢
  generalize bestF far (some.take k)=mk at hsc hbk ⊢
  have yes:bestF far (some.take (k+1))=(w:Int)→∃s':Nat,s'≤some.length∧some.length - s' < some.length - k∧(I (w:Int)).wk (I (bestF far (some.take s')))∧(I ((k+1:Nat):Int)).wk (I s'):=
   fun h=>⟨k+1,by omega,by omega,by rw [h];exact .refl _,.refl _⟩
  have no:bestF far (some.take (k+1))=mk→∃s':Nat,s'≤some.length∧some.length - s' < some.length - k∧(I mk).wk (I (bestF far (some.take s')))∧(I ((k+1:Nat):Int)).wk (I s'):=
   fun h=>⟨k+1,by omega,by omega,by rw [h];exact .refl _,.refl _⟩
  rw [hmg w hv]
  have hp:¬mk < 0→0≤mk∧mk < g.length∧mk.toNat < g.length:=by clear yes no;omega
  refine ⟨by clear yes no;omega,by clear yes no;omega,fun h3=>⟨fun h4=>?_,fun h4=>⟨by clear yes no;omega,by clear yes no;omega,(hp h4).1,(hp h4).2.1,?_⟩⟩,fun h3=>?_⟩
  ·exact yes (by rw [hsc,bput1,if_pos ⟨h3,.inl h4⟩])
  ·rw [hmg mk.toNat (hp h4).2.2]
   refine ⟨fun h5=>yes ?_,fun h5=>no ?_⟩
   ·rw [hsc,bput1,if_pos ⟨h3,.inr h5⟩]
   ·rw [hsc,bput1,if_neg (fun h=>h5 (h.2.resolve_left h4))]
  ·exact no (by rw [hsc,bput1,if_neg (fun h=>h3 h.1)])
 ·have:k=some.length:=by omega
  subst this
  rw [List.take_length]
  refine ⟨fun h2=>?_,fun h2=>?_⟩
  ·have:=hK (.p .nil) H [] (.inl ⟨rfl,by rw [hwl,if_pos h2];rfl,rfl⟩) ⟨.nil,fun y hy=>(by cases hy),Heap.le_refl _⟩
   rw [decide_eq_true h2] at this
   exact this
  ·rcases hbc some with ⟨e,_⟩ | ⟨v,hv,e,h0,_⟩
   ·omega
   ·rw [e] at h2 ⊢
    refine lit_row fun q hq=>?_
    have st:=(St.nil H).push (rnI (rowP q (nI [v])) (nI [v]) [q]) (New.cell (b:=cP fI (nI [v])) hq) (rnI_mk (Heap.set_same _ _ _))
    exact go v q _ (hs v hv) h0 e st
theorem rn_wk2 {x:AV} {l:List Int} {G:Heap} {D:List Nat} (h:RN (LPl eI) 1 x l G D) (y:AV):∃G',Wk (.tup [x,y]) G (.tup [Is l,y]) G'∧∀z,z∉D→G' z=G z:=by
 rcases rnI_cases h with ⟨rfl,rfl,rfl⟩ | ⟨q,rfl,hq,rfl⟩
 ·exact ⟨G,.val (wk_tup ⟨.nil,.refl _,trivial⟩),fun _ _=>rfl⟩
 ·refine ⟨G.del q,?_,fun z hz=>Heap.del_other (by simpa using hz)⟩
  have:=wkPart (off:=0) (n:=l.length) hq (by omega) [y] []
  rwa [List.drop_zero,List.take_length] at this
theorem l11Path_spec (g:List (List Nat)) (hg:GrB g) (hg2:GrB (turnG g)) (some to:List Nat) (hs:∀v∈some,v < g.length) (hsl:some.length≤500000) (ht:∀v∈to,v < g.length) (htl:to.length≤100000) :
  Pu Tryz.prog 69 [Ls (gI g),Is (nI some),Is (nI to)] (wayV (rwF g) g.length some to):=by
 refine ⟨fun H=>CallT.fin (l11Path_row g hg hg2 some to hs hsl ht htl fun x G D hx hn=>?_)⟩
 obtain ⟨G',w,f⟩:=rn_wk2 hx (B (!decide (bestF (toF (rwF g) g.length to) some < 0)))
 refine ⟨_,H,.trans w (.forget fun z b hb=>?_),rfl,rfl⟩
 rw [f z (fun hz=>by rw [hn.fr z hz] at hb;cases hb)]
 exact hn.le z b hb
end Go.Proofs.YtolffbcnbcjeaaaGreat
namespace Go.Proofs.YtolffbcnbcjeaaaGreat
open Go Go.Sep Go.Pt
attribute [local irreducible] CallT
theorem turnG_B {g:List (List Nat)} (hg:GrB g):GrB (turnG g):=by
 have ht:=turn_ok hg.gr
 refine ⟨?_,by rw [turnG_len];exact hg.n,?_⟩
 ·intro l hl x hx
  obtain ⟨v,_,rfl⟩:=List.mem_map.1 hl
  rw [turnG_len]
  exact ht.lt v x hx
 ·rw [prT_sum,turnG_len,turnG_row hg.gr]
  have e:turnF (rwF g) g.length=rowP' (prT g g.length 0):=by funext w;exact (prT_turn g w).symm
  rw [e,sumN_rows (prT_lt hg.gr)]
  exact hg.arcs
theorem inG_B {g:List (List Nat)} (hg:GrB g):GrB (inG g):=by
 refine ⟨?_,by rw [inG_len];exact hg.n,?_⟩
 ·intro l hl x hx
  obtain ⟨v,_,rfl⟩:=List.mem_map.1 hl
  rw [inG_len]
  exact hg.gr.lt v x (inF_mem.1 hx).1
 ·rw [prT_sum,inG_len,inG_row hg]
  refine Nat.le_trans (sumN_mono fun v=>?_) (by rw [← prT_sum];exact hg.arcs)
  rw [inF_cB];exact List.length_filter_le _ _
theorem st_appL {H G:Heap} {Ts:List Th} {q:Nat} {xs:List Int} (s:St H Ts G) (i:Nat) (hi:Ts[i]?=some (cT_ q (cP fI xs))) {q2 off n:Nat} {l:List Int} (hq2:G q2=some (cP fI l)) (hb:off+n≤l.length) (hl:xs.length+n≤1000000) {K:AV→Heap→Prop}
  (h:∀q' G',G q'=none→St H (Ts.set i (cT_ q' (cP fI (xs++(l.drop off).take n)))) G'→K (rowP q' (xs++(l.drop off).take n)) G'):aP_ tab 22 22 (rowP q xs) (.sl q2 1 off n) G (wkK K):=by
 have hq:G q=some (cP fI xs):=s.get i hi
 simp only [aP_,tab_22,tab_3,srcV,baseV,hq,hq2]
 have e1:List.take (n*1) (List.drop off (cP fI l))=cP fI ((l.drop off).take n):=by rw [Nat.mul_one,cP,← List.map_drop,← List.map_take]
 have e3:List.take (xs.length*1) (List.drop 0 (cP fI xs))=cP fI xs:=by rw [List.drop_zero,Nat.mul_one];exact List.take_of_length_le (by rw [cI_len];exact Nat.le_refl _)
 rw [e1,e3,cI_len,cI_len]
 refine ⟨trivial,by omega,trivial,by omega,by omega,by omega,cP_all _,fun r' hr'=>wkK.keep ?_⟩
 have hl2:((l.drop off).take n).length=n:=by rw [List.length_take,List.length_drop];omega
 have:=h r' _ hr' (s.moved i hi hr')
 rw [rowP,List.length_append,hl2,cI_app] at this
 exact this
theorem ownF_eq (row:Nat→List Nat) (m:Nat) (l:List Nat):ownF row m l=l.filter fun v=>decide (partF (aO_ row) v=partF (aO_ row) m):=by
 unfold ownF
 apply List.filter_congr
 intro v _
 rw [decide_eq_decide]
 exact ⟨fun h=>partF_iff.2 h.symm,fun h=>(partF_iff.1 h).symm⟩
noncomputable def laS (row:Nat→List Nat) (n:Nat) (some:List Nat) (goals:List (List Nat)):List Nat:=if meetF row n some goals < 0 then [] else stemF row n (meetF row n some goals).toNat some
noncomputable def laL (row:Nat→List Nat) (n:Nat) (some:List Nat) (goals:List (List Nat)):List Nat:=if meetF row n some goals < 0 then [] else ringF row n (meetF row n some goals).toNat goals
noncomputable def laB (row:Nat→List Nat) (n:Nat) (some:List Nat) (goals:List (List Nat)):Bool:=!decide (meetF row n some goals < 0)
noncomputable def lassoV (row:Nat→List Nat) (n:Nat) (some:List Nat) (goals:List (List Nat)):AV:=.tup [Is (nI (laS row n some goals)),Is (nI (laL row n some goals)),B (laB row n some goals)]
theorem l11Lasso_spec (g:List (List Nat)) (hg:GrB g) (some:List Nat) (hs:∀v∈some,v < g.length) (hsl:some.length≤100000) (goals:List (List Nat)) (b:Nat) (hgo:GoB goals g.length) (hgb:∀l∈goals,l.length≤b) (hB:(goals.length+1)*(g.length+b+2)≤800000) :
  Pu Tryz.prog 30 [Ls (gI g),Is (nI some),Ls (gI goals)] (lassoV (rwF g) g.length some goals):=by
 refine ⟨fun H=>CallT.fin ?_⟩
 have hn:=hg.n
 have hg2:=turnG_B hg
 have hgi:=inG_B hg
 have hgi2:=turnG_B hgi
 have hgl:=gI_len g
 have hol:=gI_len goals
 have hon:=hgo.len
 have hfl:=filter_range_len (fairF (rwF g) goals) g.length
 have hfn:=nL_ ((List.range g.length).filter (fairF (rwF g) goals))
 refine W30_ok ?_;simp (maxSteps:=1000000) (disch:=first | assumption | (apply ν6;assumption)) only [W30,vz,vu,vv,eqS,eF_,↓c1_,↓c2_,tabs,reduceCtorEq,ι5,↓reduceIte,ν1,ν2,ν3,ν4,ν5,ι1,ι2,ι3,ι4,hfn]
 refine Pu.use (sp_l11Far g hg some hs hsl) ?_
 refine Pu.use (l11Fair_spec g hg hg2 goals hgo) ?_
 have hmeet:bestF (farF (rwF g) g.length some) ((List.range g.length).filter (fairF (rwF g) goals))=meetF (rwF g) g.length some goals:=rfl
 have hfm:∀v∈(List.range g.length).filter (fairF (rwF g) goals),v < g.length:=fun v hv=>List.mem_range.1 (List.mem_filter.1 hv).1
 have hml:=mpI_len (farF (rwF g) g.length some) g.length
 have hmg:=fun v (h:v < g.length)=>mpI_get (farF (rwF g) g.length some) h
 have hbc:=bestF_cases (farF (rwF g) g.length some)
 generalize farF (rwF g) g.length some=far at hmeet hml hmg hbc
 generalize (List.range g.length).filter (fairF (rwF g) goals)=fl at hmeet hfl hfn hfm
 (try simp (maxSteps:=1000000) (disch:=first | assumption | (apply ν6;assumption)) only [vz,vu,vv,eqS,eF_,↓c1_,↓c2_,tabs,reduceCtorEq,ι5,↓reduceIte,ν1,ν2,ν3,ν4,ν5,ι1,ι2,ι3,ι4,hfn])
 refine L30_0_rule (0:Nat) (fun k=>I (bestF far (fl.take k))) (fun k=>I k) (fun _=>H) (fun k=>k≤fl.length) (fun k=>fl.length - k) ⟨by simp,.refl _,.refl _,Heap.le_refl _⟩ ?_
 intro k hk
 have e5:IntKind.i64.wrap ((k:Int)+1)=((k+1:Nat):Int):=by rw [i6_ (by omega) (by omega)];simp
 (try simp (maxSteps:=1000000) (disch:=first | assumption | (apply ν6;assumption)) only [vz,vu,vv,eqS,eF_,↓c1_,↓c2_,tabs,reduceCtorEq,ι5,↓reduceIte,ν1,ν2,ν3,ν4,ν5,ι1,ι2,ι3,ι4,B30_0,hfn,hml,e5])
 refine ⟨fun h1=>?_,fun h1=>?_⟩
 ·have hlt:k < fl.length:=by omega
  refine ⟨by omega,h1,?_⟩
  rw [nI_get hlt,Int.toNat_natCast]
  have hv:=hfm (fl.getD k 0) (by simp [List.getD,hlt])
  have hsc:bestF far (fl.take (k+1))=bput1 far (bestF far (fl.take k)) (fl.getD k 0):=by
   rw [tS_ hlt,bestF_snoc];rfl
  have hbk:bestF far (fl.take k) < 0∨bestF far (fl.take k) < g.length:=by
   rcases hbc (fl.take k) with ⟨e,_⟩ | ⟨u,hu,e,_⟩
   ·omega
   ·have:=hfm u (List.mem_of_mem_take hu)
    omega
  generalize fl.getD k 0=w at hv hsc ⊢
  generalize bestF far (fl.take k)=mk at hsc hbk ⊢
  have yes:bestF far (fl.take (k+1))=(w:Int)→∃s':Nat,s'≤fl.length∧fl.length - s' < fl.length - k∧(I (w:Int)).wk (I (bestF far (fl.take s')))∧(I ((k+1:Nat):Int)).wk (I s'):=
   fun h=>⟨k+1,by omega,by omega,by rw [h];exact .refl _,.refl _⟩
  have no:bestF far (fl.take (k+1))=mk→∃s':Nat,s'≤fl.length∧fl.length - s' < fl.length - k∧(I mk).wk (I (bestF far (fl.take s')))∧(I ((k+1:Nat):Int)).wk (I s'):=
   fun h=>⟨k+1,by omega,by omega,by rw [h];exact .refl _,.refl _⟩
  rw [hmg w hv]
  have hp:¬mk < 0→0≤mk∧mk < g.length∧mk.toNat < g.length:=by clear yes no;omega
  refine ⟨by clear yes no;omega,by clear yes no;omega,fun h3=>⟨fun h4=>?_,fun h4=>⟨by clear yes no;omega,by clear yes no;omega,(hp h4).1,(hp h4).2.1,?_⟩⟩,fun h3=>?_⟩
  ·exact yes (by rw [hsc,bput1,if_pos ⟨h3,.inl h4⟩])
  ·rw [hmg mk.toNat (hp h4).2.2]
   refine ⟨fun h5=>yes ?_,fun h5=>no ?_⟩
   ·rw [hsc,bput1,if_pos ⟨h3,.inr h5⟩]
   ·rw [hsc,bput1,if_neg (fun h=>h5 (h.2.resolve_left h4))]
  ·exact no (by rw [hsc,bput1,if_neg (fun h=>h3 h.1)])
 ·have:k=fl.length:=by omega
  subst this
  rw [List.take_length,hmeet]
  clear hmeet hbc hmg hml hfm hfl hfn e5
  refine ⟨fun h2=>?_,fun h2=>?_⟩
  ·have e:lassoV (rwF g) g.length some goals=.tup [Is [],Is [],B false]:=by
    rw [lassoV,laS,laL,laB,if_pos h2,if_pos h2,decide_eq_true h2];rfl
   rw [e]
   exact ⟨_,_,.val (v':=.tup [Is [],Is [],B false]) (wk_tup ⟨.nil,.nil,.refl _,trivial⟩),rfl,rfl⟩
  ·obtain ⟨m,em,hm,hfair,hreach⟩:=meetF_pos hg.gr hs h2
   have e:lassoV (rwF g) g.length some goals=.tup [Is (nI (stemF (rwF g) g.length m some)),Is (nI (ringF (rwF g) g.length m goals)),B true]:=by
    rw [lassoV,laS,laL,laB,if_neg h2,if_neg h2,em,Int.toNat_natCast,decide_eq_false (by omega)];rfl
   rw [e,em]
   obtain ⟨FL,hsl2,hrl2,hbst,hpos⟩:=fair_lasso (b:=b) hg.gr hm hfair (fun l hl=>⟨hgo.lt l hl,hgb l hl⟩) hreach
   have hinv:=loopF_inv (b:=b) hg.gr hm hfair (fun l hl=>⟨hgo.lt l hl,hgb l hl⟩)
   refine lit1 tab_22 rfl tab_3 ⟨rfl,rfl⟩ ?_
   have hmo:∀v∈[m],v < g.length:=fun v hv=>by rw [List.mem_singleton.1 hv];exact hm
   refine Pu.use (l11Path_spec g hg hg2 some [m] hs (by omega) hmo (by simp)) ?_
   unfold wayV
   (try simp (maxSteps:=1000000) (disch:=first | assumption | (apply ν6;assumption)) only [vz,vu,vv,eqS,eF_,↓c1_,↓c2_,tabs,reduceCtorEq,ι5,↓reduceIte,ν1,ν2,ν3,ν4,ν5,ι1,ι2,ι3,ι4])
   refine Pu.use (l11Parts_spec g hg hg2) ?_
   refine Pu.use (within_spec g hg) ?_
   refine lit_row fun q hq=>?_
   have st:St H [cT_ q (cP fI (nI [m]))] (H.set q (cP fI [(m:Int)])):=(St.nil H).cell hq _
   generalize H.set q (cP fI [(m:Int)])=G at st ⊢
   have hpl:=prtI_len g
   have hpg:=fun v (h:v < g.length)=>prtI_get h
   have hil:=inG_len g
   have hirow:=inG_row hg
   have hilg:=gI_len (inG g)
   rw [hil] at hilg
   have hst:nI (stemF (rwF g) g.length m some)=(nI (lwayF (rwF g) g.length some [m])).take ((nI (lwayF (rwF g) g.length some [m])).length - 1):=by
    rw [nI_take,nL_,stemF,List.dropLast_eq_take]
   rw [hst]
   have hstl:(nI (lwayF (rwF g) g.length some [m])).length=(lwayF (rwF g) g.length some [m]).length:=nL_ _
   have hlwl:(lwayF (rwF g) g.length some [m]).length≤g.length+2:=(lwayF_spec hg.gr hmo hbst).2
   generalize nI (lwayF (rwF g) g.length some [m])=stm at hstl ⊢
   (try simp (maxSteps:=1000000) (disch:=first | assumption | (apply ν6;assumption)) only [vz,vu,vv,eqS,eF_,↓c1_,↓c2_,tabs,reduceCtorEq,ι5,↓reduceIte,ν1,ν2,ν3,ν4,ν5,ι1,ι2,ι3,ι4,hol])
   clear hq
   have e0:loopF (rwF g) g.length m (goals.take 0)=[m]:=rfl
   refine L30_1_rule ((0:Nat),q,G) (fun z=>rowP z.2.1 (nI (loopF (rwF g) g.length m (goals.take z.1)))) (fun z=>I z.1) (fun z=>z.2.2) (fun z=>z.1≤goals.length∧St H [cT_ z.2.1 (cP fI (nI (loopF (rwF g) g.length m (goals.take z.1))))] z.2.2) (fun z=>goals.length - z.1)
    ⟨⟨by simp,st⟩,.refl _,.refl _,Heap.le_refl _⟩ ?_
   clear st q G
   rintro ⟨t,q,G⟩ ⟨ht,st⟩
   dsimp only at ht st
   have hli:=hinv t ht
   have hll:=hli.len
   have hlast:=hli.last
   have hne:=hli.ne
   have hmul:(goals.take t).length*(g.length+b)≤goals.length*(g.length+b):=Nat.mul_le_mul_right _ (by rw [List.length_take];omega)
   have hB2:(goals.length+1)*(g.length+b+2)=goals.length*(g.length+b)+goals.length*2+(g.length+b+2):=by rw [Nat.add_mul,Nat.one_mul,Nat.mul_add]
   have e5:IntKind.i64.wrap ((t:Int)+1)=((t+1:Nat):Int):=by rw [i6_ (by omega) (by omega)];simp
   generalize hacc:loopF (rwF g) g.length m (goals.take t)=acc at st hli hll hlast hne
   have hal:(nI acc).length=acc.length:=nL_ acc
   simp only [hacc]
   (try simp (maxSteps:=1000000) (disch:=first | assumption | (apply ν6;assumption)) only [vz,vu,vv,eqS,eF_,↓c1_,↓c2_,tabs,reduceCtorEq,ι5,↓reduceIte,ν1,ν2,ν3,ν4,ν5,ι1,ι2,ι3,ι4,B30_1,hol,hal])
   refine ⟨fun h3=>?_,fun h3=>?_⟩
   ·have hlt:t < goals.length:=by omega
    refine ⟨by omega,h3,?_⟩
    rw [gI_get hlt]
    obtain ⟨hsz,hxlt⟩:=hgo.get hlt
    have hnl:=nL_ (rwF goals t)
    have hmem:rwF goals t∈goals:=by simp [rwF,List.getD,hlt]
    (try simp (maxSteps:=1000000) (disch:=first | assumption | (apply ν6;assumption)) only [vz,vu,vv,eqS,eF_,↓c1_,↓c2_,tabs,reduceCtorEq,ι5,↓reduceIte,ν1,ν2,ν3,ν4,ν5,ι1,ι2,ι3,ι4,hnl])
    have st:=st.push (rnI (.p .nil) (nI (((rwF goals t).take 0).filter fun v=>decide (partF (aO_ (rwF g)) v=partF (aO_ (rwF g)) m))) []) ⟨.nil,fun y hy=>(by cases hy),Heap.le_refl _⟩ (.inl ⟨rfl,rfl,rfl⟩)
    refine L30_2_rule ((0:Nat),(.p .nil:AV),([]:List Nat),G) (fun z=>z.2.1) (fun z=>I z.1) (fun z=>z.2.2.2)
     (fun z=>z.1≤(rwF goals t).length∧St H [rnI z.2.1 (nI (((rwF goals t).take z.1).filter fun v=>decide (partF (aO_ (rwF g)) v=partF (aO_ (rwF g)) m))) z.2.2.1,cT_ q (cP fI (nI acc))] z.2.2.2) (fun z=>(rwF goals t).length - z.1)
     ⟨⟨by simp,st⟩,.refl _,.refl _,Heap.le_refl _⟩ ?_
    clear st
    rintro ⟨j,x,D,G⟩ ⟨hj,st⟩
    dsimp only at hj st
    have e6:IntKind.i64.wrap ((j:Int)+1)=((j+1:Nat):Int):=by rw [i6_ (by omega) (by omega)];simp
    have hpm:=hpg m hm
    (try simp (maxSteps:=1000000) (disch:=first | assumption | (apply ν6;assumption)) only [vz,vu,vv,eqS,eF_,↓c1_,↓c2_,tabs,reduceCtorEq,ι5,↓reduceIte,ν1,ν2,ν3,ν4,ν5,ι1,ι2,ι3,ι4,B30_2,hnl,hpl,hpm,Int.toNat_natCast])
    refine ⟨fun h4=>?_,fun h4=>?_⟩
    ·have hlj:j < (rwF goals t).length:=by omega
     refine ⟨by omega,h4,?_⟩
     rw [nI_get hlj]
     have hx:=hxlt j hlj
     have htk:(rwF goals t).take (j+1)=(rwF goals t).take j++[(rwF goals t).getD j 0]:=tS_ hlj
     have hfl:(((rwF goals t).take j).filter fun v=>decide (partF (aO_ (rwF g)) v=partF (aO_ (rwF g)) m)).length≤100000:=Nat.le_trans (List.length_filter_le _ _) (by rw [List.length_take];omega)
     generalize (rwF goals t).getD j 0=w at hx htk ⊢
     rw [Int.toNat_natCast,hpg w hx,e6]
     refine ⟨by omega,by omega,by omega,by omega,fun h5=>?_,fun h5=>?_⟩
     ·have hd:decide (partF (aO_ (rwF g)) w=partF (aO_ (rwF g)) m)=true:=by rw [decide_eq_true_eq];omega
      refine lit1 tab_22 rfl tab_3 ⟨rfl,rfl⟩ ?_
      refine rn_appI (ys:=[(w:Int)]) st 0 rfl (by rw [nL_];simp only [List.length_cons,List.length_nil];omega) fun q' G' hq' st=>?_
      simp only [List.set_cons_zero] at st
      rw [← nI_one,← nI_app] at st ⊢
      have ef:((rwF goals t).take (j+1)).filter (fun v=>decide (partF (aO_ (rwF g)) v=partF (aO_ (rwF g)) m))=((rwF goals t).take j).filter (fun v=>decide (partF (aO_ (rwF g)) v=partF (aO_ (rwF g)) m))++[w]:=by
       rw [htk,List.filter_append,List.filter_cons,if_pos hd];rfl
      rw [← ef] at st ⊢
      exact ⟨(j+1,_,[q'],G'),⟨by simp only;omega,st⟩,by simp only;omega,.refl _,.refl _,Heap.le_refl _⟩
     ·have hd:¬decide (partF (aO_ (rwF g)) w=partF (aO_ (rwF g)) m)=true:=by rw [decide_eq_true_eq];omega
      have ef:((rwF goals t).take (j+1)).filter (fun v=>decide (partF (aO_ (rwF g)) v=partF (aO_ (rwF g)) m))=((rwF goals t).take j).filter (fun v=>decide (partF (aO_ (rwF g)) v=partF (aO_ (rwF g)) m)):=by
       rw [htk,List.filter_append,List.filter_cons,if_neg hd];simp
      exact ⟨(j+1,x,D,G),⟨by simp only;omega,by simp only [ef];exact st⟩,by simp only;omega,.refl _,.refl _,Heap.le_refl _⟩
    ·have:j=(rwF goals t).length:=by omega
     subst this
     rw [List.take_length,← ownF_eq] at st
     obtain ⟨hbest,hleg,hlp⟩:=loop_leg hg.gr hli (hfair.2 _ hmem) (hgo.lt _ hmem) (hgb _ hmem)
     have hown:∀v∈ownF (rwF g) m (rwF goals t),v < g.length:=fun v hv=>hgo.lt _ hmem v (ownF_mem.1 hv).1
     have hol2:(ownF (rwF g) m (rwF goals t)).length≤100000:=Nat.le_trans (List.length_filter_le _ _) hsz
     have hlegd:legF (rwF g) g.length m acc (rwF goals t)=acc++(lwayF (inF (rwF g)) g.length [lastF acc] (ownF (rwF g) m (rwF goals t))).tail:=rfl
     have hwl2:=(lwayF_spec (inF_ok hg.gr) hown hbest).2
     have hown0:ownF (rwF g) m (rwF goals t)≠[]:=by
      obtain ⟨y,y1,y2⟩:=hfair.2 _ hmem
      exact List.ne_nil_of_mem (ownF_mem.2 ⟨y1,y2⟩)
     have hnext:loopF (rwF g) g.length m (goals.take (t+1))=legF (rwF g) g.length m acc (rwF goals t):=by
      have:goals.take (t+1)=goals.take t++[rwF goals t]:=tS_ hlt
      rw [this,loopF_snoc,hacc]
     generalize ownF (rwF g) m (rwF goals t)=own at st hbest hleg hlp hown hol2 hlegd hwl2 hown0
     rcases rnI_cases (st.get 0 rfl) with ⟨_,h0,_⟩ | ⟨q4,rfl,hq4,rfl⟩
     ·exact absurd (List.map_eq_nil_iff.1 h0) hown0
     have e7:IntKind.i64.wrap ((acc.length:Int) - 1)=((acc.length - 1:Nat):Int):=by rw [i6_ (by omega) (by omega)];omega
     have e8:((acc.length:Int) - ((acc.length - 1:Nat):Int)).toNat=1:=by omega
     (try simp (maxSteps:=1000000) (disch:=first | assumption | (apply ν6;assumption)) only [vz,vu,vv,eqS,eF_,↓c1_,↓c2_,tabs,reduceCtorEq,ι5,↓reduceIte,ν1,ν2,ν3,ν4,ν5,ι1,ι2,ι3,ι4,hal,e7,e8,Int.toNat_natCast])
     refine ⟨by omega,by omega,by omega,?_⟩
     have hqa:G q=Option.some (cP fI (nI acc)):=st.get 1 rfl
     have hne4:q≠q4:=fun e=>st.disjI 0 1 rfl rfl (by decide) q4 (by simp [rnT]) (by simp [cT_,e])
     have hlastI:((nI acc).drop (acc.length - 1)).take 1=nI [lastF acc]:=by
      rw [nI_drop,nI_take]
      congr 1
      have:acc.length - 1 < acc.length:=by omega
      rw [drop_cons this];rfl
     have hwk:Wk (.tup [Ls (gI (inG g)),.sl q 1 ((acc.length - 1)*1) 1,rowP q4 (nI own)]) G (.tup [Ls (gI (inG g)),Is (nI [lastF acc]),Is (nI own)]) ((G.del q).del q4):=by
      refine .trans (Wk.frzS (r:=q) (es:=(nI acc).map fI) (v':=.tup [Ls (gI (inG g)),Is (nI [lastF acc]),rowP q4 (nI own)]) (by rw [hqa,List.map_map];rfl) (.tup (.cons (.same _) (.cons ?_ (.cons (.same _) .nil)))))
       (Wk.frzS (r:=q4) (es:=(nI own).map fI) (by rw [Heap.del_other (Ne.symm hne4),hq4,List.map_map];rfl) (.tup (.cons (.same _) (.cons (.same _) (.cons ?_ .nil)))))
      ·have:=FrzS.part (r:=q) (es:=(nI acc).map fI) (acc.length - 1) 1 (by rw [List.length_map,nL_];omega)
       have e:((((nI acc).map fI).drop (acc.length - 1)).take 1).map (fun v=>[v])=(nI [lastF acc]).map eI:=by
        rw [← List.map_drop,← List.map_take,hlastI,List.map_map];rfl
       rw [e] at this
       rw [Nat.mul_one];exact this
      ·have:=FrzS.part (r:=q4) (es:=(nI own).map fI) 0 (nI own).length (by simp)
       have e:((((nI own).map fI).drop 0).take (nI own).length).map (fun v=>[v])=(nI own).map eI:=by
        rw [List.drop_zero,List.take_of_length_le (by simp),List.map_map];rfl
       rw [e] at this
       exact this
     have hrow:=fun {H:Heap} {K:AV→Heap→Prop}=>l11Path_row (inG g) hgi hgi2 [lastF acc] own (fun v hv=>by rw [inG_len,List.mem_singleton.1 hv];exact hlast.2) (by simp) (fun v hv=>by rw [inG_len];exact hown v hv) hol2 (H:=H) (K:=K)
     rw [hirow,hil] at hrow
     generalize lwayF (inF (rwF g)) g.length [lastF acc] own=leg at hrow hlegd hlp hwl2
     refine thawU (RPt.res leg _) (fun hK=>hrow fun v G D h1 h2=>hK _ _ _ ⟨v,rfl,h1⟩ h2) hwk fun rr G7 D7 hr7 hn7=>?_
     obtain ⟨vr,rfl,hrs⟩:=hr7
     replace st:=st.push (rnI vr (nI leg) D7) hn7 hrs
     rcases rnI_cases (st.get 0 rfl) with ⟨_,h0,_⟩ | ⟨q5,rfl,hq5,rfl⟩
     ·have:=congrArg List.length h0
      rw [nL_,List.length_nil] at this
      omega
     have hnleg:=nL_ leg
     have e9:((leg.length:Int) - 1).toNat=leg.length - 1:=by omega
     (try simp (maxSteps:=1000000) (disch:=first | assumption | (apply ν6;assumption)) only [vz,vu,vv,eqS,eF_,↓c1_,↓c2_,tabs,reduceCtorEq,ι5,↓reduceIte,ν1,ν2,ν3,ν4,ν5,ι1,ι2,ι3,ι4,hnleg,e9,e5])
     refine ⟨by omega,by omega,by omega,?_⟩
     refine st_appL st 2 rfl hq5 (by rw [nL_];omega) (by rw [nL_];omega) fun q' G' hq' st=>?_
     have et:((nI leg).drop 1).take (leg.length - 1)=nI leg.tail:=by
      rw [List.take_of_length_le (by rw [List.length_drop,nL_];omega),nI_drop,List.drop_one]
     rw [et,← nI_app,← hlegd,← hnext] at st ⊢
     exact ⟨(t+1,q',G'),⟨by simp only;omega,st.drop.drop⟩,by simp only;omega,.refl _,.refl _,Heap.le_refl _⟩
   ·have:t=goals.length:=by omega
    subst this
    rw [List.take_length] at hacc hli
    obtain ⟨hbest,hlw,hbl⟩:=loop_back hg.gr hli hfair.1
    have e7:IntKind.i64.wrap ((acc.length:Int) - 1)=((acc.length - 1:Nat):Int):=by rw [i6_ (by omega) (by omega)];omega
    have e8:IntKind.i64.wrap ((stm.length:Int) - 1)=((stm.length - 1:Nat):Int):=by rw [i6_ (by omega) (by omega)];omega
    have hrl:=cI_rd (l:=nI acc) (i:=acc.length - 1) (by rw [nL_];omega)
    rw [nI_get (by omega)] at hrl
    have hlr:acc.getD (acc.length - 1) 0=lastF acc:=rfl
    rw [hlr] at hrl
    have hrow:=inG_row hg
    have hgl2:(gI (inG g)).getD (lastF acc) default=nI (inF (rwF g) (lastF acc)):=by rw [gI_get (by rw [inG_len];exact hlast.2),hrow]
    (try simp (maxSteps:=1000000) (disch:=first | assumption | (apply ν6;assumption)) only [vz,vu,vv,eqS,eF_,↓c1_,↓c2_,tabs,reduceCtorEq,ι5,↓reduceIte,ν1,ν2,ν3,ν4,ν5,ι1,ι2,ι3,ι4,lA_ (st.get 0 rfl),e7,e8,hrl,cI_len,hal,hilg,hgl2,Int.toNat_natCast])
    refine ⟨by omega,by omega,by omega,by omega,by omega,?_⟩
    refine lit1 tab_22 rfl tab_3 ⟨rfl,rfl⟩ ?_
    have hin:(inF (rwF g) (lastF acc)).length≤500000:=by
     rw [inF_cB];exact Nat.le_trans (List.length_filter_le _ _) (hg.row hlast.2)
    have hps:=l11Path_spec (inG g) hgi hgi2 (inF (rwF g) (lastF acc)) [m] (fun v hv=>by rw [inG_len];exact hg.gr.lt _ v (inF_mem.1 hv).1) hin (fun v hv=>by rw [inG_len];exact hmo v hv) (by simp)
    rw [hirow,hil] at hps
    refine Pu.use hps ?_
    unfold wayV
    have hring:ringF (rwF g) g.length m goals=acc++(backF (rwF g) g.length m acc).dropLast:=by rw [ringF,hacc]
    have hback:lwayF (inF (rwF g)) g.length (inF (rwF g) (lastF acc)) [m]=backF (rwF g) g.length m acc:=rfl
    rw [hback,hring]
    have hbp:=hlw.pos
    generalize backF (rwF g) g.length m acc=back at hbp hbl
    have hbkl:=nL_ back
    have e9:IntKind.i64.wrap ((back.length:Int) - 1)=((back.length - 1:Nat):Int):=by rw [i6_ (by omega) (by omega)];omega
    (try simp (maxSteps:=1000000) (disch:=first | assumption | (apply ν6;assumption)) only [vz,vu,vv,eqS,eF_,↓c1_,↓c2_,tabs,reduceCtorEq,ι5,↓reduceIte,ν1,ν2,ν3,ν4,ν5,ι1,ι2,ι3,ι4,hbkl,e9,Int.toNat_natCast])
    refine ⟨by omega,by omega,by omega,fun e he=>?_,by omega,by omega,by omega,fun e he=>?_,?_⟩
    ·obtain ⟨x,_,rfl⟩:=List.mem_map.1 he;rfl
    ·obtain ⟨x,_,rfl⟩:=List.mem_map.1 he;rfl
    have ed:(nI back).take (back.length - 1)=nI back.dropLast:=by rw [nI_take,List.dropLast_eq_take]
    rw [ed]
    refine st_appI st 0 rfl (by rw [nL_,nL_,List.length_dropLast];omega) fun q' G' hq' st=>?_
    rw [← nI_app] at st ⊢
    simp only [List.set_cons_zero] at st
    have hg':G' q'=Option.some (cP fI (nI (acc++back.dropLast))):=st.get 0 rfl
    refine ⟨_,H,.trans (Wk.frzS (r:=q') (es:=(nI (acc++back.dropLast)).map fI) (v':=.tup [Is (stm.take (stm.length - 1)),Is (nI (acc++back.dropLast)),B true]) (by rw [hg',List.map_map];rfl) (.tup (.cons (.same _) (.cons ?_ (.cons (.same _) .nil))))) (.forget fun y z hz=>?_),rfl,rfl⟩
    ·have:=FrzS.part (r:=q') (es:=(nI (acc++back.dropLast)).map fI) 0 (nI (acc++back.dropLast)).length (by simp)
     have e:((((nI (acc++back.dropLast)).map fI).drop 0).take (nI (acc++back.dropLast)).length).map (fun v=>[v])=(nI (acc++back.dropLast)).map eI:=by
      rw [List.drop_zero,List.take_of_length_le (by simp),List.map_map];rfl
     rw [e] at this
     exact this
    ·have hfr:=st.fr _ (List.mem_cons_self ..) q' (by simp [cT_])
     rw [Heap.del_other (fun e=>by rw [e,hfr] at hz;cases hz)]
     exact st.le y z hz
end Go.Proofs.YtolffbcnbcjeaaaGreat
namespace Go.Proofs.YtolffbcnbcjeaaaGreat
open Go Go.Sep Go.Pt
attribute [local irreducible] CallT
end Go.Proofs.YtolffbcnbcjeaaaGreat
namespace Go.Proofs.YtolffbcnbcjeaaaGreat
open Go Go.Sep Go.Pt
attribute [local irreducible] CallT
end Go.Proofs.YtolffbcnbcjeaaaGreat
namespace Go.Proofs.YtolffbcnbcjeaaaGreat
open Go Go.Sep Go.Pt
attribute [local irreducible] CallT
theorem eI_gd:Lay.Gd (LPl eI):=LPl.gd fun a x hx=>by
 simp only [List.mem_singleton] at hx;subst hx;exact .int _ _
theorem eE_gd:Lay.Gd (LPl eE):=LPl.gd fun a x hx=>by
 simp only [List.mem_cons,List.not_mem_nil,or_false] at hx
 rcases hx with rfl | rfl | rfl<;>exact .int _ _
theorem LIc.gd:Lay.Gd LIc:=by
 rintro a cs G D ⟨x,rfl,h⟩
 obtain ⟨h1,h2⟩:=LRow.gd eI_gd h
 exact ⟨fun c hc=>by rw [List.mem_singleton] at hc;subst hc;exact h1,h2⟩
theorem LIc.sh:Lay.Sh LIc:=by
 rintro a cs G D n G0 h0 ⟨x,rfl,h⟩
 exact ⟨shC n x,rfl,LRow.sh (LPl.sh eI) h0 h⟩
theorem LAu.gd {a:Au} {v:AV} {G:Heap} {D:List Nat} (h:LAu a v G D):Gd1 v∧∀y∈D,∀bs,G y=some bs→∀c∈bs,GdC c:=by
 obtain ⟨x,y,z,D1,D2,D3,rfl,rfl,h1,h2,h3⟩:=h
 have a1:=LRow.gd eI_gd h1
 have a2:=LRow.gd eE_gd h2
 have a3:=LRow.gd LIc.gd h3
 refine ⟨.inl ⟨_,rfl,fun c hc=>?_⟩,fun u hu=>?_⟩
 ·simp only [List.mem_cons,List.not_mem_nil,or_false] at hc
  rcases hc with rfl | rfl | rfl | rfl
  ·exact .p (.int _ _)
  ·exact a1.1
  ·exact a2.1
  ·exact a3.1
 ·simp only [List.mem_append] at hu
  rcases hu with hu | hu | hu
  ·exact a1.2 u hu
  ·exact a2.2 u hu
  ·exact a3.2 u hu
theorem LAu.sh {a:Au} {v:AV} {G:Heap} {D:List Nat} {n:Nat} {G0:Heap} (h0:∀q,n≤q→G0 q=none) (h:LAu a v G D):LAu a (sh1 n v) (Heap.or G0 (shH n G)) (D.map (·+n)):=by
 obtain ⟨x,y,z,D1,D2,D3,rfl,rfl,h1,h2,h3⟩:=h
 exact ⟨shC n x,shC n y,shC n z,_,_,_,rfl,by rw [List.map_append,List.map_append],LRow.sh (LPl.sh eI) h0 h1,LRow.sh (LPl.sh eE) h0 h2,LRow.sh LIc.sh h0 h3⟩
end Go.Proofs.YtolffbcnbcjeaaaGreat
namespace Go.Proofs.YtolffbcnbcjeaaaGreat
open Go Go.Sep Go.Pt
attribute [local irreducible] CallT
def nN (l:List Int):List Nat:=l.map Int.toNat
theorem nN_len (l:List Int):(nN l).length=l.length:=by simp [nN]
theorem nN_lt {l:List Int} {n:Nat} (h:∀x∈l,0≤x∧x < n):∀v∈nN l,v < n:=by
 intro v hv
 obtain ⟨x,hx,rfl⟩:=List.mem_map.1 hv
 have:=h x hx;omega
theorem nI_of {l:List Int} {n:Nat} (h:∀x∈l,0≤x∧x < n):nI (nN l)=l:=nI_nN fun x hx=>(h x hx).1
def gA (a:Au):List (List Nat):=(nextG a).map nN
theorem gI_of {g:List (List Int)} {n:Nat} (h:∀l∈g,∀x∈l,0≤x∧x < n):gI (g.map nN)=g:=by
 unfold gI
 rw [List.map_map]
 conv=>rhs;rw [← List.map_id g]
 apply List.map_congr_left
 intro l hl
 exact nI_of (h l hl)
theorem gA_len (a:Au):(gA a).length=a.states.toNat:=by simp [gA,nextG_len]
theorem rising_in {l:List Int} {n:Int} (h:rising l n=true):∀x∈l,0≤x∧x < n:=by
 intro x hx
 obtain ⟨i,hi,rfl⟩:=List.mem_iff_getElem.1 hx
 have:=rising_at h i hi
 rw [getD_lt hi] at this
 omega
structure AutoN (a:Au):Prop where
 f:GoodF a
 fr:∀x∈a.first,0≤x∧x < a.states.toNat
 go:∀l∈a.goals,∀x∈l,0≤x∧x < a.states.toNat
theorem autoN {a:Au} (h:goodA a=true):AutoN a:=by
 have f:=good_facts h
 have hst:=f.st
 rw [goodA_def] at h
 simp only [goalsOk,Bool.and_eq_true,decide_eq_true_eq,List.all_eq_true] at h
 obtain ⟨h1,h2,h3,⟨h4,h5⟩,h6⟩:=h
 refine ⟨f,fun x hx=>?_,fun l hl x hx=>?_⟩
 ·have:=rising_in h2 x hx;omega
 ·have:=rising_in (h5 l hl) x hx;omega
def goN (gs:List (List Int)):List (List Nat):=gs.map nN
theorem AutoN.gob {a:Au} (h:AutoN a):GoB (goN a.goals) (gA a).length∧(∀l∈goN a.goals,l.length≤96)∧((goN a.goals).length+1)*((gA a).length+96+2)≤800000:=by
 have hgl:=h.f.gl
 have hst:=h.f.st
 have hl:=gA_len a
 have e:(goN a.goals).length=a.goals.length:=by simp [goN]
 have h96:∀l∈goN a.goals,l.length≤96:=by
  intro l hl2
  obtain ⟨r,hr,rfl⟩:=List.mem_map.1 hl2
  rw [nN_len];exact (h.f.gi r hr).2
 refine ⟨⟨fun l hl2 x hx=>?_,by omega,fun l hl2=>by have:=h96 l hl2;omega⟩,h96,?_⟩
 ·obtain ⟨r,hr,rfl⟩:=List.mem_map.1 hl2
  rw [hl];exact nN_lt (h.go r hr) x hx
 ·rw [e,hl]
  exact Nat.le_trans (Nat.mul_le_mul (show a.goals.length+1≤7 by omega) (show a.states.toNat+96+2≤194 by omega)) (by decide)
noncomputable def fairA (a:Au):Bool:=laB (rwF (gA a)) (gA a).length (nN a.first) (goN a.goals)
noncomputable def ieR (a:Au):Bool×Bool:=if goodA a then (!fairA a,true) else (false,false)
end Go.Proofs.YtolffbcnbcjeaaaGreat
/-
 DERIVED: THE SHELF's CONTRACTS AT THIS DUMP,IN PLAIN WORDS (tools/lay-plain.mjs out of 'YtolffbcnbcjeaaaGreatLayF.lean',which tools/lay-shelf.mjs wrote): THE SAME DECLARATIONS UNDER THE SAME NAMES: 'import','namespace','open','def','theorem' AND NOTHING ELSE: no command of the shelf's: FOR A HAND-IN. Each laying: the table of numbers ('.._ren') and one theorem,a field a fact of the dump's own or the kernel's comparison;each contract: ONE APPLICATION.
-/
namespace Go.Proofs
open Go.Shelf
def Tryz.laySF_ren:Go.Shelf.Ren:=⟨fun | 6=>101 | 15=>120 | 14=>128 | 28=>148 | 29=>149 | 20=>153 | 21=>154 | 22=>155 | 23=>156 | 24=>157 | 25=>158 | 26=>159 | 27=>160 | 46=>168 | 47=>164 | 48=>165 | 49=>169 | 50=>170 | 57=>172 | n=>n,fun | 22=>32 | 24=>84 | 25=>102 | 3=>3 | 39=>111 | 0=>0 | 53=>155 | 55=>157 | 4=>4 | 46=>148 | 45=>147 | 50=>152 | 5=>5 | 9=>9 | 66=>168 | 70=>172 | 76=>176 | 77=>177 | n=>n,fun | n=>n⟩
theorem Tryz.laySF:Go.Proofs.SlLaysF0.n6 Tryz.prog Tryz.laySF_ren:={
 mixed:=by kernel_rfl
 f6:=⟨Tryz.f101.name,by decide,Tryz.func101.trans (congrArg some (by kernel_rfl))⟩
 f14:=⟨Tryz.f128.name,by decide,Tryz.func128.trans (congrArg some (by kernel_rfl))⟩
 f15:=Tryz.func120.trans (congrArg some (by kernel_rfl))
 f20:=⟨Tryz.f153.name,by decide,Tryz.func153.trans (congrArg some (by kernel_rfl))⟩
 f21:=⟨Tryz.f154.name,by decide,Tryz.func154.trans (congrArg some (by kernel_rfl))⟩
 f22:=⟨Tryz.f155.name,by decide,Tryz.func155.trans (congrArg some (by kernel_rfl))⟩
 f23:=⟨Tryz.f156.name,by decide,Tryz.func156.trans (congrArg some (by kernel_rfl))⟩
 f24:=⟨Tryz.f157.name,by decide,Tryz.func157.trans (congrArg some (by kernel_rfl))⟩
 f25:=⟨Tryz.f158.name,by decide,Tryz.func158.trans (congrArg some (by kernel_rfl))⟩
 f26:=⟨Tryz.f159.name,by decide,Tryz.func159.trans (congrArg some (by kernel_rfl))⟩
 f27:=⟨Tryz.f160.name,by decide,Tryz.func160.trans (congrArg some (by kernel_rfl))⟩
 f28:=Tryz.func148.trans (congrArg some (by kernel_rfl))
 f29:=Tryz.func149.trans (congrArg some (by kernel_rfl))
 f46:=⟨Tryz.f168.name,by decide,Tryz.func168.trans (congrArg some (by kernel_rfl))⟩
 f47:=Tryz.func164.trans (congrArg some (by kernel_rfl))
 f48:=Tryz.func165.trans (congrArg some (by kernel_rfl))
 f49:=⟨Tryz.f169.name,by decide,Tryz.func169.trans (congrArg some (by kernel_rfl))⟩
 f50:=⟨Tryz.f170.name,by decide,Tryz.func170.trans (congrArg some (by kernel_rfl))⟩
 f57:=⟨Tryz.f172.name,by decide,Tryz.func172.trans (congrArg some (by kernel_rfl))⟩
 t0:=Tryz.underlying0
 a0:=Tryz.isAgg0
 z0:=Tryz.sizeOf0
 v0:=Tryz.zeroValue0
 t3:=Tryz.underlying3
 a3:=Tryz.isAgg3
 z3:=Tryz.sizeOf3
 v3:=Tryz.zeroValue3
 t4:=Tryz.underlying4
 a4:=Tryz.isAgg4
 z4:=Tryz.sizeOf4
 v4:=Tryz.zeroValue4
 t5:=Tryz.underlying5
 a5:=Tryz.isAgg5
 z5:=Tryz.sizeOf5
 v5:=Tryz.zeroValue5
 t9:=Tryz.underlying9
 a9:=Tryz.isAgg9
 z9:=Tryz.sizeOf9
 v9:=Tryz.zeroValue9
 t22:=Tryz.underlying32
 a22:=Tryz.isAgg32
 z22:=Tryz.sizeOf32
 v22:=Tryz.zeroValue32
 t25:=Tryz.underlying102
 a25:=Tryz.isAgg102
 z25:=Tryz.sizeOf102
 v25:=Tryz.zeroValue102
 t39:=Tryz.underlying111
 a39:=Tryz.isAgg111
 z39:=Tryz.sizeOf111
 v39:=Tryz.zeroValue111
 t45:=Tryz.underlying147
 a45:=Tryz.isAgg147
 z45:=Tryz.sizeOf147
 v45:=Tryz.zeroValue147
 t46:=Tryz.underlying148
 a46:=Tryz.isAgg148
 z46:=Tryz.sizeOf148
 v46:=Tryz.zeroValue148
 t50:=Tryz.underlying152
 a50:=Tryz.isAgg152
 z50:=Tryz.sizeOf152
 v50:=Tryz.zeroValue152
 t53:=Tryz.underlying155
 a53:=Tryz.isAgg155
 z53:=Tryz.sizeOf155
 v53:=Tryz.zeroValue155
 t55:=Tryz.underlying157
 a55:=Tryz.isAgg157
 z55:=Tryz.sizeOf157
 v55:=Tryz.zeroValue157
 t66:=Tryz.underlying168
 a66:=Tryz.isAgg168
 z66:=Tryz.sizeOf168
 v66:=Tryz.zeroValue168
 t70:=Tryz.underlying172
 a70:=Tryz.isAgg172
 z70:=Tryz.sizeOf172
 v70:=Tryz.zeroValue172
 t76:=Tryz.underlying176
 a76:=Tryz.isAgg176
 z76:=Tryz.sizeOf176
 v76:=Tryz.zeroValue176
 t77:=Tryz.underlying177
 a77:=Tryz.isAgg177
 z77:=Tryz.sizeOf177
 v77:=Tryz.zeroValue177 }
end Go.Proofs
namespace Go.Sep
open Go Go.RowKit Go.Sort Go.Proofs Go.Pt
theorem CallT.quiet {P:Program} {f:Nat} {args:List AV} {v:AV} (h:CallT P f args (fun _=>none) (fun r _=>r=v)) {xs:Array Value} (ha:∀Z φ,ArgsRel Z φ args xs) {x:Value} (hx:∀Z φ y,Cv Z φ v y→y=x) (w:World) :
  Calls P f xs w fun e w'=>e=.returned x∧∃q os',w'=Go.Sort.grow (w.drewN q) os':=by
 have hor:Heap.or (fun _=>none) (fun _=>none)=(fun _=>none:Heap):=by funext x;rfl
 have sim:Sim (fun _ _=>none) (fun _=>none) w.heap.size w (Heap.or (fun _=>none) (fun _=>none)) w:=by
  rw [hor]
  exact ⟨Nat.le_refl _,Bel.refl _ _,⟨0,fun _ _=>rfl⟩,fun r blk h=>(by simp at h),fun r r' pl pl' h=>absurd rfl h,fun b i v h=>(by cases h),fun b i v _ r pl h=>absurd rfl h⟩
 refine (h.2 w.heap.size w (fun _=>none) (fun _ _=>none) (fun _=>none) w xs (fun r h=>absurd rfl h) sim (ha _ _)).mono ?_
 rintro e w' ⟨y,rfl,v',H1,Z1,φ1,rfl,_,_,_,s1,hc⟩
 refine ⟨by rw [hx _ _ _ hc],w'.drawn - w.drawn,w'.heap.extract w.heap.size w'.heap.size,?_⟩
 obtain ⟨⟨h1,h2,h3,h4,h5⟩,h6⟩:=s1.below
 unfold DrawnLe at h6
 have hh:w'.heap=w.heap++w'.heap.extract w.heap.size w'.heap.size:=by
  apply Array.ext_getElem?
  intro k
  by_cases hk:k < w.heap.size
  ·rw [Array.getElem?_append_left hk];exact h5 k hk
  ·rw [Array.getElem?_append_right (by omega),Array.getElem?_extract]
   by_cases hk2:k < w'.heap.size
   ·rw [if_pos (by omega)];congr 1;omega
   ·rw [if_neg (by omega)];exact Array.getElem?_eq_none (by omega)
 cases w';cases w
 simp only [Go.Sort.grow,World.drewN] at *
 subst h1;subst h2;subst h3
 rw [← hh]
 congr 1
 omega
theorem holds_vals {w:World} {b o:Nat} {zs:List Int} (h:Holds (Value.int .i64) w b o zs.toArray):Holds id w b o (zs.map (Value.int .i64)).toArray:=by
 intro j hj
 have hj':j < zs.length:=by simpa using hj
 have:=h j (by simpa using hj')
 simpa [hj'] using this
theorem putRow_vals (w:World) (b o:Nat) (zs:List Int):putRow id w b o (zs.map (Value.int .i64)).toArray=putRow (Value.int .i64) w b o zs.toArray:=by
 unfold putRow
 congr 1
 funext c
 unfold putCells
 apply Array.ext_getElem?
 intro k
 simp only [Array.getElem?_mapIdx]
 cases c[k]? with
 | none=>rfl
 | some v=>
  simp only [Option.map_some,List.size_toArray,List.length_map]
  congr 1
  by_cases hk:o≤k∧k < o+zs.length
  ·rw [if_pos hk,if_pos hk]
   have:k - o < zs.length:=by omega
   simp [this]
  ·rw [if_neg hk,if_neg hk]
theorem flat_get {α:Type} (g:α→List Int) (hg:∀x,(g x).length=3):∀(xs:List α) (t:Nat),(xs.flatMap g)[t]?=(xs[t / 3]?).bind fun x=>(g x)[t % 3]?
 | [],t=>by simp
 | x::xs,t=>by
  rw [List.flatMap_cons,List.getElem?_append,hg]
  by_cases h:t < 3
  ·rw [if_pos h]
   have h1:t / 3=0:=by omega
   have h2:t % 3=t:=by omega
   rw [h1,h2];rfl
  ·rw [if_neg h,flat_get g hg xs (t - 3)]
   have h1:t / 3=(t - 3) / 3+1:=by omega
   have h2:(t - 3) % 3=t % 3:=by omega
   rw [h1,h2,List.getElem?_cons_succ]
abbrev iE (x:Ed):List Int:=[x.src,x.lt,x.dst]
abbrev vE (x:Ed):List Value:=[.int .i64 x.src,.int .i64 x.lt,.int .i64 x.dst]
theorem flatE_len (xs:List Ed):(xs.flatMap iE).length=xs.length*3:=by
 induction xs with
 | nil=>rfl
 | cons x xs ih=>rw [List.flatMap_cons,List.length_append,ih];simp only [List.length_cons,List.length_nil];omega
theorem flatE (xs:List Ed):flatK vE 3 xs.toArray=((xs.flatMap iE).map (Value.int .i64)).toArray:=by
 apply Array.ext_getElem?
 intro t
 have e0:∀l:List Value,(l.toArray)[t]?=l[t]?:=fun l=>by simp
 refine Eq.trans ?_ (e0 _).symm
 rw [List.getElem?_map,flat_get iE (fun _=>rfl)]
 by_cases ht:t < xs.length*3
 ·have h1:t / 3 < xs.length:=by omega
  have h2:t % 3 < 3:=by omega
  have h0:(flatK vE 3 xs.toArray)[t]?=some ((vE (xs.toArray[t / 3]!))[t % 3]!):=by
   have:=get_flatK vE 3 xs.toArray t (by simpa using ht)
   rw [← this]
   have hs:t < (flatK vE 3 xs.toArray).size:=by simpa using ht
   rw [Array.getElem?_eq_getElem hs,getElem!_pos (flatK vE 3 xs.toArray) t hs]
  rw [h0,List.getElem?_eq_getElem h1,Option.bind_some]
  have h3:xs.toArray[t / 3]! = xs[t / 3]:=by simp [h1]
  rw [h3]
  generalize xs[t / 3]=x
  have:t % 3=0∨t % 3=1∨t % 3=2:=by omega
  rcases this with e | e | e<;>rw [e]<;>rfl
 ·rw [Array.getElem?_eq_none (by simp;omega),List.getElem?_eq_none (by omega)];rfl
end Go.Sep
namespace Go.Proofs.YtolffbcnbcjeaaaGreat
open Go Go.Sep Go.Pt Go.RowKit Go.Sort
attribute [local irreducible] CallT
def cfE (x y:Ed):Int:=if edLt x y then -1 else if edLt y x then 1 else 0
theorem cfE_lt (x y:Ed):ltOf cfE x y=edLt x y:=by
 unfold ltOf cfE
 by_cases h1:edLt x y
 ·simp [h1]
 ·by_cases h2:edLt y x<;>simp [h1,h2]
theorem edLt_iff (x y:Ed):edLt x y=true↔(x.src < y.src∨x.src=y.src∧(x.lt < y.lt∨x.lt=y.lt∧x.dst < y.dst)):=by
 unfold edLt
 split
 ·split
  ·simp;omega
  ·simp;omega
 ·simp;omega
theorem edLt_iff' (x y:Ed):edLt x y=false↔¬(x.src < y.src∨x.src=y.src∧(x.lt < y.lt∨x.lt=y.lt∧x.dst < y.dst)):=by
 rw [← edLt_iff];simp
theorem cfE_swo:SWO (ltOf cfE) where
 irrefl x:=by rw [cfE_lt,edLt_iff'];omega
 trans x y z h1 h2:=by rw [cfE_lt,edLt_iff] at *;omega
 ntrans x y z h1 h2:=by rw [cfE_lt,edLt_iff'] at *;omega
theorem cfE_tot (x y:Ed) (h1:ltOf cfE x y=false) (h2:ltOf cfE y x=false):x=y:=by
 rw [cfE_lt,edLt_iff'] at *
 cases x;cases y
 simp only [Ed.mk.injEq] at *
 omega
abbrev srtE (xs:List Ed):List Ed:=xs.mergeSort fun x y=>!edLt y x
theorem cE_flat (xs:List Ed):cE xs=(xs.flatMap iE).map fun n=>AV.p (.int .i64 n):=by
 induction xs with
 | nil=>rfl
 | cons x xs ih=>simp only [List.map_cons,cells,List.flatMap_cons,List.map_append] at *;simp_all
theorem SF_hb:HasBody Tryz.prog 101:=⟨_,bO_ Tryz.f101,Tryz.func101,by kernel_rfl,rfl⟩
theorem ce_enters:∀args w,(callFunc 77 args).run Tryz.prog w=.ok (.enter 77 args) w:=Go.Proofs.enters_of Tryz.func77 (by kernel_rfl) rfl
theorem ce_lays (blk off size:Nat) (w:World):CmpLays Tryz.prog 77 #[] vE 3 cfE blk off size w:=by
 intro m os dk _ x y
 refine CallT.quiet (args:=[aE x,aE y]) (v:=I (cfE x y)) (((compareEdges_spec x y).all _).mono fun _ _ h=>h.1) (fun Z φ=>⟨rfl,?_⟩) ?_ _
 ·intro i av x' h1 h2
  have ag:∀z:Ed,Cv Z φ (aE z) (.agg (vE z).toArray):=fun z=>.agg _ _ rfl fun i av x h1 h2=>by
   match i,h1,h2 with
   | 0,h1,h2=>cases h1;cases h2;exact .p (.int _ _)
   | 1,h1,h2=>cases h1;cases h2;exact .p (.int _ _)
   | 2,h1,h2=>cases h1;cases h2;exact .p (.int _ _)
   | i+3,h1,h2=>cases h1
  match i,h1,h2 with
  | 0,h1,h2=>cases h1;cases h2;exact ag x
  | 1,h1,h2=>cases h1;cases h2;exact ag y
  | i+2,h1,h2=>cases h1
 ·intro Z φ y' h
  cases h with
  | p h=>cases h;rfl
theorem srtE_len (xs:List Ed):(srtE xs).length=xs.length:=List.length_mergeSort ..
theorem SF_row {H:Heap} {q:Nat} {xs:List Ed} {K:AV→Heap→Prop} (hq:H q=some (cE xs)) (hl:xs.length≤1000000000) (h:K (.tup []) (H.set q (cE (srtE xs)))) :
  CallT Tryz.prog 101 [rowE q xs,.fn 77 []] H K:=by
 unfold CallT
 refine ⟨SF_hb,?_⟩
 intro B0 w0 F Z φ w ys hd hs ha
 obtain ⟨hsz,hrel⟩:=ha
 obtain ⟨x,y,rfl⟩:∃x y,ys=#[x,y]:=by
  have h1:ys.size=2:=hsz
  refine ⟨ys[0],ys[1],Array.ext (by simp [h1]) fun i hi1 hi2=>?_⟩
  have:i=0∨i=1:=by simp at hi2;omega
  rcases this with rfl | rfl<;>rfl
 have hx:=hrel 0 (rowE q xs) x rfl rfl
 have hy:=hrel 1 (.fn 77 []) y rfl rfl
 have ey:y=.func (.func 77) #[] #[]:=by
  cases hy with
  | fn _ _ xs hs h=>
   have:xs=#[]:=by apply Array.eq_empty_of_size_eq_zero;exact hs
   rw [this]
 subst ey
 have hq':(H.or F) q=some ((xs.flatMap iE).map fun n=>AV.p (.int .i64 n)):=by rw [← cE_flat];exact Heap.or_left hq
 have hFq:F q=none:=hd q (by rw [hq];simp)
 have hfl:=flatE_len xs
 have empty:xs=[]→∀a c,x=.slice a 0 c→Calls Tryz.prog 101 #[x,.func (.func 77) #[] #[]] w (fun e w'=>∃x,e=.returned x∧UpV B0 w0 F Z φ K x w'):=by
  rintro rfl a c rfl
  refine (AnyF.slices_SortFunc_none Tryz.laySF a c _ w).mono ?_
  rintro e w' ⟨rfl,rfl⟩
  have hset:H.set q (cE (srtE []))=H:=by
   funext y
   by_cases e:y=q
   ·subst e;rw [Heap.set_same,show srtE []=[] from List.eq_nil_of_length_eq_zero (srtE_len [])];exact hq.symm
   ·rw [Heap.set_other e]
  rw [hset] at h
  exact ⟨_,rfl,.tup [],H,Z,φ,h,Fro.le_refl _,Pm.le_refl _,hd,hs,.tup [] #[] rfl (fun i av x h=>by simp at h)⟩
 unfold rowE at hx
 generalize hm:xs.length=m at hx
 cases hx with
 | slz _ _ _ a=>exact empty (List.eq_nil_of_length_eq_zero hm) a 0 rfl
 | sl hp hl' hC=>
  rename_i c pl
  subst hm
  by_cases h0:xs.length=0
  ·exact empty (List.eq_nil_of_length_eq_zero h0) _ _ (by rw [h0])
  have hh:=hs.holdsInts hq' (by omega) hp
  have hH:HoldsK vE 3 w pl.b pl.o xs.toArray:=by
   unfold HoldsK;rw [flatE];exact holds_vals hh.1
  have hcon:=AnyQ.slices_SortFunc_total Tryz.laySF 3 (fun w=>by kernel_rfl) (fun w=>by kernel_rfl) vE (fun _=>rfl) (fun x v hv=>by simp at hv;rcases hv with rfl | rfl | rfl<;>rfl) cfE cfE_swo 77 #[] pl.b pl.o c xs.toArray w ce_enters (ce_lays _ _ _ _) hH hh.2 (by simp;omega) cfE_tot
  rw [List.size_toArray] at hcon
  refine hcon.mono ?_
  rintro e w' ⟨rfl,n,os,rfl⟩
  have e1:(xs.toArray.toList.mergeSort fun x y=>!(ltOf cfE) y x)=srtE xs:=by
   have:(fun x y=>!(ltOf cfE) y x)=fun x y=>!edLt y x:=by funext x y;rw [cfE_lt]
   rw [this]
  have e2:sortWorldK vE 3 w pl.b pl.o n (srtE xs).toArray os=Go.Sort.grow (putRow (Value.int .i64) (Go.Sort.ahead w n) pl.b pl.o ((srtE xs).flatMap iE).toArray) os:=by
   unfold sortWorldK putRowK
   rw [flatE,putRow_vals]
  rw [e1,e2]
  have s2:=hs.putInts (zs':=(srtE xs).flatMap iE) hq' (by rw [flatE_len,flatE_len,srtE_len]) (by omega) hp n os
  rw [cE_flat] at h
  refine ⟨_,rfl,.tup [],_,Z,φ,h,Fro.le_refl _,Pm.le_refl _,hd.set hFq,?_,.tup [] #[] rfl (fun i av x h=>by simp at h)⟩
  rw [Heap.or_set];exact s2
theorem SF_nil {H:Heap} {K:AV→Heap→Prop} (h:K (.tup []) H):CallT Tryz.prog 101 [.p .nil,.fn 77 []] H K:=by
 unfold CallT
 refine ⟨SF_hb,?_⟩
 intro B0 w0 F Z φ w ys hd hs ha
 obtain ⟨hsz,hrel⟩:=ha
 obtain ⟨x,y,rfl⟩:∃x y,ys=#[x,y]:=by
  have h1:ys.size=2:=hsz
  refine ⟨ys[0],ys[1],Array.ext (by simp [h1]) fun i hi1 hi2=>?_⟩
  have:i=0∨i=1:=by simp at hi2;omega
  rcases this with rfl | rfl<;>rfl
 have hx:=hrel 0 (.p .nil) x rfl rfl
 have ex:x=.slice none 0 0:=by
  cases hx with
  | p h=>cases h;rfl
 subst ex
 refine (AnyF.slices_SortFunc_none Tryz.laySF none 0 _ w).mono ?_
 rintro e w' ⟨rfl,rfl⟩
 exact ⟨_,rfl,.tup [],H,Z,φ,h,Fro.le_refl _,Pm.le_refl _,hd,hs,.tup [] #[] rfl (fun i av x h=>by simp at h)⟩
end Go.Proofs.YtolffbcnbcjeaaaGreat
namespace Go.Proofs.YtolffbcnbcjeaaaGreat
open Go Go.Sep Go.Pt
attribute [local irreducible] CallT
theorem srtE_ext {xs ys:List Ed} (hn:xs.Nodup) (hs:ys.Pairwise (fun a b=>edLt a b=true)) (hm:∀e,e∈xs↔e∈ys):srtE xs=ys:=by
 have hny:ys.Nodup:=hs.imp fun h e=>by subst e;have:=(edLt_iff _ _).1 h;omega
 have hp:(srtE xs).Perm ys:=(List.mergeSort_perm xs _).trans ((List.perm_ext_iff_of_nodup hn hny).2 hm)
 have h1:(srtE xs).Pairwise (fun a b=>(!edLt b a)=true):=List.pairwise_mergeSort (le:=fun x y=>!edLt y x) (fun a b c h1 h2=>by
  simp only [Bool.not_eq_true',edLt_iff'] at *;omega) (fun a b=>by
  rw [Bool.or_eq_true];simp only [Bool.not_eq_true',edLt_iff'];omega) xs
 have h2:ys.Pairwise (fun a b=>(!edLt b a)=true):=hs.imp fun h=>by
  rw [edLt_iff] at h;rw [Bool.not_eq_true',edLt_iff'];omega
 refine hp.eq_of_pairwise (fun a b _ _ h1 h2=>?_) h1 h2
 rw [Bool.not_eq_true'] at h1 h2
 exact cfE_tot _ _ (by rw [cfE_lt];exact h2) (by rw [cfE_lt];exact h1)
theorem edsOk_of {n:Int} {es:List Ed} (hs:es.Pairwise (fun a b=>edLt a b=true)) (hi:∀e∈es,edIn n e=true):edsOk n es=true:=by
 unfold edsOk
 rw [List.all_eq_true]
 intro i hi'
 rw [List.mem_range] at hi'
 unfold edAt
 rw [Bool.and_eq_true,Bool.or_eq_true,decide_eq_true_eq]
 refine ⟨getD_all (p:=fun e=>edIn n e=true) hi hi',?_⟩
 by_cases h0:i=0
 ·exact .inl h0
 ·right
  rw [getD_lt hi',getD_lt (show i - 1 < es.length by omega)]
  exact List.pairwise_iff_getElem.1 hs (i - 1) i (by omega) hi' (by omega)
theorem rising_of {l:List Int} {n:Int} (hs:l.Pairwise (· < ·)) (hb:∀x∈l,0≤x∧x < n):rising l n=true:=by
 unfold rising
 rw [List.all_eq_true]
 intro i hi
 rw [List.mem_range] at hi
 have h1:=getD_all (p:=fun x=>0≤x∧x < n) (d:=default) hb hi
 unfold riseAt
 simp only [Bool.and_eq_true,Bool.or_eq_true,decide_eq_true_eq]
 refine ⟨h1,?_⟩
 by_cases h0:i=0
 ·exact .inl h0
 ·right
  rw [getD_lt hi,getD_lt (show i - 1 < l.length by omega)]
  exact List.pairwise_iff_getElem.1 hs (i - 1) i (by omega) hi (by omega)
theorem edsOk_pw {n:Int} {es:List Ed} (h:edsOk n es=true):es.Pairwise (fun a b=>edLt a b=true):=by
 unfold edsOk at h
 rw [List.all_eq_true] at h
 have key:∀d i,i+d+1 < es.length→edLt (es.getD i default) (es.getD (i+d+1) default)=true:=by
  intro d
  induction d with
  | zero=>
   intro i hi
   have h1:=h (i+1) (List.mem_range.2 (by omega))
   unfold edAt at h1
   rw [Bool.and_eq_true,Bool.or_eq_true,decide_eq_true_eq] at h1
   rcases h1.2 with h2 | h2
   ·omega
   ·exact h2
  | succ d ih=>
   intro i hi
   have h1:=ih i (by omega)
   have h2:=h (i+(d+1)+1) (List.mem_range.2 hi)
   unfold edAt at h2
   rw [Bool.and_eq_true,Bool.or_eq_true,decide_eq_true_eq] at h2
   rcases h2.2 with h3 | h3
   ·omega
   ·rw [show i+(d+1)+1 - 1=i+d+1 by omega] at h3
    rw [edLt_iff] at *
    omega
 rw [List.pairwise_iff_getElem]
 intro i j hi hj hij
 have:=key (j - i - 1) i (by omega)
 rw [show i+(j - i - 1)+1=j by omega,getD_lt hi,getD_lt hj] at this
 exact this
theorem rz_appE9 {H G:Heap} {Ts:List Th} {z:Nat} {x:AV} {xs ys:List Ed} {D:List Nat} (s:St H Ts G) (i:Nat) (hi:Ts[i]?=some (reT z x xs D)) (hl:xs.length+ys.length≤1000000000) {K:AV→Heap→Prop}
  (h:∀q' G',G q'=none→St H (Ts.set i (reT z (rowE q' (xs++ys)) (xs++ys) [q'])) G'→K (rowE q' (xs++ys)) G'):aP_ tab 32 32 x (Es ys) G (wkK K):=
 RZ.app (bz:=24) tab_32 rfl tab_84 tab_32 rfl rfl rfl (fun _=>rfl) s i hi rfl (by omega) (by omega) h
theorem rz_sortE {H G:Heap} {Ts:List Th} {z:Nat} {x:AV} {xs:List Ed} {D:List Nat} (s:St H Ts G) (i:Nat) (hi:Ts[i]?=some (reT z x xs D)) (hl:xs.length≤1000000000) {K:AV→Heap→Prop}
  (h:∀G',St H (Ts.set i (reT z x (srtE xs) D)) G'→K (.tup []) G'):CallT Tryz.prog 101 [x,.fn 77 []] G K:=by
 have hrz:RZ (LPl eE) 3 z x xs G D:=s.get i hi
 have he:=srtE_len xs
 rcases hrz with ⟨rfl,rfl,rfl,hz⟩ | ⟨q,cs,D',rfl,hq,hll,rfl⟩
 ·refine SF_nil (h G ?_)
  have:srtE []=[]:=List.eq_nil_of_length_eq_zero he
  rw [this]
  have e:Ts.set i (reT z (.p .nil) [] [z])=Ts:=by
   obtain ⟨h1,h2⟩:=List.getElem?_eq_some_iff.1 hi
   rw [← h2];exact List.set_getElem_self h1
  rw [e];exact s
 ·obtain ⟨rfl,rfl⟩:=LL.plain' hll
  refine SF_row hq (by omega) (h _ ?_)
  refine s.upd i hi (reT z (.sl q 3 0 xs.length) (srtE xs) [q]) rfl (fun y hy=>Heap.set_other (fun e=>hy (by simp [rzT,e]))) (.inr ?_)
  refine ⟨q,_,[],by rw [he],Heap.set_same _ _ _,LL.plain _,rfl⟩
def gw (n:Nat) (p:Nat→Bool):List Int:=((List.range n).filter p).map fun (g:Nat)=>(g:Int)
theorem gw_succ (n:Nat) (p:Nat→Bool):gw (n+1) p=if p n=true then gw n p++[(n:Int)] else gw n p:=by
 unfold gw
 rw [List.range_succ,List.filter_append,List.map_append]
 by_cases h:p n=true
 ·simp [h]
 ·simp [h]
theorem gw_len (n:Nat) (p:Nat→Bool):(gw n p).length≤n:=by
 unfold gw
 rw [List.length_map]
 have:=List.length_filter_le p (List.range n)
 rwa [List.length_range] at this
theorem gw_rising (n:Nat) (p:Nat→Bool):rising (gw n p) n=true:=by
 refine rising_of ?_ fun x hx=>?_
 ·unfold gw
  rw [List.pairwise_map]
  exact (List.pairwise_lt_range.filter p).imp fun h=>by omega
 ·obtain ⟨g,hg,rfl⟩:=List.mem_map.1 hx
  have:=List.mem_range.1 (List.mem_filter.1 hg).1
  omega
end Go.Proofs.YtolffbcnbcjeaaaGreat
namespace Go.Proofs.YtolffbcnbcjeaaaGreat
open Go Go.Sep Go.Pt
def prs (us bs:List Int) (m:Int):List Int:=us.flatMap fun i=>bs.map fun j=>i*m+j
theorem prs_succ (us bs:List Int) (m:Int) {i:Nat} (h:i < us.length):prs (us.take (i+1)) bs m=prs (us.take i) bs m++bs.map fun j=>us.getD i default*m+j:=by
 unfold prs
 rw [tS_ h,List.flatMap_append]
 simp
theorem prs_len (us bs:List Int) (m:Int):(prs us bs m).length=us.length*bs.length:=by
 induction us with
 | nil=>simp [prs]
 | cons a us ih=>rw [prs,List.flatMap_cons,List.length_append,List.length_map];rw [prs] at ih;rw [ih,List.length_cons,Nat.add_mul,Nat.one_mul,Nat.add_comm]
theorem prs_mem {us bs:List Int} {m x:Int}:x∈prs us bs m↔∃i∈us,∃j∈bs,i*m+j=x:=by
 simp only [prs,List.mem_flatMap,List.mem_map]
theorem lex_lt {m i i' j j':Int} (hi:i < i') (hj:0≤j∧j < m) (hj':0≤j'∧j' < m):i*m+j < i'*m+j':=by
 have:(i+1)*m≤i'*m:=Int.mul_le_mul_of_nonneg_right (by omega) (by omega)
 rw [Int.add_mul,Int.one_mul] at this
 omega
theorem prs_lt {us bs:List Int} {m:Int} (ha:us.Pairwise (· < ·)) (hb:bs.Pairwise (· < ·)) (hm:∀j∈bs,0≤j∧j < m):(prs us bs m).Pairwise (· < ·):=by
 unfold prs
 rw [List.pairwise_flatMap]
 refine ⟨fun i hi=>?_,List.Pairwise.imp (fun h x hx y hy=>?_) ha⟩
 ·rw [List.pairwise_map]
  exact hb.imp fun h=>by omega
 ·obtain ⟨j,hj,rfl⟩:=List.mem_map.1 hx
  obtain ⟨j',hj',rfl⟩:=List.mem_map.1 hy
  exact lex_lt h (hm _ hj) (hm _ hj')
theorem lex_div {m i j:Int} (hj:0≤j∧j < m):(i*m+j) / m=i∧(i*m+j) % m=j:=by
 have hm:m≠0:=by omega
 rw [Int.add_comm,Int.mul_comm]
 exact ⟨by rw [Int.add_mul_ediv_left _ _ hm,Int.ediv_eq_zero_of_lt hj.1 hj.2,Int.zero_add],by rw [Int.add_mul_emod_self_left,Int.emod_eq_of_lt hj.1 hj.2]⟩
theorem lex_bd {m n i j:Int} (hi:0≤i∧i < n) (hj:0≤j∧j < m):0≤i*m+j∧i*m+j < n*m:=by
 have h1:0≤i*m:=Int.mul_nonneg hi.1 (by omega)
 have:(i+1)*m≤n*m:=Int.mul_le_mul_of_nonneg_right (by omega) (by omega)
 rw [Int.add_mul,Int.one_mul] at this
 omega
def mkE (m:Int) (e f:Ed):Ed:=⟨e.src*m+f.src,e.lt,e.dst*m+f.dst⟩
def bRow (m:Int) (e:Ed) (bs:List Ed):List Ed:=(bs.filter fun f=>decide (e.lt=f.lt)).map (mkE m e)
def bE (m:Int) (us bs:List Ed):List Ed:=us.flatMap fun e=>bRow m e bs
theorem bRow_succ (m:Int) (e:Ed) (bs:List Ed) {j:Nat} (h:j < bs.length):bRow m e (bs.take (j+1))=if e.lt=(bs.getD j default).lt then bRow m e (bs.take j)++[mkE m e (bs.getD j default)] else bRow m e (bs.take j):=by
 unfold bRow
 rw [tS_ h,List.filter_append,List.map_append]
 generalize bs.getD j default=y
 by_cases hc:e.lt=y.lt<;>simp [hc]
theorem bE_succ (m:Int) (us bs:List Ed) {i:Nat} (h:i < us.length):bE m (us.take (i+1)) bs=bE m (us.take i) bs++bRow m (us.getD i default) bs:=by
 unfold bE
 rw [tS_ h,List.flatMap_append]
 simp
theorem bRow_len (m:Int) (e:Ed) (bs:List Ed):(bRow m e bs).length≤bs.length:=by
 unfold bRow;rw [List.length_map];exact List.length_filter_le _ _
theorem bE_len (m:Int) (us bs:List Ed):(bE m us bs).length≤us.length*bs.length:=by
 induction us with
 | nil=>simp [bE]
 | cons a us ih=>
  rw [bE,List.flatMap_cons,List.length_append,List.length_cons,Nat.add_mul,Nat.one_mul]
  rw [bE] at ih
  have:=bRow_len m a bs
  omega
def stp (n:Int) (es:List Ed) (s l:Int):List Int:=(below n.toNat).filter fun t=>es.any fun e=>decide (e.lt=l) && (decide (e.src=s) && decide (e.dst=t))
theorem below_lt (n:Nat):(below n).Pairwise (· < ·):=by
 unfold below
 rw [List.pairwise_map]
 exact List.pairwise_lt_range.imp fun h=>Int.ofNat_lt.2 h
theorem below_mem {n:Nat} {x:Int}:x∈below n↔0≤x∧x < n:=by
 unfold below
 rw [List.mem_map]
 exact ⟨fun ⟨k,hk,e⟩=>by rw [List.mem_range] at hk;omega,fun h=>⟨x.toNat,List.mem_range.2 (by omega),by omega⟩⟩
theorem stp_lt (n:Int) (es:List Ed) (s l:Int):(stp n es s l).Pairwise (· < ·):=(below_lt _).filter _
theorem stp_mem {n:Int} {es:List Ed} {s l t:Int}:t∈stp n es s l↔(0≤t∧t < n)∧∃e∈es,e.lt=l∧e.src=s∧e.dst=t:=by
 unfold stp
 rw [List.mem_filter,below_mem,List.any_eq_true]
 simp only [Bool.and_eq_true,decide_eq_true_eq]
 constructor
 ·rintro ⟨h1,h2⟩;exact ⟨⟨h1.1,by omega⟩,h2⟩
 ·rintro ⟨h1,h2⟩;exact ⟨⟨h1.1,by omega⟩,h2⟩
def sCell (a b:Au) (k l:Nat):List Int:=prs (stp a.states a.edges ((k:Int) / b.states) l) (stp b.states b.edges ((k:Int) % b.states) l) b.states
def sRow (a b:Au) (k l:Nat):List Ed:=(List.range l).flatMap fun (i:Nat)=>(sCell a b k i).map fun t=>⟨k,i,t⟩
def sAll (a b:Au) (k:Nat):List Ed:=(List.range k).flatMap fun i=>sRow a b i 8
theorem sAll_lt (a b:Au) (n:Nat):(sAll a b n).Pairwise (fun a b=>edLt a b=true):=by
 unfold sAll
 rw [List.pairwise_flatMap]
 refine ⟨fun k hk=>?_,List.Pairwise.imp (fun h x hx y hy=>?_) List.pairwise_lt_range⟩
 ·unfold sRow
  rw [List.pairwise_flatMap]
  refine ⟨fun l hl=>?_,List.Pairwise.imp (fun h x hx y hy=>?_) List.pairwise_lt_range⟩
  ·rw [List.pairwise_map]
   refine List.Pairwise.imp (fun h=>?_) (prs_lt (m:=b.states) (stp_lt ..) (stp_lt ..) fun j hj=>(stp_mem.1 hj).1)
   rw [edLt_iff];exact .inr ⟨rfl,.inr ⟨rfl,h⟩⟩
  ·obtain ⟨t1,_,rfl⟩:=List.mem_map.1 hx
   obtain ⟨t2,_,rfl⟩:=List.mem_map.1 hy
   rw [edLt_iff];exact .inr ⟨rfl,.inl (Int.ofNat_lt.2 h)⟩
 ·obtain ⟨l1,_,hx⟩:=List.mem_flatMap.1 hx
  obtain ⟨l2,_,hy⟩:=List.mem_flatMap.1 hy
  obtain ⟨t1,_,rfl⟩:=List.mem_map.1 hx
  obtain ⟨t2,_,rfl⟩:=List.mem_map.1 hy
  rw [edLt_iff];exact .inl (Int.ofNat_lt.2 h)
theorem sAll_mem {a b:Au} {n:Nat} (e:Ed):e∈sAll a b n↔∃k l:Nat,k < n∧l < 8∧∃t∈sCell a b k l,e=⟨k,l,t⟩:=by
 simp only [sAll,sRow,List.mem_flatMap,List.mem_map,List.mem_range]
 constructor
 ·rintro ⟨k,hk,l,hl,t,ht,rfl⟩;exact ⟨k,l,hk,hl,t,ht,rfl⟩
 ·rintro ⟨k,l,hk,hl,t,ht,rfl⟩;exact ⟨k,hk,l,hl,t,ht,rfl⟩
theorem ed_nd {es:List Ed} (h:es.Pairwise (fun a b=>edLt a b=true)):es.Pairwise (·≠·):=h.imp fun h e=>by subst e;have:=(edLt_iff _ _).1 h;omega
theorem bE_nd {n m:Int} {us bs:List Ed} (ha:edsOk n us=true) (hb:edsOk m bs=true) (hm:∀f∈bs,edIn m f=true):(bE m us bs).Nodup:=by
 unfold bE List.Nodup
 have inj:∀e e' f f',f∈bs→f'∈bs→mkE m e f=mkE m e' f'→e.src=e'.src∧f.src=f'.src∧e.lt=e'.lt∧e.dst=e'.dst∧f.dst=f'.dst:=by
  intro e e' f f' hf hf' h
  have h1:=hm f hf
  have h2:=hm f' hf'
  simp only [edIn,Bool.and_eq_true,decide_eq_true_eq] at h1 h2
  simp only [mkE,Ed.mk.injEq] at h
  have d1:=lex_div (i:=e.src) h1.1
  have d2:=lex_div (i:=e'.src) h2.1
  have d3:=lex_div (i:=e.dst) h1.2.1
  have d4:=lex_div (i:=e'.dst) h2.2.1
  rw [h.1] at d1
  rw [h.2.2] at d3
  exact ⟨d1.1.symm.trans d2.1,d1.2.symm.trans d2.2,h.2.1,d3.1.symm.trans d4.1,d3.2.symm.trans d4.2⟩
 rw [List.pairwise_flatMap]
 refine ⟨fun e he=>?_,List.Pairwise.imp (fun {a1 a2} h x hx y hy exy=>?_) (ed_nd (edsOk_pw ha))⟩
 ·unfold bRow
  rw [List.pairwise_map]
  have hp:(bs.filter fun f=>decide (e.lt=f.lt)).Pairwise (·≠·):=(ed_nd (edsOk_pw hb)).filter _
  refine List.Pairwise.imp_of_mem (fun {x y} hx hy h e1=>h ?_) hp
  obtain ⟨hx1,hx2⟩:=List.mem_filter.1 hx
  obtain ⟨hy1,hy2⟩:=List.mem_filter.1 hy
  rw [decide_eq_true_eq] at hx2 hy2
  obtain ⟨_,i2,_,_,i5⟩:=inj _ _ _ _ hx1 hy1 e1
  cases x;cases y
  simp only [Ed.mk.injEq] at *
  omega
 ·subst exy
  obtain ⟨f,hf,rfl⟩:=List.mem_map.1 hx
  obtain ⟨f',hf',e1⟩:=List.mem_map.1 hy
  obtain ⟨i1,_,i3,i4,_⟩:=inj _ _ _ _ (List.mem_filter.1 hf').1 (List.mem_filter.1 hf).1 e1
  apply h
  cases a1;cases a2
  simp only [Ed.mk.injEq] at *
  omega
theorem srt_bE {a b:Au} (ha:goodA a=true) (hb:goodA b=true):srtE (bE b.states a.edges b.edges)=sAll a b (a.states*b.states).toNat:=by
 have ga:=good_facts ha
 have gb:=good_facts hb
 simp only [goodA,Bool.and_eq_true] at ha hb
 have ia:=ga.ei
 have ib:=gb.ei
 refine srtE_ext (bE_nd ha.2.2.2.2 hb.2.2.2.2 ib) (sAll_lt ..) fun e=>?_
 rw [sAll_mem]
 simp only [bE,bRow,List.mem_flatMap,List.mem_map,List.mem_filter,decide_eq_true_eq]
 constructor
 ·rintro ⟨x,hx,y,⟨hy,hxy⟩,rfl⟩
  have h1:=ia x hx
  have h2:=ib y hy
  simp only [edIn,Bool.and_eq_true,decide_eq_true_eq] at h1 h2
  have bd:=lex_bd h1.1 h2.1
  have dv:=lex_div (i:=x.src) h2.1
  refine ⟨(x.src*b.states+y.src).toNat,x.lt.toNat,by omega,by omega,x.dst*b.states+y.dst,?_,?_⟩
  ·rw [sCell,prs_mem]
   rw [Int.toNat_of_nonneg bd.1,Int.toNat_of_nonneg h1.2.2.1,dv.1,dv.2]
   exact ⟨x.dst,stp_mem.2 ⟨h1.2.1,x,hx,rfl,rfl,rfl⟩,y.dst,stp_mem.2 ⟨h2.2.1,y,hy,hxy.symm,rfl,rfl⟩,rfl⟩
  ·rw [Int.toNat_of_nonneg bd.1,Int.toNat_of_nonneg h1.2.2.1];rfl
 ·rintro ⟨k,l,hk,hl,t,ht,rfl⟩
  rw [sCell,prs_mem] at ht
  obtain ⟨i,hi,j,hj,rfl⟩:=ht
  obtain ⟨_,x,hx,x1,x2,x3⟩:=stp_mem.1 hi
  obtain ⟨_,y,hy,y1,y2,y3⟩:=stp_mem.1 hj
  refine ⟨x,hx,y,⟨hy,by omega⟩,?_⟩
  simp only [mkE,Ed.mk.injEq]
  refine ⟨?_,x1,by rw [x3,y3]⟩
  rw [x2,y2,Int.mul_comm]
  exact Int.mul_ediv_add_emod _ _
end Go.Proofs.YtolffbcnbcjeaaaGreat
