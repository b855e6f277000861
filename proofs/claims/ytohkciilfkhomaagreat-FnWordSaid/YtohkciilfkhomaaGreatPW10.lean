/- Texts laid together: Tg10 Lt5 Lu0 Tg11 Tg12 Mg2 Tg13 Tp7 Lf1 Ql1 Ql2 Mk0 Mk1 Mk2 Tv1 Tv2 Tv3. -/
import Derived.Test.YtohkciilfkhomaaGreatPW9
set_option linter.unusedVariables false
set_option linter.unusedSimpArgs false
open Go.Sep.AV renaming any → Q_
open Nat renaming reduceAdd→ν1,reduceLeDiff→ν2,reduceLT→ν3,reduceMul→ν4,reduceSub→ν5
open Int renaming reduceToNat→ι1,reduceSub→ι2,reduceAdd→ι3,reduceNeg→ι4
open Array renaming toList→ι5
open Ne renaming symm→ν6
open List renaming forall_mem_cons→ν7
namespace Go.Proofs.YtohkciilfkhomaaGreat
open Go Go.Sep Go.Pt
attribute [local irreducible] CallT
theorem filter_range_succ (p:Nat→Bool) (k:Nat):(List.range (k+1)).filter p=if p k=true then (List.range k).filter p++[k] else (List.range k).filter p:=by
 rw [List.range_succ,List.filter_append]
 by_cases h:p k=true<;>simp [h]
theorem filter_range_len (p:Nat→Bool) (k:Nat):((List.range k).filter p).length≤k:=by
 have:=List.length_filter_le p (List.range k)
 rwa [List.length_range] at this
theorem l11Fair_spec (g:List (List Nat)) (hg:GrB g) (hg2:GrB (turnG g)) (goals:List (List Nat)) (hgo:GoB goals g.length):Pu Tryz.prog 66 [Ls (gI g),Ls (gI goals)] (Is (nI ((List.range g.length).filter (fairF (rwF g) goals)))):=by
 refine ⟨fun H=>CallT.fin ?_⟩
 have hn:=hg.n
 have hgl:=gI_len g
 have hol:=gI_len goals
 have hon:=hgo.len
 have hpl:=prtI_len g
 have hig:=gI_len (inG g)
 rw [inG_len] at hig
 have hpf:∀v,v < g.length→partF (aO_ (rwF g)) v < g.length:=fun v hv=>by have:=partF_le (aO_ (rwF g)) v;omega
 have hfair:=fun v hv=>fair_ref (goals:=goals) hg.gr (v:=v) hv
 have hpg:=fun v (h:v < g.length)=>prtI_get h
 have haw:=aw1_succ (rwF g)
 have hgi:∀k,k < g.length→(gI (inG g)).getD k default=nI (inF (rwF g) k):=fun k h=>by rw [gI_get (by rw [inG_len];exact h),inG_row hg]
 have hil:∀k,(inF (rwF g) k).length≤(rwF g k).length:=fun k=>by rw [inF_cB];exact List.length_filter_le _ _
 refine W66_ok ?_;simp (maxSteps:=1000000) (disch:=first | assumption | (apply ν6;assumption)) only [W66,vz,vu,vv,eqS,eF_,↓c1_,↓c2_,tabs,reduceCtorEq,ι5,↓reduceIte,ν1,ν2,ν3,ν4,ν5,ι1,ι2,ι3,ι4,hgl]
 refine Pu.use (l11Parts_spec g hg hg2) ?_
 refine Pu.use (within_spec g hg) ?_
 generalize partF (aO_ (rwF g))=pf at hpf hfair hpg haw
 generalize prtI g=pr at hpl hpg ⊢
 have ez:zA_ g.length [B false]=cP fB (mpB (aw1 (rwF g) 0) g.length):=by rw [cB_zero];rfl
 have ez3:zA_ g.length [I 0]=cP fI (mpI (fun p=>((mtF pf goals 0 p:Nat):Int)) g.length):=by rw [cP_rep,mpI_const];rfl
 (try simp (maxSteps:=1000000) (disch:=first | assumption | (apply ν6;assumption)) only [vz,vu,vv,eqS,eF_,↓c1_,↓c2_,tabs,reduceCtorEq,ι5,↓reduceIte,ν1,ν2,ν3,ν4,ν5,ι1,ι2,ι3,ι4,mS_,hig])
 refine ⟨by omega,by omega,by omega,by omega,fun q1 hq1=>?_⟩
 refine ⟨by omega,by omega,by omega,by omega,fun q2 hq21 hq2=>?_⟩
 rw [ez,ez3] at *
 have st:=((St.nil H).cell hq1 (cP fB (mpB (aw1 (rwF g) 0) g.length))).cell (r:=q2) (by rw [Heap.set_other hq21];exact hq2) (cP fI (mpI (fun p=>((mtF pf goals 0 p:Nat):Int)) g.length))
 generalize (H.set q1 (cP fB (mpB (aw1 (rwF g) 0) g.length))).set q2 (cP fI (mpI (fun p=>((mtF pf goals 0 p:Nat):Int)) g.length))=G1 at st ⊢
 clear hq1 hq21 hq2
 have last:∀G,St H [cT_ q2 (cP fI (mpI (fun p=>((mtF pf goals goals.length p:Nat):Int)) g.length)),cT_ q1 (cP fB (mpB (aw1 (rwF g) g.length) g.length))] G→
   L66_3 (wkK fun r H'=>r=Is (nI ((List.range g.length).filter (fairF (rwF g) goals)))∧H'=H) (Ls (gI goals)) (Is pr) (.sl q1 1 0 g.length) (.sl q2 1 0 g.length) (.p .nil) (I g.length) (I 0) G:=by
  intro G st
  have st:=(st.push (skT (.p .nil) [] []) ⟨.nil,fun y hy=>(by cases hy),Heap.le_refl _⟩ (.inl ⟨rfl,rfl,rfl⟩))
  refine L66_3_rule ((0:Nat),(.p .nil:AV),([]:List Nat),G) (fun z=>z.2.1) (fun z=>I z.1) (fun z=>z.2.2.2) (fun z=>z.1≤g.length∧St H [skT z.2.1 ((List.range z.1).filter (fairF (rwF g) goals)) z.2.2.1,cT_ q2 (cP fI (mpI (fun p=>((mtF pf goals goals.length p:Nat):Int)) g.length)),cT_ q1 (cP fB (mpB (aw1 (rwF g) g.length) g.length))] z.2.2.2) (fun z=>g.length - z.1)
   ⟨⟨by simp,by simpa using st⟩,.refl _,.refl _,Heap.le_refl _⟩ ?_
  clear st
  rintro ⟨i,x,D,G⟩ ⟨hi,st⟩
  dsimp only at hi st
  have e5:IntKind.i64.wrap ((i:Int)+1)=((i+1:Nat):Int):=by rw [i6_ (by omega) (by omega)];simp
  have hfl:=filter_range_len (fairF (rwF g) goals) i
  (try simp (maxSteps:=1000000) (disch:=first | assumption | (apply ν6;assumption)) only [vz,vu,vv,eqS,eF_,↓c1_,↓c2_,tabs,reduceCtorEq,ι5,↓reduceIte,ν1,ν2,ν3,ν4,ν5,ι1,ι2,ι3,ι4,B66_3,hpl,hol])
  refine ⟨fun h1=>?_,fun h1=>?_⟩
  ·have hlt:i < g.length:=by omega
   have hp:=hpf i hlt
   have hr1:=rdB (aw1 (rwF g) g.length) hp
   have hr2:=rdN (fun p=>((mtF pf goals goals.length p:Nat):Int)) hp
   have hf:=hfair i hlt
   have hsc:=filter_range_succ (fairF (rwF g) goals) i
   rw [hpg i hlt]
   (try simp (maxSteps:=1000000) (disch:=first | assumption | (apply ν6;assumption)) only [vz,vu,vv,eqS,eF_,↓c1_,↓c2_,tabs,reduceCtorEq,ι5,↓reduceIte,ν1,ν2,ν3,ν4,ν5,ι1,ι2,ι3,ι4,lA_ (st.get 2 rfl),lnB,mpB_len,hr1,Int.toNat_natCast])
   refine ⟨by omega,by omega,by omega,by omega,by omega,?_⟩
   have no:fairF (rwF g) goals i=false→∃z:Nat×AV×List Nat×Heap,(z.1≤g.length∧St H [skT z.2.1 ((List.range z.1).filter (fairF (rwF g) goals)) z.2.2.1,cT_ q2 (cP fI (mpI (fun p=>((mtF pf goals goals.length p:Nat):Int)) g.length)),cT_ q1 (cP fB (mpB (aw1 (rwF g) g.length) g.length))] z.2.2.2)∧g.length - z.1 < g.length - i∧x.wk z.2.1∧(I ((i+1:Nat):Int)).wk (I z.1)∧z.2.2.2.le G:=by
    intro h
    rw [if_neg (by rw [h];simp)] at hsc
    exact ⟨(i+1,x,D,G),⟨by simp only;omega,by simp only [hsc];exact st⟩,by simp only;omega,.refl _,.refl _,Heap.le_refl _⟩
   cases ha:aw1 (rwF g) g.length (pf i)
   ·rw [ha,Bool.false_and] at hf
    (try simp (maxSteps:=1000000) (disch:=first | assumption | (apply ν6;assumption)) only [vz,vu,vv,eqS,eF_,↓c1_,↓c2_,tabs,reduceCtorEq,ι5,↓reduceIte,ν1,ν2,ν3,ν4,ν5,ι1,ι2,ι3,ι4,e5])
    exact no hf.symm
   ·rw [ha,Bool.true_and] at hf
    (try simp (maxSteps:=1000000) (disch:=first | assumption | (apply ν6;assumption)) only [vz,vu,vv,eqS,eF_,↓c1_,↓c2_,tabs,reduceCtorEq,ι5,↓reduceIte,ν1,ν2,ν3,ν4,ν5,ι1,ι2,ι3,ι4,lA_ (st.get 1 rfl),lnN,mpI_len,hr2,e5,Int.toNat_natCast])
    refine ⟨by omega,by omega,by omega,by omega,by omega,fun h2=>?_,fun h2=>?_⟩
    ·have ht:fairF (rwF g) goals i=true:=by rw [← hf,decide_eq_true_eq];omega
     rw [if_pos ht] at hsc
     refine lit1 tab_24 rfl tab_3 ⟨rfl,rfl⟩ ?_
     refine sk_app (w:=i) st 0 rfl (by omega) fun q' G' st=>?_
     simp only [List.set_cons_zero] at st
     rw [← hsc] at st
     (try simp (maxSteps:=1000000) (disch:=first | assumption | (apply ν6;assumption)) only [vz,vu,vv,eqS,eF_,↓c1_,↓c2_,tabs,reduceCtorEq,ι5,↓reduceIte,ν1,ν2,ν3,ν4,ν5,ι1,ι2,ι3,ι4,e5])
     exact ⟨(i+1,_,[q'],G'),⟨by simp only;omega,st⟩,by simp only;omega,.refl _,.refl _,Heap.le_refl _⟩
    ·refine no ?_
     rw [← hf,decide_eq_false_iff_not]
     omega
  ·have:i=g.length:=by omega
   subst this
   exact sk_val st 0 rfl
 have gos:∀G,St H [cT_ q2 (cP fI (mpI (fun p=>((mtF pf goals 0 p:Nat):Int)) g.length)),cT_ q1 (cP fB (mpB (aw1 (rwF g) g.length) g.length))] G→
   L66_1 (wkK fun r H'=>r=Is (nI ((List.range g.length).filter (fairF (rwF g) goals)))∧H'=H) (Ls (gI g)) (Ls (gI goals)) (Is pr) (.sl q1 1 0 g.length) (.sl q2 1 0 g.length) (Ls (gI goals)) (I goals.length) (I 0) G:=by
  intro G st
  refine L66_1_rule ((0:Nat),G) (fun z=>I z.1) (fun z=>z.2) (fun z=>z.1≤goals.length∧St H [cT_ q2 (cP fI (mpI (fun p=>((mtF pf goals z.1 p:Nat):Int)) g.length)),cT_ q1 (cP fB (mpB (aw1 (rwF g) g.length) g.length))] z.2) (fun z=>goals.length - z.1)
   ⟨⟨by simp,st⟩,.refl _,Heap.le_refl _⟩ ?_
  clear st G
  rintro ⟨t,G⟩ ⟨ht,st⟩
  dsimp only at ht st
  have e5:IntKind.i64.wrap ((t:Int)+1)=((t+1:Nat):Int):=by rw [i6_ (by omega) (by omega)];simp
  (try simp (maxSteps:=1000000) (disch:=first | assumption | (apply ν6;assumption)) only [vz,vu,vv,eqS,eF_,↓c1_,↓c2_,tabs,reduceCtorEq,ι5,↓reduceIte,ν1,ν2,ν3,ν4,ν5,ι1,ι2,ι3,ι4,B66_1,hol,hgl])
  refine ⟨fun h1=>?_,fun h1=>?_⟩
  ·have hlt:t < goals.length:=by omega
   refine ⟨by omega,h1,?_⟩
   rw [gI_get hlt]
   obtain ⟨hsz,hxlt⟩:=hgo.get hlt
   have hnl:=nL_ (rwF goals t)
   have hgd:goals.getD t []=rwF goals t:=rfl
   (try simp (maxSteps:=1000000) (disch:=first | assumption | (apply ν6;assumption)) only [vz,vu,vv,eqS,eF_,↓c1_,↓c2_,tabs,reduceCtorEq,ι5,↓reduceIte,ν1,ν2,ν3,ν4,ν5,ι1,ι2,ι3,ι4,hnl])
   refine L66_2_rule ((0:Nat),G) (fun z=>I z.1) (fun z=>z.2) (fun z=>z.1≤(rwF goals t).length∧St H [cT_ q2 (cP fI (mpI (fun p=>((mtP pf goals t z.1 p:Nat):Int)) g.length)),cT_ q1 (cP fB (mpB (aw1 (rwF g) g.length) g.length))] z.2) (fun z=>(rwF goals t).length - z.1)
    ⟨⟨by simp,by rw [mtP_zero];exact st⟩,.refl _,Heap.le_refl _⟩ ?_
   clear st G
   rintro ⟨j,G⟩ ⟨hj,st⟩
   dsimp only at hj st
   have e6:IntKind.i64.wrap ((j:Int)+1)=((j+1:Nat):Int):=by rw [i6_ (by omega) (by omega)];simp
   (try simp (maxSteps:=1000000) (disch:=first | assumption | (apply ν6;assumption)) only [vz,vu,vv,eqS,eF_,↓c1_,↓c2_,tabs,reduceCtorEq,ι5,↓reduceIte,ν1,ν2,ν3,ν4,ν5,ι1,ι2,ι3,ι4,B66_2,hnl,hpl])
   refine ⟨fun h2=>?_,fun h2=>?_⟩
   ·have hlj:j < (rwF goals t).length:=by omega
    refine ⟨by omega,h2,?_⟩
    rw [nI_get hlj]
    have hx:=hxlt j hlj
    have hs:=mtP_succ pf goals (j:=t) (t:=j) hlj
    rw [hgd] at hs
    generalize (rwF goals t).getD j 0=w at hx hs ⊢
    have hp:=hpf w hx
    have hr:=rdN (fun p=>((mtP pf goals t j p:Nat):Int)) hp
    rw [Int.toNat_natCast,hpg w hx]
    (try simp (maxSteps:=1000000) (disch:=first | assumption | (apply ν6;assumption)) only [vz,vu,vv,eqS,eF_,↓c1_,↓c2_,tabs,reduceCtorEq,ι5,↓reduceIte,ν1,ν2,ν3,ν4,ν5,ι1,ι2,ι3,ι4,lA_ (st.get 0 rfl),lnN,mpI_len,hr,e6,Int.toNat_natCast])
    refine ⟨by omega,by omega,by omega,by omega,by omega,fun h3=>?_,fun h3=>?_⟩
    ·have hset:=setN (fun p=>((mtP pf goals t j p:Nat):Int)) hp ((t+1:Nat):Int)
     have hup:updI (fun p=>((mtP pf goals t j p:Nat):Int)) (pf w) ((t+1:Nat):Int)=fun p=>((mtP pf goals t (j+1) p:Nat):Int):=by
      funext p
      rw [hs]
      unfold updI
      by_cases e:p=pf w
      ·subst e
       have h3':mtP pf goals t j (pf w)=t:=by omega
       simp only [if_pos,h3',and_self]
      ·simp only [e,false_and,if_false]
     (try simp (maxSteps:=1000000) (disch:=first | assumption | (apply ν6;assumption)) only [vz,vu,vv,eqS,eF_,↓c1_,↓c2_,tabs,reduceCtorEq,ι5,↓reduceIte,ν1,ν2,ν3,ν4,ν5,ι1,ι2,ι3,ι4,sA_ (st.get 0 rfl),lnN,mpI_len,e5,e6,Int.toNat_natCast])
     repeat refine ⟨by omega,?_⟩
     rw [hset,hup]
     exact ⟨(j+1,_),⟨by simp only;omega,st.put 0 rfl (cP fI (mpI (fun p=>((mtP pf goals t (j+1) p:Nat):Int)) g.length))⟩,by simp only;omega,.refl _,Heap.le_refl _⟩
    ·have e:mtP pf goals t (j+1)=mtP pf goals t j:=by
      funext p
      rw [hs]
      simp only
      by_cases h:p=pf w∧mtP pf goals t j p=t
      ·obtain ⟨rfl,h⟩:=h
       exact absurd (by omega) h3
      ·rw [if_neg h]
     exact ⟨(j+1,G),⟨by simp only;omega,by simp only [e];exact st⟩,by simp only;omega,.refl _,Heap.le_refl _⟩
   ·have:j=(rwF goals t).length:=by omega
    subst this
    have hal:=mtP_all pf goals t
    rw [hgd] at hal
    rw [hal] at st
    (try simp (maxSteps:=1000000) (disch:=first | assumption | (apply ν6;assumption)) only [vz,vu,vv,eqS,eF_,↓c1_,↓c2_,tabs,reduceCtorEq,ι5,↓reduceIte,ν1,ν2,ν3,ν4,ν5,ι1,ι2,ι3,ι4,e5])
    exact ⟨(t+1,G),⟨by simp only;omega,st⟩,by simp only;omega,.refl _,Heap.le_refl _⟩
  ·have:t=goals.length:=by omega
   subst this
   exact last G st
 refine L66_0_rule ((0:Nat),G1) (fun z=>I z.1) (fun z=>z.2) (fun z=>z.1≤g.length∧St H [cT_ q2 (cP fI (mpI (fun p=>((mtF pf goals 0 p:Nat):Int)) g.length)),cT_ q1 (cP fB (mpB (aw1 (rwF g) z.1) g.length))] z.2) (fun z=>g.length - z.1)
  ⟨⟨by simp,st⟩,.refl _,Heap.le_refl _⟩ ?_
 clear st
 rintro ⟨k,G⟩ ⟨hk,st⟩
 dsimp only at hk st
 have e5:IntKind.i64.wrap ((k:Int)+1)=((k+1:Nat):Int):=by rw [i6_ (by omega) (by omega)];simp
 (try simp (maxSteps:=1000000) (disch:=first | assumption | (apply ν6;assumption)) only [vz,vu,vv,eqS,eF_,↓c1_,↓c2_,tabs,reduceCtorEq,ι5,↓reduceIte,ν1,ν2,ν3,ν4,ν5,ι1,ι2,ι3,ι4,B66_0,hig,hol,hpl])
 refine ⟨fun h1=>?_,fun h1=>?_⟩
 ·have hlt:k < g.length:=by omega
  have hrl:=hg.row hlt
  have hikl:=hil k
  have hp:=hpf k hlt
  have hr:=rdB (aw1 (rwF g) k) hp
  have hnl:=nL_ (inF (rwF g) k)
  have hup:updB (aw1 (rwF g) k) (pf k) (aw1 (rwF g) k (pf k) || decide (0 < (inF (rwF g) k).length))=aw1 (rwF g) (k+1):=by
   rw [haw];funext p;unfold updB
   by_cases e:p=pf k
   ·subst e;simp
   ·simp [e]
  have hset:=setB (aw1 (rwF g) k) hp (aw1 (rwF g) k (pf k) || decide (0 < (inF (rwF g) k).length))
  rw [hup] at hset
  have hput:=st.put 1 rfl (cP fB (mpB (aw1 (rwF g) (k+1)) g.length))
  rw [hgi k hlt,hpg k hlt]
  (try simp (maxSteps:=1000000) (disch:=first | assumption | (apply ν6;assumption)) only [vz,vu,vv,eqS,eF_,↓c1_,↓c2_,tabs,reduceCtorEq,ι5,↓reduceIte,ν1,ν2,ν3,ν4,ν5,ι1,ι2,ι3,ι4,lA_ (st.get 1 rfl),lnB,mpB_len,hr,hnl,Int.toNat_natCast])
  refine ⟨by omega,by omega,by omega,by omega,by omega,by omega,by omega,?_⟩
  cases ha:aw1 (rwF g) k (pf k)
  ·have ed:decide ((0:Int) < ((inF (rwF g) k).length:Int))=decide (0 < (inF (rwF g) k).length):=by rw [decide_eq_decide];omega
   rw [ha,Bool.false_or] at hset
   (try simp (maxSteps:=1000000) (disch:=first | assumption | (apply ν6;assumption)) only [vz,vu,vv,eqS,eF_,↓c1_,↓c2_,tabs,reduceCtorEq,ι5,↓reduceIte,ν1,ν2,ν3,ν4,ν5,ι1,ι2,ι3,ι4,sA_ (st.get 1 rfl),lnB,mpB_len,e5,ed,gt_iff_lt,Int.toNat_natCast])
   repeat refine ⟨by omega,?_⟩
   rw [hset]
   exact ⟨(k+1,_),⟨by simp only;omega,hput⟩,by simp only;omega,.refl _,Heap.le_refl _⟩
  ·rw [ha,Bool.true_or] at hset
   (try simp (maxSteps:=1000000) (disch:=first | assumption | (apply ν6;assumption)) only [vz,vu,vv,eqS,eF_,↓c1_,↓c2_,tabs,reduceCtorEq,ι5,↓reduceIte,ν1,ν2,ν3,ν4,ν5,ι1,ι2,ι3,ι4,sA_ (st.get 1 rfl),lnB,mpB_len,e5,Int.toNat_natCast])
   repeat refine ⟨by omega,?_⟩
   rw [hset]
   exact ⟨(k+1,_),⟨by simp only;omega,hput⟩,by simp only;omega,.refl _,Heap.le_refl _⟩
 ·have:k=g.length:=by omega
  subst this
  exact gos G st
end Go.Proofs.YtohkciilfkhomaaGreat
namespace Go.Proofs.YtohkciilfkhomaaGreat
open Go Go.Sep Go.Pt
attribute [local irreducible] CallT
end Go.Proofs.YtohkciilfkhomaaGreat
namespace Go.Sep
open Go Go.RowKit Go.Proofs.YtohkciilfkhomaaGreat
structure ResU (R:AV→Heap→List Nat→Prop):Prop where
 loc:∀{r G G' D},R r G D→(∀y∈D,∀b,G y=some b→G' y=some b)→R r G' D
 gd:∀{r G D},R r G D→Gd2 r∧∀y∈D,∀bs,G y=some bs→∀c∈bs,GdC c
 sh:∀{r G D n G0},(∀q,n≤q→G0 q=none)→R r G D→R (sh2 n r) (Heap.or G0 (shH n G)) (D.map (·+n))
theorem thawU {R:AV→Heap→List Nat→Prop} (hR:ResU R) {P:Program} {f:Nat} {args args':List AV} {G G1:Heap} {K:AV→Heap→Prop}
  (hf:∀{K:AV→Heap→Prop},(∀r G D,R r G D→New (fun _=>none) G D→K r G)→CallT P f args' (fun _=>none) K)
  (hw:Wk (.tup args) G (.tup args') G1) (h:∀r G' D,R r G' D→New G G' D→K r G'):CallT P f args G K:=by
 refine CallT.thawX (Q':=fun r H'=>∃D,R r H' D∧D.Nodup∧∀y,y∉D→H' y=none) ?_ ?_ hw ?_
 ·refine CallT.fin (hf fun r G D hl hn=>⟨_,only D G,.forget (only_le D G),D,hR.loc hl fun y hy b hb=>by rw [only_in hy];exact hb,hn.nd,fun y hy=>only_out hy⟩)
 ·rintro r H' ⟨D,hl,_,hout⟩
  refine ⟨(hR.gd hl).1,fun q cs hq=>?_⟩
  by_cases hD:q∈D
  ·exact (hR.gd hl).2 q hD cs hq
  ·rw [hout q hD] at hq;cases hq
 ·rintro r H' n ⟨D,hl,hnd,hout⟩ hn
  refine h _ _ (D.map (·+n)) (hR.sh hn hl) ⟨?_,fun y hy=>?_,fun y b hb=>by simp only [Heap.or,hb]⟩
  ·exact List.pairwise_map.2 (hnd.imp fun h e=>h (Nat.add_right_cancel e))
  ·obtain ⟨z,_,rfl⟩:=List.mem_map.1 hy
   exact hn _ (by omega)
end Go.Sep
namespace Go.Proofs.YtohkciilfkhomaaGreat
open Go Go.Sep Go.Pt
attribute [local irreducible] CallT
theorem LPg.sl {p:Pg} {v:AV} {G:Heap} {D:List Nat} (h:LPg p v G D):∃q1 q2,v=.agg [I p.wide,I p.vars,.sl q1 2 0 p.start.length,.sl q2 2 0 p.cmds.length]:=by
 obtain ⟨x,y,E1,E2,rfl,rfl,hx,hy⟩:=h
 obtain ⟨qx,rfl⟩:=LRow.sl hx
 obtain ⟨qy,rfl⟩:=LRow.sl hy
 exact ⟨qx,qy,rfl⟩
end Go.Proofs.YtohkciilfkhomaaGreat
namespace Go.Proofs.YtohkciilfkhomaaGreat
open Go Go.Sep Go.Pt
attribute [local irreducible] CallT
theorem lit_row {x:Int} {G:Heap} {K:AV→Heap→Prop} (h:∀q,G q=none→K (.sl q 1 0 1) (G.set q (cP fI [x]))):bS_ tab 24 1 [(0,I x)] G (wkK K):=by
 simp only [bS_,tab_24,tab_3]
 refine ⟨by omega,?_⟩
 exact fun r hr=>wkK.keep (h r hr)
theorem nxt_at {s:Nat→Int} {row:Nat→List Nat} {v j:Nat} (hj:j < (row v).length) (hn:∀i,i < j→s ((row v).getD i 0)≠s v - 1) (hp:s ((row v).getD j 0)=s v - 1):nxtF s row v=(row v).getD j 0:=by
 have e:(row v).find? (fun w=>decide (s w=s v - 1))=some ((row v).getD j 0):=by
  rw [List.find?_eq_some_iff_getElem]
  refine ⟨by simpa using hp,j,hj,by simp [List.getD,hj],fun i hi=>?_⟩
  have:=hn i hi
  simp [List.getD,show i < (row v).length by omega] at this
  simpa using this
 rw [nxtF,e];rfl
theorem near_at {s:Nat→Int} {row:Nat→List Nat} (h:Near s row) {v:Nat} (hv:0 < s v):∃j,j < (row v).length∧s ((row v).getD j 0)=s v - 1:=by
 obtain ⟨w,h1,h2⟩:=h.nx v hv
 obtain ⟨j,hj,e⟩:=List.getElem_of_mem h1
 exact ⟨j,hj,by simp [List.getD,hj,e,h2]⟩
theorem toF_turn {g:List (List Nat)} (hg:GrB g) (to:List Nat):farF (rwF (turnG g)) (turnG g).length to=toF (rwF g) g.length to:=by rw [turnG_row hg.gr,turnG_len];rfl
theorem itK_succ (s:Nat→Int) (row:Nat→List Nat) (v k:Nat):(List.range (k+1+1)).map (itF s row v)=(List.range (k+1)).map (itF s row v)++[nxtF s row (itF s row v k)]:=by
 rw [List.range_succ,List.map_append];rfl
def wayV (row:Nat→List Nat) (n:Nat) (some to:List Nat):AV:=.tup [Is (nI (lwayF row n some to)),B (!decide (bestF (toF row n to) some < 0))]
def RPt (l:List Nat) (ok:Bool) (r:AV) (G:Heap) (D:List Nat):Prop:=∃x,r=.tup [x,B ok]∧RN (LPl eI) 1 x (nI l) G D
theorem RPt.res (l:List Nat) (ok:Bool):ResU (RPt l ok):=by
 refine ⟨?_,?_,?_⟩
 ·rintro r G G' D ⟨v,rfl,h⟩ hf
  exact ⟨v,rfl,h.local (LPl.local eI) hf⟩
 ·rintro r G D ⟨v,rfl,h⟩
  have gb:Gd1 (B ok):=.inr ⟨.p (.bool ok),fun _=>rfl⟩
  have gv:Gd1 v∧∀y∈D,∀bs,G y=some bs→∀c∈bs,GdC c:=by
   rcases rnI_cases h with ⟨rfl,_,rfl⟩ | ⟨q,rfl,hq,rfl⟩
   ·exact ⟨.inr ⟨.p .nil,fun _=>rfl⟩,fun y hy=>by cases hy⟩
   ·refine ⟨.inr ⟨.inl ⟨_,_,_,_,rfl⟩,fun _=>rfl⟩,fun y hy bs hb c hc=>?_⟩
    rw [List.mem_singleton.1 hy,hq] at hb;cases hb
    obtain ⟨z,_,rfl⟩:=List.mem_map.1 hc
    exact .p (.int _ _)
  refine ⟨.inl ⟨_,rfl,fun u hu=>?_⟩,gv.2⟩
  rcases List.mem_cons.1 hu with rfl | hu
  ·exact gv.1
  ·rw [List.mem_singleton] at hu;rw [hu];exact gb
 ·rintro r G D n G0 h0 ⟨v,rfl,h⟩
  rcases rnI_cases h with ⟨rfl,hl,rfl⟩ | ⟨q,rfl,hq,rfl⟩
  ·exact ⟨_,rfl,.inl ⟨rfl,hl,rfl⟩⟩
  ·refine ⟨_,rfl,?_⟩
   have e:shC n (rowP q (nI l))=rowP (q+n) (nI l):=rfl
   refine rnI_mk ?_
   have em:(cP fI (nI l)).map (shC n)=cP fI (nI l):=by rw [cP,List.map_map];rfl
   simp only [Heap.or,h0 (q+n) (by omega),shH,Nat.le_add_left,if_true,Nat.add_sub_cancel,hq,Option.map_some,em]
theorem l11Path_row (g:List (List Nat)) (hg:GrB g) (hg2:GrB (turnG g)) (some to:List Nat) (hs:∀v∈some,v < g.length) (hsl:some.length≤500000) (ht:∀v∈to,v < g.length) (htl:to.length≤100000)
  {H:Heap} {K:AV→Heap→Prop} (hK:∀x G D,RN (LPl eI) 1 x (nI (lwayF (rwF g) g.length some to)) G D→New H G D→K (.tup [x,B (!decide (bestF (toF (rwF g) g.length to) some < 0))]) G) :
  CallT Tryz.prog 90 [Ls (gI g),Is (nI some),Is (nI to)] H K:=by
 have hn:=hg.n
 have hgl:=gI_len g
 have hsn:=nL_ some
 refine W90_ok ?_;simp (maxSteps:=1000000) (disch:=first | assumption | (apply ν6;assumption)) only [W90,vz,vu,vv,eqS,eF_,↓c1_,↓c2_,tabs,reduceCtorEq,ι5,↓reduceIte,ν1,ν2,ν3,ν4,ν5,ι1,ι2,ι3,ι4,hsn]
 refine Pu.use (sp_spec.l11Turn g hg) ?_
 have hfar:=sp_l11Far (turnG g) hg2 to (by rw [turnG_len];exact ht) htl
 rw [toF_turn hg,turnG_len] at hfar
 refine Pu.use hfar ?_
 have hnear:=toF_near hg.gr ht
 have hbd:=toF_bd hg.gr ht
 have hwl:lwayF (rwF g) g.length some to=if bestF (toF (rwF g) g.length to) some < 0 then [] else wayF (toF (rwF g) g.length to) (rwF g) (bestF (toF (rwF g) g.length to) some).toNat:=rfl
 have hbc:=bestF_cases (toF (rwF g) g.length to)
 generalize toF (rwF g) g.length to=far at hnear hbd hwl hbc hK
 have hml:=mpI_len far g.length
 have hmg:=fun v (h:v < g.length)=>mpI_get far h
 (try simp (maxSteps:=1000000) (disch:=first | assumption | (apply ν6;assumption)) only [vz,vu,vv,eqS,eF_,↓c1_,↓c2_,tabs,reduceCtorEq,ι5,↓reduceIte,ν1,ν2,ν3,ν4,ν5,ι1,ι2,ι3,ι4])
 have go:∀(v q:Nat) (G:Heap),v < g.length→0≤far v→bestF far some=(v:Int)→St H [rnI (rowP q (nI [v])) (nI [v]) [q]] G→
   L90_1 K (Ls (gI g)) (Is (mpI far g.length)) (I v) (rowP q (nI [v])) G:=by
  intro v q G hv h0 hb st
  have hvb:=hbd v
  refine L90_1_rule ((0:Nat),q,G) (fun z=>I (itF far (rwF g) v z.1:Nat)) (fun z=>rowP z.2.1 (nI ((List.range (z.1+1)).map (itF far (rwF g) v)))) (fun z=>z.2.2) (fun z=>(z.1:Int)≤far v∧St H [rnI (rowP z.2.1 (nI ((List.range (z.1+1)).map (itF far (rwF g) v)))) (nI ((List.range (z.1+1)).map (itF far (rwF g) v))) [z.2.1]] z.2.2) (fun z=>(far v).toNat - z.1)
   ⟨⟨by simpa using h0,st⟩,.refl _,.refl _,Heap.le_refl _⟩ ?_
  clear st q G
  rintro ⟨k,q,G⟩ ⟨hk,st⟩
  dsimp only at hk st
  have hsk:=itF_s hnear (v:=v) k hk
  have hbk:=hbd (itF far (rwF g) v k)
  have hisc:=itK_succ far (rwF g) v k
  have hik:itF far (rwF g) v (k+1)=nxtF far (rwF g) (itF far (rwF g) v k):=rfl
  generalize hu:itF far (rwF g) v k=u at hsk hbk hisc hik
  have hun:u < g.length:=hbk.2.2 (by omega)
  simp only [hu]
  (try simp (maxSteps:=1000000) (disch:=first | assumption | (apply ν6;assumption)) only [vz,vu,vv,eqS,eF_,↓c1_,↓c2_,tabs,reduceCtorEq,ι5,↓reduceIte,ν1,ν2,ν3,ν4,ν5,ι1,ι2,ι3,ι4,B90_1,hml,hgl])
  rw [hmg u hun]
  refine ⟨by omega,by omega,fun h1=>?_,fun h1=>?_⟩
  ·refine ⟨by omega,by omega,?_⟩
   rw [gI_get hun]
   have hrn:=nL_ (rwF g u)
   have hrl:=hg.row hun
   have e6:IntKind.i64.wrap (far u - 1)=far u - 1:=i6_ (by omega) (by omega)
   (try simp (maxSteps:=1000000) (disch:=first | assumption | (apply ν6;assumption)) only [vz,vu,vv,eqS,eF_,↓c1_,↓c2_,tabs,reduceCtorEq,ι5,↓reduceIte,ν1,ν2,ν3,ν4,ν5,ι1,ι2,ι3,ι4,hrn])
   refine L90_2_rule (0:Nat) (fun _=>I (u:Nat)) (fun j=>I j) (fun _=>G) (fun j=>j≤(rwF g u).length∧∀i,i < j→far ((rwF g u).getD i 0)≠far u - 1) (fun j=>(rwF g u).length - j) ⟨⟨by simp,fun i hi=>by omega⟩,.refl _,.refl _,Heap.le_refl _⟩ ?_
   rintro j ⟨hj,hno⟩
   have e5:IntKind.i64.wrap ((j:Int)+1)=((j+1:Nat):Int):=by rw [i6_ (by omega) (by omega)];simp
   (try simp (maxSteps:=1000000) (disch:=first | assumption | (apply ν6;assumption)) only [vz,vu,vv,eqS,eF_,↓c1_,↓c2_,tabs,reduceCtorEq,ι5,↓reduceIte,ν1,ν2,ν3,ν4,ν5,ι1,ι2,ι3,ι4,B90_2,hrn,hml])
   refine ⟨fun h2=>?_,fun h2=>?_⟩
   ·have hlj:j < (rwF g u).length:=by omega
    refine ⟨by omega,h2,?_⟩
    rw [nI_get hlj,Int.toNat_natCast]
    have hw:=hg.lt hlj
    have hnx:=nxt_at (s:=far) (row:=rwF g) (v:=u) hlj hno
    generalize hwe:(rwF g u).getD j 0=w at hw hnx ⊢
    rw [hmg w hw,hmg u hun,e6]
    refine ⟨by omega,by omega,by omega,by omega,fun h3=>?_,fun h3=>?_⟩
    ·have hnx:=hnx h3
     rw [hnx] at hisc hik
     refine lit1 tab_24 rfl tab_3 ⟨rfl,rfl⟩ ?_
     refine rn_appI (ys:=[(w:Int)]) st 0 rfl (by rw [nL_,List.length_map,List.length_range];simp only [List.length_cons,List.length_nil];omega) fun q' G' hq' st=>?_
     simp only [List.set_cons_zero] at st
     rw [← nI_one,← nI_app,← hisc] at st ⊢
     exact ⟨(k+1,q',G'),⟨by simp only;omega,st⟩,by simp only;omega,by simp only [hik];exact .refl _,.refl _,Heap.le_refl _⟩
    ·(try simp (maxSteps:=1000000) (disch:=first | assumption | (apply ν6;assumption)) only [vz,vu,vv,eqS,eF_,↓c1_,↓c2_,tabs,reduceCtorEq,ι5,↓reduceIte,ν1,ν2,ν3,ν4,ν5,ι1,ι2,ι3,ι4,e5])
     refine ⟨j+1,⟨by omega,fun i hi=>?_⟩,by omega,.refl _,.refl _⟩
     rcases Nat.lt_succ_iff_lt_or_eq.1 hi with h | rfl
     ·exact hno i h
     ·rw [hwe];exact h3
   ·exfalso
    obtain ⟨i,hi,hp⟩:=near_at hnear (v:=u) h1
    exact hno i (by omega) hp
  ·have hek:(far v).toNat+1=k+1:=by omega
   have hway:lwayF (rwF g) g.length some to=(List.range (k+1)).map (itF far (rwF g) v):=by
    rw [hwl,if_neg (by omega),hb,Int.toNat_natCast,wayF,hek]
   have hdb:decide (bestF far some < 0)=false:=by rw [decide_eq_false_iff_not];omega
   have:=hK (rowP q (nI ((List.range (k+1)).map (itF far (rwF g) v)))) G [q] (by rw [hway];exact st.get 0 rfl) ⟨st.ndT 0 rfl,st.fr _ (List.mem_cons_self ..),st.le⟩
   rw [hdb] at this
   exact this
 refine L90_0_rule (0:Nat) (fun k=>I (bestF far (some.take k))) (fun k=>I k) (fun _=>H) (fun k=>k≤some.length) (fun k=>some.length - k) ⟨by simp,.refl _,.refl _,Heap.le_refl _⟩ ?_
 intro k hk
 have e5:IntKind.i64.wrap ((k:Int)+1)=((k+1:Nat):Int):=by rw [i6_ (by omega) (by omega)];simp
 (try simp (maxSteps:=1000000) (disch:=first | assumption | (apply ν6;assumption)) only [vz,vu,vv,eqS,eF_,↓c1_,↓c2_,tabs,reduceCtorEq,ι5,↓reduceIte,ν1,ν2,ν3,ν4,ν5,ι1,ι2,ι3,ι4,B90_0,hsn,hml,e5])
 refine ⟨fun h1=>?_,fun h1=>?_⟩
 ·have hlt:k < some.length:=by omega
  refine ⟨by omega,h1,?_⟩
  rw [nI_get hlt,Int.toNat_natCast]
  have hv:=hs (some.getD k 0) (by simp [List.getD,hlt])
  have hsc:bestF far (some.take (k+1))=bput1 far (bestF far (some.take k)) (some.getD k 0):=by
   rw [tS_ hlt,bestF_snoc];rfl
  have hbk:bestF far (some.take k) < 0∨bestF far (some.take k) < g.length:=by
   rcases hbc (some.take k) with ⟨e,_⟩ | ⟨u,hu,e,_⟩
   ·omega
   ·have:=hs u (List.mem_of_mem_take hu)
    omega
  generalize some.getD k 0=w at hv hsc ⊢
  generalize bestF far (some.take k)=mk at hsc hbk ⊢
  have yes:bestF far (some.take (k+1))=(w:Int)→∃s':Nat,s'≤some.length∧some.length - s' < some.length - k∧(I (w:Int)).wk (I (bestF far (some.take s')))∧(I ((k+1:Nat):Int)).wk (I s'):=
   fun h=>⟨k+1,by omega,by omega,by rw [h];exact .refl _,.refl _⟩
  have no:bestF far (some.take (k+1))=mk→∃s':Nat,s'≤some.length∧some.length - s' < some.length - k∧(I mk).wk (I (bestF far (some.take s')))∧(I ((k+1:Nat):Int)).wk (I s'):=
   fun h=>⟨k+1,by omega,by omega,by rw [h];exact .refl _,.refl _⟩
  rw [hmg w hv]
  have hp:¬mk < 0→0≤mk∧mk < g.length∧mk.toNat < g.length:=by clear yes no;omega
  refine ⟨by clear yes no;omega,by clear yes no;omega,fun h3=>⟨fun h4=>?_,fun h4=>⟨by clear yes no;omega,by clear yes no;omega,(hp h4).1,(hp h4).2.1,?_⟩⟩,fun h3=>?_⟩
  ·exact yes (by rw [hsc,bput1,if_pos ⟨h3,.inl h4⟩])
  ·rw [hmg mk.toNat (hp h4).2.2]
   refine ⟨fun h5=>yes ?_,fun h5=>no ?_⟩
   ·rw [hsc,bput1,if_pos ⟨h3,.inr h5⟩]
   ·rw [hsc,bput1,if_neg (fun h=>h5 (h.2.resolve_left h4))]
  ·exact no (by rw [hsc,bput1,if_neg (fun h=>h3 h.1)])
 ·have:k=some.length:=by omega
  subst this
  rw [List.take_length]
  refine ⟨fun h2=>?_,fun h2=>?_⟩
  ·have:=hK (.p .nil) H [] (.inl ⟨rfl,by rw [hwl,if_pos h2];rfl,rfl⟩) ⟨.nil,fun y hy=>(by cases hy),Heap.le_refl _⟩
   rw [decide_eq_true h2] at this
   exact this
  ·rcases hbc some with ⟨e,_⟩ | ⟨v,hv,e,h0,_⟩
   ·omega
   ·rw [e] at h2 ⊢
    refine lit_row fun q hq=>?_
    have st:=(St.nil H).push (rnI (rowP q (nI [v])) (nI [v]) [q]) (New.cell (b:=cP fI (nI [v])) hq) (rnI_mk (Heap.set_same _ _ _))
    exact go v q _ (hs v hv) h0 e st
theorem rn_wk2 {x:AV} {l:List Int} {G:Heap} {D:List Nat} (h:RN (LPl eI) 1 x l G D) (y:AV):∃G',Wk (.tup [x,y]) G (.tup [Is l,y]) G'∧∀z,z∉D→G' z=G z:=by
 rcases rnI_cases h with ⟨rfl,rfl,rfl⟩ | ⟨q,rfl,hq,rfl⟩
 ·exact ⟨G,.val (wk_tup ⟨.nil,.refl _,trivial⟩),fun _ _=>rfl⟩
 ·refine ⟨G.del q,?_,fun z hz=>Heap.del_other (by simpa using hz)⟩
  have:=wkPart (off:=0) (n:=l.length) hq (by omega) [y] []
  rwa [List.drop_zero,List.take_length] at this
theorem l11Path_spec (g:List (List Nat)) (hg:GrB g) (hg2:GrB (turnG g)) (some to:List Nat) (hs:∀v∈some,v < g.length) (hsl:some.length≤500000) (ht:∀v∈to,v < g.length) (htl:to.length≤100000) :
  Pu Tryz.prog 90 [Ls (gI g),Is (nI some),Is (nI to)] (wayV (rwF g) g.length some to):=by
 refine ⟨fun H=>CallT.fin (l11Path_row g hg hg2 some to hs hsl ht htl fun x G D hx hn=>?_)⟩
 obtain ⟨G',w,f⟩:=rn_wk2 hx (B (!decide (bestF (toF (rwF g) g.length to) some < 0)))
 refine ⟨_,H,.trans w (.forget fun z b hb=>?_),rfl,rfl⟩
 rw [f z (fun hz=>by rw [hn.fr z hz] at hb;cases hb)]
 exact hn.le z b hb
end Go.Proofs.YtohkciilfkhomaaGreat
namespace Go.Proofs.YtohkciilfkhomaaGreat
open Go Go.Sep Go.Pt
attribute [local irreducible] CallT
theorem turnG_B {g:List (List Nat)} (hg:GrB g):GrB (turnG g):=by
 have ht:=turn_ok hg.gr
 refine ⟨?_,by rw [turnG_len];exact hg.n,?_⟩
 ·intro l hl x hx
  obtain ⟨v,_,rfl⟩:=List.mem_map.1 hl
  rw [turnG_len]
  exact ht.lt v x hx
 ·rw [prT_sum,turnG_len,turnG_row hg.gr]
  have e:turnF (rwF g) g.length=rowP' (prT g g.length 0):=by funext w;exact (prT_turn g w).symm
  rw [e,sumN_rows (prT_lt hg.gr)]
  exact hg.arcs
theorem inG_B {g:List (List Nat)} (hg:GrB g):GrB (inG g):=by
 refine ⟨?_,by rw [inG_len];exact hg.n,?_⟩
 ·intro l hl x hx
  obtain ⟨v,_,rfl⟩:=List.mem_map.1 hl
  rw [inG_len]
  exact hg.gr.lt v x (inF_mem.1 hx).1
 ·rw [prT_sum,inG_len,inG_row hg]
  refine Nat.le_trans (sumN_mono fun v=>?_) (by rw [← prT_sum];exact hg.arcs)
  rw [inF_cB];exact List.length_filter_le _ _
theorem st_appL {H G:Heap} {Ts:List Th} {q:Nat} {xs:List Int} (s:St H Ts G) (i:Nat) (hi:Ts[i]?=some (cT_ q (cP fI xs))) {q2 off n:Nat} {l:List Int} (hq2:G q2=some (cP fI l)) (hb:off+n≤l.length) (hl:xs.length+n≤1000000) {K:AV→Heap→Prop}
  (h:∀q' G',G q'=none→St H (Ts.set i (cT_ q' (cP fI (xs++(l.drop off).take n)))) G'→K (rowP q' (xs++(l.drop off).take n)) G'):aP_ tab 24 24 (rowP q xs) (.sl q2 1 off n) G (wkK K):=by
 have hq:G q=some (cP fI xs):=s.get i hi
 simp only [aP_,tab_24,tab_3,srcV,baseV,hq,hq2]
 have e1:List.take (n*1) (List.drop off (cP fI l))=cP fI ((l.drop off).take n):=by rw [Nat.mul_one,cP,← List.map_drop,← List.map_take]
 have e3:List.take (xs.length*1) (List.drop 0 (cP fI xs))=cP fI xs:=by rw [List.drop_zero,Nat.mul_one];exact List.take_of_length_le (by rw [cI_len];exact Nat.le_refl _)
 rw [e1,e3,cI_len,cI_len]
 refine ⟨trivial,by omega,trivial,by omega,by omega,by omega,cP_all _,fun r' hr'=>wkK.keep ?_⟩
 have hl2:((l.drop off).take n).length=n:=by rw [List.length_take,List.length_drop];omega
 have:=h r' _ hr' (s.moved i hi hr')
 rw [rowP,List.length_append,hl2,cI_app] at this
 exact this
theorem ownF_eq (row:Nat→List Nat) (m:Nat) (l:List Nat):ownF row m l=l.filter fun v=>decide (partF (aO_ row) v=partF (aO_ row) m):=by
 unfold ownF
 apply List.filter_congr
 intro v _
 rw [decide_eq_decide]
 exact ⟨fun h=>partF_iff.2 h.symm,fun h=>(partF_iff.1 h).symm⟩
noncomputable def laS (row:Nat→List Nat) (n:Nat) (some:List Nat) (goals:List (List Nat)):List Nat:=if meetF row n some goals < 0 then [] else stemF row n (meetF row n some goals).toNat some
noncomputable def laL (row:Nat→List Nat) (n:Nat) (some:List Nat) (goals:List (List Nat)):List Nat:=if meetF row n some goals < 0 then [] else ringF row n (meetF row n some goals).toNat goals
noncomputable def laB (row:Nat→List Nat) (n:Nat) (some:List Nat) (goals:List (List Nat)):Bool:=!decide (meetF row n some goals < 0)
noncomputable def lassoV (row:Nat→List Nat) (n:Nat) (some:List Nat) (goals:List (List Nat)):AV:=.tup [Is (nI (laS row n some goals)),Is (nI (laL row n some goals)),B (laB row n some goals)]
theorem l11Lasso_spec (g:List (List Nat)) (hg:GrB g) (some:List Nat) (hs:∀v∈some,v < g.length) (hsl:some.length≤100000) (goals:List (List Nat)) (b:Nat) (hgo:GoB goals g.length) (hgb:∀l∈goals,l.length≤b) (hB:(goals.length+1)*(g.length+b+2)≤800000) :
  Pu Tryz.prog 36 [Ls (gI g),Is (nI some),Ls (gI goals)] (lassoV (rwF g) g.length some goals):=by
 refine ⟨fun H=>CallT.fin ?_⟩
 have hn:=hg.n
 have hg2:=turnG_B hg
 have hgi:=inG_B hg
 have hgi2:=turnG_B hgi
 have hgl:=gI_len g
 have hol:=gI_len goals
 have hon:=hgo.len
 have hfl:=filter_range_len (fairF (rwF g) goals) g.length
 have hfn:=nL_ ((List.range g.length).filter (fairF (rwF g) goals))
 refine W36_ok ?_;simp (maxSteps:=1000000) (disch:=first | assumption | (apply ν6;assumption)) only [W36,vz,vu,vv,eqS,eF_,↓c1_,↓c2_,tabs,reduceCtorEq,ι5,↓reduceIte,ν1,ν2,ν3,ν4,ν5,ι1,ι2,ι3,ι4,hfn]
 refine Pu.use (sp_l11Far g hg some hs hsl) ?_
 refine Pu.use (l11Fair_spec g hg hg2 goals hgo) ?_
 have hmeet:bestF (farF (rwF g) g.length some) ((List.range g.length).filter (fairF (rwF g) goals))=meetF (rwF g) g.length some goals:=rfl
 have hfm:∀v∈(List.range g.length).filter (fairF (rwF g) goals),v < g.length:=fun v hv=>List.mem_range.1 (List.mem_filter.1 hv).1
 have hml:=mpI_len (farF (rwF g) g.length some) g.length
 have hmg:=fun v (h:v < g.length)=>mpI_get (farF (rwF g) g.length some) h
 have hbc:=bestF_cases (farF (rwF g) g.length some)
 generalize farF (rwF g) g.length some=far at hmeet hml hmg hbc
 generalize (List.range g.length).filter (fairF (rwF g) goals)=fl at hmeet hfl hfn hfm
 (try simp (maxSteps:=1000000) (disch:=first | assumption | (apply ν6;assumption)) only [vz,vu,vv,eqS,eF_,↓c1_,↓c2_,tabs,reduceCtorEq,ι5,↓reduceIte,ν1,ν2,ν3,ν4,ν5,ι1,ι2,ι3,ι4,hfn])
 refine L36_0_rule (0:Nat) (fun k=>I (bestF far (fl.take k))) (fun k=>I k) (fun _=>H) (fun k=>k≤fl.length) (fun k=>fl.length - k) ⟨by simp,.refl _,.refl _,Heap.le_refl _⟩ ?_
 intro k hk
 have e5:IntKind.i64.wrap ((k:Int)+1)=((k+1:Nat):Int):=by rw [i6_ (by omega) (by omega)];simp
 (try simp (maxSteps:=1000000) (disch:=first | assumption | (apply ν6;assumption)) only [vz,vu,vv,eqS,eF_,↓c1_,↓c2_,tabs,reduceCtorEq,ι5,↓reduceIte,ν1,ν2,ν3,ν4,ν5,ι1,ι2,ι3,ι4,B36_0,hfn,hml,e5])
 refine ⟨fun h1=>?_,fun h1=>?_⟩
 ·have hlt:k < fl.length:=by omega
  refine ⟨by omega,h1,?_⟩
  rw [nI_get hlt,Int.toNat_natCast]
  have hv:=hfm (fl.getD k 0) (by simp [List.getD,hlt])
  have hsc:bestF far (fl.take (k+1))=bput1 far (bestF far (fl.take k)) (fl.getD k 0):=by
   rw [tS_ hlt,bestF_snoc];rfl
  have hbk:bestF far (fl.take k) < 0∨bestF far (fl.take k) < g.length:=by
   rcases hbc (fl.take k) with ⟨e,_⟩ | ⟨u,hu,e,_⟩
   ·omega
   ·have:=hfm u (List.mem_of_mem_take hu)
    omega
  generalize fl.getD k 0=w at hv hsc ⊢
  generalize bestF far (fl.take k)=mk at hsc hbk ⊢
  have yes:bestF far (fl.take (k+1))=(w:Int)→∃s':Nat,s'≤fl.length∧fl.length - s' < fl.length - k∧(I (w:Int)).wk (I (bestF far (fl.take s')))∧(I ((k+1:Nat):Int)).wk (I s'):=
   fun h=>⟨k+1,by omega,by omega,by rw [h];exact .refl _,.refl _⟩
  have no:bestF far (fl.take (k+1))=mk→∃s':Nat,s'≤fl.length∧fl.length - s' < fl.length - k∧(I mk).wk (I (bestF far (fl.take s')))∧(I ((k+1:Nat):Int)).wk (I s'):=
   fun h=>⟨k+1,by omega,by omega,by rw [h];exact .refl _,.refl _⟩
  rw [hmg w hv]
  have hp:¬mk < 0→0≤mk∧mk < g.length∧mk.toNat < g.length:=by clear yes no;omega
  refine ⟨by clear yes no;omega,by clear yes no;omega,fun h3=>⟨fun h4=>?_,fun h4=>⟨by clear yes no;omega,by clear yes no;omega,(hp h4).1,(hp h4).2.1,?_⟩⟩,fun h3=>?_⟩
  ·exact yes (by rw [hsc,bput1,if_pos ⟨h3,.inl h4⟩])
  ·rw [hmg mk.toNat (hp h4).2.2]
   refine ⟨fun h5=>yes ?_,fun h5=>no ?_⟩
   ·rw [hsc,bput1,if_pos ⟨h3,.inr h5⟩]
   ·rw [hsc,bput1,if_neg (fun h=>h5 (h.2.resolve_left h4))]
  ·exact no (by rw [hsc,bput1,if_neg (fun h=>h3 h.1)])
 ·have:k=fl.length:=by omega
  subst this
  rw [List.take_length,hmeet]
  clear hmeet hbc hmg hml hfm hfl hfn e5
  refine ⟨fun h2=>?_,fun h2=>?_⟩
  ·have e:lassoV (rwF g) g.length some goals=.tup [Is [],Is [],B false]:=by
    rw [lassoV,laS,laL,laB,if_pos h2,if_pos h2,decide_eq_true h2];rfl
   rw [e]
   exact ⟨_,_,.val (v':=.tup [Is [],Is [],B false]) (wk_tup ⟨.nil,.nil,.refl _,trivial⟩),rfl,rfl⟩
  ·obtain ⟨m,em,hm,hfair,hreach⟩:=meetF_pos hg.gr hs h2
   have e:lassoV (rwF g) g.length some goals=.tup [Is (nI (stemF (rwF g) g.length m some)),Is (nI (ringF (rwF g) g.length m goals)),B true]:=by
    rw [lassoV,laS,laL,laB,if_neg h2,if_neg h2,em,Int.toNat_natCast,decide_eq_false (by omega)];rfl
   rw [e,em]
   obtain ⟨FL,hsl2,hrl2,hbst,hpos⟩:=fair_lasso (b:=b) hg.gr hm hfair (fun l hl=>⟨hgo.lt l hl,hgb l hl⟩) hreach
   have hinv:=loopF_inv (b:=b) hg.gr hm hfair (fun l hl=>⟨hgo.lt l hl,hgb l hl⟩)
   refine lit1 tab_24 rfl tab_3 ⟨rfl,rfl⟩ ?_
   have hmo:∀v∈[m],v < g.length:=fun v hv=>by rw [List.mem_singleton.1 hv];exact hm
   refine Pu.use (l11Path_spec g hg hg2 some [m] hs (by omega) hmo (by simp)) ?_
   unfold wayV
   (try simp (maxSteps:=1000000) (disch:=first | assumption | (apply ν6;assumption)) only [vz,vu,vv,eqS,eF_,↓c1_,↓c2_,tabs,reduceCtorEq,ι5,↓reduceIte,ν1,ν2,ν3,ν4,ν5,ι1,ι2,ι3,ι4])
   refine Pu.use (l11Parts_spec g hg hg2) ?_
   refine Pu.use (within_spec g hg) ?_
   refine lit_row fun q hq=>?_
   have st:St H [cT_ q (cP fI (nI [m]))] (H.set q (cP fI [(m:Int)])):=(St.nil H).cell hq _
   generalize H.set q (cP fI [(m:Int)])=G at st ⊢
   have hpl:=prtI_len g
   have hpg:=fun v (h:v < g.length)=>prtI_get h
   have hil:=inG_len g
   have hirow:=inG_row hg
   have hilg:=gI_len (inG g)
   rw [hil] at hilg
   have hst:nI (stemF (rwF g) g.length m some)=(nI (lwayF (rwF g) g.length some [m])).take ((nI (lwayF (rwF g) g.length some [m])).length - 1):=by
    rw [nI_take,nL_,stemF,List.dropLast_eq_take]
   rw [hst]
   have hstl:(nI (lwayF (rwF g) g.length some [m])).length=(lwayF (rwF g) g.length some [m]).length:=nL_ _
   have hlwl:(lwayF (rwF g) g.length some [m]).length≤g.length+2:=(lwayF_spec hg.gr hmo hbst).2
   generalize nI (lwayF (rwF g) g.length some [m])=stm at hstl ⊢
   (try simp (maxSteps:=1000000) (disch:=first | assumption | (apply ν6;assumption)) only [vz,vu,vv,eqS,eF_,↓c1_,↓c2_,tabs,reduceCtorEq,ι5,↓reduceIte,ν1,ν2,ν3,ν4,ν5,ι1,ι2,ι3,ι4,hol])
   clear hq
   have e0:loopF (rwF g) g.length m (goals.take 0)=[m]:=rfl
   refine L36_1_rule ((0:Nat),q,G) (fun z=>rowP z.2.1 (nI (loopF (rwF g) g.length m (goals.take z.1)))) (fun z=>I z.1) (fun z=>z.2.2) (fun z=>z.1≤goals.length∧St H [cT_ z.2.1 (cP fI (nI (loopF (rwF g) g.length m (goals.take z.1))))] z.2.2) (fun z=>goals.length - z.1)
    ⟨⟨by simp,st⟩,.refl _,.refl _,Heap.le_refl _⟩ ?_
   clear st q G
   rintro ⟨t,q,G⟩ ⟨ht,st⟩
   dsimp only at ht st
   have hli:=hinv t ht
   have hll:=hli.len
   have hlast:=hli.last
   have hne:=hli.ne
   have hmul:(goals.take t).length*(g.length+b)≤goals.length*(g.length+b):=Nat.mul_le_mul_right _ (by rw [List.length_take];omega)
   have hB2:(goals.length+1)*(g.length+b+2)=goals.length*(g.length+b)+goals.length*2+(g.length+b+2):=by rw [Nat.add_mul,Nat.one_mul,Nat.mul_add]
   have e5:IntKind.i64.wrap ((t:Int)+1)=((t+1:Nat):Int):=by rw [i6_ (by omega) (by omega)];simp
   generalize hacc:loopF (rwF g) g.length m (goals.take t)=acc at st hli hll hlast hne
   have hal:(nI acc).length=acc.length:=nL_ acc
   simp only [hacc]
   (try simp (maxSteps:=1000000) (disch:=first | assumption | (apply ν6;assumption)) only [vz,vu,vv,eqS,eF_,↓c1_,↓c2_,tabs,reduceCtorEq,ι5,↓reduceIte,ν1,ν2,ν3,ν4,ν5,ι1,ι2,ι3,ι4,B36_1,hol,hal])
   refine ⟨fun h3=>?_,fun h3=>?_⟩
   ·have hlt:t < goals.length:=by omega
    refine ⟨by omega,h3,?_⟩
    rw [gI_get hlt]
    obtain ⟨hsz,hxlt⟩:=hgo.get hlt
    have hnl:=nL_ (rwF goals t)
    have hmem:rwF goals t∈goals:=by simp [rwF,List.getD,hlt]
    (try simp (maxSteps:=1000000) (disch:=first | assumption | (apply ν6;assumption)) only [vz,vu,vv,eqS,eF_,↓c1_,↓c2_,tabs,reduceCtorEq,ι5,↓reduceIte,ν1,ν2,ν3,ν4,ν5,ι1,ι2,ι3,ι4,hnl])
    have st:=st.push (rnI (.p .nil) (nI (((rwF goals t).take 0).filter fun v=>decide (partF (aO_ (rwF g)) v=partF (aO_ (rwF g)) m))) []) ⟨.nil,fun y hy=>(by cases hy),Heap.le_refl _⟩ (.inl ⟨rfl,rfl,rfl⟩)
    refine L36_2_rule ((0:Nat),(.p .nil:AV),([]:List Nat),G) (fun z=>z.2.1) (fun z=>I z.1) (fun z=>z.2.2.2)
     (fun z=>z.1≤(rwF goals t).length∧St H [rnI z.2.1 (nI (((rwF goals t).take z.1).filter fun v=>decide (partF (aO_ (rwF g)) v=partF (aO_ (rwF g)) m))) z.2.2.1,cT_ q (cP fI (nI acc))] z.2.2.2) (fun z=>(rwF goals t).length - z.1)
     ⟨⟨by simp,st⟩,.refl _,.refl _,Heap.le_refl _⟩ ?_
    clear st
    rintro ⟨j,x,D,G⟩ ⟨hj,st⟩
    dsimp only at hj st
    have e6:IntKind.i64.wrap ((j:Int)+1)=((j+1:Nat):Int):=by rw [i6_ (by omega) (by omega)];simp
    have hpm:=hpg m hm
    (try simp (maxSteps:=1000000) (disch:=first | assumption | (apply ν6;assumption)) only [vz,vu,vv,eqS,eF_,↓c1_,↓c2_,tabs,reduceCtorEq,ι5,↓reduceIte,ν1,ν2,ν3,ν4,ν5,ι1,ι2,ι3,ι4,B36_2,hnl,hpl,hpm,Int.toNat_natCast])
    refine ⟨fun h4=>?_,fun h4=>?_⟩
    ·have hlj:j < (rwF goals t).length:=by omega
     refine ⟨by omega,h4,?_⟩
     rw [nI_get hlj]
     have hx:=hxlt j hlj
     have htk:(rwF goals t).take (j+1)=(rwF goals t).take j++[(rwF goals t).getD j 0]:=tS_ hlj
     have hfl:(((rwF goals t).take j).filter fun v=>decide (partF (aO_ (rwF g)) v=partF (aO_ (rwF g)) m)).length≤100000:=Nat.le_trans (List.length_filter_le _ _) (by rw [List.length_take];omega)
     generalize (rwF goals t).getD j 0=w at hx htk ⊢
     rw [Int.toNat_natCast,hpg w hx,e6]
     refine ⟨by omega,by omega,by omega,by omega,fun h5=>?_,fun h5=>?_⟩
     ·have hd:decide (partF (aO_ (rwF g)) w=partF (aO_ (rwF g)) m)=true:=by rw [decide_eq_true_eq];omega
      refine lit1 tab_24 rfl tab_3 ⟨rfl,rfl⟩ ?_
      refine rn_appI (ys:=[(w:Int)]) st 0 rfl (by rw [nL_];simp only [List.length_cons,List.length_nil];omega) fun q' G' hq' st=>?_
      simp only [List.set_cons_zero] at st
      rw [← nI_one,← nI_app] at st ⊢
      have ef:((rwF goals t).take (j+1)).filter (fun v=>decide (partF (aO_ (rwF g)) v=partF (aO_ (rwF g)) m))=((rwF goals t).take j).filter (fun v=>decide (partF (aO_ (rwF g)) v=partF (aO_ (rwF g)) m))++[w]:=by
       rw [htk,List.filter_append,List.filter_cons,if_pos hd];rfl
      rw [← ef] at st ⊢
      exact ⟨(j+1,_,[q'],G'),⟨by simp only;omega,st⟩,by simp only;omega,.refl _,.refl _,Heap.le_refl _⟩
     ·have hd:¬decide (partF (aO_ (rwF g)) w=partF (aO_ (rwF g)) m)=true:=by rw [decide_eq_true_eq];omega
      have ef:((rwF goals t).take (j+1)).filter (fun v=>decide (partF (aO_ (rwF g)) v=partF (aO_ (rwF g)) m))=((rwF goals t).take j).filter (fun v=>decide (partF (aO_ (rwF g)) v=partF (aO_ (rwF g)) m)):=by
       rw [htk,List.filter_append,List.filter_cons,if_neg hd];simp
      exact ⟨(j+1,x,D,G),⟨by simp only;omega,by simp only [ef];exact st⟩,by simp only;omega,.refl _,.refl _,Heap.le_refl _⟩
    ·have:j=(rwF goals t).length:=by omega
     subst this
     rw [List.take_length,← ownF_eq] at st
     obtain ⟨hbest,hleg,hlp⟩:=loop_leg hg.gr hli (hfair.2 _ hmem) (hgo.lt _ hmem) (hgb _ hmem)
     have hown:∀v∈ownF (rwF g) m (rwF goals t),v < g.length:=fun v hv=>hgo.lt _ hmem v (ownF_mem.1 hv).1
     have hol2:(ownF (rwF g) m (rwF goals t)).length≤100000:=Nat.le_trans (List.length_filter_le _ _) hsz
     have hlegd:legF (rwF g) g.length m acc (rwF goals t)=acc++(lwayF (inF (rwF g)) g.length [lastF acc] (ownF (rwF g) m (rwF goals t))).tail:=rfl
     have hwl2:=(lwayF_spec (inF_ok hg.gr) hown hbest).2
     have hown0:ownF (rwF g) m (rwF goals t)≠[]:=by
      obtain ⟨y,y1,y2⟩:=hfair.2 _ hmem
      exact List.ne_nil_of_mem (ownF_mem.2 ⟨y1,y2⟩)
     have hnext:loopF (rwF g) g.length m (goals.take (t+1))=legF (rwF g) g.length m acc (rwF goals t):=by
      have:goals.take (t+1)=goals.take t++[rwF goals t]:=tS_ hlt
      rw [this,loopF_snoc,hacc]
     generalize ownF (rwF g) m (rwF goals t)=own at st hbest hleg hlp hown hol2 hlegd hwl2 hown0
     rcases rnI_cases (st.get 0 rfl) with ⟨_,h0,_⟩ | ⟨q4,rfl,hq4,rfl⟩
     ·exact absurd (List.map_eq_nil_iff.1 h0) hown0
     have e7:IntKind.i64.wrap ((acc.length:Int) - 1)=((acc.length - 1:Nat):Int):=by rw [i6_ (by omega) (by omega)];omega
     have e8:((acc.length:Int) - ((acc.length - 1:Nat):Int)).toNat=1:=by omega
     (try simp (maxSteps:=1000000) (disch:=first | assumption | (apply ν6;assumption)) only [vz,vu,vv,eqS,eF_,↓c1_,↓c2_,tabs,reduceCtorEq,ι5,↓reduceIte,ν1,ν2,ν3,ν4,ν5,ι1,ι2,ι3,ι4,hal,e7,e8,Int.toNat_natCast])
     refine ⟨by omega,by omega,by omega,?_⟩
     have hqa:G q=Option.some (cP fI (nI acc)):=st.get 1 rfl
     have hne4:q≠q4:=fun e=>st.disjI 0 1 rfl rfl (by decide) q4 (by simp [rnT]) (by simp [cT_,e])
     have hlastI:((nI acc).drop (acc.length - 1)).take 1=nI [lastF acc]:=by
      rw [nI_drop,nI_take]
      congr 1
      have:acc.length - 1 < acc.length:=by omega
      rw [drop_cons this];rfl
     have hwk:Wk (.tup [Ls (gI (inG g)),.sl q 1 ((acc.length - 1)*1) 1,rowP q4 (nI own)]) G (.tup [Ls (gI (inG g)),Is (nI [lastF acc]),Is (nI own)]) ((G.del q).del q4):=by
      refine .trans (Wk.frzS (r:=q) (es:=(nI acc).map fI) (v':=.tup [Ls (gI (inG g)),Is (nI [lastF acc]),rowP q4 (nI own)]) (by rw [hqa,List.map_map];rfl) (.tup (.cons (.same _) (.cons ?_ (.cons (.same _) .nil)))))
       (Wk.frzS (r:=q4) (es:=(nI own).map fI) (by rw [Heap.del_other (Ne.symm hne4),hq4,List.map_map];rfl) (.tup (.cons (.same _) (.cons (.same _) (.cons ?_ .nil)))))
      ·have:=FrzS.part (r:=q) (es:=(nI acc).map fI) (acc.length - 1) 1 (by rw [List.length_map,nL_];omega)
       have e:((((nI acc).map fI).drop (acc.length - 1)).take 1).map (fun v=>[v])=(nI [lastF acc]).map eI:=by
        rw [← List.map_drop,← List.map_take,hlastI,List.map_map];rfl
       rw [e] at this
       rw [Nat.mul_one];exact this
      ·have:=FrzS.part (r:=q4) (es:=(nI own).map fI) 0 (nI own).length (by simp)
       have e:((((nI own).map fI).drop 0).take (nI own).length).map (fun v=>[v])=(nI own).map eI:=by
        rw [List.drop_zero,List.take_of_length_le (by simp),List.map_map];rfl
       rw [e] at this
       exact this
     have hrow:=fun {H:Heap} {K:AV→Heap→Prop}=>l11Path_row (inG g) hgi hgi2 [lastF acc] own (fun v hv=>by rw [inG_len,List.mem_singleton.1 hv];exact hlast.2) (by simp) (fun v hv=>by rw [inG_len];exact hown v hv) hol2 (H:=H) (K:=K)
     rw [hirow,hil] at hrow
     generalize lwayF (inF (rwF g)) g.length [lastF acc] own=leg at hrow hlegd hlp hwl2
     refine thawU (RPt.res leg _) (fun hK=>hrow fun v G D h1 h2=>hK _ _ _ ⟨v,rfl,h1⟩ h2) hwk fun rr G7 D7 hr7 hn7=>?_
     obtain ⟨vr,rfl,hrs⟩:=hr7
     replace st:=st.push (rnI vr (nI leg) D7) hn7 hrs
     rcases rnI_cases (st.get 0 rfl) with ⟨_,h0,_⟩ | ⟨q5,rfl,hq5,rfl⟩
     ·have:=congrArg List.length h0
      rw [nL_,List.length_nil] at this
      omega
     have hnleg:=nL_ leg
     have e9:((leg.length:Int) - 1).toNat=leg.length - 1:=by omega
     (try simp (maxSteps:=1000000) (disch:=first | assumption | (apply ν6;assumption)) only [vz,vu,vv,eqS,eF_,↓c1_,↓c2_,tabs,reduceCtorEq,ι5,↓reduceIte,ν1,ν2,ν3,ν4,ν5,ι1,ι2,ι3,ι4,hnleg,e9,e5])
     refine ⟨by omega,by omega,by omega,?_⟩
     refine st_appL st 2 rfl hq5 (by rw [nL_];omega) (by rw [nL_];omega) fun q' G' hq' st=>?_
     have et:((nI leg).drop 1).take (leg.length - 1)=nI leg.tail:=by
      rw [List.take_of_length_le (by rw [List.length_drop,nL_];omega),nI_drop,List.drop_one]
     rw [et,← nI_app,← hlegd,← hnext] at st ⊢
     exact ⟨(t+1,q',G'),⟨by simp only;omega,st.drop.drop⟩,by simp only;omega,.refl _,.refl _,Heap.le_refl _⟩
   ·have:t=goals.length:=by omega
    subst this
    rw [List.take_length] at hacc hli
    obtain ⟨hbest,hlw,hbl⟩:=loop_back hg.gr hli hfair.1
    have e7:IntKind.i64.wrap ((acc.length:Int) - 1)=((acc.length - 1:Nat):Int):=by rw [i6_ (by omega) (by omega)];omega
    have e8:IntKind.i64.wrap ((stm.length:Int) - 1)=((stm.length - 1:Nat):Int):=by rw [i6_ (by omega) (by omega)];omega
    have hrl:=cI_rd (l:=nI acc) (i:=acc.length - 1) (by rw [nL_];omega)
    rw [nI_get (by omega)] at hrl
    have hlr:acc.getD (acc.length - 1) 0=lastF acc:=rfl
    rw [hlr] at hrl
    have hrow:=inG_row hg
    have hgl2:(gI (inG g)).getD (lastF acc) default=nI (inF (rwF g) (lastF acc)):=by rw [gI_get (by rw [inG_len];exact hlast.2),hrow]
    (try simp (maxSteps:=1000000) (disch:=first | assumption | (apply ν6;assumption)) only [vz,vu,vv,eqS,eF_,↓c1_,↓c2_,tabs,reduceCtorEq,ι5,↓reduceIte,ν1,ν2,ν3,ν4,ν5,ι1,ι2,ι3,ι4,lA_ (st.get 0 rfl),e7,e8,hrl,cI_len,hal,hilg,hgl2,Int.toNat_natCast])
    refine ⟨by omega,by omega,by omega,by omega,by omega,?_⟩
    refine lit1 tab_24 rfl tab_3 ⟨rfl,rfl⟩ ?_
    have hin:(inF (rwF g) (lastF acc)).length≤500000:=by
     rw [inF_cB];exact Nat.le_trans (List.length_filter_le _ _) (hg.row hlast.2)
    have hps:=l11Path_spec (inG g) hgi hgi2 (inF (rwF g) (lastF acc)) [m] (fun v hv=>by rw [inG_len];exact hg.gr.lt _ v (inF_mem.1 hv).1) hin (fun v hv=>by rw [inG_len];exact hmo v hv) (by simp)
    rw [hirow,hil] at hps
    refine Pu.use hps ?_
    unfold wayV
    have hring:ringF (rwF g) g.length m goals=acc++(backF (rwF g) g.length m acc).dropLast:=by rw [ringF,hacc]
    have hback:lwayF (inF (rwF g)) g.length (inF (rwF g) (lastF acc)) [m]=backF (rwF g) g.length m acc:=rfl
    rw [hback,hring]
    have hbp:=hlw.pos
    generalize backF (rwF g) g.length m acc=back at hbp hbl
    have hbkl:=nL_ back
    have e9:IntKind.i64.wrap ((back.length:Int) - 1)=((back.length - 1:Nat):Int):=by rw [i6_ (by omega) (by omega)];omega
    (try simp (maxSteps:=1000000) (disch:=first | assumption | (apply ν6;assumption)) only [vz,vu,vv,eqS,eF_,↓c1_,↓c2_,tabs,reduceCtorEq,ι5,↓reduceIte,ν1,ν2,ν3,ν4,ν5,ι1,ι2,ι3,ι4,hbkl,e9,Int.toNat_natCast])
    refine ⟨by omega,by omega,by omega,fun e he=>?_,by omega,by omega,by omega,fun e he=>?_,?_⟩
    ·obtain ⟨x,_,rfl⟩:=List.mem_map.1 he;rfl
    ·obtain ⟨x,_,rfl⟩:=List.mem_map.1 he;rfl
    have ed:(nI back).take (back.length - 1)=nI back.dropLast:=by rw [nI_take,List.dropLast_eq_take]
    rw [ed]
    refine st_appI st 0 rfl (by rw [nL_,nL_,List.length_dropLast];omega) fun q' G' hq' st=>?_
    rw [← nI_app] at st ⊢
    simp only [List.set_cons_zero] at st
    have hg':G' q'=Option.some (cP fI (nI (acc++back.dropLast))):=st.get 0 rfl
    refine ⟨_,H,.trans (Wk.frzS (r:=q') (es:=(nI (acc++back.dropLast)).map fI) (v':=.tup [Is (stm.take (stm.length - 1)),Is (nI (acc++back.dropLast)),B true]) (by rw [hg',List.map_map];rfl) (.tup (.cons (.same _) (.cons ?_ (.cons (.same _) .nil))))) (.forget fun y z hz=>?_),rfl,rfl⟩
    ·have:=FrzS.part (r:=q') (es:=(nI (acc++back.dropLast)).map fI) 0 (nI (acc++back.dropLast)).length (by simp)
     have e:((((nI (acc++back.dropLast)).map fI).drop 0).take (nI (acc++back.dropLast)).length).map (fun v=>[v])=(nI (acc++back.dropLast)).map eI:=by
      rw [List.drop_zero,List.take_of_length_le (by simp),List.map_map];rfl
     rw [e] at this
     exact this
    ·have hfr:=st.fr _ (List.mem_cons_self ..) q' (by simp [cT_])
     rw [Heap.del_other (fun e=>by rw [e,hfr] at hz;cases hz)]
     exact st.le y z hz
end Go.Proofs.YtohkciilfkhomaaGreat
namespace Go.Proofs.YtohkciilfkhomaaGreat
open Go Go.Sep Go.Pt
attribute [local irreducible] CallT
def cellV (l:List Int):PV:=if l=[] then .nil else .sl (l.map eI)
def refN (a:Au) (k s:Nat):List Int:=(outN a k s).foldl put []
def refR (a:Au) (k:Nat):List (List Int):=(List.range a.states.toNat).map (refN a k)
theorem refR_len (a:Au) (k:Nat):(refR a k).length=a.states.toNat:=by simp [refR]
theorem refR_zero (a:Au):refR a 0=List.replicate a.states.toNat []:=by
 rw [refR]
 apply List.ext_getElem
 ·simp
 ·intro i h1 h2;simp [refN,outN]
theorem refR_get (a:Au) (k:Nat) {s:Nat} (h:s < a.states.toNat):(refR a k).getD s default=refN a k s:=by simp [refR,List.getD,h]
theorem refN_lt (a:Au) (k s:Nat):(refN a k s).Pairwise (· < ·):=(foldl_put _ [] List.Pairwise.nil).1
theorem foldl_len (xs:List Int):∀l,(xs.foldl put l).length≤l.length+xs.length:=by
 induction xs with
 | nil=>intro l;simp
 | cons a xs ih=>intro l;have:=ih (put l a);have:=put_len l a;rw [List.foldl_cons,List.length_cons];omega
theorem refN_len (a:Au) (k s:Nat):(refN a k s).length≤a.edges.length:=by
 have:=foldl_len (outN a k s) []
 have h2:=outN_len a k s
 rw [List.length_nil] at this
 unfold refN;omega
theorem refR_succ (a:Au) {k:Nat} (hk:k < a.edges.length) (h0:0≤(a.edges.getD k default).src) (h1:(a.edges.getD k default).src < a.states) :
  refR a (k+1)=(refR a k).set (a.edges.getD k default).src.toNat (put (refN a k (a.edges.getD k default).src.toNat) (a.edges.getD k default).dst):=by
 have hs:=tS_ hk
 generalize a.edges.getD k default=e at hs h0 h1 ⊢
 apply List.ext_getElem
 ·simp [refR]
 ·intro s h2 h3
  simp only [refR,List.getElem_map,List.getElem_range,List.getElem_set]
  simp only [refN,outN,hs,List.filter_append,List.map_append]
  by_cases he:e.src.toNat=s
  ·subst he
   rw [if_pos rfl]
   have:e.src=(e.src.toNat:Int):=by omega
   simp [← this]
  ·rw [if_neg he]
   have:¬e.src=(s:Int):=by omega
   simp [this]
theorem refR_all (a:Au):refR a a.edges.length=nextG a:=by
 rw [refR,nextG]
 apply List.map_congr_left
 intro s _
 rw [refN,puts_sc]
theorem put_ne (l:List Int) (n:Int):put l n≠[]:=by
 intro h
 have:=(put_mem l n n).2 (.inl rfl)
 rw [h] at this;cases this
theorem map_rd {α:Type} [Inhabited α] {f:α→AV} {rows:List α} {i:Nat} (h:i < rows.length):(List.take 1 (List.drop (i*1) (rows.map f))).headD Q_=f (rows.getD i default):=by
 rw [Nat.mul_one,← List.map_drop,drop_cons h];rfl
theorem map_sp {α:Type} {f:α→AV} {rows:List α} {i:Nat} {l:α} (h:i < rows.length):List.take (i*1) (rows.map f)++[f l]++List.drop (i*1+1) (rows.map f)=(rows.set i l).map f:=by
 rw [Nat.mul_one,List.set_eq_take_append_cons_drop,if_pos h,List.map_append,List.map_cons,List.map_take,List.map_drop];simp
theorem cellV_wk (l:List Int):AV.wk (.p (cellV l)) (Is l):=by
 unfold cellV
 split
 ·rename_i h;subst h;exact .nil
 ·exact .refl _
abbrev cG (rows:List (List Int)):List AV:=rows.map fun l=>AV.p (cellV l)
theorem fin_tab {q:Nat} {rows:List (List Int)} {H G:Heap} (hq:H q=none) (hG:G q=some (cG rows)) (hle:Heap.le H G):wkK (fun r H'=>r=Ls rows∧H'=H) (.sl q 1 0 rows.length) G:=by
 have e:cells (rows.map eL)=rows.map fun l=>AV.p (.sl (l.map eI)):=cells_P (fun l:List Int=>PV.sl (l.map eI)) rows
 have w1:Wk (.sl q 1 0 rows.length) G (.sl q 1 0 rows.length) (G.set q (cells (rows.map eL))):=.cell hG (by rw [e];simp) fun i a a' h1 h2=>by
  rw [e] at h2
  rw [List.getElem?_map] at h1 h2
  cases hr:rows[i]? with
  | none=>rw [hr] at h1;cases h1
  | some l=>
   rw [hr] at h1 h2
   cases h1;cases h2
   exact cellV_wk l
 have:=fin_own (sz:=1) (es:=rows.map eL) (q:=q) (H:=H) (H':=G.set q (cells (rows.map eL))) (K:=fun r H'=>r=Ls rows∧H'=H) (by omega) (sized_map (f:=eL) (fun _=>rfl) rows) hq (Heap.set_le hle) ⟨rfl,rfl⟩
 obtain ⟨v',H',w2,h2⟩:=this
 simp only [Go.Sep.own,List.length_map] at w2
 exact ⟨v',H',.trans w1 w2,h2⟩
theorem l12Graph_spec (a:Au) (fa:GoodF a):Pu Tryz.prog 37 [aAu a] (Ls (nextG a)):=by
 have hst:=fa.st
 have hed:=fa.ed
 refine ⟨fun H=>CallT.fin ?_⟩
 have hz:((a.states.toNat:Nat):Int)=a.states:=by omega
 refine W37_ok ?_;simp (maxSteps:=1000000) (disch:=first | assumption | (apply ν6;assumption)) only [W37,vz,vu,vv,eqS,eF_,↓c1_,↓c2_,tabs,reduceCtorEq,ι5,↓reduceIte,ν1,ν2,ν3,ν4,ν5,ι1,ι2,ι3,ι4,mS_]
 intro r hr
 refine ⟨by omega,by omega,by omega,by omega,fun q hq1 hq=>?_⟩
 have st:=(St.nil H).cell hr [I a.states,Is a.first,Es a.edges,Ls a.goals]
 replace st:=st.cell (r:=q) (by rw [Heap.set_other hq1];exact hq) (zA_ a.states.toNat [.p .nil])
 have ez:zA_ a.states.toNat [.p .nil]=cG (refR a 0):=by
  rw [refR_zero]
  apply List.ext_getElem
  ·simp [zerosA_len]
  ·intro i h1 h2
   have:∀(n i:Nat) (h:i < (zA_ n [AV.p .nil]).length),(zA_ n [AV.p .nil])[i]=.p .nil:=by
    intro n
    induction n with
    | zero=>intro i h;simp [zA_] at h
    | succ n ih=>
     intro i h
     cases i with
     | zero=>simp [zerosA_succ]
     | succ i=>simp [zerosA_succ,ih]
   rw [this];simp [cellV]
 rw [ez] at st ⊢
 generalize (H.set r [I a.states,Is a.first,Es a.edges,Ls a.goals]).set q (cG (refR a 0))=G1 at st ⊢
 (try simp (maxSteps:=1000000) (disch:=first | assumption | (apply ν6;assumption)) only [vz,vu,vv,eqS,eF_,↓c1_,↓c2_,tabs,reduceCtorEq,ι5,↓reduceIte,ν1,ν2,ν3,ν4,ν5,ι1,ι2,ι3,ι4,lA_ (st.get 1 rfl)])
 refine L37_0_rule ((0:Nat),G1) (fun s=>I s.1) (fun s=>s.2) (fun s=>s.1≤a.edges.length∧St H [cT_ q (cG (refR a s.1)),cT_ r [I a.states,Is a.first,Es a.edges,Ls a.goals]] s.2) (fun s=>a.edges.length - s.1)
  ⟨⟨by simp,st⟩,.refl _,Heap.le_refl _⟩ ?_
 clear st
 rintro ⟨k,G⟩ ⟨hk,st⟩
 dsimp only at hk st
 (try simp (maxSteps:=1000000) (disch:=first | assumption | (apply ν6;assumption)) only [vz,vu,vv,eqS,eF_,↓c1_,↓c2_,tabs,reduceCtorEq,ι5,↓reduceIte,ν1,ν2,ν3,ν4,ν5,ι1,ι2,ι3,ι4,B37_0])
 refine ⟨fun h1=>⟨by omega,h1,?_⟩,fun h1=>?_⟩
 ·have hlt:k < a.edges.length:=by omega
  have hm:a.edges.getD k default∈a.edges:=getD_all (p:=fun x=>x∈a.edges) (fun _ h=>h) hlt
  have hei:=edIn_iff.1 (fa.ei _ hm)
  have hsucc:=refR_succ a hlt (by omega) (by omega)
  generalize a.edges.getD k default=e at hei hsucc ⊢
  intro r5 hr5
  replace st:=st.cell hr5 [I e.src,I e.lt,I e.dst]
  generalize G.set r5 [I e.src,I e.lt,I e.dst]=G2 at st ⊢
  have hi:e.src.toNat < (refR a k).length:=by rw [refR_len];omega
  have hrd:=map_rd (f:=fun l=>AV.p (cellV l)) hi
  rw [refR_get a k (by omega)] at hrd
  have hln:(refR a k).length=a.states.toNat:=refR_len a k
  have hol:=refN_len a k e.src.toNat
  have hsp:∀l',List.take (e.src.toNat*1) (cG (refR a k))++[AV.p (cellV l')]++List.drop (e.src.toNat*1+1) (cG (refR a k))=cG ((refR a k).set e.src.toNat l'):=fun l'=>map_sp hi
  (try simp (maxSteps:=1000000) (disch:=first | assumption | (apply ν6;assumption)) only [vz,vu,vv,eqS,eF_,↓c1_,↓c2_,tabs,reduceCtorEq,ι5,↓reduceIte,ν1,ν2,ν3,ν4,ν5,ι1,ι2,ι3,ι4,lA_ (st.get 0 rfl)])
  refine ⟨by omega,by omega,?_⟩
  (try simp (maxSteps:=1000000) (disch:=first | assumption | (apply ν6;assumption)) only [vz,vu,vv,eqS,eF_,↓c1_,↓c2_,tabs,reduceCtorEq,ι5,↓reduceIte,ν1,ν2,ν3,ν4,ν5,ι1,ι2,ι3,ι4,lA_ (st.get 0 rfl),lA_ (st.get 1 rfl),hrd,hln])
  refine ⟨by omega,?_⟩
  refine CallT.args (args':=[Is (refN a k e.src.toNat),I e.dst]) ?_ ⟨cellV_wk _,.refl _,trivial⟩
  refine Pu.use (l1Put_spec _ e.dst (refN_lt a k _) (by omega)) ?_
  have ec:Is (put (refN a k e.src.toNat) e.dst)=.p (cellV (put (refN a k e.src.toNat) e.dst)):=by rw [cellV,if_neg (put_ne _ _)]
  rw [ec]
  generalize put (refN a k e.src.toNat) e.dst=l' at hsucc ⊢
  (try simp (maxSteps:=1000000) (disch:=first | assumption | (apply ν6;assumption)) only [vz,vu,vv,eqS,eF_,↓c1_,↓c2_,tabs,reduceCtorEq,ι5,↓reduceIte,ν1,ν2,ν3,ν4,ν5,ι1,ι2,ι3,ι4,lA_ (st.get 0 rfl),sA_ (st.get 1 rfl),hln])
  refine ⟨by omega,by omega,by omega,?_⟩
  rw [hsp,← hsucc]
  refine ⟨(k+1,_),⟨by simp only;omega,(st.put 1 rfl (cG (refR a (k+1)))).drop⟩,by simp only;omega,?_,Heap.le_refl _⟩
  rw [wk_int,i6_ (by omega) (by omega)];simp
 ·have:k=a.edges.length:=by omega
  subst this
  have hg:G q=some (cG (refR a a.edges.length)):=st.get 0 rfl
  have:=fin_tab (H:=H) hq hg st.le
  rw [refR_len] at this
  rw [refR_all] at this
  exact this
end Go.Proofs.YtohkciilfkhomaaGreat
namespace Go.Proofs.YtohkciilfkhomaaGreat
open Go Go.Sep Go.Pt
attribute [local irreducible] CallT
theorem next_spec (a:Au) (fa:GoodF a):Pu Tryz.prog 31 [aAu a] (Ls (nextG a)):=
 ⟨fun H=>CallT.fin (next_live a fa fun x G D hx hn=>lii_val hx hn)⟩
def nN (l:List Int):List Nat:=l.map Int.toNat
theorem nN_len (l:List Int):(nN l).length=l.length:=by simp [nN]
theorem nN_lt {l:List Int} {n:Nat} (h:∀x∈l,0≤x∧x < n):∀v∈nN l,v < n:=by
 intro v hv
 obtain ⟨x,hx,rfl⟩:=List.mem_map.1 hv
 have:=h x hx;omega
theorem nI_of {l:List Int} {n:Nat} (h:∀x∈l,0≤x∧x < n):nI (nN l)=l:=nI_nN fun x hx=>(h x hx).1
def gA (a:Au):List (List Nat):=(nextG a).map nN
theorem gI_of {g:List (List Int)} {n:Nat} (h:∀l∈g,∀x∈l,0≤x∧x < n):gI (g.map nN)=g:=by
 unfold gI
 rw [List.map_map]
 conv=>rhs;rw [← List.map_id g]
 apply List.map_congr_left
 intro l hl
 exact nI_of (h l hl)
theorem gA_len (a:Au):(gA a).length=a.states.toNat:=by simp [gA,nextG_len]
theorem nextG_bd {a:Au} (fa:GoodF a):∀l∈nextG a,(∀x∈l,0≤x∧x < a.states.toNat)∧l.length≤2400:=by
 intro l hl
 obtain ⟨s,_,rfl⟩:=List.mem_map.1 hl
 have hed:=fa.ed
 refine ⟨fun x hx=>?_,?_⟩
 ·rw [sc_mem] at hx
  simp only [outN,List.mem_map,List.mem_filter] at hx
  obtain ⟨e,⟨he,_⟩,rfl⟩:=hx
  have:=edIn_iff.1 (fa.ei e (List.mem_of_mem_take he))
  omega
 ·have:=sc_len (outN a a.edges.length s)
  have:=outN_len a a.edges.length s
  omega
theorem sumN_le {f:Nat→Nat} {b:Nat} (h:∀v,f v≤b) (n:Nat):sumN f n≤n*b:=by
 induction n with
 | zero=>simp [sumN]
 | succ n ih=>rw [sumN_succ,Nat.add_mul];have:=h n;omega
theorem GrB_of {g:List (List Nat)} {b:Nat} (h1:∀l∈g,∀x∈l,x < g.length) (h2:∀l∈g,l.length≤b) (hn:g.length≤100000) (hb:g.length*b≤500000):GrB g:=by
 refine ⟨h1,hn,?_⟩
 rw [prT_sum]
 refine Nat.le_trans (sumN_le (b:=b) (fun v=>?_) _) hb
 by_cases hv:v < g.length
 ·refine h2 _ ?_
  simp [rwF,List.getD,hv]
 ·rw [rwF_out (by omega)];simp
theorem gA_B {a:Au} (fa:GoodF a):GrB (gA a):=by
 have hst:=fa.st
 have hl:=gA_len a
 refine GrB_of (b:=2400) (fun l hl2 x hx=>?_) (fun l hl2=>?_) (by omega) (by rw [hl];exact Nat.le_trans (Nat.mul_le_mul_right 2400 (show a.states.toNat≤96 by omega)) (by decide))
 ·obtain ⟨r,hr,rfl⟩:=List.mem_map.1 hl2
  rw [hl]
  exact nN_lt (nextG_bd fa r hr).1 x hx
 ·obtain ⟨r,hr,rfl⟩:=List.mem_map.1 hl2
  rw [nN_len];exact (nextG_bd fa r hr).2
theorem gA_I {a:Au} (fa:GoodF a):gI (gA a)=nextG a:=gI_of fun l hl=>(nextG_bd fa l hl).1
theorem rising_in {l:List Int} {n:Int} (h:rising l n=true):∀x∈l,0≤x∧x < n:=by
 intro x hx
 obtain ⟨i,hi,rfl⟩:=List.mem_iff_getElem.1 hx
 have:=rising_at h i hi
 rw [getD_lt hi] at this
 omega
structure AutoN (a:Au):Prop where
 f:GoodF a
 fr:∀x∈a.first,0≤x∧x < a.states.toNat
 go:∀l∈a.goals,∀x∈l,0≤x∧x < a.states.toNat
theorem autoN {a:Au} (h:goodA a=true):AutoN a:=by
 have f:=good_facts h
 have hst:=f.st
 rw [goodA_def] at h
 simp only [goalsOk,Bool.and_eq_true,decide_eq_true_eq,List.all_eq_true] at h
 obtain ⟨h1,h2,h3,⟨h4,h5⟩,h6⟩:=h
 refine ⟨f,fun x hx=>?_,fun l hl x hx=>?_⟩
 ·have:=rising_in h2 x hx;omega
 ·have:=rising_in (h5 l hl) x hx;omega
def goN (gs:List (List Int)):List (List Nat):=gs.map nN
theorem AutoN.gob {a:Au} (h:AutoN a):GoB (goN a.goals) (gA a).length∧(∀l∈goN a.goals,l.length≤96)∧((goN a.goals).length+1)*((gA a).length+96+2)≤800000:=by
 have hgl:=h.f.gl
 have hst:=h.f.st
 have hl:=gA_len a
 have e:(goN a.goals).length=a.goals.length:=by simp [goN]
 have h96:∀l∈goN a.goals,l.length≤96:=by
  intro l hl2
  obtain ⟨r,hr,rfl⟩:=List.mem_map.1 hl2
  rw [nN_len];exact (h.f.gi r hr).2
 refine ⟨⟨fun l hl2 x hx=>?_,by omega,fun l hl2=>by have:=h96 l hl2;omega⟩,h96,?_⟩
 ·obtain ⟨r,hr,rfl⟩:=List.mem_map.1 hl2
  rw [hl];exact nN_lt (h.go r hr) x hx
 ·rw [e,hl]
  exact Nat.le_trans (Nat.mul_le_mul (show a.goals.length+1≤7 by omega) (show a.states.toNat+96+2≤194 by omega)) (by decide)
noncomputable def fairA (a:Au):Bool:=laB (rwF (gA a)) (gA a).length (nN a.first) (goN a.goals)
theorem lasso_A {a:Au} (h:AutoN a):Pu Tryz.prog 36 [Ls (nextG a),Is a.first,Ls a.goals] (lassoV (rwF (gA a)) (gA a).length (nN a.first) (goN a.goals)):=by
 obtain ⟨h1,h2,h3⟩:=h.gob
 have hl:=gA_len a
 have hf:=h.f.fi
 have:=l11Lasso_spec (gA a) (gA_B h.f) (nN a.first) (by rw [hl];exact nN_lt h.fr) (by rw [nN_len];omega) (goN a.goals) 96 h1 h2 h3
 rwa [gA_I h.f,nI_of h.fr,goN,gI_of h.go] at this
theorem meeting_A {a:Au} (h:AutoN a):Pu Tryz.prog 41 [Ls (nextG a),Is a.first,Ls a.goals] (I (meetF (rwF (gA a)) (gA a).length (nN a.first) (goN a.goals))):=by
 obtain ⟨h1,h2,h3⟩:=h.gob
 have hl:=gA_len a
 have hf:=h.f.fi
 have:=meeting_spec (gA a) (gA_B h.f) (nN a.first) (by rw [hl];exact nN_lt h.fr) (by rw [nN_len];omega) (goN a.goals) h1
 rwa [gA_I h.f,nI_of h.fr,goN,gI_of h.go] at this
noncomputable def ieR (a:Au):Bool×Bool:=if goodA a then (!fairA a,true) else (false,false)
theorem IsEmpty_ref (a:Au) (sa:smAu a):Pu Tryz.prog 10 [aAu a] (.tup [B (ieR a).1,B (ieR a).2]):=by
 refine Pu.of fun H=>?_
 refine W10_ok ?_;simp (maxSteps:=1000000) (disch:=first | assumption | (apply ν6;assumption)) only [W10,vz,vu,vv,eqS,eF_,↓c1_,↓c2_,tabs,reduceCtorEq,ι5,↓reduceIte,ν1,ν2,ν3,ν4,ν5,ι1,ι2,ι3,ι4]
 intro r hr
 have hle:=Heap.le_set (b:=[I a.states,Is a.first,Es a.edges,Ls a.goals]) hr
 have gr:(H.set r [I a.states,Is a.first,Es a.edges,Ls a.goals]) r=some [I a.states,Is a.first,Es a.edges,Ls a.goals]:=Heap.set_same _ _ _
 generalize H.set r [I a.states,Is a.first,Es a.edges,Ls a.goals]=G at hle gr ⊢
 (try simp (maxSteps:=1000000) (disch:=first | assumption | (apply ν6;assumption)) only [vz,vu,vv,eqS,eF_,↓c1_,↓c2_,tabs,reduceCtorEq,ι5,↓reduceIte,ν1,ν2,ν3,ν4,ν5,ι1,ι2,ι3,ι4,lA_ gr])
 refine Pu.use (GoodAuto_spec a sa) ?_
 cases ga:goodA a
 ·(try simp (maxSteps:=1000000) (disch:=first | assumption | (apply ν6;assumption)) only [vz,vu,vv,eqS,eF_,↓c1_,↓c2_,tabs,reduceCtorEq,ι5,↓reduceIte,ν1,ν2,ν3,ν4,ν5,ι1,ι2,ι3,ι4])
  exact ⟨by simp [ieR,ga],hle⟩
 ·have hN:=autoN ga
  (try simp (maxSteps:=1000000) (disch:=first | assumption | (apply ν6;assumption)) only [vz,vu,vv,eqS,eF_,↓c1_,↓c2_,tabs,reduceCtorEq,ι5,↓reduceIte,ν1,ν2,ν3,ν4,ν5,ι1,ι2,ι3,ι4,lA_ gr])
  refine Pu.use (l12Graph_spec a hN.f) ?_
  (try simp (maxSteps:=1000000) (disch:=first | assumption | (apply ν6;assumption)) only [vz,vu,vv,eqS,eF_,↓c1_,↓c2_,tabs,reduceCtorEq,ι5,↓reduceIte,ν1,ν2,ν3,ν4,ν5,ι1,ι2,ι3,ι4,lA_ gr])
  refine Pu.use (lasso_A hN) ?_
  unfold lassoV
  (try simp (maxSteps:=1000000) (disch:=first | assumption | (apply ν6;assumption)) only [vz,vu,vv,eqS,eF_,↓c1_,↓c2_,tabs,reduceCtorEq,ι5,↓reduceIte,ν1,ν2,ν3,ν4,ν5,ι1,ι2,ι3,ι4])
  exact ⟨by simp [ieR,ga,fairA],hle⟩
theorem IsEmpty_impl (a:Au) (sa:smAu a):Pu Tryz.prog 9 [aAu a] (.tup [B (ieR a).1,B (ieR a).2]):=by
 refine Pu.of fun H=>?_
 refine W9_ok ?_;simp (maxSteps:=1000000) (disch:=first | assumption | (apply ν6;assumption)) only [W9,vz,vu,vv,eqS,eF_,↓c1_,↓c2_,tabs,reduceCtorEq,ι5,↓reduceIte,ν1,ν2,ν3,ν4,ν5,ι1,ι2,ι3,ι4]
 intro r hr
 have hle:=Heap.le_set (b:=[I a.states,Is a.first,Es a.edges,Ls a.goals]) hr
 have gr:(H.set r [I a.states,Is a.first,Es a.edges,Ls a.goals]) r=some [I a.states,Is a.first,Es a.edges,Ls a.goals]:=Heap.set_same _ _ _
 generalize H.set r [I a.states,Is a.first,Es a.edges,Ls a.goals]=G at hle gr ⊢
 (try simp (maxSteps:=1000000) (disch:=first | assumption | (apply ν6;assumption)) only [vz,vu,vv,eqS,eF_,↓c1_,↓c2_,tabs,reduceCtorEq,ι5,↓reduceIte,ν1,ν2,ν3,ν4,ν5,ι1,ι2,ι3,ι4,lA_ gr])
 refine Pu.use (GoodAuto_impl a sa) ?_
 cases ga:goodA a
 ·(try simp (maxSteps:=1000000) (disch:=first | assumption | (apply ν6;assumption)) only [vz,vu,vv,eqS,eF_,↓c1_,↓c2_,tabs,reduceCtorEq,ι5,↓reduceIte,ν1,ν2,ν3,ν4,ν5,ι1,ι2,ι3,ι4])
  exact ⟨by simp [ieR,ga],hle⟩
 ·have hN:=autoN ga
  (try simp (maxSteps:=1000000) (disch:=first | assumption | (apply ν6;assumption)) only [vz,vu,vv,eqS,eF_,↓c1_,↓c2_,tabs,reduceCtorEq,ι5,↓reduceIte,ν1,ν2,ν3,ν4,ν5,ι1,ι2,ι3,ι4,lA_ gr])
  refine Pu.use (next_spec a hN.f) ?_
  (try simp (maxSteps:=1000000) (disch:=first | assumption | (apply ν6;assumption)) only [vz,vu,vv,eqS,eF_,↓c1_,↓c2_,tabs,reduceCtorEq,ι5,↓reduceIte,ν1,ν2,ν3,ν4,ν5,ι1,ι2,ι3,ι4,lA_ gr])
  refine Pu.use (meeting_A hN) ?_
  (try simp (maxSteps:=1000000) (disch:=first | assumption | (apply ν6;assumption)) only [vz,vu,vv,eqS,eF_,↓c1_,↓c2_,tabs,reduceCtorEq,ι5,↓reduceIte,ν1,ν2,ν3,ν4,ν5,ι1,ι2,ι3,ι4])
  exact ⟨by simp [ieR,ga,fairA,laB],hle⟩
end Go.Proofs.YtohkciilfkhomaaGreat
namespace Go.Proofs.YtohkciilfkhomaaGreat
open Go Go.Sep Go.Pt
attribute [local irreducible] CallT
theorem filt_sum (L:List Ed) (n:Nat):sumN (fun v=>(L.filter fun e=>decide (e.src=(v:Int))).length) n≤L.length:=by
 induction L with
 | nil=>
  have:∀n,sumN (fun _=>0) n=0:=fun n=>by
   induction n with
   | zero=>rfl
   | succ n ih=>rw [sumN_succ,ih]
  simp only [List.filter_nil,List.length_nil,this];exact Nat.le_refl _
 | cons e L ih=>
  have h1:∀n,sumN (fun v=>((e::L).filter fun e=>decide (e.src=(v:Int))).length) n=sumN (fun v=>(L.filter fun e=>decide (e.src=(v:Int))).length) n+sumN (fun v=>if e.src=(v:Int) then 1 else 0) n:=by
   intro n
   induction n with
   | zero=>rfl
   | succ n ih2=>
    rw [sumN_succ,sumN_succ,sumN_succ,ih2,List.filter_cons]
    by_cases h:e.src=(n:Int)
    ·simp only [h,decide_true,if_true,List.length_cons];omega
    ·simp only [h,decide_false,if_false,Bool.false_eq_true];omega
  have h2:∀n:Nat,sumN (fun v=>if e.src=(v:Int) then 1 else 0) n≤if e.src < (n:Int) then 1 else 0:=by
   intro n
   induction n with
   | zero=>simp [sumN]
   | succ n ih2=>
    rw [sumN_succ]
    by_cases h:e.src=(n:Int)
    ·rw [if_pos h,if_pos (by omega)];rw [if_neg (by omega)] at ih2;omega
    ·rw [if_neg h]
     by_cases h3:e.src < (n:Int)
     ·rw [if_pos h3] at ih2;rw [if_pos (by omega)];omega
     ·rw [if_neg h3] at ih2;rw [if_neg (by omega)];omega
  rw [h1,List.length_cons]
  have:=h2 n
  split at this<;>omega
def gO (a:Au):List (List Nat):=(outR a a.edges.length).map nN
theorem gO_len (a:Au):(gO a).length=a.states.toNat:=by simp [gO,outR_len]
theorem gO_row (a:Au) {s:Nat} (h:s < a.states.toNat):rwF (gO a) s=nN (outN a a.edges.length s):=by
 simp [rwF,gO,outR,List.getD,h]
theorem gA_row (a:Au) {s:Nat} (h:s < a.states.toNat):rwF (gA a) s=nN (sc (outN a a.edges.length s)):=by
 simp [rwF,gA,nextG,List.getD,h]
theorem outN_bd {a:Au} (fa:GoodX a) {s:Nat}:∀x∈outN a a.edges.length s,0≤x∧x < a.states.toNat:=by
 intro x hx
 simp only [outN,List.mem_map,List.mem_filter] at hx
 obtain ⟨e,⟨he,_⟩,rfl⟩:=hx
 have:=edIn_iff.1 (fa.ei e (List.mem_of_mem_take he))
 have:=fa.st
 omega
theorem GrB_sum {g:List (List Nat)} (h1:∀v,v < g.length→∀x∈rwF g v,x < g.length) (hn:g.length≤100000) (hs:sumN (fun v=>(rwF g v).length) g.length≤500000):GrB g:=by
 refine ⟨fun l hl x hx=>?_,hn,?_⟩
 ·obtain ⟨v,hv,rfl⟩:=List.mem_iff_getElem.1 hl
  refine h1 v hv x ?_
  simpa [rwF,List.getD,hv] using hx
 ·rw [prT_sum];exact hs
theorem sumN_monoLt {f g:Nat→Nat} {n:Nat} (h:∀v,v < n→f v≤g v):sumN f n≤sumN g n:=by
 induction n with
 | zero=>exact Nat.le_refl _
 | succ n ih=>rw [sumN_succ,sumN_succ];have:=ih fun v hv=>h v (by omega);have:=h n (by omega);omega
theorem gO_B {a:Au} (fa:GoodX a):GrB (gO a):=by
 have hst:=fa.st
 have hed:=fa.ed
 have hl:=gO_len a
 refine GrB_sum (fun v hv x hx=>?_) (by omega) ?_
 ·rw [hl] at hv ⊢
  rw [gO_row a hv] at hx
  exact nN_lt (outN_bd fa) x hx
 ·refine Nat.le_trans (sumN_monoLt (g:=fun v=>(a.edges.filter fun e=>decide (e.src=(v:Int))).length) fun v hv=>?_) (Nat.le_trans (filt_sum _ _) (by omega))
  rw [gO_row a (by omega),nN_len,outN,List.take_length,List.length_map];exact Nat.le_refl _
theorem gO_gA {a:Au} (v w:Nat):w∈rwF (gO a) v↔w∈rwF (gA a) v:=by
 by_cases h:v < a.states.toNat
 ·rw [gO_row a h,gA_row a h]
  simp only [nN,List.mem_map,sc_mem]
 ·rw [rwF_out (by rw [gO_len];omega),rwF_out (by rw [gA_len];omega)]
structure PrB (p:Au):Prop where
 x:GoodX p
 n:p.states≤4608
 fr:∀x∈p.first,0≤x∧x < p.states.toNat
 fl:p.first.length≤9216
 gl:p.goals.length≤12
 go:∀l∈p.goals,∀x∈l,0≤x∧x < p.states.toNat
 gs:∀l∈p.goals,l.length≤9216
theorem PrB.gob {p:Au} (h:PrB p) {n:Nat} (hn:n=p.states.toNat):GoB (goN p.goals) n∧(∀l∈goN p.goals,l.length≤9216)∧((goN p.goals).length+1)*(n+9216+2)≤800000:=by
 have hgl:=h.gl
 have hst:=h.x.st
 have hs:=h.n
 have e:(goN p.goals).length=p.goals.length:=by simp [goN]
 have h96:∀l∈goN p.goals,l.length≤9216:=by
  intro l hl2
  obtain ⟨r,hr,rfl⟩:=List.mem_map.1 hl2
  rw [nN_len];exact h.gs r hr
 refine ⟨⟨fun l hl2 x hx=>?_,by omega,fun l hl2=>by have:=h96 l hl2;omega⟩,h96,?_⟩
 ·obtain ⟨r,hr,rfl⟩:=List.mem_map.1 hl2
  rw [hn];exact nN_lt (h.go r hr) x hx
 ·rw [e]
  exact Nat.le_trans (Nat.mul_le_mul (show p.goals.length+1≤13 by omega) (show n+9216+2≤13826 by omega)) (by decide)
noncomputable def impF (p:Au):Bool:=decide (meetF (rwF (gA p)) (gA p).length (nN p.first) (goN p.goals) < 0)
theorem arc_iff {p:Au} (h:GoodX p) {v w:Nat}:w∈rwF (gA p) v↔∃e∈p.edges,e.src=(v:Int)∧e.dst=(w:Int):=by
 have hst:=h.st
 by_cases hv:v < p.states.toNat
 ·rw [gA_row p hv]
  simp only [nN,List.mem_map,sc_mem,outN,List.take_length,List.mem_filter,decide_eq_true_eq]
  constructor
  ·rintro ⟨x,⟨e,⟨he,h1⟩,rfl⟩,h2⟩
   have:=edIn_iff.1 (h.ei e he)
   exact ⟨e,he,h1,by omega⟩
  ·rintro ⟨e,he,h1,h2⟩
   exact ⟨e.dst,⟨e,⟨he,h1⟩,rfl⟩,by omega⟩
 ·rw [rwF_out (by rw [gA_len];omega)]
  constructor
  ·intro hx;cases hx
  ·rintro ⟨e,he,h1,h2⟩
   have:=edIn_iff.1 (h.ei e he)
   omega
theorem gO_I {p:Au} (h:GoodX p):gI (gO p)=outR p p.edges.length:=gI_of (n:=p.states.toNat) fun l hl x hx=>by
 obtain ⟨s,hs,rfl⟩:=List.mem_map.1 hl
 exact outN_bd h x hx
theorem meeting_O {p:Au} (h:PrB p):Pu Tryz.prog 41 [Ls (outR p p.edges.length),Is p.first,Ls p.goals] (I (meetF (rwF (gO p)) (gO p).length (nN p.first) (goN p.goals))):=by
 have hl:=gO_len p
 obtain ⟨h1,h2,h3⟩:=h.gob hl
 have hf:=h.fl
 have:=meeting_spec (gO p) (gO_B h.x) (nN p.first) (by rw [hl];exact nN_lt h.fr) (by rw [nN_len];omega) (goN p.goals) h1
 rwa [gO_I h.x,nI_of h.fr,goN,gI_of h.go] at this
end Go.Proofs.YtohkciilfkhomaaGreat
namespace Go.Proofs.YtohkciilfkhomaaGreat
open Go Go.Sep
attribute [local irreducible] CallT
theorem IndexFunc_at (xs:List Int) (g:Nat) (caps:List AV) (p:Int→Bool) {H:Heap} (hl:xs.length≤1000000000) (hp:∀x∈xs,PuAt Tryz.prog g (I x::caps) H (B (p x))) :
  PuAt Tryz.prog 113 [Is xs,.fn g caps] H (I (if xs.any p then (xs.findIdx p:Int) else -1)):=by
 intro K hK
 refine CallT.fin ?_
 refine W113_ok ?_;simp (maxSteps:=1000000) (disch:=first | assumption | (apply ν6;assumption)) only [W113,vz,vu,vv,eqS,eF_,↓c1_,↓c2_,tabs,reduceCtorEq,ι5,↓reduceIte,ν1,ν2,ν3,ν4,ν5,ι1,ι2,ι3,ι4]
 refine L113_0_rule (0:Nat) (fun i=>I i) (fun _=>H) (fun i=>i≤xs.length∧∀j (hj:j < xs.length),j < i→p xs[j]=false) (fun i=>xs.length - i) ⟨⟨by omega,by intros;omega⟩,.refl _,Heap.le_refl _⟩ ?_
 rintro i ⟨hi1,ha⟩
 (try simp (maxSteps:=1000000) (disch:=first | assumption | (apply ν6;assumption)) only [vz,vu,vv,eqS,eF_,↓c1_,↓c2_,tabs,reduceCtorEq,ι5,↓reduceIte,ν1,ν2,ν3,ν4,ν5,ι1,ι2,ι3,ι4,B113_0])
 refine ⟨fun h=>⟨by omega,h,?_⟩,fun h=>?_⟩
 ·have hlt:i < xs.length:=by omega
  rw [getD_lt hlt]
  refine PuAt.use (hp _ (List.getElem_mem hlt)) ?_
  (try simp (maxSteps:=1000000) (disch:=first | assumption | (apply ν6;assumption)) only [vz,vu,vv,eqS,eF_,↓c1_,↓c2_,tabs,reduceCtorEq,ι5,↓reduceIte,ν1,ν2,ν3,ν4,ν5,ι1,ι2,ι3,ι4])
  refine ⟨fun h1=>?_,fun h1=>⟨i+1,⟨by omega,fun j hj hji=>?_⟩,by omega,?_⟩⟩
  ·have h2:xs.any p=true:=List.any_eq_true.2 ⟨xs[i],List.getElem_mem hlt,h1⟩
   have h3:xs.findIdx p=i:=by
    rw [List.findIdx_eq hlt];exact ⟨h1,fun j hj=>ha j (by omega) hj⟩
   rw [h2,h3] at hK;exact wkK.keep (by simpa using hK)
  ·rcases Nat.lt_succ_iff_lt_or_eq.1 hji with h2 | rfl
   ·exact ha j hj h2
   ·exact h1
  ·rw [wk_int,i6_ (by omega) (by omega)];simp
 ·have hi:i=xs.length:=by omega
  have h2:xs.any p=false:=by
   rw [List.any_eq_false]
   intro x hx
   obtain ⟨j,hj,rfl⟩:=List.mem_iff_getElem.1 hx
   rw [ha j hj (by omega)];simp
  rw [h2] at hK;exact wkK.keep (by simpa using hK)
theorem ContainsFunc_at (xs:List Int) (g:Nat) (caps:List AV) (p:Int→Bool) {H:Heap} (hl:xs.length≤1000000000) (hp:∀x∈xs,PuAt Tryz.prog g (I x::caps) H (B (p x))) :
  PuAt Tryz.prog 119 [Is xs,.fn g caps] H (B (xs.any p)):=by
 intro K hK
 refine W119_ok ?_;simp (maxSteps:=1000000) (disch:=first | assumption | (apply ν6;assumption)) only [W119,vz,vu,vv,eqS,eF_,↓c1_,↓c2_,tabs,reduceCtorEq,ι5,↓reduceIte,ν1,ν2,ν3,ν4,ν5,ι1,ι2,ι3,ι4]
 refine PuAt.use (IndexFunc_at xs g caps p hl hp) ?_
 (try simp (maxSteps:=1000000) (disch:=first | assumption | (apply ν6;assumption)) only [vz,vu,vv,eqS,eF_,↓c1_,↓c2_,tabs,reduceCtorEq,ι5,↓reduceIte,ν1,ν2,ν3,ν4,ν5,ι1,ι2,ι3,ι4])
 cases h:xs.any p<;>simp [h] at hK ⊢<;>exact hK
end Go.Proofs.YtohkciilfkhomaaGreat
namespace Go.Proofs.YtohkciilfkhomaaGreat
open Go Go.Sep Go.Pt
attribute [local irreducible] CallT
theorem l1In_BQ (a lo hi:Int):Pu Tryz.prog 48 [I a,I lo,I hi] (B (inB a lo hi)):=l1In_spec a lo hi
theorem l1AllQ (xs:List Int) (lo hi:Int) (hl:xs.length≤1000000000):Pu Tryz.prog 49 [Is xs,I lo,I hi] (B (xs.all fun a=>decide (lo≤a) && decide (a≤hi))):=by
 refine Pu.of fun H=>?_
 refine W49_ok ?_;simp (maxSteps:=1000000) (disch:=first | assumption | (apply ν6;assumption)) only [W49,vz,vu,vv,eqS,eF_,↓c1_,↓c2_,tabs,reduceCtorEq,ι5,↓reduceIte,ν1,ν2,ν3,ν4,ν5,ι1,ι2,ι3,ι4]
 refine L49_0_rule (0:Nat) (fun i=>I i) (fun _=>H) (fun i=>i≤xs.length∧(xs.take i).all (fun a=>decide (lo≤a) && decide (a≤hi))=true) (fun i=>xs.length - i) ⟨⟨by omega,by simp⟩,.refl _,Heap.le_refl _⟩ ?_
 rintro i ⟨hi1,ha⟩
 (try simp (maxSteps:=1000000) (disch:=first | assumption | (apply ν6;assumption)) only [vz,vu,vv,eqS,eF_,↓c1_,↓c2_,tabs,reduceCtorEq,ι5,↓reduceIte,ν1,ν2,ν3,ν4,ν5,ι1,ι2,ι3,ι4,B49_0])
 refine ⟨fun h=>⟨by omega,h,?_⟩,fun h=>?_⟩
 ·have hlt:i < xs.length:=by omega
  refine Pu.use (l1In_spec ..) ?_
  (try simp (maxSteps:=1000000) (disch:=first | assumption | (apply ν6;assumption)) only [vz,vu,vv,eqS,eF_,↓c1_,↓c2_,tabs,reduceCtorEq,ι5,↓reduceIte,ν1,ν2,ν3,ν4,ν5,ι1,ι2,ι3,ι4])
  have e:=take_all_succ (p:=fun a=>decide (lo≤a) && decide (a≤hi)) hlt
  rw [getD_lt hlt]
  refine ⟨fun h1=>?_,fun h1=>?_⟩
  ·congr 2
   symm
   rw [List.all_eq_false]
   exact ⟨xs[i],by simp,by simpa using h1⟩
  ·refine ⟨i+1,⟨by omega,by rw [e,ha];simpa using h1⟩,by omega,?_⟩
   rw [wk_int,i6_ (by omega) (by omega)];simp
 ·have:i=xs.length:=by omega
  subst this
  rw [List.take_length] at ha;simp [ha]
def letB (n:Int):Bool:=decide (0≤n) && decide (n≤7)
def goodL (s l:List Int):Bool:=(decide (s.length≤24) && (decide (1≤l.length) && decide (l.length≤24))) && (s.all letB && l.all letB)
theorem areLetters1Q (n:Int) {H:Heap}:PuAt Tryz.prog 120 [I n] H (B (!letB n)):=by
 intro K hK
 refine W120_ok ?_;simp (maxSteps:=1000000) (disch:=first | assumption | (apply ν6;assumption)) only [W120,vz,vu,vv,eqS,eF_,↓c1_,↓c2_,tabs,reduceCtorEq,ι5,↓reduceIte,ν1,ν2,ν3,ν4,ν5,ι1,ι2,ι3,ι4]
 refine ⟨fun h=>?_,fun h=>?_⟩
 ·have e:letB n=false:=by simp [letB];omega
  rw [e] at hK;exact hK
 ·by_cases h2:8≤n
  ·have e:letB n=false:=by simp [letB];omega
   have e2:decide (8≤n)=true:=by simpa using h2
   rw [e] at hK;simpa [e2] using hK
  ·have e:letB n=true:=by simp [letB];omega
   have e2:decide (8≤n)=false:=by simpa using h2
   rw [e] at hK;simpa [e2] using hK
theorem areLettersQ (xs:List Int) (hl:xs.length≤1000000000):Pu Tryz.prog 95 [Is xs] (B (xs.all letB)):=by
 refine Pu.of fun H=>?_
 refine W95_ok ?_;simp (maxSteps:=1000000) (disch:=first | assumption | (apply ν6;assumption)) only [W95,vz,vu,vv,eqS,eF_,↓c1_,↓c2_,tabs,reduceCtorEq,ι5,↓reduceIte,ν1,ν2,ν3,ν4,ν5,ι1,ι2,ι3,ι4]
 refine PuAt.use (ContainsFunc_at xs _ _ (fun n=>!letB n) hl fun x _=>areLetters1Q x) ?_
 (try simp (maxSteps:=1000000) (disch:=first | assumption | (apply ν6;assumption)) only [vz,vu,vv,eqS,eF_,↓c1_,↓c2_,tabs,reduceCtorEq,ι5,↓reduceIte,ν1,ν2,ν3,ν4,ν5,ι1,ι2,ι3,ι4])
 rw [List.all_eq_not_any_not]
theorem GoodLassoI (s l:List Int) (h1:s.length≤1000000000) (h2:l.length≤1000000000):Pu Tryz.prog 42 [.agg [Is s,Is l]] (B (goodL s l)):=by
 refine Pu.of fun H=>?_
 refine W42_ok ?_;simp (maxSteps:=1000000) (disch:=first | assumption | (apply ν6;assumption)) only [W42,vz,vu,vv,eqS,eF_,↓c1_,↓c2_,tabs,reduceCtorEq,ι5,↓reduceIte,ν1,ν2,ν3,ν4,ν5,ι1,ι2,ι3,ι4]
 intro r hr
 have hle:∀z,Heap.le H (H.set r z):=fun z=>Heap.le_set hr
 (try simp (maxSteps:=1000000) (disch:=first | assumption | (apply ν6;assumption)) only [vz,vu,vv,eqS,eF_,↓c1_,↓c2_,tabs,reduceCtorEq,ι5,↓reduceIte,ν1,ν2,ν3,ν4,ν5,ι1,ι2,ι3,ι4])
 have fls:(¬(s.length≤24∧1≤l.length∧l.length≤24))→goodL s l=false:=fun h=>by
  rw [Bool.eq_false_iff];intro hh
  simp only [goodL,Bool.and_eq_true,decide_eq_true_eq] at hh
  exact h ⟨hh.1.1,hh.1.2.1,hh.1.2.2⟩
 refine ⟨fun a1=>⟨fun a2=>⟨fun a3=>?_,fun a3=>⟨by rw [fls (by omega)],hle _⟩⟩,fun a2=>⟨by rw [fls (by omega)],hle _⟩⟩,fun a1=>⟨by rw [fls (by omega)],hle _⟩⟩
 have e:goodL s l=(s.all letB && l.all letB):=by
  have b1:s.length≤24:=by omega
  have b2:1≤l.length:=by omega
  have b3:l.length≤24:=by omega
  simp only [goodL,b1,b2,b3,decide_true,Bool.true_and]
 rw [e]
 refine Pu.use (areLettersQ s h1) ?_
 cases s.all letB
 ·(try simp (maxSteps:=1000000) (disch:=first | assumption | (apply ν6;assumption)) only [vz,vu,vv,eqS,eF_,↓c1_,↓c2_,tabs,reduceCtorEq,ι5,↓reduceIte,ν1,ν2,ν3,ν4,ν5,ι1,ι2,ι3,ι4])
  exact hle _
 ·(try simp (maxSteps:=1000000) (disch:=first | assumption | (apply ν6;assumption)) only [vz,vu,vv,eqS,eF_,↓c1_,↓c2_,tabs,reduceCtorEq,ι5,↓reduceIte,ν1,ν2,ν3,ν4,ν5,ι1,ι2,ι3,ι4])
  refine Pu.use (areLettersQ l h2) ?_
  (try simp (maxSteps:=1000000) (disch:=first | assumption | (apply ν6;assumption)) only [vz,vu,vv,eqS,eF_,↓c1_,↓c2_,tabs,reduceCtorEq,ι5,↓reduceIte,ν1,ν2,ν3,ν4,ν5,ι1,ι2,ι3,ι4])
  exact hle _
theorem GoodLassoR (s l:List Int) (h1:s.length≤1000000000) (h2:l.length≤1000000000):Pu Tryz.prog 14 [.agg [Is s,Is l]] (B (goodL s l)):=by
 refine Pu.of fun H=>?_
 refine W14_ok ?_;simp (maxSteps:=1000000) (disch:=first | assumption | (apply ν6;assumption)) only [W14,vz,vu,vv,eqS,eF_,↓c1_,↓c2_,tabs,reduceCtorEq,ι5,↓reduceIte,ν1,ν2,ν3,ν4,ν5,ι1,ι2,ι3,ι4]
 intro r hr
 have hle:∀z,Heap.le H (H.set r z):=fun z=>Heap.le_set hr
 (try simp (maxSteps:=1000000) (disch:=first | assumption | (apply ν6;assumption)) only [vz,vu,vv,eqS,eF_,↓c1_,↓c2_,tabs,reduceCtorEq,ι5,↓reduceIte,ν1,ν2,ν3,ν4,ν5,ι1,ι2,ι3,ι4])
 refine ⟨fun a1=>?_,fun a1=>?_⟩
 rotate_left
 ·refine ⟨?_,hle _⟩
  have:goodL s l=false:=by
   rw [Bool.eq_false_iff];intro hh
   simp only [goodL,Bool.and_eq_true,decide_eq_true_eq] at hh
   have:=hh.1.1;omega
  rw [this]
 refine Pu.use (l1In_BQ l.length 1 24) ?_
 cases hin:inB l.length 1 24
 ·(try simp (maxSteps:=1000000) (disch:=first | assumption | (apply ν6;assumption)) only [vz,vu,vv,eqS,eF_,↓c1_,↓c2_,tabs,reduceCtorEq,ι5,↓reduceIte,ν1,ν2,ν3,ν4,ν5,ι1,ι2,ι3,ι4])
  refine ⟨?_,hle _⟩
  have:goodL s l=false:=by
   rw [Bool.eq_false_iff];intro hh
   simp only [goodL,Bool.and_eq_true,decide_eq_true_eq] at hh
   rw [inB_iff.2 (by have:=hh.1.2;omega)] at hin;cases hin
  rw [this]
 rw [inB_iff] at hin
 have e:goodL s l=(s.all letB && l.all letB):=by
  have b1:s.length≤24:=by omega
  have b2:1≤l.length:=by omega
  have b3:l.length≤24:=by omega
  simp only [goodL,b1,b2,b3,decide_true,Bool.true_and]
 rw [e]
 (try simp (maxSteps:=1000000) (disch:=first | assumption | (apply ν6;assumption)) only [vz,vu,vv,eqS,eF_,↓c1_,↓c2_,tabs,reduceCtorEq,ι5,↓reduceIte,ν1,ν2,ν3,ν4,ν5,ι1,ι2,ι3,ι4])
 refine Pu.use (l1AllQ s 0 7 h1) ?_
 have e3:∀xs:List Int,(xs.all fun a=>decide (0≤a) && decide (a≤7))=xs.all letB:=fun xs=>rfl
 rw [e3]
 cases s.all letB
 ·(try simp (maxSteps:=1000000) (disch:=first | assumption | (apply ν6;assumption)) only [vz,vu,vv,eqS,eF_,↓c1_,↓c2_,tabs,reduceCtorEq,ι5,↓reduceIte,ν1,ν2,ν3,ν4,ν5,ι1,ι2,ι3,ι4])
  exact hle _
 ·(try simp (maxSteps:=1000000) (disch:=first | assumption | (apply ν6;assumption)) only [vz,vu,vv,eqS,eF_,↓c1_,↓c2_,tabs,reduceCtorEq,ι5,↓reduceIte,ν1,ν2,ν3,ν4,ν5,ι1,ι2,ι3,ι4])
  refine Pu.use (l1AllQ l 0 7 h2) ?_
  rw [e3]
  (try simp (maxSteps:=1000000) (disch:=first | assumption | (apply ν6;assumption)) only [vz,vu,vv,eqS,eF_,↓c1_,↓c2_,tabs,reduceCtorEq,ι5,↓reduceIte,ν1,ν2,ν3,ν4,ν5,ι1,ι2,ι3,ι4])
  exact hle _
abbrev aL2 (s l:List Int):AV:=.agg [Is s,Is l]
theorem l9Made_spec (s l:List Int) (h1:s.length≤1000000000) (h2:l.length≤1000000000):Pu Tryz.prog 40 [aL2 s l] (.tup [aL2 (if goodL s l then s else []) (if goodL s l then l else []),B (goodL s l)]):=by
 refine ⟨fun H=>CallT.fin ?_⟩
 refine W40_ok ?_;simp (maxSteps:=1000000) (disch:=first | assumption | (apply ν6;assumption)) only [W40,vz,vu,vv,eqS,eF_,↓c1_,↓c2_,tabs,reduceCtorEq,ι5,↓reduceIte,ν1,ν2,ν3,ν4,ν5,ι1,ι2,ι3,ι4]
 intro r1 hr1 r2 n21 hr2
 have n12:=Ne.symm n21
 have hle:∀z,Heap.le H ((H.set r1 [Is s,Is l]).set r2 z):=fun z=>Heap.le_setN (Heap.le_set hr1) hr2
 (try simp (maxSteps:=1000000) (disch:=first | assumption | (apply ν6;assumption)) only [vz,vu,vv,eqS,eF_,↓c1_,↓c2_,tabs,reduceCtorEq,ι5,↓reduceIte,ν1,ν2,ν3,ν4,ν5,ι1,ι2,ι3,ι4])
 refine Pu.use (GoodLassoR s l h1 h2) ?_
 cases h:goodL s l
 ·(try simp (maxSteps:=1000000) (disch:=first | assumption | (apply ν6;assumption)) only [vz,vu,vv,eqS,eF_,↓c1_,↓c2_,tabs,reduceCtorEq,ι5,↓reduceIte,ν1,ν2,ν3,ν4,ν5,ι1,ι2,ι3,ι4])
  exact ⟨_,_,.trans (.val (v':=.tup [aL2 [] [],B false]) (wk_tup ⟨wk_agg ⟨.nil,.nil,trivial⟩,.refl _,trivial⟩)) (.forget (hle _)),rfl,rfl⟩
 ·(try simp (maxSteps:=1000000) (disch:=first | assumption | (apply ν6;assumption)) only [vz,vu,vv,eqS,eF_,↓c1_,↓c2_,tabs,reduceCtorEq,ι5,↓reduceIte,ν1,ν2,ν3,ν4,ν5,ι1,ι2,ι3,ι4])
  exact ⟨_,_,.forget (hle _),rfl,rfl⟩
def RL (s l:List Int) (v:AV) (G:Heap) (D:List Nat):Prop:=(s=[]∧l=[]∧v=.agg [.p .nil,.p .nil]∧D=[])∨∃q1 q2,v=.agg [rowP q1 s,rowP q2 l]∧G q1=some (cP fI s)∧G q2=some (cP fI l)∧D=[q1,q2]∧q1≠q2
end Go.Proofs.YtohkciilfkhomaaGreat
namespace Go.Proofs.YtohkciilfkhomaaGreat
open Go Go.Sep Go.Pt
attribute [local irreducible] CallT
theorem RL.local {s l:List Int} {v:AV} {G G':Heap} {D:List Nat} (h:RL s l v G D) (hf:∀y∈D,∀b,G y=some b→G' y=some b):RL s l v G' D:=by
 rcases h with h | ⟨q1,q2,rfl,h1,h2,rfl,hne⟩
 ·exact .inl h
 ·exact .inr ⟨q1,q2,rfl,hf q1 (by simp) _ h1,hf q2 (by simp) _ h2,rfl,hne⟩
theorem RL.has {s l:List Int} {v:AV} {G:Heap} {D:List Nat} (h:RL s l v G D):∀y∈D,G y≠none:=by
 rcases h with ⟨_,_,_,rfl⟩ | ⟨q1,q2,rfl,h1,h2,rfl,hne⟩
 ·intro y hy;cases hy
 ·intro y hy
  simp only [List.mem_cons,List.not_mem_nil,or_false] at hy
  rcases hy with rfl | rfl
  ·rw [h1];simp
  ·rw [h2];simp
def RLt (s l:List Int) (ok:Bool) (r:AV) (G:Heap) (D:List Nat):Prop:=∃v,r=.tup [v,B ok]∧RL s l v G D
theorem RLt.res (s l:List Int) (ok:Bool):ResU (RLt s l ok):=by
 have gdrow:∀{xs:List Int} {c:AV},c∈cP fI xs→GdC c:=fun {xs c} hc=>by
  obtain ⟨x,_,rfl⟩:=List.mem_map.1 hc
  exact .p (.int _ _)
 refine ⟨?_,?_,?_⟩
 ·rintro r G G' D ⟨v,rfl,h⟩ hf
  exact ⟨v,rfl,h.local hf⟩
 ·rintro r G D ⟨v,rfl,h⟩
  have gb:Gd1 (B ok):=.inr ⟨.p (.bool ok),fun _=>rfl⟩
  have gv:Gd1 v∧∀y∈D,∀bs,G y=some bs→∀c∈bs,GdC c:=by
   rcases h with ⟨_,_,rfl,rfl⟩ | ⟨q1,q2,rfl,h1,h2,rfl,hne⟩
   ·exact ⟨.inl ⟨_,rfl,fun c hc=>by
     simp only [List.mem_cons,List.not_mem_nil,or_false] at hc
     rcases hc with rfl | rfl<;>exact .p .nil⟩,fun y hy=>by cases hy⟩
   ·refine ⟨.inl ⟨_,rfl,fun c hc=>by
     simp only [List.mem_cons,List.not_mem_nil,or_false] at hc
     rcases hc with rfl | rfl<;>exact .inl ⟨_,_,_,_,rfl⟩⟩,fun y hy bs hb c hc=>?_⟩
    simp only [List.mem_cons,List.not_mem_nil,or_false] at hy
    rcases hy with rfl | rfl
    ·rw [h1] at hb;cases hb;exact gdrow hc
    ·rw [h2] at hb;cases hb;exact gdrow hc
  refine ⟨.inl ⟨_,rfl,fun u hu=>?_⟩,gv.2⟩
  rcases List.mem_cons.1 hu with rfl | hu
  ·exact gv.1
  ·rw [List.mem_singleton] at hu;rw [hu];exact gb
 ·rintro r G D n G0 h0 ⟨v,rfl,h⟩
  have e:∀xs:List Int,(cP fI xs).map (shC n)=cP fI xs:=fun xs=>by
   simp only [cP,List.map_map];rfl
  have sh:∀{q xs},G q=some (cP fI xs)→(Heap.or G0 (shH n G)) (q+n)=some (cP fI xs):=fun {q xs} hq=>by
   simp only [Heap.or,h0 (q+n) (by omega),shH,Nat.le_add_left,if_true,Nat.add_sub_cancel,hq,Option.map_some,e]
  rcases h with ⟨rfl,rfl,rfl,rfl⟩ | ⟨q1,q2,rfl,h1,h2,rfl,hne⟩
  ·exact ⟨_,rfl,.inl ⟨rfl,rfl,rfl,rfl⟩⟩
  ·exact ⟨_,rfl,.inr ⟨q1+n,q2+n,rfl,sh h1,sh h2,rfl,by omega⟩⟩
end Go.Proofs.YtohkciilfkhomaaGreat
namespace Go.Proofs.YtohkciilfkhomaaGreat
open Go Go.Sep Go.Pt
def prs (us bs:List Int) (m:Int):List Int:=us.flatMap fun i=>bs.map fun j=>i*m+j
theorem prs_succ (us bs:List Int) (m:Int) {i:Nat} (h:i < us.length):prs (us.take (i+1)) bs m=prs (us.take i) bs m++bs.map fun j=>us.getD i default*m+j:=by
 unfold prs
 rw [tS_ h,List.flatMap_append]
 simp
theorem prs_len (us bs:List Int) (m:Int):(prs us bs m).length=us.length*bs.length:=by
 induction us with
 | nil=>simp [prs]
 | cons a us ih=>rw [prs,List.flatMap_cons,List.length_append,List.length_map];rw [prs] at ih;rw [ih,List.length_cons,Nat.add_mul,Nat.one_mul,Nat.add_comm]
theorem prs_mem {us bs:List Int} {m x:Int}:x∈prs us bs m↔∃i∈us,∃j∈bs,i*m+j=x:=by
 simp only [prs,List.mem_flatMap,List.mem_map]
theorem lex_bd {m n i j:Int} (hi:0≤i∧i < n) (hj:0≤j∧j < m):0≤i*m+j∧i*m+j < n*m:=by
 have h1:0≤i*m:=Int.mul_nonneg hi.1 (by omega)
 have:(i+1)*m≤n*m:=Int.mul_le_mul_of_nonneg_right (by omega) (by omega)
 rw [Int.add_mul,Int.one_mul] at this
 omega
end Go.Proofs.YtohkciilfkhomaaGreat
namespace Go.Proofs.YtohkciilfkhomaaGreat
open Go Go.Sep Go.Pt
attribute [local irreducible] CallT
end Go.Proofs.YtohkciilfkhomaaGreat
namespace Go.Proofs.YtohkciilfkhomaaGreat
open Go Go.Sep Go.Pt
attribute [local irreducible] CallT
theorem LIn.frz:Lay.Frz LIn eL:=by
 rintro c cs G D v s pre post ⟨x,rfl,h⟩ hD hs hG
 rcases h with ⟨rfl,rfl,rfl⟩ | h
 ·refine ⟨G.set s (pre++([.p (.sl [])]++post)),.cell hG (by simp) (fun j a a' e1 e2=>?_),Heap.set_same _ _ _,fun y hy _=>Heap.set_other hy⟩
  rw [List.getElem?_append] at e1 e2
  split at e1
  ·rename_i hlt
   rw [if_pos hlt] at e2
   rw [e1] at e2;cases e2;exact .refl _
  ·rename_i hge
   rw [if_neg hge] at e2
   cases hj:j - pre.length with
   | zero=>
    rw [hj] at e1 e2
    simp at e1 e2
    subst e1;subst e2
    exact .nil
   | succ k=>
    rw [hj] at e1 e2
    simp at e1 e2
    rw [e1] at e2;cases e2;exact .refl _
 ·obtain ⟨G',w,k,f⟩:=LRow.frzIn (e:=eI) (sz:=1) (pre:=pre) (post:=post) (v:=v) (by omega) (fun _=>rfl) (LPl.local eI) (LPl.frz eI) h hD hs (by rw [hG])
  exact ⟨G',w,by rw [k];rfl,f⟩
def outL (n:Nat) (L:List Ed):List (List Int):=(List.range n).map fun s=>(L.filter fun e=>decide (e.src=((s:Nat):Int))).map (·.dst)
theorem outL_len (n:Nat) (L:List Ed):(outL n L).length=n:=by simp [outL]
theorem outL_nil (n:Nat):outL n []=List.replicate n []:=by
 apply List.ext_getElem
 ·simp [outL]
 ·intro i h1 h2;simp [outL]
theorem outL_get (n:Nat) (L:List Ed) {s:Nat} (h:s < n):(outL n L).getD s default=(L.filter fun e=>decide (e.src=(s:Int))).map (·.dst):=by simp [outL,List.getD,h]
theorem outL_push (n:Nat) (L:List Ed) (e:Ed) {w:Nat} (hw:e.src=(w:Int)) (h:w < n):outL n (L++[e])=(outL n L).set w ((outL n L).getD w default++[e.dst]):=by
 apply List.ext_getElem
 ·simp [outL]
 ·intro i h1 h2
  have hi:i < n:=by simpa [outL] using h1
  rw [List.getElem_set]
  by_cases e1:w=i
  ·subst e1
   rw [if_pos rfl,outL_get n L h]
   simp [outL,hw]
  ·rw [if_neg e1]
   have:¬e.src=(i:Int):=by omega
   simp [outL,this]
theorem outL_row (n:Nat) (L:List Ed) (s:Nat) (h:s < n):((outL n L).getD s default).length≤L.length:=by
 rw [outL_get n L h,List.length_map];exact List.length_filter_le ..
end Go.Proofs.YtohkciilfkhomaaGreat
namespace Go.Proofs.YtohkciilfkhomaaGreat
open Go Go.Sep Go.Pt
attribute [local irreducible] CallT
theorem below_mem' {n:Nat} {x:Int}:x∈below n↔0≤x∧x < n:=by
 simp only [below,List.mem_map,List.mem_range]
 constructor
 ·rintro ⟨a,ha,rfl⟩;omega
 ·rintro ⟨h1,h2⟩;exact ⟨x.toNat,by omega,by omega⟩
def letW (s l:List Int) (t:Nat):Int:=(s++l).getD t default
def nxW (s l:List Int) (t:Nat):Nat:=if t+1 < s.length+l.length then t+1 else s.length
theorem letW_1 {s l:List Int} {t:Nat} (h:t < s.length):letW s l t=s.getD t default:=by simp [letW,List.getD,List.getElem?_append_left h]
theorem letW_2 {s l:List Int} {t:Nat} (h:s.length≤t):letW s l t=l.getD (t - s.length) default:=by simp [letW,List.getD,List.getElem?_append_right h]
theorem letterAt_spec (s l:List Int) (h1:s.length≤24) (h2:1≤l.length∧l.length≤24) {t:Nat} (ht:t < s.length+l.length):Pu Tryz.prog 43 [aL2 s l,I t] (I (letW s l t)):=by
 refine Pu.of fun H=>?_
 have e1:IntKind.i64.wrap ((t:Int) - (s.length:Int))=(t:Int) - s.length:=i6_ (by omega) (by omega)
 refine W43_ok ?_;simp (maxSteps:=1000000) (disch:=first | assumption | (apply ν6;assumption)) only [W43,vz,vu,vv,eqS,eF_,↓c1_,↓c2_,tabs,reduceCtorEq,ι5,↓reduceIte,ν1,ν2,ν3,ν4,ν5,ι1,ι2,ι3,ι4]
 intro r hr
 have hle:=Heap.le_set (b:=[Is s,Is l]) hr
 (try simp (maxSteps:=1000000) (disch:=first | assumption | (apply ν6;assumption)) only [vz,vu,vv,eqS,eF_,↓c1_,↓c2_,tabs,reduceCtorEq,ι5,↓reduceIte,ν1,ν2,ν3,ν4,ν5,ι1,ι2,ι3,ι4,e1])
 refine ⟨fun h=>?_,fun h=>?_⟩
 ·rw [letW_1 (by omega)]
  exact ⟨by omega,h,rfl,hle⟩
 ·have e2:((t:Int) - (s.length:Int)).tmod (l.length:Int)=(t:Int) - s.length:=Int.tmod_eq_of_lt (by omega) (by omega)
  have e3:((t:Int) - (s.length:Int)).toNat=t - s.length:=by omega
  rw [e2,e3,letW_2 (by omega)]
  exact ⟨by omega,by omega,by omega,rfl,hle⟩
theorem nextPlace_spec (s l:List Int) (h1:s.length≤24) (h2:1≤l.length∧l.length≤24) {t:Nat} (ht:t < s.length+l.length):Pu Tryz.prog 44 [aL2 s l,I t] (I (nxW s l t:Nat)):=by
 refine Pu.of fun H=>?_
 have e1:IntKind.i64.wrap ((t:Int)+1)=((t+1:Nat):Int):=by rw [i6_ (by omega) (by omega)];simp
 have e2:IntKind.i64.wrap ((s.length:Int)+(l.length:Int))=(s.length:Int)+l.length:=i6_ (by omega) (by omega)
 refine W44_ok ?_;simp (maxSteps:=1000000) (disch:=first | assumption | (apply ν6;assumption)) only [W44,vz,vu,vv,eqS,eF_,↓c1_,↓c2_,tabs,reduceCtorEq,ι5,↓reduceIte,ν1,ν2,ν3,ν4,ν5,ι1,ι2,ι3,ι4]
 intro r hr
 have hle:=Heap.le_set (b:=[Is s,Is l]) hr
 (try simp (maxSteps:=1000000) (disch:=first | assumption | (apply ν6;assumption)) only [vz,vu,vv,eqS,eF_,↓c1_,↓c2_,tabs,reduceCtorEq,ι5,↓reduceIte,ν1,ν2,ν3,ν4,ν5,ι1,ι2,ι3,ι4,e1,e2])
 refine ⟨fun h=>?_,fun h=>?_⟩
 ·rw [nxW,if_pos (by omega)];exact ⟨rfl,hle⟩
 ·rw [nxW,if_neg (by omega)];exact ⟨rfl,hle⟩
def wpS (m:Int) (s l:List Int) (t:Nat) (e:Ed):Ed:=⟨(t:Int)*m+e.src,e.lt,((nxW s l t:Nat):Int)*m+e.dst⟩
def wpR (m:Int) (s l:List Int) (t:Nat) (es:List Ed):List Ed:=(es.filter fun e=>decide (e.lt=letW s l t)).map (wpS m s l t)
def wpE (a:Au) (s l:List Int) (n:Nat):List Ed:=(List.range n).flatMap fun t=>wpR a.states s l t a.edges
theorem wpR_succ (m:Int) (s l:List Int) (t:Nat) (es:List Ed) {j:Nat} (h:j < es.length):wpR m s l t (es.take (j+1))=if (es.getD j default).lt=letW s l t then wpR m s l t (es.take j)++[wpS m s l t (es.getD j default)] else wpR m s l t (es.take j):=by
 unfold wpR
 rw [tS_ h,List.filter_append]
 generalize es.getD j default=e
 by_cases hc:e.lt=letW s l t
 ·rw [if_pos hc];simp [hc]
 ·rw [if_neg hc];simp [hc]
theorem wpE_succ (a:Au) (s l:List Int) (n:Nat):wpE a s l (n+1)=wpE a s l n++wpR a.states s l n a.edges:=by simp [wpE,List.range_succ,List.flatMap_append]
theorem wpR_len (m:Int) (s l:List Int) (t:Nat) (es:List Ed):(wpR m s l t es).length≤es.length:=by
 rw [wpR,List.length_map];exact List.length_filter_le ..
theorem wpE_len (a:Au) (s l:List Int) (n:Nat):(wpE a s l n).length≤n*a.edges.length:=by
 induction n with
 | zero=>simp [wpE]
 | succ n ih=>rw [wpE_succ,List.length_append,Nat.add_mul];have:=wpR_len a.states s l n a.edges;omega
def wpG (a:Au) (T k:Nat):List (List Int):=(a.goals.take k).map fun g=>prs (below T) g a.states
theorem wpG_succ (a:Au) (T:Nat) {k:Nat} (h:k < a.goals.length):wpG a T (k+1)=wpG a T k++[prs (below T) (a.goals.getD k default) a.states]:=by
 unfold wpG;rw [tS_ h,List.map_append];rfl
theorem wpG_len (a:Au) (T k:Nat):(wpG a T k).length≤k:=by rw [wpG,List.length_map,List.length_take];omega
def wpA (a:Au) (s l:List Int):Au:=⟨((s.length+l.length:Nat):Int)*a.states,a.first,wpE a s l (s.length+l.length),wpG a (s.length+l.length) a.goals.length⟩
theorem goodL_f {s l:List Int} (h:goodL s l=true):s.length≤24∧(1≤l.length∧l.length≤24):=by
 simp only [goodL,Bool.and_eq_true,decide_eq_true_eq] at h
 exact ⟨h.1.1,h.1.2⟩
theorem nxW_lt {s l:List Int} {t:Nat} (h:1≤l.length) (ht:t < s.length+l.length):nxW s l t < s.length+l.length:=by
 unfold nxW;split<;>omega
theorem wpA_pr {a:Au} (ga:goodA a=true) {s l:List Int} (hs:s.length≤24) (hl:1≤l.length∧l.length≤24):PrB (wpA a s l):=by
 have fa:=good_facts ga
 have na:=autoN ga
 have sa:=fa.st
 have hed:=fa.ed
 have hm:=mul_bd (a:=((s.length+l.length:Nat):Int)) (A:=48) (b:=a.states) (B:=96) (by omega) (by omega)
 have hpos:1*a.states≤((s.length+l.length:Nat):Int)*a.states:=Int.mul_le_mul_of_nonneg_right (by omega) (by omega)
 have hst:((wpA a s l).states.toNat:Int)=((s.length+l.length:Nat):Int)*a.states:=by show ((((s.length+l.length:Nat):Int)*a.states).toNat:Int)=_;omega
 have hgo:∀g∈(wpA a s l).goals,∃g0∈a.goals,g=prs (below (s.length+l.length)) g0 a.states:=by
  intro g hg
  obtain ⟨g0,h0,rfl⟩:=List.mem_map.1 (show g∈wpG a (s.length+l.length) a.goals.length from hg)
  exact ⟨g0,List.mem_of_mem_take h0,rfl⟩
 refine ⟨⟨⟨by show 1≤((s.length+l.length:Nat):Int)*a.states;omega,by show ((s.length+l.length:Nat):Int)*a.states≤_;omega⟩,?_,fun e he=>?_⟩,by show ((s.length+l.length:Nat):Int)*a.states≤_;omega,fun x hx=>?_,?_,?_,fun g hg x hx=>?_,fun g hg=>?_⟩
 ·show (wpE a s l (s.length+l.length)).length≤_
  have h1:=wpE_len a s l (s.length+l.length)
  have:(s.length+l.length)*a.edges.length≤48*2400:=Nat.mul_le_mul (by omega) hed
  omega
 ·simp only [wpA,wpE,wpR,List.mem_flatMap,List.mem_map,List.mem_filter,List.mem_range] at he
  obtain ⟨t,ht,e,⟨h1,h2⟩,rfl⟩:=he
  have i1:=edIn_iff.1 (fa.ei e h1)
  have hn:=nxW_lt hl.1 ht
  have l1:=lex_bd (i:=(t:Int)) (n:=((s.length+l.length:Nat):Int)) (j:=e.src) (m:=a.states) (by omega) (by omega)
  have l2:=lex_bd (i:=((nxW s l t:Nat):Int)) (n:=((s.length+l.length:Nat):Int)) (j:=e.dst) (m:=a.states) (by omega) (by omega)
  exact edIn_iff.2 ⟨⟨l1.1,l1.2⟩,⟨l2.1,l2.2⟩,i1.2.2⟩
 ·have:=na.fr x hx
  rw [hst];omega
 ·have:=fa.fi.2
  show a.first.length≤_;omega
 ·show (wpG a (s.length+l.length) a.goals.length).length≤_
  have:=wpG_len a (s.length+l.length) a.goals.length
  have:=fa.gl
  omega
 ·obtain ⟨g0,h0,rfl⟩:=hgo g hg
  obtain ⟨i,hi,j,hj,rfl⟩:=prs_mem.1 hx
  have:=below_mem'.1 hi
  have h3:=na.go g0 h0 j hj
  rw [hst]
  exact lex_bd (by omega) (by omega)
 ·obtain ⟨g0,h0,rfl⟩:=hgo g hg
  rw [prs_len,below_len]
  exact Nat.mul_le_mul (show s.length+l.length≤96 by omega) (fa.gi g0 h0).2
end Go.Proofs.YtohkciilfkhomaaGreat
namespace Go.Proofs.YtohkciilfkhomaaGreat
open Go Go.Sep Go.Pt
attribute [local irreducible] CallT
end Go.Proofs.YtohkciilfkhomaaGreat
namespace Go.Proofs.YtohkciilfkhomaaGreat
open Go Go.Sep Go.Pt
attribute [local irreducible] CallT
def gwB (n:Nat) (p:Nat→Bool):List Nat:=(List.range n).filter p
noncomputable def twF (p:Au):Bool:=decide (0≤meetF (rwF (gO p)) (gO p).length (nN p.first) (goN p.goals))
theorem below_takeW (n:Nat) {i:Nat} (h:i≤n):(below n).take i=below i:=by
 unfold below
 rw [← List.map_take,List.take_range,Nat.min_eq_left h]
theorem below_getW {n i:Nat} (h:i < n):(below n).getD i default=(i:Int):=by
 unfold below;simp [List.getD,h]
theorem goalsT (a:Au) (s l:List Int):(wpA a s l).goals=wpG a (s.length+l.length) a.goals.length:=rfl
theorem GoodLasso_any (s l:List Int) (hs:s.length≤1000000000) (hl:l.length≤1000000000):Pu Tryz.prog 14 [aL2 s l] (B (goodL s l)):=GoodLassoR s l hs hl
noncomputable def twR (a:Au) (s l:List Int):Bool×Bool:=if goodA a && goodL s l then (twF (wpA a s l),true) else (false,false)
end Go.Proofs.YtohkciilfkhomaaGreat
