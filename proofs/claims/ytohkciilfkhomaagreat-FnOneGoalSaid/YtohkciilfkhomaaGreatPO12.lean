/- Texts laid together: Tv4 LayF Ss3 Ss4 Tp2 Tw1 Tw2 Tw3 Tw4 Tp3 Dr3 Mi0 Mi1 Mi2 Tz1 Fe4a. -/
import Derived.Test.YtohkciilfkhomaaGreatPO11
import Derived.Shelf.SlSortCmp.NoneTotal
set_option linter.unusedVariables false
set_option linter.unusedSimpArgs false
open Go.Sep.AV renaming any → Q_
open Nat renaming reduceAdd→Y1,reduceLeDiff→Y2,reduceLT→Y3,reduceMul→Y4,reduceSub→Y5
open Int renaming reduceToNat→X1,reduceSub→X2,reduceAdd→X3,reduceNeg→X4
open Array renaming toList→X5
open Ne renaming symm→Y6
open List renaming forall_mem_cons→Y7
namespace Go.Proofs.YtohkciilfkhomaaGreat
open Go Go.Sep Go.Pt
attribute [local irreducible] a_a
theorem lit0W {G:Heap} {K:k_} (h:∀q,G q=none→K (.sl q 1 0 0) (G.set q [])):bS_ tab 26 0 [] G (wkK K):=by
 simp only [bS_,c_x,a_g]
 refine ⟨by omega,?_⟩
 simp only [a_C,zA_,List.replicate_zero,List.flatten_nil]
 exact fun r hr=>wkK.keep (h r hr)
theorem b_B (a:Au) (sa:smAu a) (s l:List Int) (h1:s.length≤1048576) (h2:l.length≤1048576):Pu Tryz.prog 12 [aAu a,aL2 s l] (.tup [B (twR a s l).1,B (twR a s l).2]):=by
 refine Pu.of fun H=>?_
 refine W12_ok ?_;simp (maxSteps:=1000000) (disch:=first|assumption|apply Y6;assumption) only [W12,vz,vu,vv,eqS,eF_,↓c1_,↓c2_,tabs,reduceCtorEq,X5,↓reduceIte,Y1,Y2,Y3,Y4,Y5,X1,X2,X3,X4,mS_]
 intro r hr r3 n3 hr3
 have st:=((St.nil H).cell hr [I a.states,Is a.first,Es a.edges,Ls a.goals]).cell (r:=r3) (by rw [Heap.set_other n3];exact hr3) [Is s,Is l]
 generalize (H.set r [I a.states,Is a.first,Es a.edges,Ls a.goals]).set r3 [Is s,Is l]=G1 at st ⊢
 clear hr hr3 n3
 (try simp (disch:=first|assumption|apply Y6;assumption) only [vz,vu,vv,eqS,eF_,↓c1_,↓c2_,tabs,reduceCtorEq,X5,↓reduceIte,Y1,Y2,Y3,Y4,Y5,X1,X2,X3,X4,lA_ (st.get 1 rfl)])
 refine Pu.use (a_O a sa) ?_
 cases ga:a_l a
 ·(try simp (disch:=first|assumption|apply Y6;assumption) only [vz,vu,vv,eqS,eF_,↓c1_,↓c2_,tabs,reduceCtorEq,X5,↓reduceIte,Y1,Y2,Y3,Y4,Y5,X1,X2,X3,X4])
  first | exact ⟨by simp [twR,ga],st.le⟩ | (simp [twR,ga];exact st.le)
 (try simp (disch:=first|assumption|apply Y6;assumption) only [vz,vu,vv,eqS,eF_,↓c1_,↓c2_,tabs,reduceCtorEq,X5,↓reduceIte,Y1,Y2,Y3,Y4,Y5,X1,X2,X3,X4,lA_ (st.get 0 rfl)])
 refine Pu.use (GoodLassoI s l (by omega) (by omega)) ?_
 cases gl:b_e s l
 ·(try simp (disch:=first|assumption|apply Y6;assumption) only [vz,vu,vv,eqS,eF_,↓c1_,↓c2_,tabs,reduceCtorEq,X5,↓reduceIte,Y1,Y2,Y3,Y4,Y5,X1,X2,X3,X4])
  first | exact ⟨by simp [twR,ga,gl],st.le⟩ | (simp [twR,ga,gl];exact st.le)
 obtain ⟨hs,hl⟩:=f_0 gl
 have fa:=a_B ga
 have sa:=fa.st
 have hed:=fa.ed
 have hgl:=fa.gl
 have hpr:=wpA_pr ga hs hl
 have e0:IntKind.i64.wrap ((s.length:Int)+(l.length:Int))=((s.length+l.length:Nat):Int):=by rw [i6_ (by omega) (by omega)];simp
 have hm:=c_e (a:=((s.length+l.length:Nat):Int)) (A:=48) (b:=a.states) (B:=96) (by omega) (by omega)
 have e1:IntKind.i64.wrap (((s.length+l.length:Nat):Int)*a.states)=((s.length+l.length:Nat):Int)*a.states:=i6_ (by omega) (by omega)
 (try simp (disch:=first|assumption|apply Y6;assumption) only [vz,vu,vv,eqS,eF_,↓c1_,↓c2_,tabs,reduceCtorEq,X5,↓reduceIte,Y1,Y2,Y3,Y4,Y5,X1,X2,X3,X4,lA_ (st.get 0 rfl),lA_ (st.get 1 rfl),e0,e1])
 refine ⟨by omega,by omega,by omega,by omega,fun q hq=>?_⟩
 replace st:=d_l (n:=(((s.length+l.length:Nat):Int)*a.states).toNat) st (q:=q) hq
 clear hq
 rw [← outL_nil] at st
 generalize G1.set q (zA_ (((s.length+l.length:Nat):Int)*a.states).toNat [.p .nil])=G3 at st ⊢
 refine lit0W fun q8 hq8=>?_
 replace st:=st.push (rgT 0 (.sl q8 1 0 0) [] [q8]) (New.cell hq8) (.inr ⟨q8,[],[],rfl,Heap.set_same _ _ _,⟨rfl,rfl⟩,rfl⟩)
 generalize G3.set q8 []=G4 at st ⊢
 clear hq8 G3
 have hwE:∀t j,t≤s.length+l.length→(wpE a s l t++wpR a.states s l t (a.edges.take j)).length≤200000:=fun t j ht=>by
  have h1:=wpE_len a s l t
  have h2:=wpR_len a.states s l t (a.edges.take j)
  rw [List.length_take] at h2
  have h3:t*a.edges.length≤48*2400:=Nat.mul_le_mul (by omega) hed
  rw [List.length_append];omega
 have hT0:outL (((s.length+l.length:Nat):Int)*a.states).toNat (wpE a s l (s.length+l.length))=outR (wpA a s l) (wpA a s l).edges.length:=by
  rw [outL,outR]
  show _=(List.range (((s.length+l.length:Nat):Int)*a.states).toNat).map (outN (wpA a s l) (wpA a s l).edges.length)
  congr 1
  funext t
  rw [outN,List.take_length];rfl
 have hN:∀t:Nat,t < s.length+l.length→∀x:Int,0≤x∧x < a.states→0≤(t:Int)*a.states+x∧(t:Int)*a.states+x < ((s.length+l.length:Nat):Int)*a.states:=fun t ht x hx=>lex_bd (by omega) hx
 obtain ⟨N,hNe⟩:∃N,(((s.length+l.length:Nat):Int)*a.states).toNat=N:=⟨_,rfl⟩
 rw [hNe] at st hT0 ⊢
 have hNi:(N:Int)=((s.length+l.length:Nat):Int)*a.states:=by omega
 refine L12_0_rule ((0:Nat),[q],G4) (fun z=>I z.1) (fun z=>z.2.2)
  (fun z=>z.1≤s.length+l.length∧St H [rgT 0 (.sl q8 1 0 0) [] [q8],tabT q (outL N (wpE a s l z.1)) z.2.1,cT_ r3 [Is s,Is l],cT_ r [I a.states,Is a.first,Es a.edges,Ls a.goals]] z.2.2) (fun z=>s.length+l.length - z.1)
  ⟨⟨by simp,by simpa [wpE] using st⟩,.refl _,Heap.le_refl _⟩ ?_
 clear st G4
 rintro ⟨t,D,G⟩ ⟨ht,st⟩
 dsimp only at ht st
 have e5:IntKind.i64.wrap ((t:Int)+1)=((t+1:Nat):Int):=by rw [i6_ (by omega) (by omega)];simp
 (try simp (disch:=first|assumption|apply Y6;assumption) only [vz,vu,vv,eqS,eF_,↓c1_,↓c2_,tabs,reduceCtorEq,X5,↓reduceIte,Y1,Y2,Y3,Y4,Y5,X1,X2,X3,X4,B12_0,e5])
 refine ⟨fun h1=>?_,fun h1=>?_⟩
 ·have hlt:t < s.length+l.length:=by omega
  have hnx:=nxW_lt (s:=s) hl.1 hlt
  (try simp (disch:=first|assumption|apply Y6;assumption) only [vz,vu,vv,eqS,eF_,↓c1_,↓c2_,tabs,reduceCtorEq,X5,↓reduceIte,Y1,Y2,Y3,Y4,Y5,X1,X2,X3,X4,lA_ (st.get 3 rfl)])
  refine L12_1_rule ((0:Nat),D,G) (fun z=>I z.1) (fun z=>z.2.2)
   (fun z=>z.1≤a.edges.length∧St H [rgT 0 (.sl q8 1 0 0) [] [q8],tabT q (outL N (wpE a s l t++wpR a.states s l t (a.edges.take z.1))) z.2.1,cT_ r3 [Is s,Is l],cT_ r [I a.states,Is a.first,Es a.edges,Ls a.goals]] z.2.2) (fun z=>a.edges.length - z.1)
   ⟨⟨by simp,by simpa [wpR] using st⟩,.refl _,Heap.le_refl _⟩ ?_
  clear st D G
  rintro ⟨j,D,G⟩ ⟨hj,st⟩
  dsimp only at hj st
  have e6:IntKind.i64.wrap ((j:Int)+1)=((j+1:Nat):Int):=by rw [i6_ (by omega) (by omega)];simp
  (try simp (disch:=first|assumption|apply Y6;assumption) only [vz,vu,vv,eqS,eF_,↓c1_,↓c2_,tabs,reduceCtorEq,X5,↓reduceIte,Y1,Y2,Y3,Y4,Y5,X1,X2,X3,X4,B12_1,e6])
  refine ⟨fun h2=>⟨by omega,h2,?_⟩,fun h2=>?_⟩
  ·have hltj:j < a.edges.length:=by omega
   have hdi:=a_h.1 (fa.ei _ (a_e (p:=fun x=>x∈a.edges) (d:=default) (fun _ h=>h) hltj))
   have hs2:=wpR_succ a.states s l t a.edges hltj
   have hbj:=hwE t j ht
   generalize a.edges.getD j default=d at hdi hs2 ⊢
   intro r12 hr12
   replace st:=st.cell hr12 [I d.src,I d.lt,I d.dst]
   generalize G.set r12 [I d.src,I d.lt,I d.dst]=G5 at st ⊢
   clear hr12
   (try simp (disch:=first|assumption|apply Y6;assumption) only [vz,vu,vv,eqS,eF_,↓c1_,↓c2_,tabs,reduceCtorEq,X5,↓reduceIte,Y1,Y2,Y3,Y4,Y5,X1,X2,X3,X4,lA_ (st.get 0 rfl),lA_ (st.get 3 rfl)])
   refine Pu.use (f_Y s l hs hl hlt) ?_
   (try simp (disch:=first|assumption|apply Y6;assumption) only [vz,vu,vv,eqS,eF_,↓c1_,↓c2_,tabs,reduceCtorEq,X5,↓reduceIte,Y1,Y2,Y3,Y4,Y5,X1,X2,X3,X4,lA_ (st.get 0 rfl),lA_ (st.get 3 rfl),lA_ (st.get 4 rfl),e6])
   refine ⟨fun h3=>?_,fun h3=>?_⟩
   ·rw [if_pos h3] at hs2
    have x1:=hN t hlt d.src (by omega)
    have x2:=hN (nxW s l t) hnx d.dst (by omega)
    have y1:0≤(t:Int)*a.states:=Int.mul_nonneg (by omega) (by omega)
    have y2:0≤((nxW s l t:Nat):Int)*a.states:=Int.mul_nonneg (by omega) (by omega)
    have w1:IntKind.i64.wrap ((t:Int)*a.states)=(t:Int)*a.states:=i6_ (by omega) (by omega)
    have w2:IntKind.i64.wrap ((t:Int)*a.states+d.src)=(t:Int)*a.states+d.src:=i6_ (by omega) (by omega)
    have w3:IntKind.i64.wrap (((nxW s l t:Nat):Int)*a.states)=((nxW s l t:Nat):Int)*a.states:=i6_ (by omega) (by omega)
    obtain ⟨xd,hxd⟩:∃xd,((nxW s l t:Nat):Int)*a.states+d.dst=xd:=⟨_,rfl⟩
    have w4:IntKind.i64.wrap (((nxW s l t:Nat):Int)*a.states+d.dst)=xd:=by rw [← hxd];exact i6_ (by omega) (by omega)
    obtain ⟨w,hw⟩:∃w:Nat,(t:Int)*a.states+d.src=(w:Int):=⟨((t:Int)*a.states+d.src).toNat,by omega⟩
    have hwN:w < N:=by omega
    have hpush:=outL_push N (wpE a s l t++wpR a.states s l t (a.edges.take j)) (wpS a.states s l t d) (w:=w) hw hwN
    rw [List.append_assoc,← hs2] at hpush
    have hrl:=outL_row N (wpE a s l t++wpR a.states s l t (a.edges.take j)) w hwN
    have htl:=f_X N (wpE a s l t++wpR a.states s l t (a.edges.take j))
    have hdst:(wpS a.states s l t d).dst=((nxW s l t:Nat):Int)*a.states+d.dst:=rfl
    rw [hdst,hxd] at hpush
    rw [hw] at w2
    obtain ⟨pre,c,post,Di,Dr,hpl,hpp,st⟩:=c_1 st 2 rfl (i:=w) (by omega)
    rw [htl] at hpp
    simp only [List.eraseIdx_cons_succ,List.eraseIdx_cons_zero] at st
    generalize outL N (wpE a s l t++wpR a.states s l t (a.edges.take j))=rows at st hpush hrl htl
    generalize hr0:rows.getD w default=row at st hpush hrl
    have hG:=(st.get 1 rfl:(a_7 q pre c post _ _ Dr).P G5).1
    have hrd:=tab_rd (c:=c) (post:=post) hpl
    have hb:w*1+1≤pre.length+(post.length+1):=by omega
    have hsp:∀c',List.take (w*1) (pre++(c::post))++[c']++List.drop (w*1+1) (pre++(c::post))=pre++(c'::post):=fun c'=>tab_sp hpl
    (try simp (disch:=first|assumption|apply Y6;assumption) only [vz,vu,vv,eqS,eF_,↓c1_,↓c2_,tabs,reduceCtorEq,X5,↓reduceIte,Y1,Y2,Y3,Y4,Y5,X1,X2,X3,X4,lA_ (st.get 2 rfl),lA_ (st.get 4 rfl),lA_ (st.get 5 rfl),w1,w2,w3,w4,hw,lA_ hG,hrd,Int.toNat_natCast])
    refine ⟨by omega,by omega,?_⟩
    first | refine ⟨hb,?_⟩ | skip
    refine Pu.use (e_L s l hs hl hlt) ?_
    (try simp (disch:=first|assumption|apply Y6;assumption) only [vz,vu,vv,eqS,eF_,↓c1_,↓c2_,tabs,reduceCtorEq,X5,↓reduceIte,Y1,Y2,Y3,Y4,Y5,X1,X2,X3,X4,lA_ (st.get 2 rfl),lA_ (st.get 4 rfl),lA_ (st.get 5 rfl),w1,w2,w3,w4,hw,lA_ hG,hrd,Int.toNat_natCast])
    refine ⟨hb,?_⟩
    refine lit1 a_g rfl a_u ⟨rfl,rfl⟩ ?_
    (try simp (disch:=first|assumption|apply Y6;assumption) only [vz,vu,vv,eqS,eF_,↓c1_,↓c2_,tabs,reduceCtorEq,X5,↓reduceIte,Y1,Y2,Y3,Y4,Y5,X1,X2,X3,X4,lA_ (st.get 2 rfl),lA_ (st.get 4 rfl),lA_ (st.get 5 rfl),lA_ hG,hrd])
    refine ⟨hb,?_⟩
    refine d_m (ys:=[xd]) st 0 rfl (by simp only [List.length_cons,List.length_nil];omega) fun q' G' hq' st=>?_
    simp only [List.set_cons_zero] at st
    have hG:=(st.get 1 rfl:(a_7 q pre c post _ _ Dr).P G').1
    (try simp (disch:=first|assumption|apply Y6;assumption) only [vz,vu,vv,eqS,eF_,↓c1_,↓c2_,tabs,reduceCtorEq,X5,↓reduceIte,Y1,Y2,Y3,Y4,Y5,X1,X2,X3,X4,lA_ (st.get 2 rfl),lA_ (st.get 4 rfl),lA_ (st.get 5 rfl),sA_ hG])
    refine ⟨by omega,by omega,hb,?_⟩
    obtain ⟨D',st⟩:=e_a st (by omega)
    rw [← hpush] at st
    rw [hsp]
    simp only [rowP,List.length_append,List.length_singleton] at st
    exact ⟨(j+1,D',_),⟨by simp only;omega,(st.erase 1).perm (List.Perm.swap _ _ _)⟩,by simp only;omega,.refl _,Heap.le_refl _⟩
   ·rw [if_neg h3] at hs2
    exact ⟨(j+1,D,_),⟨by simp only;omega,by rw [hs2];exact st.drop⟩,by simp only;omega,.refl _,Heap.le_refl _⟩
  ·have:j=a.edges.length:=by omega
   subst this
   rw [List.take_length,← f_Z] at st
   (try simp (disch:=first|assumption|apply Y6;assumption) only [vz,vu,vv,eqS,eF_,↓c1_,↓c2_,tabs,reduceCtorEq,X5,↓reduceIte,Y1,Y2,Y3,Y4,Y5,X1,X2,X3,X4,e5])
   exact ⟨(t+1,D,G),⟨by simp only;omega,st⟩,by simp only;omega,.refl _,Heap.le_refl _⟩
 ·have:t=s.length+l.length:=by omega
  subst this
  rw [hT0] at st
  obtain ⟨T,hT⟩:∃T,s.length+l.length=T:=⟨_,rfl⟩
  have hgo:=goalsT a s l
  rw [hT] at hgo ⊢
  have hTb:T≤48:=by omega
  (try simp (disch:=first|assumption|apply Y6;assumption) only [vz,vu,vv,eqS,eF_,↓c1_,↓c2_,tabs,reduceCtorEq,X5,↓reduceIte,Y1,Y2,Y3,Y4,Y5,X1,X2,X3,X4,lA_ (st.get 3 rfl)])
  refine L12_2_rule ((0:Nat),(.sl q8 1 0 0:AV),[q8],G) (fun z=>z.2.1) (fun z=>I z.1) (fun z=>z.2.2.2)
   (fun z=>z.1≤a.goals.length∧St H [rgT 0 z.2.1 (wpG a T z.1) z.2.2.1,tabT q (outR (wpA a s l) (wpA a s l).edges.length) D,cT_ r3 [Is s,Is l],cT_ r [I a.states,Is a.first,Es a.edges,Ls a.goals]] z.2.2.2) (fun z=>a.goals.length - z.1)
   ⟨⟨by simp,by simpa [wpG] using st⟩,.refl _,.refl _,Heap.le_refl _⟩ ?_
  clear st G e5
  rintro ⟨k,x,Dz,G⟩ ⟨hk,st⟩
  dsimp only at hk st
  have e5:IntKind.i64.wrap ((k:Int)+1)=((k+1:Nat):Int):=by rw [i6_ (by omega) (by omega)];simp
  have hwl:=wpG_len a T k
  (try simp (disch:=first|assumption|apply Y6;assumption) only [vz,vu,vv,eqS,eF_,↓c1_,↓c2_,tabs,reduceCtorEq,X5,↓reduceIte,Y1,Y2,Y3,Y4,Y5,X1,X2,X3,X4,B12_2,e5])
  refine ⟨fun h2=>⟨by omega,h2,?_⟩,fun h2=>?_⟩
  ·have hltk:k < a.goals.length:=by omega
   have hgk:=a_e (p:=fun x=>smI x∧x.length≤96) (d:=default) fa.gi hltk
   have hsucc:=wpG_succ a T hltk
   generalize a.goals.getD k default=gk at hgk hsucc ⊢
   refine e_I fun q0 hq0=>?_
   replace st:=st.cell hq0 (cP fI [])
   generalize G.set q0 (cP fI [])=G1 at st ⊢
   clear hq0
   refine L12_3_rule ((0:Nat),q0,G1) (fun z=>rowP z.2.1 (prs (below z.1) gk a.states)) (fun z=>I z.1) (fun z=>z.2.2)
    (fun z=>z.1≤T∧St H [cT_ z.2.1 (cP fI (prs (below z.1) gk a.states)),rgT 0 x (wpG a T k) Dz,tabT q (outR (wpA a s l) (wpA a s l).edges.length) D,cT_ r3 [Is s,Is l],cT_ r [I a.states,Is a.first,Es a.edges,Ls a.goals]] z.2.2) (fun z=>T - z.1)
    ⟨⟨by simp,by simpa [below,prs] using st⟩,by simp [below,prs];exact .refl _,.refl _,Heap.le_refl _⟩ ?_
   clear st
   rintro ⟨i,q1,G⟩ ⟨hi,st⟩
   dsimp only at hi st
   have hpl:=prs_len (below i) gk a.states
   rw [a_H] at hpl
   have hml:i*gk.length≤48*96:=Nat.mul_le_mul (by omega) hgk.2
   (try simp (disch:=first|assumption|apply Y6;assumption) only [vz,vu,vv,eqS,eF_,↓c1_,↓c2_,tabs,reduceCtorEq,X5,↓reduceIte,Y1,Y2,Y3,Y4,Y5,X1,X2,X3,X4,B12_3])
   refine ⟨fun h3=>?_,fun h3=>?_⟩
   ·have hlti:i < T:=by omega
    have hps:prs (below (i+1)) gk a.states=prs (below i) gk a.states++gk.map fun j=>(i:Int)*a.states+j:=by
     have:=prs_succ (below (i+1)) gk a.states (i:=i) (by rw [a_H];omega)
     rw [e_s _ (Nat.le_succ i),f_k (Nat.lt_succ_self i)] at this
     rw [← this,List.take_of_length_le (by rw [a_H];omega)]
    refine L12_4_rule ((0:Nat),q1,G) (fun z=>rowP z.2.1 (prs (below i) gk a.states++(gk.take z.1).map fun j=>(i:Int)*a.states+j)) (fun z=>I z.1) (fun z=>z.2.2)
     (fun z=>z.1≤gk.length∧St H [cT_ z.2.1 (cP fI (prs (below i) gk a.states++(gk.take z.1).map fun j=>(i:Int)*a.states+j)),rgT 0 x (wpG a T k) Dz,tabT q (outR (wpA a s l) (wpA a s l).edges.length) D,cT_ r3 [Is s,Is l],cT_ r [I a.states,Is a.first,Es a.edges,Ls a.goals]] z.2.2) (fun z=>gk.length - z.1)
     ⟨⟨by simp,by simpa using st⟩,by simp;exact .refl _,.refl _,Heap.le_refl _⟩ ?_
    clear st
    rintro ⟨j,q1,G⟩ ⟨hj,st⟩
    dsimp only at hj st
    (try simp (disch:=first|assumption|apply Y6;assumption) only [vz,vu,vv,eqS,eF_,↓c1_,↓c2_,tabs,reduceCtorEq,X5,↓reduceIte,Y1,Y2,Y3,Y4,Y5,X1,X2,X3,X4,B12_4,lA_ (st.get 4 rfl)])
    refine ⟨fun h4=>⟨by omega,h4,?_⟩,fun h4=>?_⟩
    ·have hltj:j < gk.length:=by omega
     have hx:=a_e (p:=fun x=>0≤x∧x≤100000) (d:=default) hgk.1.2 hltj
     have ht:(gk.take (j+1)).map (fun j=>(i:Int)*a.states+j)=(gk.take j).map (fun j=>(i:Int)*a.states+j)++[(i:Int)*a.states+gk.getD j default]:=by
      rw [tS_ hltj,List.map_append];rfl
     have hlt:((gk.take j).map fun j=>(i:Int)*a.states+j).length≤96:=by rw [List.length_map,List.length_take];omega
     generalize gk.getD j default=e at hx ht ⊢
     have m1:=c_e (a:=i) (A:=48) (b:=a.states) (B:=96) (by omega) (by omega)
     have e1:IntKind.i64.wrap ((i:Int)*a.states)=(i:Int)*a.states:=i6_ (by omega) (by omega)
     have e2:IntKind.i64.wrap ((i:Int)*a.states+e)=(i:Int)*a.states+e:=i6_ (by omega) (by omega)
     have e3:IntKind.i64.wrap ((j:Int)+1)=((j+1:Nat):Int):=by rw [i6_ (by omega) (by omega)];simp
     (try simp (disch:=first|assumption|apply Y6;assumption) only [vz,vu,vv,eqS,eF_,↓c1_,↓c2_,tabs,reduceCtorEq,X5,↓reduceIte,Y1,Y2,Y3,Y4,Y5,X1,X2,X3,X4,e1,e2,e3])
     refine lit1 a_g rfl a_u ⟨rfl,rfl⟩ ?_
     refine c_J (ys:=[(i:Int)*a.states+e]) st 0 rfl (by rw [List.length_append];simp only [List.length_singleton];omega) fun q' G' hq' st=>?_
     rw [List.append_assoc,← ht] at st ⊢
     exact ⟨(j+1,q',G'),⟨by simp only;omega,st⟩,by simp only;omega,.refl _,.refl _,Heap.le_refl _⟩
    ·have:j=gk.length:=by omega
     subst this
     rw [List.take_length,← hps] at st ⊢
     have e3:IntKind.i64.wrap ((i:Int)+1)=((i+1:Nat):Int):=by rw [i6_ (by omega) (by omega)];simp
     (try simp (disch:=first|assumption|apply Y6;assumption) only [vz,vu,vv,eqS,eF_,↓c1_,↓c2_,tabs,reduceCtorEq,X5,↓reduceIte,Y1,Y2,Y3,Y4,Y5,X1,X2,X3,X4,e3])
     exact ⟨(i+1,q1,G),⟨by simp only;omega,st⟩,by simp only;omega,.refl _,.refl _,Heap.le_refl _⟩
   ·have:i=T:=by omega
    subst this
    (try simp (disch:=first|assumption|apply Y6;assumption) only [vz,vu,vv,eqS,eF_,↓c1_,↓c2_,tabs,reduceCtorEq,X5,↓reduceIte,Y1,Y2,Y3,Y4,Y5,X1,X2,X3,X4,e5])
    refine a_2 fun ql hql=>?_
    replace st:=st.cell hql [rowP q1 (prs (below i) gk a.states)]
    generalize G.set ql [.sl q1 1 0 (prs (below i) gk a.states).length]=G4 at st ⊢
    (try simp (disch:=first|assumption|apply Y6;assumption) only [vz,vu,vv,eqS,eF_,↓c1_,↓c2_,tabs,reduceCtorEq,X5,↓reduceIte,Y1,Y2,Y3,Y4,Y5,X1,X2,X3,X4])
    refine c_Y st 0 rfl (by omega) fun q' D' G5 hq' st=>?_
    rw [← hsucc] at st
    (try simp (disch:=first|assumption|apply Y6;assumption) only [vz,vu,vv,eqS,eF_,↓c1_,↓c2_,tabs,reduceCtorEq,X5,↓reduceIte,Y1,Y2,Y3,Y4,Y5,X1,X2,X3,X4,e5])
    exact ⟨(k+1,_,D',_),⟨by simp only;omega,st⟩,by simp only;omega,.refl _,.refl _,Heap.le_refl _⟩
  ·have:k=a.goals.length:=by omega
   subst this
   rw [← hgo] at st
   have hme:=meeting_O hpr
   have hfst:(wpA a s l).first=a.first:=rfl
   have htl:(outR (wpA a s l) (wpA a s l).edges.length).length=N:=by rw [c_3];exact hNe
   have htw:twR a s l=(decide (0≤b_S (rwF (gO (wpA a s l))) (gO (wpA a s l)).length (nN (wpA a s l).first) (goN (wpA a s l).goals)),true):=by rw [twR,ga,gl];rfl
   rw [htw]
   generalize b_S (rwF (gO (wpA a s l))) (gO (wpA a s l)).length (nN (wpA a s l).first) (goN (wpA a s l).goals)=mm at hme ⊢
   rw [hfst] at hme
   generalize outR (wpA a s l) (wpA a s l).edges.length=T0 at st hme htl
   generalize (wpA a s l).goals=gs at st hme
   (try simp (disch:=first|assumption|apply Y6;assumption) only [vz,vu,vv,eqS,eF_,↓c1_,↓c2_,tabs,reduceCtorEq,X5,↓reduceIte,Y1,Y2,Y3,Y4,Y5,X1,X2,X3,X4,lA_ (st.get 3 rfl)])
   obtain ⟨Gw,hwk,hfr⟩:∃G',Wk (.tup [.sl q 1 0 T0.length,Is a.first,x]) G (.tup [Ls T0,Is a.first,Ls gs]) G'∧∀y,y∉D→y∉Dz→G' y=G y:=by
    obtain ⟨G1,w1,f1⟩:=LRow.frzV (e:=eL) (sz:=1) (v:=.tup [.sl q 1 0 T0.length,Is a.first,x]) (v':=.tup [Ls T0,Is a.first,x]) (by omega) (fun _=>rfl) LIn.local LIn.frz (st.get 1 rfl) (st.ndT 1 rfl) (fun q _ hr=>.tup (.cons hr (.cons (.same _) (.cons (.same _) .nil))))
    obtain ⟨x',hx,lx⟩:=(st.get 0 rfl:RZ LIc 1 0 x _ G Dz).row
    have lx1:=LRow.local LIc.local lx (G':=G1) fun y hy bb hb=>by rw [f1 y (fun hm=>st.disjI 1 0 rfl rfl (by decide) y hm hy)];exact hb
    obtain ⟨G2,w2,f2⟩:=LRow.frzV (e:=eL) (sz:=1) (v:=.tup [Ls T0,Is a.first,x']) (v':=.tup [Ls T0,Is a.first,Ls gs]) (by omega) (fun _=>rfl) LIc.local LIc.frz lx1 (st.ndT 0 rfl) (fun q _ hr=>.tup (.cons (.same _) (.cons (.same _) (.cons hr .nil))))
    exact ⟨G2,.trans w1 (.trans (.val (v':=.tup [Ls T0,Is a.first,x']) (a_W ⟨.refl _,.refl _,hx,trivial⟩)) w2),fun y h1 h2=>by rw [f2 y h2,f1 y h1]⟩
   have hle:Heap.le H Gw:=fun v bb hb=>by
    rw [hfr v (st.wkNone v bb hb _ (List.mem_of_getElem? (i:=1) rfl)) (st.wkNone v bb hb _ (List.mem_of_getElem? (i:=0) rfl))];exact st.le v bb hb
   rw [htl] at hwk
   refine a_a.pre (Pu.use hme ?_) hwk
   (try simp (disch:=first|assumption|apply Y6;assumption) only [vz,vu,vv,eqS,eF_,↓c1_,↓c2_,tabs,reduceCtorEq,X5,↓reduceIte,Y1,Y2,Y3,Y4,Y5,X1,X2,X3,X4])
   first | exact ⟨rfl,hle⟩ | exact hle
end Go.Proofs.YtohkciilfkhomaaGreat
namespace Go.Sep
open Go Go.RowKit Go.Sort Go.Proofs Go.Pt
theorem a_a.quiet {P:Program} {f:Nat} {args:List AV} {v:AV} (h:a_a P f args (fun _=>none) (fun r _=>r=v)) {xs:Array Value} (ha:∀Z φ,f_n Z φ args xs) {x:Value} (hx:∀Z φ y,Cv Z φ v y→y=x) (w:World) :
  Calls P f xs w fun e w'=>e=.returned x∧∃q os',w'=Go.Sort.grow (w.drewN q) os':=by
 have hor:Heap.or (fun _=>none) (fun _=>none)=(fun _=>none:Heap):=by funext x;rfl
 have sim:Sim (fun _ _=>none) (fun _=>none) w.heap.size w (Heap.or (fun _=>none) (fun _=>none)) w:=by
  rw [hor]
  exact ⟨Nat.le_refl _,Bel.refl _ _,⟨0,fun _ _=>rfl⟩,fun r blk h=>(by simp at h),fun r r' pl pl' h=>absurd rfl h,fun b i v h=>(by cases h),fun b i v _ r pl h=>absurd rfl h⟩
 refine (h.2 w.heap.size w (fun _=>none) (fun _ _=>none) (fun _=>none) w xs (fun r h=>absurd rfl h) sim (ha _ _)).mono ?_
 rintro e w' ⟨y,rfl,v',H1,Z1,φ1,rfl,_,_,_,s1,hc⟩
 refine ⟨by rw [hx _ _ _ hc],w'.drawn - w.drawn,w'.heap.extract w.heap.size w'.heap.size,?_⟩
 obtain ⟨⟨h1,h2,h3,h4,h5⟩,h6⟩:=s1.below
 unfold b_4 at h6
 have hh:w'.heap=w.heap++w'.heap.extract w.heap.size w'.heap.size:=by
  apply Array.ext_getElem?
  intro k
  by_cases hk:k < w.heap.size
  ·rw [Array.getElem?_append_left hk];exact h5 k hk
  ·rw [Array.getElem?_append_right (by omega),Array.getElem?_extract]
   by_cases hk2:k < w'.heap.size
   ·rw [if_pos (by omega)];congr 1;omega
   ·rw [if_neg (by omega)];exact Array.getElem?_eq_none (by omega)
 cases w';cases w
 simp only [Go.Sort.grow,World.drewN] at *
 subst h1;subst h2;subst h3
 rw [← hh]
 congr 1
 omega
end Go.Sep
namespace Go.Proofs.YtohkciilfkhomaaGreat
open Go Go.Sep Go.Pt Go.RowKit Go.Sort
attribute [local irreducible] a_a
theorem edLt_iff (x y:Ed):edLt x y=true↔(x.src < y.src∨x.src=y.src∧(x.lt < y.lt∨x.lt=y.lt∧x.dst < y.dst)):=by
 unfold edLt
 split
 ·split
  ·simp;omega
  ·simp;omega
 ·simp;omega
end Go.Proofs.YtohkciilfkhomaaGreat
namespace Go.Proofs.YtohkciilfkhomaaGreat
open Go Go.Sep Go.Pt
attribute [local irreducible] a_a
theorem edsOk_of {n:Int} {es:List Ed} (hs:es.Pairwise (fun a b=>edLt a b=true)) (hi:∀e∈es,edIn n e=true):e_H n es=true:=by
 unfold e_H
 rw [List.all_eq_true]
 intro i hi'
 rw [List.mem_range] at hi'
 unfold edAt
 rw [Bool.and_eq_true,Bool.or_eq_true,decide_eq_true_eq]
 refine ⟨a_e (p:=fun e=>edIn n e=true) hi hi',?_⟩
 by_cases h0:i=0
 ·exact .inl h0
 ·right
  rw [a_k hi',a_k (show i - 1 < es.length by omega)]
  exact List.pairwise_iff_getElem.1 hs (i - 1) i (by omega) hi' (by omega)
theorem rising_of {l:List Int} {n:Int} (hs:l.Pairwise (· < ·)) (hb:∀x∈l,0≤x∧x < n):a_x l n=true:=by
 unfold a_x
 rw [List.all_eq_true]
 intro i hi
 rw [List.mem_range] at hi
 have h1:=a_e (p:=fun x=>0≤x∧x < n) (d:=default) hb hi
 unfold b_I
 simp only [Bool.and_eq_true,Bool.or_eq_true,decide_eq_true_eq]
 refine ⟨h1,?_⟩
 by_cases h0:i=0
 ·exact .inl h0
 ·right
  rw [a_k hi,a_k (show i - 1 < l.length by omega)]
  exact List.pairwise_iff_getElem.1 hs (i - 1) i (by omega) hi (by omega)
theorem edsOk_pw {n:Int} {es:List Ed} (h:e_H n es=true):es.Pairwise (fun a b=>edLt a b=true):=by
 unfold e_H at h
 rw [List.all_eq_true] at h
 have key:∀d i,i+d+1 < es.length→edLt (es.getD i default) (es.getD (i+d+1) default)=true:=by
  intro d
  induction d with
  | zero=>
   intro i hi
   have h1:=h (i+1) (List.mem_range.2 (by omega))
   unfold edAt at h1
   rw [Bool.and_eq_true,Bool.or_eq_true,decide_eq_true_eq] at h1
   rcases h1.2 with h2 | h2
   ·omega
   ·exact h2
  | succ d ih=>
   intro i hi
   have h1:=ih i (by omega)
   have h2:=h (i+(d+1)+1) (List.mem_range.2 hi)
   unfold edAt at h2
   rw [Bool.and_eq_true,Bool.or_eq_true,decide_eq_true_eq] at h2
   rcases h2.2 with h3 | h3
   ·omega
   ·rw [show i+(d+1)+1 - 1=i+d+1 by omega] at h3
    rw [edLt_iff] at *
    omega
 rw [List.pairwise_iff_getElem]
 intro i j hi hj hij
 have:=key (j - i - 1) i (by omega)
 rw [show i+(j - i - 1)+1=j by omega,a_k hi,a_k hj] at this
 exact this
def gw (n:Nat) (p:Nat→Bool):List Int:=((List.range n).filter p).map fun (g:Nat)=>(g:Int)
theorem gw_succ (n:Nat) (p:Nat→Bool):gw (n+1) p=if p n=true then gw n p++[(n:Int)] else gw n p:=by
 unfold gw
 rw [List.range_succ,List.filter_append,List.map_append]
 by_cases h:p n=true
 ·simp [h]
 ·simp [h]
theorem gw_len (n:Nat) (p:Nat→Bool):(gw n p).length≤n:=by
 unfold gw
 rw [List.length_map]
 have:=List.length_filter_le p (List.range n)
 rwa [List.length_range] at this
end Go.Proofs.YtohkciilfkhomaaGreat
namespace Go.Proofs.YtohkciilfkhomaaGreat
open Go Go.Sep Go.Pt
attribute [local irreducible] a_a
def ltP (u w:Int) (e:Ed):Bool:=decide (e.src=u) && decide (e.dst=w)
def ltF (a:Au) (u w:Int):Int:=((a.edges.find? (ltP u w)).map Ed.lt).getD 0
theorem find_at {α:Type} {xs:List α} {p:α→Bool} {i:Nat} (hi:i < xs.length) (h1:p xs[i]=true) (h2:∀j (hj:j < xs.length),j < i→p xs[j]=false):xs.find? p=some xs[i]:=by
 rw [List.find?_eq_some_iff_getElem]
 exact ⟨h1,i,hi,rfl,fun j hj=>by rw [h2 j (by omega) hj];rfl⟩
theorem find_no {α:Type} {xs:List α} {p:α→Bool} (h2:∀j (hj:j < xs.length),p xs[j]=false):xs.find? p=none:=by
 rw [List.find?_eq_none]
 intro x hx
 obtain ⟨j,hj,rfl⟩:=List.mem_iff_getElem.1 hx
 rw [h2 j hj];simp
theorem e_N (a:Au) (hl:a.edges.length≤1000000) (u w:Int):Pu Tryz.prog 39 [aAu a,I u,I w] (I (ltF a u w)):=by
 refine Pu.of fun H=>?_
 refine W39_ok ?_;simp (maxSteps:=1000000) (disch:=first|assumption|apply Y6;assumption) only [W39,vz,vu,vv,eqS,eF_,↓c1_,↓c2_,tabs,reduceCtorEq,X5,↓reduceIte,Y1,Y2,Y3,Y4,Y5,X1,X2,X3,X4]
 intro r hr
 have hle:=Heap.le_set (b:=[I a.states,Is a.first,Es a.edges,Ls a.goals]) hr
 (try simp (disch:=first|assumption|apply Y6;assumption) only [vz,vu,vv,eqS,eF_,↓c1_,↓c2_,tabs,reduceCtorEq,X5,↓reduceIte,Y1,Y2,Y3,Y4,Y5,X1,X2,X3,X4])
 generalize H.set r [I a.states,Is a.first,Es a.edges,Ls a.goals]=G at hle ⊢
 refine L39_0_rule (0:Nat) (fun i=>I i) (fun _=>G) (fun i=>i≤a.edges.length∧∀j (hj:j < a.edges.length),j < i→ltP u w a.edges[j]=false) (fun i=>a.edges.length - i) ⟨⟨by omega,by intros;omega⟩,.refl _,Heap.le_refl _⟩ ?_
 rintro i ⟨hi,ha⟩
 (try simp (disch:=first|assumption|apply Y6;assumption) only [vz,vu,vv,eqS,eF_,↓c1_,↓c2_,tabs,reduceCtorEq,X5,↓reduceIte,Y1,Y2,Y3,Y4,Y5,X1,X2,X3,X4,B39_0])
 refine ⟨fun h=>?_,fun h=>?_⟩
 ·have hlt:i < a.edges.length:=by omega
  have hm:(a.edges.getD i default)=a.edges[i]:=a_k hlt
  rw [hm]
  have nx:ltP u w a.edges[i]=false→∀j (hj:j < a.edges.length),j < i+1→ltP u w a.edges[j]=false:=fun h1 j hj hji=>by
   rcases Nat.lt_succ_iff_lt_or_eq.1 hji with h2 | rfl
   ·exact ha j hj h2
   ·exact h1
  refine ⟨by omega,by omega,?_⟩
  intro r2 hr2
  have hle2:=Heap.le_trans hle (Heap.le_set (b:=[I a.edges[i].src,I a.edges[i].lt,I a.edges[i].dst]) hr2)
  have hle3:=Heap.le_set (b:=[I a.edges[i].src,I a.edges[i].lt,I a.edges[i].dst]) hr2
  (try simp (disch:=first|assumption|apply Y6;assumption) only [vz,vu,vv,eqS,eF_,↓c1_,↓c2_,tabs,reduceCtorEq,X5,↓reduceIte,Y1,Y2,Y3,Y4,Y5,X1,X2,X3,X4])
  have hx:IntKind.i64.wrap ((i:Int)+1)=((i+1:Nat):Int):=by rw [i6_ (by omega) (by omega)];simp
  refine ⟨fun h1=>⟨fun h2=>⟨?_,hle2⟩,fun h2=>⟨i+1,⟨by omega,nx (by simp [ltP,h2])⟩,by omega,by rw [hx];exact .refl _,hle3⟩⟩,fun h1=>⟨i+1,⟨by omega,nx (by simp [ltP,h1])⟩,by omega,by rw [hx];exact .refl _,hle3⟩⟩
  rw [ltF,find_at hlt (by simp [ltP,h1,h2]) ha]
  rfl
 ·have e:i=a.edges.length:=by omega
  subst e
  refine ⟨?_,hle⟩
  rw [ltF,find_no fun j hj=>ha j hj hj]
  rfl
end Go.Proofs.YtohkciilfkhomaaGreat
namespace Go.Proofs.YtohkciilfkhomaaGreat
open Go Go.Sep Go.Pt
attribute [local irreducible] a_a
end Go.Proofs.YtohkciilfkhomaaGreat
namespace Go.Proofs.YtohkciilfkhomaaGreat
open Go Go.Sep Go.Pt
attribute [local irreducible] a_a
noncomputable def c1F (row:Nat→List Nat) (m v w:Nat):Bool:=decide (a_n (aO_ row) v=a_n (aO_ row) m) && decide (a_n (aO_ row) w=a_n (aO_ row) m)
noncomputable def in1G (g:List (List Nat)) (m:Nat):List (List Nat):=(List.range g.length).map (in1F (rwF g) m)
noncomputable def w1R (g:List (List Nat)) (m k j:Nat):List (List Nat):=(List.range g.length).map fun v=>if v < k then in1F (rwF g) m v else if v=k then ((rwF g k).take j).filter (c1F (rwF g) m k) else []
end Go.Proofs.YtohkciilfkhomaaGreat
namespace Go.Proofs.YtohkciilfkhomaaGreat
open Go Go.Sep Go.Pt
attribute [local irreducible] a_a
end Go.Proofs.YtohkciilfkhomaaGreat
namespace Go.Proofs.YtohkciilfkhomaaGreat
open Go Go.Sep Go.Pt
attribute [local irreducible] a_a
theorem buildN_1 (x:Int):b_f tab 24 1 [(0,I x)]=some (fun r=>.sl r 1 0 1,cP fI [x]):=by
 simp only [b_f,a_g,a_u]
 rfl
end Go.Proofs.YtohkciilfkhomaaGreat
namespace Go.Proofs.YtohkciilfkhomaaGreat
open Go Go.Sep Go.Pt
attribute [local irreducible] a_a
noncomputable def wS (a:Au):List Nat:=laS (rwF (gA a)) (gA a).length (nN a.first) (goN a.goals)
noncomputable def wL (a:Au):List Nat:=laL (rwF (gA a)) (gA a).length (nN a.first) (goN a.goals)
def wyF (S L:List Nat):List Nat:=S++L++[L.getD 0 0]
def ltsF (a:Au) (wy:List Nat) (n:Nat):List Int:=(List.range n).map fun i=>ltF a (wy.getD i 0) (wy.getD (i+1) 0)
theorem f_3 (a:Au) (wy:List Nat) (n:Nat):(ltsF a wy n).length=n:=by simp [ltsF]
theorem ltsF_succ (a:Au) (wy:List Nat) (n:Nat):ltsF a wy (n+1)=ltsF a wy n++[ltF a (wy.getD n 0) (wy.getD (n+1) 0)]:=by simp [ltsF,List.range_succ]
structure WayA (a:Au) (S L:List Nat):Prop where
 ne:0 < L.length
 sz:S.length≤100∧L.length≤2000
 way:∀i,i < S.length+L.length→a.edges.any (ltP (((wyF S L).getD i 0:Nat):Int) (((wyF S L).getD (i+1) 0:Nat):Int))=true
theorem arc_edge {a:Au} (fa:GoodF a) {u w:Nat} (h:w∈rwF (gA a) u):a.edges.any (ltP (u:Int) (w:Int))=true:=by
 have hu:u < (b_q a).length:=by
  rcases Nat.lt_or_ge u (gA a).length with h2 | h2
  ·simpa [gA] using h2
  ·rw [c_i (by omega)] at h;cases h
 have e:rwF (gA a) u=nN (sc (outN a a.edges.length u)):=by
  have hu2:u < a.states.toNat:=by rw [c_4] at hu;exact hu
  simp [rwF,gA,b_q,List.getD,hu2]
 rw [e] at h
 obtain ⟨x,hx,rfl⟩:=List.mem_map.1 h
 rw [sc_mem] at hx
 simp only [outN,List.mem_map,List.mem_filter,List.take_length,decide_eq_true_eq] at hx
 obtain ⟨e,⟨he,h1⟩,rfl⟩:=hx
 have:=a_h.1 (fa.ei e he)
 refine List.any_eq_true.2 ⟨e,he,?_⟩
 simp only [ltP,Bool.and_eq_true,decide_eq_true_eq]
 omega
theorem wayA_of {a:Au} (h:AutoN a) (hf:fairA a=true):WayA a (wS a) (wL a):=by
 obtain ⟨h1,h2,h3⟩:=h.gob
 have hst:=h.f.st
 have hl:=c_A a
 have hg:=gA_B h.f
 have hm:¬b_S (rwF (gA a)) (gA a).length (nN a.first) (goN a.goals) < 0:=by
  simpa [fairA,laB] using hf
 have hfi:∀v∈nN a.first,v < (gA a).length:=by rw [hl];exact c_v h.fr
 obtain ⟨m,em,hml,hfair,hreach⟩:=e_f hg.gr hfi hm
 obtain ⟨FL,hsl2,hrl2,_,_⟩:=d_q (b:=96) hg.gr hml hfair (fun l hl=>⟨h1.lt l hl,h2 l hl⟩) hreach
 have eS:wS a=stemF (rwF (gA a)) (gA a).length m (nN a.first):=by rw [wS,laS,if_neg hm,em];rfl
 have eL:wL a=ringF (rwF (gA a)) (gA a).length m (goN a.goals):=by rw [wL,laL,if_neg hm,em];rfl
 rw [← eS,← eL] at FL
 rw [← eS] at hsl2
 rw [← eL] at hrl2
 have hgl:(goN a.goals).length≤6:=by have:=h.f.gl;simpa [goN] using this
 refine ⟨FL.ne,⟨by omega,?_⟩,fun i hi=>arc_edge h.f ?_⟩
 ·have:(goN a.goals).length*((gA a).length+96)≤6*192:=Nat.mul_le_mul hgl (by omega)
  omega
 ·exact FL.way i (by simp only [List.length_append,List.length_cons,List.length_nil];omega)
theorem wyF_len (S L:List Nat):(wyF S L).length=S.length+L.length+1:=by simp [wyF];omega
noncomputable def woB (a:Au):Bool:=a_l a && (fairA a && b_e (ltsF a (wyF (wS a) (wL a)) (wS a).length) ((ltsF a (wyF (wS a) (wL a)) ((wS a).length+(wL a).length)).drop (wS a).length))
noncomputable def woS (a:Au):List Int:=if woB a then ltsF a (wyF (wS a) (wL a)) (wS a).length else []
noncomputable def woL (a:Au):List Int:=if woB a then (ltsF a (wyF (wS a) (wL a)) ((wS a).length+(wL a).length)).drop (wS a).length else []
theorem ltsF_take (a:Au) (wy:List Nat) {n k:Nat} (h:k≤n):(ltsF a wy n).take k=ltsF a wy k:=by
 rw [ltsF,ltsF,← List.map_take,List.take_range]
 congr 2;omega
theorem wk_la {H G:Heap} {Ts:List Th} {z1 z2:Nat} {x y:AV} {l m:List Int} {D1 D2:List Nat} (s:St H Ts G) (i j:Nat) (hi:Ts[i]?=some (riT z1 x l D1)) (hj:Ts[j]?=some (riT z2 y m D2)) (hij:i≠j) :
  ∃G',Wk (.tup [.agg [x,y]]) G (.tup [aL2 l m]) G'∧∀w,w∉D1→w∉D2→G' w=G w:=by
 obtain ⟨x',hx,lx⟩:=(s.get i hi:RZ (LPl eI) 1 z1 x l G D1).row
 obtain ⟨y',hy,ly⟩:=(s.get j hj:RZ (LPl eI) 1 z2 y m G D2).row
 obtain ⟨q1,c1,E1,rfl,hq1,ll1,rfl⟩:=lx
 obtain ⟨q2,c2,E2,rfl,hq2,ll2,rfl⟩:=ly
 obtain ⟨rfl,rfl⟩:=LL.plain' ll1
 obtain ⟨rfl,rfl⟩:=LL.plain' ll2
 have hne:q2≠q1:=fun e=>s.disjI i j hi hj hij q1 (by simp [rzT]) (by simp [rzT,e])
 have f1:FrzR q1 1 (l.map eI) (.tup [.agg [.sl q1 1 0 l.length,.sl q2 1 0 m.length]]) (.tup [.agg [Is l,.sl q2 1 0 m.length]]):=by
  have:FrzR q1 1 (l.map eI) (.sl q1 1 0 (l.map eI).length) (.p (.sl (l.map eI))):=.here
  rw [List.length_map] at this
  exact .tup (.cons (.agg (.cons this (.cons (.same _) .nil))) .nil)
 have f2:FrzR q2 1 (m.map eI) (.tup [.agg [Is l,.sl q2 1 0 m.length]]) (.tup [.agg [Is l,Is m]]):=by
  have:FrzR q2 1 (m.map eI) (.sl q2 1 0 (m.map eI).length) (.p (.sl (m.map eI))):=.here
  rw [List.length_map] at this
  exact .tup (.cons (.agg (.cons (.same _) (.cons this .nil))) .nil)
 have w1:Wk (.tup [.agg [x,y]]) G (.tup [.agg [.sl q1 1 0 l.length,.sl q2 1 0 m.length]]) G:=.val (a_W ⟨b_9 ⟨hx,hy,trivial⟩,trivial⟩)
 have w2:=Wk.frz (sz:=1) (by omega) hq1 (a_q (f:=eI) (fun _=>rfl) l) f1
 have w3:=Wk.frz (H:=G.del q1) (sz:=1) (by omega) (by rw [Heap.del_other hne];exact hq2) (a_q (f:=eI) (fun _=>rfl) m) f2
 refine ⟨_,.trans w1 (.trans w2 w3),fun w h1 h2=>?_⟩
 rw [Heap.del_other (fun e=>h2 (by simp [e])),Heap.del_other (fun e=>h1 (by simp [e]))]
theorem take_grow {l:List Int} {c:Int} {s:Nat} (h:l.length < s):(l++[c]).take s=l.take s++[c]:=by
 rw [List.take_of_length_le (by simp;omega),List.take_of_length_le (by omega)]
theorem drop_grow {l:List Int} {c:Int} {s:Nat} (h:l.length < s):(l++[c]).drop s=l.drop s:=by
 rw [List.drop_eq_nil_of_le (by simp;omega),List.drop_eq_nil_of_le (by omega)]
theorem WordOf_ref (a:Au) (sa:smAu a):Pu Tryz.prog 8 [aAu a] (.tup [aL2 (woS a) (woL a),B (woB a)]):=by
 refine ⟨fun H=>a_a.fin ?_⟩
 refine a_a.ghost W8_hb fun z1 hz1=>?_
 refine a_a.ghost W8_hb fun z2 hz2=>?_
 have st:=lent (LPl.local eI) (LPl.has eI) 1 (lent (LPl.local eI) (LPl.has eI) 1 (((St.nil H).cell hz1 []).cell hz2 []) 1 rfl) 0 rfl
 generalize (H.set z1 []).set z2 []=G0 at st ⊢
 clear hz1 hz2
 refine W8_ok ?_;simp (maxSteps:=1000000) (disch:=first|assumption|apply Y6;assumption) only [W8,vz,vu,vv,eqS,eF_,↓c1_,↓c2_,tabs,reduceCtorEq,X5,↓reduceIte,Y1,Y2,Y3,Y4,Y5,X1,X2,X3,X4]
 intro r hr r2 n2r hr2
 replace st:=(st.cell hr [I a.states,Is a.first,Es a.edges,Ls a.goals]).cell (r:=r2) (by rw [Heap.set_other n2r];exact hr2) [.p .nil,.p .nil]
 generalize (G0.set r [I a.states,Is a.first,Es a.edges,Ls a.goals]).set r2 [.p .nil,.p .nil]=G at st ⊢
 clear hr hr2 n2r G0
 have no:∀G',Heap.le H G'→woB a=false→wkK (fun r H'=>r=AV.tup [aL2 (woS a) (woL a),B (woB a)]∧H'=H) (.tup [.agg [.p .nil,.p .nil],.p (.bool false)]) G':=fun G' hle hb=>by
  rw [woS,woL,hb]
  exact ⟨_,_,.trans (.val (v':=.tup [aL2 [] [],B false]) (a_W ⟨b_9 ⟨.nil,.nil,trivial⟩,.refl _,trivial⟩)) (.forget hle),rfl,rfl⟩
 (try simp (disch:=first|assumption|apply Y6;assumption) only [vz,vu,vv,eqS,eF_,↓c1_,↓c2_,tabs,reduceCtorEq,X5,↓reduceIte,Y1,Y2,Y3,Y4,Y5,X1,X2,X3,X4,lA_ (st.get 1 rfl)])
 refine Pu.use (a_F a sa) ?_
 cases ga:a_l a
 ·(try simp (disch:=first|assumption|apply Y6;assumption) only [vz,vu,vv,eqS,eF_,↓c1_,↓c2_,tabs,reduceCtorEq,X5,↓reduceIte,Y1,Y2,Y3,Y4,Y5,X1,X2,X3,X4,sA_ (st.get 0 rfl)])
  exact no _ (st.put 0 rfl _).le (by rw [woB,ga];rfl)
 ·have hN:=d_u ga
  (try simp (disch:=first|assumption|apply Y6;assumption) only [vz,vu,vv,eqS,eF_,↓c1_,↓c2_,tabs,reduceCtorEq,X5,↓reduceIte,Y1,Y2,Y3,Y4,Y5,X1,X2,X3,X4,lA_ (st.get 1 rfl)])
  refine Pu.use (b_U a hN.f) ?_
  (try simp (disch:=first|assumption|apply Y6;assumption) only [vz,vu,vv,eqS,eF_,↓c1_,↓c2_,tabs,reduceCtorEq,X5,↓reduceIte,Y1,Y2,Y3,Y4,Y5,X1,X2,X3,X4,lA_ (st.get 1 rfl)])
  refine Pu.use (lasso_A hN) ?_
  have ev:e_o (rwF (gA a)) (gA a).length (nN a.first) (goN a.goals)=.tup [Is (nI (wS a)),Is (nI (wL a)),B (fairA a)]:=rfl
  rw [ev]
  cases hf:fairA a
  ·(try simp (disch:=first|assumption|apply Y6;assumption) only [vz,vu,vv,eqS,eF_,↓c1_,↓c2_,tabs,reduceCtorEq,X5,↓reduceIte,Y1,Y2,Y3,Y4,Y5,X1,X2,X3,X4,sA_ (st.get 0 rfl)])
   exact no _ (st.put 0 rfl _).le (by rw [woB,hf,ga];rfl)
  have hw:=wayA_of hN hf
  have hb:woB a=b_e (ltsF a (wyF (wS a) (wL a)) (wS a).length) ((ltsF a (wyF (wS a) (wL a)) ((wS a).length+(wL a).length)).drop (wS a).length):=by rw [woB,ga,hf];rfl
  rw [woS,woL,hb]
  clear no hb
  generalize wS a=S at hw ⊢
  generalize wL a=L at hw ⊢
  have hS:=nL_ S
  have hL:=nL_ L
  have hne:=hw.ne
  obtain ⟨hs1,hs2⟩:=hw.sz
  have hl0:(nI L).getD 0 default=((L.getD 0 0:Nat):Int):=a_D hne
  have hbn:=buildN_1 (L.getD 0 0)
  (try simp (disch:=first|assumption|apply Y6;assumption) only [vz,vu,vv,eqS,eF_,↓c1_,↓c2_,tabs,reduceCtorEq,X5,↓reduceIte,Y1,Y2,Y3,Y4,Y5,X1,X2,X3,X4,hL,hl0,hbn,b_g,newV,Int.toNat_zero])
  refine ⟨by omega,by omega,?_⟩
  refine b_K (nI S) (by omega) fun q hq=>?_
  replace st:=st.cell hq (cP fI (nI S))
  generalize G.set q (cP fI (nI S))=G1 at st ⊢
  clear hq
  refine c_J (ys:=nI L) st 0 rfl (by omega) fun q1 G1 hq1 st=>?_
  intro r1 hr1
  change aP_ _ _ _ _ _ (G1.set r1 (cP fI (nI [L.getD 0 0]))) _
  replace st:=st.cell hr1 (cP fI (nI [L.getD 0 0]))
  generalize G1.set r1 (cP fI (nI [L.getD 0 0]))=G2 at st ⊢
  clear hr1 hq1
  refine st_appL (off:=0) (n:=1) st 1 rfl (st.get 0 rfl) (by simp [nI]) (by rw [List.length_append];omega) fun q2 G3 hq2 st=>?_
  have ew:nI S++nI L++((nI [L.getD 0 0]).drop 0).take 1=nI (wyF S L):=by simp [wyF,nI]
  rw [ew] at st ⊢
  have hwl:=wyF_len S L
  have hwI:=nL_ (wyF S L)
  intro r8 hr8
  replace st:=st.cell hr8 [.p .nil,.p .nil]
  generalize G3.set r8 [.p .nil,.p .nil]=G4 at st ⊢
  clear hr8 hq2
  have hway:=hw.way
  clear ew hw hl0 hbn hL
  generalize wyF S L=wy at st hwl hwI hway ⊢
  have st2:St H [cT_ r8 [.p .nil,.p .nil],cT_ r1 (cP fI (nI [L.getD 0 0])),cT_ q2 (cP fI (nI wy)),cT_ r2 [.p .nil,.p .nil],cT_ r [I a.states,Is a.first,Es a.edges,Ls a.goals],riT z2 (.p .nil) [] [z2],riT z1 (.p .nil) [] [z1]] G4:=st
  clear st
  have hed:=hN.f.ed
  refine L8_0_rule ((0:Nat),(.p .nil:AV),[z1],(.p .nil:AV),[z2],G4) (fun z=>I z.1) (fun z=>z.2.2.2.2.2)
   (fun z=>z.1≤S.length+L.length∧St H [cT_ r8 [z.2.1,z.2.2.2.1],cT_ r1 (cP fI (nI [L.getD 0 0])),cT_ q2 (cP fI (nI wy)),cT_ r2 [.p .nil,.p .nil],cT_ r [I a.states,Is a.first,Es a.edges,Ls a.goals],riT z2 z.2.2.2.1 ((ltsF a wy z.1).drop S.length) z.2.2.2.2.1,riT z1 z.2.1 ((ltsF a wy z.1).take S.length) z.2.2.1] z.2.2.2.2.2) (fun z=>S.length+L.length - z.1)
   ⟨⟨by simp,by simpa [ltsF] using st2⟩,.refl _,Heap.le_refl _⟩ ?_
  clear st2 G4
  rintro ⟨i,x,D1,y,D2,G⟩ ⟨hi,st⟩
  dsimp only at hi st
  have e5:IntKind.i64.wrap ((i:Int)+1)=((i+1:Nat):Int):=by rw [i6_ (by omega) (by omega)];simp
  (try simp (disch:=first|assumption|apply Y6;assumption) only [vz,vu,vv,eqS,eF_,↓c1_,↓c2_,tabs,reduceCtorEq,X5,↓reduceIte,Y1,Y2,Y3,Y4,Y5,X1,X2,X3,X4,B8_0,hwI,e5])
  refine ⟨fun h1=>?_,fun h1=>?_⟩
  ·have hlt:i < S.length+L.length:=by omega
   have g1:=c_u (l:=nI wy) (i:=i) (by omega)
   have g2:=c_u (l:=nI wy) (i:=i+1) (by omega)
   rw [a_D (by omega)] at g1 g2
   have hcl:(cP fI (nI wy)).length=wy.length:=by simp [cP,hwI]
   (try simp (disch:=first|assumption|apply Y6;assumption) only [vz,vu,vv,eqS,eF_,↓c1_,↓c2_,tabs,reduceCtorEq,X5,↓reduceIte,Y1,Y2,Y3,Y4,Y5,X1,X2,X3,X4,lA_ (st.get 4 rfl),lA_ (st.get 2 rfl),hcl,g1,g2,Int.toNat_natCast])
   repeat refine ⟨by omega,?_⟩
   refine Pu.use (e_N a (by omega) _ _) ?_
   have hsu:=ltsF_succ a wy i
   have hlen:=f_3 a wy i
   generalize ltF a (wy.getD i 0:Nat) (wy.getD (i+1) 0:Nat)=c at hsu ⊢
   have h8:=st.get 0 rfl
   (try simp (disch:=first|assumption|apply Y6;assumption) only [vz,vu,vv,eqS,eF_,↓c1_,↓c2_,tabs,reduceCtorEq,X5,↓reduceIte,Y1,Y2,Y3,Y4,Y5,X1,X2,X3,X4,hS])
   refine ⟨fun h2=>?_,fun h2=>?_⟩
   ·have et:(ltsF a wy (i+1)).take S.length=(ltsF a wy i).take S.length++[c]:=by rw [hsu,take_grow (by omega)]
    have ed:(ltsF a wy (i+1)).drop S.length=(ltsF a wy i).drop S.length:=by rw [hsu,drop_grow (by omega)]
    (try simp (disch:=first|assumption|apply Y6;assumption) only [vz,vu,vv,eqS,eF_,↓c1_,↓c2_,tabs,reduceCtorEq,X5,↓reduceIte,Y1,Y2,Y3,Y4,Y5,X1,X2,X3,X4,lA_ h8])
    refine lit1 a_g rfl a_u ⟨rfl,rfl⟩ ?_
    refine c_I (ys:=[c]) st 6 rfl (by rw [List.length_take];simp only [List.length_cons,List.length_nil];omega) fun q' G' hq' st=>?_
    rw [← et] at st ⊢
    rw [← ed] at st
    obtain ⟨l',hl'⟩:∃l',(ltsF a wy (i+1)).take S.length=l':=⟨_,rfl⟩
    rw [hl'] at st ⊢
    (try simp (disch:=first|assumption|apply Y6;assumption) only [vz,vu,vv,eqS,eF_,↓c1_,↓c2_,tabs,reduceCtorEq,X5,↓reduceIte,Y1,Y2,Y3,Y4,Y5,X1,X2,X3,X4,sA_ (st.get 0 rfl)])
    replace st:=st.put 0 rfl [rowP q' l',y]
    rw [← hl'] at st
    exact ⟨(i+1,_,_,_,_,_),⟨by simp only;omega,st⟩,by simp only;omega,.refl _,by rw [hl'];exact Heap.le_refl _⟩
   ·have et:(ltsF a wy (i+1)).take S.length=(ltsF a wy i).take S.length:=by rw [hsu,List.take_append_of_le_length (by omega)]
    have ed:(ltsF a wy (i+1)).drop S.length=(ltsF a wy i).drop S.length++[c]:=by rw [hsu,List.drop_append_of_le_length (by omega)]
    (try simp (disch:=first|assumption|apply Y6;assumption) only [vz,vu,vv,eqS,eF_,↓c1_,↓c2_,tabs,reduceCtorEq,X5,↓reduceIte,Y1,Y2,Y3,Y4,Y5,X1,X2,X3,X4,lA_ h8])
    refine lit1 a_g rfl a_u ⟨rfl,rfl⟩ ?_
    refine c_I (ys:=[c]) st 5 rfl (by rw [List.length_drop];simp only [List.length_cons,List.length_nil];omega) fun q' G' hq' st=>?_
    rw [← ed] at st ⊢
    rw [← et] at st
    obtain ⟨l',hl'⟩:∃l',(ltsF a wy (i+1)).drop S.length=l':=⟨_,rfl⟩
    rw [hl'] at st ⊢
    (try simp (disch:=first|assumption|apply Y6;assumption) only [vz,vu,vv,eqS,eF_,↓c1_,↓c2_,tabs,reduceCtorEq,X5,↓reduceIte,Y1,Y2,Y3,Y4,Y5,X1,X2,X3,X4,sA_ (st.get 0 rfl)])
    replace st:=st.put 0 rfl [x,rowP q' l']
    rw [← hl'] at st
    exact ⟨(i+1,_,_,_,_,_),⟨by simp only;omega,st⟩,by simp only;omega,.refl _,by rw [hl'];exact Heap.le_refl _⟩
  ·have:i=S.length+L.length:=by omega
   subst this
   have hlen:=f_3 a wy (S.length+L.length)
   have et:=ltsF_take a wy (n:=S.length+L.length) (k:=S.length) (by omega)
   have hlen2:=f_3 a wy S.length
   rw [et] at st
   obtain ⟨Gw,hwk,hfr⟩:=wk_la st 6 5 rfl rfl (by decide)
   have hle:Heap.le H Gw:=fun v b hb=>by
    rw [hfr v (st.wkNone v b hb _ (List.mem_of_getElem? (i:=6) rfl)) (st.wkNone v b hb _ (List.mem_of_getElem? (i:=5) rfl))];exact st.le v b hb
   have g2:Gw r2=some [.p .nil,.p .nil]:=by
    rw [hfr r2 (fun hm=>st.disjI 6 3 rfl rfl (by decide) r2 hm (by simp [cT_])) (fun hm=>st.disjI 5 3 rfl rfl (by decide) r2 hm (by simp [cT_]))];exact st.get 3 rfl
   have hle2:∀b,Heap.le H (Gw.set r2 b):=fun b v c hb=>by
    rw [Heap.set_other (fun e=>st.wkNone v c hb _ (List.mem_of_getElem? (i:=3) rfl) (by simp [cT_,e]))];exact hle v c hb
   have hdl:((ltsF a wy (S.length+L.length)).drop S.length).length≤1000000000:=by rw [List.length_drop];omega
   generalize (ltsF a wy (S.length+L.length)).drop S.length=dl at hwk hdl ⊢
   generalize ltsF a wy S.length=sl at hwk hlen2 ⊢
   have hx:=RZ.sl (st.get 6 rfl:RZ (LPl eI) 1 z1 x _ G D1)
   have hy:=RZ.sl (st.get 5 rfl:RZ (LPl eI) 1 z2 y _ G D2)
   (try simp (disch:=first|assumption|apply Y6;assumption) only [vz,vu,vv,eqS,eF_,↓c1_,↓c2_,tabs,reduceCtorEq,X5,↓reduceIte,Y1,Y2,Y3,Y4,Y5,X1,X2,X3,X4,lA_ (st.get 0 rfl)])
   refine a_a.pre (Pu.use (l9Made_spec sl dl (by omega) hdl) ?_) hwk
   (try simp (disch:=first|assumption|apply Y6;assumption) only [vz,vu,vv,eqS,eF_,↓c1_,↓c2_,tabs,reduceCtorEq,X5,↓reduceIte,Y1,Y2,Y3,Y4,Y5,X1,X2,X3,X4,sA_ g2])
   refine ⟨_,_,.forget (hle2 _),?_,rfl⟩
   cases b_e sl dl<;>rfl
end Go.Proofs.YtohkciilfkhomaaGreat
namespace Go.Proofs.YtohkciilfkhomaaGreat
open Go Go.Sep Go.Pt
attribute [local irreducible] a_a
theorem bigC (a b:List Int):Pu Tryz.prog 5 [.p (.sl (a.map e8)),.p (.sl (b.map e8))] (B (decide (1048576 < a.length+b.length))):=by
 refine Pu.of fun H=>?_
 refine W5_ok ?_;simp (maxSteps:=1000000) (disch:=first|assumption|apply Y6;assumption) only [W5,vz,vu,vv,eqS,eF_,↓c1_,↓c2_,tabs,reduceCtorEq,X5,↓reduceIte,Y1,Y2,Y3,Y4,Y5,X1,X2,X3,X4]
 refine ⟨fun h=>?_,fun h=>?_⟩
 ·have:1048576 < a.length+b.length:=by omega
  simp [this]
 ·have hw:IntKind.i64.wrap (1048576 - ↑a.length)=1048576 - ↑a.length:=i6_ (by omega) (by omega)
  rw [hw]
  congr 2
  apply decide_eq_decide.2
  omega
theorem b_V (xs:List Int) (hl:xs.length≤1000000000):Pu Tryz.prog 26 [Is xs,Is xs] (B true):=by
 refine Pu.of fun H=>?_
 refine W26_ok ?_;simp (maxSteps:=1000000) (disch:=first|assumption|apply Y6;assumption) only [W26,vz,vu,vv,eqS,eF_,↓c1_,↓c2_,tabs,reduceCtorEq,X5,↓reduceIte,Y1,Y2,Y3,Y4,Y5,X1,X2,X3,X4]
 refine L26_0_rule (0:Nat) (fun i=>I i) (fun _=>H) (fun i=>i≤xs.length) (fun i=>xs.length - i) ⟨by omega,.refl _,Heap.le_refl _⟩ ?_
 rintro i hi
 have e5:IntKind.i64.wrap ((i:Int)+1)=((i+1:Nat):Int):=by rw [i6_ (by omega) (by omega)];simp
 (try simp (disch:=first|assumption|apply Y6;assumption) only [vz,vu,vv,eqS,eF_,↓c1_,↓c2_,tabs,reduceCtorEq,X5,↓reduceIte,Y1,Y2,Y3,Y4,Y5,X1,X2,X3,X4,B26_0,e5])
 intro h
 exact ⟨by omega,by omega,by omega,by omega,i+1,by omega,by omega,.refl _⟩
theorem c_C (xs:List (List Int)) (hs:smLs xs):Pu Tryz.prog 27 [Ls xs,Ls xs] (B true):=by
 refine Pu.of fun H=>?_
 have hs1:=hs.1
 refine W27_ok ?_;simp (maxSteps:=1000000) (disch:=first|assumption|apply Y6;assumption) only [W27,vz,vu,vv,eqS,eF_,↓c1_,↓c2_,tabs,reduceCtorEq,X5,↓reduceIte,Y1,Y2,Y3,Y4,Y5,X1,X2,X3,X4]
 refine L27_0_rule (0:Nat) (fun i=>I i) (fun _=>H) (fun i=>i≤xs.length) (fun i=>xs.length - i) ⟨by omega,.refl _,Heap.le_refl _⟩ ?_
 rintro i hi
 have e5:IntKind.i64.wrap ((i:Int)+1)=((i+1:Nat):Int):=by rw [i6_ (by omega) (by omega)];simp
 (try simp (disch:=first|assumption|apply Y6;assumption) only [vz,vu,vv,eqS,eF_,↓c1_,↓c2_,tabs,reduceCtorEq,X5,↓reduceIte,Y1,Y2,Y3,Y4,Y5,X1,X2,X3,X4,B27_0,e5])
 intro h
 have hlt:i < xs.length:=by omega
 have hm:(xs.getD i default).length≤1048576:=hs.2 _ (a_e (p:=fun x=>x∈xs) (fun _ h=>h) hlt)
 repeat refine ⟨by omega,?_⟩
 refine Pu.use (b_V (xs.getD i default) (by omega)) ?_
 (try simp (disch:=first|assumption|apply Y6;assumption) only [vz,vu,vv,eqS,eF_,↓c1_,↓c2_,tabs,reduceCtorEq,X5,↓reduceIte,Y1,Y2,Y3,Y4,Y5,X1,X2,X3,X4,e5])
 exact ⟨i+1,by omega,by omega,.refl _⟩
theorem d_c (a:Au) (sa:smAu a):Pu Tryz.prog 20 [aAu a,aAu a] (B true):=by
 refine Pu.of fun H=>?_
 obtain ⟨s1,s2,s3⟩:=sa
 refine W20_ok ?_;simp (maxSteps:=1000000) (disch:=first|assumption|apply Y6;assumption) only [W20,vz,vu,vv,eqS,eF_,↓c1_,↓c2_,tabs,reduceCtorEq,X5,↓reduceIte,Y1,Y2,Y3,Y4,Y5,X1,X2,X3,X4]
 intro r hr r3 n3 hr3
 have st:=((St.nil H).cell hr [I a.states,Is a.first,Es a.edges,Ls a.goals]).cell (r:=r3) (by rw [Heap.set_other n3];exact hr3) [I a.states,Is a.first,Es a.edges,Ls a.goals]
 generalize (H.set r [I a.states,Is a.first,Es a.edges,Ls a.goals]).set r3 [I a.states,Is a.first,Es a.edges,Ls a.goals]=G at st ⊢
 clear hr hr3 n3
 (try simp (disch:=first|assumption|apply Y6;assumption) only [vz,vu,vv,eqS,eF_,↓c1_,↓c2_,tabs,reduceCtorEq,X5,↓reduceIte,Y1,Y2,Y3,Y4,Y5,X1,X2,X3,X4,lA_ (st.get 1 rfl),lA_ (st.get 0 rfl)])
 refine Pu.use (b_V a.first (by omega)) ?_
 (try simp (disch:=first|assumption|apply Y6;assumption) only [vz,vu,vv,eqS,eF_,↓c1_,↓c2_,tabs,reduceCtorEq,X5,↓reduceIte,Y1,Y2,Y3,Y4,Y5,X1,X2,X3,X4,lA_ (st.get 1 rfl),lA_ (st.get 0 rfl)])
 refine Pu.use (c_C a.goals s3) ?_
 (try simp (disch:=first|assumption|apply Y6;assumption) only [vz,vu,vv,eqS,eF_,↓c1_,↓c2_,tabs,reduceCtorEq,X5,↓reduceIte,Y1,Y2,Y3,Y4,Y5,X1,X2,X3,X4,lA_ (st.get 1 rfl),lA_ (st.get 0 rfl)])
 refine L20_0_rule (0:Nat) (fun i=>I i) (fun _=>G) (fun i=>i≤a.edges.length) (fun i=>a.edges.length - i) ⟨by omega,.refl _,Heap.le_refl _⟩ ?_
 rintro i hi
 have e5:IntKind.i64.wrap ((i:Int)+1)=((i+1:Nat):Int):=by rw [i6_ (by omega) (by omega)];simp
 (try simp (disch:=first|assumption|apply Y6;assumption) only [vz,vu,vv,eqS,eF_,↓c1_,↓c2_,tabs,reduceCtorEq,X5,↓reduceIte,Y1,Y2,Y3,Y4,Y5,X1,X2,X3,X4,B20_0,lA_ (st.get 1 rfl),lA_ (st.get 0 rfl),e5])
 refine ⟨fun h=>?_,fun h=>st.le⟩
 exact ⟨by omega,by omega,by omega,by omega,i+1,by omega,by omega,.refl _⟩
theorem aus_val {f:Nat} {args:List AV} {a:Au} {ok:Bool} (h:∀{H:Heap} {K:k_},(∀v G D,LAu a v G D→New H G D→K (.tup [v,B ok]) G)→a_a Tryz.prog f args H K):Pu Tryz.prog f args (.tup [aAu a,B ok]):=by
 refine ⟨fun H=>a_a.fin (h fun v G D hv hn=>?_)⟩
 obtain ⟨G',w,fr⟩:=LAu.wk hv hn.nd (fun v=>.tup [v,B ok]) (fun h=>.tup (.cons h (.cons (.same _) .nil)))
 refine ⟨_,H,.trans w (.forget fun y b hb=>?_),rfl,rfl⟩
 rw [fr y (fun hy=>by rw [hn.fr y hy] at hb;cases hb)]
 exact hn.le y b hb
theorem wo_len (a:Au):(woS a).length≤24∧(woL a).length≤24:=by
 unfold woS woL
 cases hb:woB a
 ·simp
 ·have hb2:=hb
  rw [woB,Bool.and_eq_true,Bool.and_eq_true] at hb2
  have:=f_0 hb2.2.2
  simp only [if_true]
  omega
theorem e_O {code:List Int} (hc:CodeC code) {H:Heap} {K:k_} (h:∀a s l,smAu a→s.length≤1000→l.length≤1000→K (.tup [aAu a,aL2 s l]) H):a_a Tryz.prog 13 [.p (.sl (code.map e8))] H K:=by
 refine a_a.fin ?_
 refine W13_ok ?_;simp (maxSteps:=1000000) (disch:=first|assumption|apply Y6;assumption) only [W13,vz,vu,vv,eqS,eF_,↓c1_,↓c2_,tabs,reduceCtorEq,X5,↓reduceIte,Y1,Y2,Y3,Y4,Y5,X1,X2,X3,X4]
 intro r2 hr2 r3 n3 hr3 r7 n73 n72 hr7
 have st:=((((St.nil H).cell hr2 [I 0,.p .nil,.p .nil,.p .nil]).cell (r:=r3) (by rw [Heap.set_other n3];exact hr3) [.p .nil,.p .nil]).cell (r:=r7) (by rw [Heap.set_other n73,Heap.set_other n72];exact hr7) (cur code 0 0))
 have ec:((H.set r2 [AV.p (PV.int IntKind.i64 0),AV.p PV.nil,AV.p PV.nil,AV.p PV.nil]).set r3 [AV.p PV.nil,AV.p PV.nil]).set r7 [AV.p (PV.sl (List.map e8 code)),AV.p (PV.int IntKind.i64 0),AV.p (PV.int IntKind.u64 0)]=((H.set r2 [I 0,.p .nil,.p .nil,.p .nil]).set r3 [.p .nil,.p .nil]).set r7 (cur code 0 0):=rfl
 rw [ec]
 generalize ((H.set r2 [I 0,.p .nil,.p .nil,.p .nil]).set r3 [.p .nil,.p .nil]).set r7 (cur code 0 0)=G at st ⊢
 clear ec hr2 n3 hr3 n73 n72 hr7
 refine auto_spec hc (st.get 0 rfl) (by omega) 5 (by omega) fun a k1 s1 sa _ hk1 hk2=>?_
 replace st:=st.put 0 rfl (cur code k1 s1)
 generalize G.set r7 (cur code k1 s1)=G1 at st ⊢
 (try simp (disch:=first|assumption|apply Y6;assumption) only [vz,vu,vv,eqS,eF_,↓c1_,↓c2_,tabs,reduceCtorEq,X5,↓reduceIte,Y1,Y2,Y3,Y4,Y5,X1,X2,X3,X4])
 intro r5 hr5
 replace st:=st.cell hr5 [I a.states,Is a.first,Es a.edges,Ls a.goals]
 generalize G1.set r5 [I a.states,Is a.first,Es a.edges,Ls a.goals]=G2 at st ⊢
 clear hr5
 refine lasso_spec hc (st.get 1 rfl) (by omega) fun s l k2 s2 hs hl hk3 hk4=>?_
 replace st:=st.put 1 rfl (cur code k2 s2)
 generalize G2.set r7 (cur code k2 s2)=G3 at st ⊢
 (try simp (disch:=first|assumption|apply Y6;assumption) only [vz,vu,vv,eqS,eF_,↓c1_,↓c2_,tabs,reduceCtorEq,X5,↓reduceIte,Y1,Y2,Y3,Y4,Y5,X1,X2,X3,X4])
 intro r6 hr6
 replace st:=st.cell hr6 [Is s,Is l]
 generalize G3.set r6 [Is s,Is l]=G4 at st ⊢
 clear hr6
 (try simp (disch:=first|assumption|apply Y6;assumption) only [vz,vu,vv,eqS,eF_,↓c1_,↓c2_,tabs,reduceCtorEq,X5,↓reduceIte,Y1,Y2,Y3,Y4,Y5,X1,X2,X3,X4,lA_ (st.get 1 rfl)])
 refine Pu.use (WordOf_ref a sa) ?_
 obtain ⟨w1,w2⟩:=wo_len a
 generalize woS a=ws at w1 ⊢
 generalize woL a=wl at w2 ⊢
 (try simp (disch:=first|assumption|apply Y6;assumption) only [vz,vu,vv,eqS,eF_,↓c1_,↓c2_,tabs,reduceCtorEq,X5,↓reduceIte,Y1,Y2,Y3,Y4,Y5,X1,X2,X3,X4])
 intro r4 hr4
 replace st:=st.cell hr4 [Is ws,Is wl]
 generalize G4.set r4 [Is ws,Is wl]=G5 at st ⊢
 clear hr4
 have fin:∀(k:Nat) (s:Int) (G:Heap) (s' l':List Int) (c:List AV),s'.length≤1000→l'.length≤1000→St H [cT_ r4 [Is ws,Is wl],cT_ r6 [Is s',Is l'],cT_ r5 [I a.states,Is a.first,Es a.edges,Ls a.goals],cT_ r7 c,cT_ r3 [.p .nil,.p .nil],cT_ r2 [I 0,.p .nil,.p .nil,.p .nil]] G→J13_0 (wkK K) (.ptr r2 0) (.ptr r3 0) (.ptr r5 0) (.ptr r6 0) G:=by
  intro k s G s' l' c h1 h2 st
  (try simp (disch:=first|assumption|apply Y6;assumption) only [vz,vu,vv,eqS,eF_,↓c1_,↓c2_,tabs,reduceCtorEq,X5,↓reduceIte,Y1,Y2,Y3,Y4,Y5,X1,X2,X3,X4,J13_0,lA_ (st.get 2 rfl),lA_ (st.get 1 rfl),sA_ (st.get 5 rfl)])
  replace st:=st.put 5 rfl [I a.states,Is a.first,Es a.edges,Ls a.goals]
  generalize G.set r2 [I a.states,Is a.first,Es a.edges,Ls a.goals]=G1 at st ⊢
  (try simp (disch:=first|assumption|apply Y6;assumption) only [vz,vu,vv,eqS,eF_,↓c1_,↓c2_,tabs,reduceCtorEq,X5,↓reduceIte,Y1,Y2,Y3,Y4,Y5,X1,X2,X3,X4,lA_ (st.get 1 rfl),sA_ (st.get 4 rfl)])
  replace st:=st.put 4 rfl [Is s',Is l']
  generalize G1.set r3 [Is s',Is l']=G2 at st ⊢
  (try simp (disch:=first|assumption|apply Y6;assumption) only [vz,vu,vv,eqS,eF_,↓c1_,↓c2_,tabs,reduceCtorEq,X5,↓reduceIte,Y1,Y2,Y3,Y4,Y5,X1,X2,X3,X4,lA_ (st.get 5 rfl),lA_ (st.get 4 rfl)])
  exact ⟨_,H,.forget st.le,h a s' l' sa h1 h2⟩
 refine ⟨fun hb=>?_,fun hb=>?_⟩
 ·refine c_Z hc 2 (by omega) (k:=k2) (by omega) (st.get 3 rfl) fun x k3 s3 hk5 hk6=>?_
  replace st:=st.put 3 rfl (cur code k3 s3)
  generalize G5.set r7 (cur code k3 s3)=G6 at st ⊢
  (try simp (disch:=first|assumption|apply Y6;assumption) only [vz,vu,vv,eqS,eF_,↓c1_,↓c2_,tabs,reduceCtorEq,X5,↓reduceIte,Y1,Y2,Y3,Y4,Y5,X1,X2,X3,X4])
  refine ⟨fun hx=>?_,fun hx=>fin k3 s3 G6 s l _ (by omega) (by omega) st⟩
  clear fin
  (try simp (disch:=first|assumption|apply Y6;assumption) only [vz,vu,vv,eqS,eF_,↓c1_,↓c2_,tabs,reduceCtorEq,X5,↓reduceIte,Y1,Y2,Y3,Y4,Y5,X1,X2,X3,X4,lA_ (st.get 2 rfl),lA_ (st.get 0 rfl),sA_ (st.get 5 rfl)])
  replace st:=st.put 5 rfl [I a.states,Is a.first,Es a.edges,Ls a.goals]
  generalize G6.set r2 [I a.states,Is a.first,Es a.edges,Ls a.goals]=G1 at st ⊢
  (try simp (disch:=first|assumption|apply Y6;assumption) only [vz,vu,vv,eqS,eF_,↓c1_,↓c2_,tabs,reduceCtorEq,X5,↓reduceIte,Y1,Y2,Y3,Y4,Y5,X1,X2,X3,X4,lA_ (st.get 0 rfl),sA_ (st.get 4 rfl)])
  replace st:=st.put 4 rfl [Is ws,Is wl]
  generalize G1.set r3 [Is ws,Is wl]=G2 at st ⊢
  (try simp (disch:=first|assumption|apply Y6;assumption) only [vz,vu,vv,eqS,eF_,↓c1_,↓c2_,tabs,reduceCtorEq,X5,↓reduceIte,Y1,Y2,Y3,Y4,Y5,X1,X2,X3,X4,lA_ (st.get 5 rfl),lA_ (st.get 4 rfl)])
  exact ⟨_,H,.forget st.le,h a ws wl sa (by omega) (by omega)⟩
 ·exact fin k2 s2 G5 s l _ (by omega) (by omega) st
end Go.Proofs.YtohkciilfkhomaaGreat
namespace Go.Proofs.YtohkciilfkhomaaGreat
open Go Go.Sep Go.Pt
def stp (n:Int) (es:List Ed) (s l:Int):List Int:=(below n.toNat).filter fun t=>es.any fun e=>decide (e.lt=l) && (decide (e.src=s) && decide (e.dst=t))
theorem below_lt (n:Nat):(below n).Pairwise (· < ·):=by
 unfold below
 rw [List.pairwise_map]
 exact List.pairwise_lt_range.imp fun h=>Int.ofNat_lt.2 h
end Go.Proofs.YtohkciilfkhomaaGreat
namespace Go.Proofs.YtohkciilfkhomaaGreat
open Go Go.Sep Go.Pt
attribute [local irreducible] a_a
end Go.Proofs.YtohkciilfkhomaaGreat
namespace Go.Proofs.YtohkciilfkhomaaGreat
open Go Go.Sep Go.Pt
attribute [local irreducible] a_a
theorem l11List_spec (bs:List Bool) (hl:bs.length≤100000):Pu Tryz.prog 108 [Bls bs] (Is (gw bs.length fun k=>bs.getD k default)):=by
 refine ⟨fun H=>a_a.fin ?_⟩
 refine a_a.ghost W108_hb fun q0 hq0=>?_
 refine W108_ok ?_;simp (maxSteps:=1000000) (disch:=first|assumption|apply Y6;assumption) only [W108,vz,vu,vv,eqS,eF_,↓c1_,↓c2_,tabs,reduceCtorEq,X5,↓reduceIte,Y1,Y2,Y3,Y4,Y5,X1,X2,X3,X4]
 refine L108_0_rule ((0:Nat),q0) (fun s=>rowP s.2 (gw s.1 fun k=>bs.getD k default)) (fun s=>I s.1) (fun s=>H.set s.2 (cP fI (gw s.1 fun k=>bs.getD k default))) (fun s=>s.1≤bs.length∧H s.2=none) (fun s=>bs.length - s.1) ⟨⟨by simp,hq0⟩,.nilo _ _ _,.refl _,Heap.le_refl _⟩ ?_
 rintro ⟨i,q⟩ ⟨hi,hq⟩
 dsimp only at hi hq
 have hml:=gw_len i fun k=>bs.getD k default
 have hsucc:=gw_succ i fun k=>bs.getD k default
 (try simp (disch:=first|assumption|apply Y6;assumption) only [vz,vu,vv,eqS,eF_,↓c1_,↓c2_,tabs,reduceCtorEq,X5,↓reduceIte,Y1,Y2,Y3,Y4,Y5,X1,X2,X3,X4,B108_0])
 refine ⟨fun h1=>⟨by omega,h1,?_⟩,fun h1=>?_⟩
 ·have e5:IntKind.i64.wrap ((i:Int)+1)=((i+1:Nat):Int):=by rw [i6_ (by omega) (by omega)];simp
  generalize bs.getD i default=c at hsucc ⊢
  (try simp (disch:=first|assumption|apply Y6;assumption) only [vz,vu,vv,eqS,eF_,↓c1_,↓c2_,tabs,reduceCtorEq,X5,↓reduceIte,Y1,Y2,Y3,Y4,Y5,X1,X2,X3,X4,e5])
  cases c
  ·rw [if_neg (by decide)] at hsucc
   (try simp (disch:=first|assumption|apply Y6;assumption) only [vz,vu,vv,eqS,eF_,↓c1_,↓c2_,tabs,reduceCtorEq,X5,↓reduceIte,Y1,Y2,Y3,Y4,Y5,X1,X2,X3,X4,e5])
   exact ⟨(i+1,q),⟨by simp only;omega,hq⟩,by simp only;omega,by rw [hsucc];exact .refl _,.refl _,by rw [hsucc];exact Heap.le_refl _⟩
  ·rw [if_pos rfl] at hsucc
   (try simp (disch:=first|assumption|apply Y6;assumption) only [vz,vu,vv,eqS,eF_,↓c1_,↓c2_,tabs,reduceCtorEq,X5,↓reduceIte,Y1,Y2,Y3,Y4,Y5,X1,X2,X3,X4,e5])
   refine c_c hq (by omega) fun q' hq'=>?_
   rw [← hsucc]
   (try simp (disch:=first|assumption|apply Y6;assumption) only [vz,vu,vv,eqS,eF_,↓c1_,↓c2_,tabs,reduceCtorEq,X5,↓reduceIte,Y1,Y2,Y3,Y4,Y5,X1,X2,X3,X4,e5])
   exact ⟨(i+1,q'),⟨by simp only;omega,hq'⟩,by simp only;omega,.refl _,.refl _,Heap.le_refl _⟩
 ·have:i=bs.length:=by omega
  subst this
  exact f_C hq (Heap.le_refl _)
end Go.Proofs.YtohkciilfkhomaaGreat
namespace Go.Proofs.YtohkciilfkhomaaGreat
open Go Go.Sep Go.Pt
attribute [local irreducible] a_a
theorem l1Has_nat (l:List Nat) (hl:l.length≤100000) (v:Nat):Pu Tryz.prog 58 [Is (nI l),I v] (B (decide (v∈l))):=by
 refine Pu.of fun H=>?_
 refine W58_ok ?_;simp (maxSteps:=1000000) (disch:=first|assumption|apply Y6;assumption) only [W58,vz,vu,vv,eqS,eF_,↓c1_,↓c2_,tabs,reduceCtorEq,X5,↓reduceIte,Y1,Y2,Y3,Y4,Y5,X1,X2,X3,X4]
 have hll:=nL_ l
 (try simp (disch:=first|assumption|apply Y6;assumption) only [vz,vu,vv,eqS,eF_,↓c1_,↓c2_,tabs,reduceCtorEq,X5,↓reduceIte,Y1,Y2,Y3,Y4,Y5,X1,X2,X3,X4,hll])
 refine e_4 (0:Nat) (fun i=>I i) (fun _=>H) (fun i=>i≤l.length∧∀j,j < i→l.getD j 0≠v) (fun i=>l.length - i) ⟨⟨by omega,by intros;omega⟩,.refl _,Heap.le_refl _⟩ ?_
 rintro i ⟨hi,ha⟩
 have e6:IntKind.i64.wrap ((i:Int)+1)=((i+1:Nat):Int):=by rw [i6_ (by omega) (by omega)];simp
 (try simp (disch:=first|assumption|apply Y6;assumption) only [vz,vu,vv,eqS,eF_,↓c1_,↓c2_,tabs,reduceCtorEq,X5,↓reduceIte,Y1,Y2,Y3,Y4,Y5,X1,X2,X3,X4,B58_0,hll,e6])
 refine ⟨fun h2=>⟨by omega,h2,?_⟩,fun h2=>?_⟩
 ·have hlt:i < l.length:=by omega
  rw [a_D hlt]
  refine ⟨fun h3=>?_,fun h3=>?_⟩
  ·have:l.getD i 0=v:=by omega
   have hm:v∈l:=by rw [← this];simp [List.getD,hlt]
   simp [hm]
  ·refine ⟨i+1,⟨by omega,fun j hj=>?_⟩,by omega,.refl _⟩
   rcases Nat.lt_succ_iff_lt_or_eq.1 hj with h | rfl
   ·exact ha j h
   ·omega
 ·have:i=l.length:=by omega
  subst this
  have hm:v∉l:=fun hv=>by
   obtain ⟨j,hj,e⟩:=List.mem_iff_getElem.1 hv
   exact ha j hj (by rw [List.getD,List.getElem?_eq_getElem hj];exact e)
  simp [hm]
def a_S (f:Nat→Int) (l:List Nat):List Int:=(l.filter fun v=>decide (0≤f v)).map f
theorem f_l (f:Nat→Int) {l:List Nat} {k:Nat} (h:k < l.length):a_S f (l.take (k+1))=if 0≤f (l.getD k 0) then a_S f (l.take k)++[f (l.getD k 0)] else a_S f (l.take k):=by
 unfold a_S
 have e:l.take (k+1)=l.take k++[l.getD k 0]:=by rw [List.take_succ_eq_append_getElem h];simp [List.getD,h]
 rw [e,List.filter_append,List.map_append]
 generalize l.getD k 0=v
 by_cases hc:0≤f v
 ·rw [if_pos hc];simp [hc]
 ·rw [if_neg hc];simp [hc]
theorem keptF_len (f:Nat→Int) (l:List Nat):(a_S f l).length≤l.length:=by
 rw [a_S,List.length_map];exact List.length_filter_le ..
theorem rz_val {H G:Heap} {Ts:List Th} {z:Nat} {x:AV} {l:List Int} {D:List Nat} (st:St H Ts G) (i:Nat) (hi:Ts[i]?=some (riT z x l D)):wkK (fun r H'=>r=Is l∧H'=H) x G:=by
 obtain ⟨x',hx,lx⟩:=(st.get i hi:RZ (LPl eI) 1 z x _ G D).row
 obtain ⟨q,c,E,rfl,hq,ll,rfl⟩:=lx
 obtain ⟨rfl,rfl⟩:=LL.plain' ll
 have:=f_x (sz:=1) (es:=l.map eI) (q:=q) (H:=H) (H':=G) (K:=fun r H'=>r=Is l∧H'=H) (by omega) (szI _) (st.fr _ (List.mem_of_getElem? hi) q (by simp [rzT])) (fun y b hy=>by
  by_cases e:y=q
  ·subst e;rw [Heap.set_same] at hy;rw [← hy];exact hq
  ·rw [Heap.set_other e] at hy;exact st.le y b hy) ⟨rfl,rfl⟩
 obtain ⟨v,H2,w,k⟩:=this
 refine ⟨v,H2,.trans (.val hx) ?_,k⟩
 simpa only [Go.Sep.own,List.length_map] using w
theorem d_D (f:Nat→Int) (n:Nat) (l:List Nat) (hl:l.length≤100000) (hb:∀v∈l,v < n) {q6:Nat} {H:Heap} (hq6:H q6=some (cP fI (mpI f n))) {K:k_} (hK:K (Is (a_S f l)) H):a_a Tryz.prog 67 [Is (nI l),.sl q6 1 0 n] H K:=by
 refine a_a.fin ?_
 refine a_a.ghost W67_hb fun z hz=>?_
 have st:=lent (LPl.local eI) (LPl.has eI) 1 ((St.nil H).cell hz []) 0 rfl
 generalize H.set z []=G at st ⊢
 clear hz
 refine W67_ok ?_;simp (maxSteps:=1000000) (disch:=first|assumption|apply Y6;assumption) only [W67,vz,vu,vv,eqS,eF_,↓c1_,↓c2_,tabs,reduceCtorEq,X5,↓reduceIte,Y1,Y2,Y3,Y4,Y5,X1,X2,X3,X4]
 have hll:=nL_ l
 have hml:=a_f f n
 (try simp (disch:=first|assumption|apply Y6;assumption) only [vz,vu,vv,eqS,eF_,↓c1_,↓c2_,tabs,reduceCtorEq,X5,↓reduceIte,Y1,Y2,Y3,Y4,Y5,X1,X2,X3,X4,hll])
 refine L67_0_rule ((0:Nat),(.p .nil:AV),[z],G) (fun s=>s.2.1) (fun s=>I s.1) (fun s=>s.2.2.2)
  (fun s=>s.1≤l.length∧St H [riT z s.2.1 (a_S f (l.take s.1)) s.2.2.1] s.2.2.2) (fun s=>l.length - s.1)
  ⟨⟨by simp,by simpa [a_S] using st⟩,.refl _,.refl _,Heap.le_refl _⟩ ?_
 clear st G
 rintro ⟨i,x,D,G⟩ ⟨hi,st⟩
 dsimp only at hi st
 have e5:IntKind.i64.wrap ((i:Int)+1)=((i+1:Nat):Int):=by rw [i6_ (by omega) (by omega)];simp
 have hkl:=keptF_len f (l.take i)
 rw [List.length_take] at hkl
 have gq6:=st.le _ _ hq6
 (try simp (disch:=first|assumption|apply Y6;assumption) only [vz,vu,vv,eqS,eF_,↓c1_,↓c2_,tabs,reduceCtorEq,X5,↓reduceIte,Y1,Y2,Y3,Y4,Y5,X1,X2,X3,X4,B67_0,hll,hml,e5])
 refine ⟨fun h1=>⟨by omega,h1,?_⟩,fun h1=>?_⟩
 ·have hlt:i < l.length:=by omega
  have hs:=f_l f hlt
  have hv:=hb (l.getD i 0) (by simp [List.getD,hlt])
  rw [a_D hlt]
  generalize l.getD i 0=v at hs hv ⊢
  have hrd:=c_u (l:=mpI f n) (i:=v) (by omega)
  rw [a_P f hv] at hrd
  have hcl:(cP fI (mpI f n)).length=n:=by simp [cP,hml]
  (try simp (disch:=first|assumption|apply Y6;assumption) only [vz,vu,vv,eqS,eF_,↓c1_,↓c2_,tabs,reduceCtorEq,X5,↓reduceIte,Y1,Y2,Y3,Y4,Y5,X1,X2,X3,X4,lA_ gq6,hcl,hrd,Int.toNat_natCast])
  refine ⟨by omega,by omega,by omega,fun h2=>⟨by omega,by omega,by omega,?_⟩,fun h2=>?_⟩
  ·rw [if_pos h2] at hs
   first | refine ⟨by omega,by omega,?_⟩ | skip
   refine lit1 a_g rfl a_u ⟨rfl,rfl⟩ ?_
   refine c_I (ys:=[f v]) st 0 rfl (by simp only [List.length_singleton];omega) fun q' G' hq' st=>?_
   rw [← hs] at st ⊢
   (try simp (disch:=first|assumption|apply Y6;assumption) only [vz,vu,vv,eqS,eF_,↓c1_,↓c2_,tabs,reduceCtorEq,X5,↓reduceIte,Y1,Y2,Y3,Y4,Y5,X1,X2,X3,X4,e5])
   exact ⟨(i+1,_,[q'],_),⟨by simp only;omega,st⟩,by simp only;omega,.refl _,.refl _,Heap.le_refl _⟩
  ·rw [if_neg h2] at hs
   exact ⟨(i+1,x,D,G),⟨by simp only;omega,by rw [hs];exact st⟩,by simp only;omega,.refl _,.refl _,Heap.le_refl _⟩
 ·have:i=l.length:=by omega
  subst this
  rw [List.take_length] at st
  obtain ⟨v,H2,w,rfl,rfl⟩:=rz_val st 0 rfl
  exact ⟨_,_,w,hK⟩
theorem f_4 (f:Nat→Int) (n:Nat) (l:List Nat) (hl:l.length≤100000) (hb:∀v∈l,v < n) {H G:Heap} {Ts:List Th} (st:St H Ts G) (i6 j6:Nat) {r6 q6:Nat} (h6:Ts[i6]?=some (cT_ r6 [rowP q6 (mpI f n)])) (hq6:Ts[j6]?=some (cT_ q6 (cP fI (mpI f n)))) {K:k_}
  (h:∀q G',St H (cT_ q (cP fI (a_S f l))::Ts) G'→K (rowP q (a_S f l)) G'):a_a Tryz.prog 63 [Is (nI l),.ptr r6 0] G K:=by
 refine a_a.fin ?_
 refine W63_ok ?_;simp (maxSteps:=1000000) (disch:=first|assumption|apply Y6;assumption) only [W63,vz,vu,vv,eqS,eF_,↓c1_,↓c2_,tabs,reduceCtorEq,X5,↓reduceIte,Y1,Y2,Y3,Y4,Y5,X1,X2,X3,X4]
 refine e_I fun q hq=>?_
 replace st:=st.cell hq (cP fI [])
 generalize G.set q (cP fI [])=G1 at st ⊢
 clear hq
 have hll:=nL_ l
 have hml:=a_f f n
 (try simp (disch:=first|assumption|apply Y6;assumption) only [vz,vu,vv,eqS,eF_,↓c1_,↓c2_,tabs,reduceCtorEq,X5,↓reduceIte,Y1,Y2,Y3,Y4,Y5,X1,X2,X3,X4,hll])
 refine L63_0_rule ((0:Nat),q,G1) (fun s=>rowP s.2.1 (a_S f (l.take s.1))) (fun s=>I s.1) (fun s=>s.2.2)
  (fun s=>s.1≤l.length∧St H (cT_ s.2.1 (cP fI (a_S f (l.take s.1)))::Ts) s.2.2) (fun s=>l.length - s.1)
  ⟨⟨by simp,by simpa [a_S] using st⟩,by simp [a_S];exact .refl _,.refl _,Heap.le_refl _⟩ ?_
 clear st G1
 rintro ⟨i,q,G⟩ ⟨hi,st⟩
 dsimp only at hi st
 have e5:IntKind.i64.wrap ((i:Int)+1)=((i+1:Nat):Int):=by rw [i6_ (by omega) (by omega)];simp
 have hkl:=keptF_len f (l.take i)
 rw [List.length_take] at hkl
 have g6:G r6=some [rowP q6 (mpI f n)]:=st.get (i6+1) h6
 have gq6:G q6=some (cP fI (mpI f n)):=st.get (j6+1) hq6
 (try simp (disch:=first|assumption|apply Y6;assumption) only [vz,vu,vv,eqS,eF_,↓c1_,↓c2_,tabs,reduceCtorEq,X5,↓reduceIte,Y1,Y2,Y3,Y4,Y5,X1,X2,X3,X4,B63_0,hll,hml,e5])
 refine ⟨fun h1=>⟨by omega,h1,?_⟩,fun h1=>?_⟩
 ·have hlt:i < l.length:=by omega
  have hs:=f_l f hlt
  have hv:=hb (l.getD i 0) (by simp [List.getD,hlt])
  rw [a_D hlt]
  generalize l.getD i 0=v at hs hv ⊢
  have hrd:=c_u (l:=mpI f n) (i:=v) (by omega)
  rw [a_P f hv] at hrd
  have hcl:(cP fI (mpI f n)).length=n:=by simp [cP,hml]
  (try simp (disch:=first|assumption|apply Y6;assumption) only [vz,vu,vv,eqS,eF_,↓c1_,↓c2_,tabs,reduceCtorEq,X5,↓reduceIte,Y1,Y2,Y3,Y4,Y5,X1,X2,X3,X4,lA_ g6,lA_ gq6,hcl,hml,hrd,Int.toNat_natCast])
  refine ⟨by omega,by omega,by omega,fun h2=>⟨by omega,by omega,by omega,?_⟩,fun h2=>?_⟩
  ·rw [if_pos h2] at hs
   refine lit1 a_g rfl a_u ⟨rfl,rfl⟩ ?_
   refine c_J (ys:=[f v]) st 0 rfl (by simp only [List.length_singleton];omega) fun q' G' hq' st=>?_
   rw [← hs] at st ⊢
   (try simp (disch:=first|assumption|apply Y6;assumption) only [vz,vu,vv,eqS,eF_,↓c1_,↓c2_,tabs,reduceCtorEq,X5,↓reduceIte,Y1,Y2,Y3,Y4,Y5,X1,X2,X3,X4,e5])
   exact ⟨(i+1,q',_),⟨by simp only;omega,st⟩,by simp only;omega,.refl _,.refl _,Heap.le_refl _⟩
  ·rw [if_neg h2] at hs
   exact ⟨(i+1,q,G),⟨by simp only;omega,by rw [hs];exact st⟩,by simp only;omega,by rw [hs];exact .refl _,.refl _,Heap.le_refl _⟩
 ·have:i=l.length:=by omega
  subst this
  rw [List.take_length] at st ⊢
  exact wkK.keep (h _ _ st)
theorem e_t (p:Nat→Bool) (n:Nat) (hn:n≤100000):Pu Tryz.prog 72 [Bls (mpB p n)] (Is (nI (gwB n p))):=by
 refine ⟨fun H=>a_a.fin ?_⟩
 refine W72_ok ?_;simp (maxSteps:=1000000) (disch:=first|assumption|apply Y6;assumption) only [W72,vz,vu,vv,eqS,eF_,↓c1_,↓c2_,tabs,reduceCtorEq,X5,↓reduceIte,Y1,Y2,Y3,Y4,Y5,X1,X2,X3,X4]
 refine e_I fun q hq=>?_
 have st:=(St.nil H).cell hq (cP fI [])
 generalize H.set q (cP fI [])=G1 at st ⊢
 clear hq
 have hml:=a_E p n
 (try simp (disch:=first|assumption|apply Y6;assumption) only [vz,vu,vv,eqS,eF_,↓c1_,↓c2_,tabs,reduceCtorEq,X5,↓reduceIte,Y1,Y2,Y3,Y4,Y5,X1,X2,X3,X4,hml])
 refine L72_0_rule ((0:Nat),q,G1) (fun s=>rowP s.2.1 (nI (gwB s.1 p))) (fun s=>I s.1) (fun s=>s.2.2)
  (fun s=>s.1≤n∧St H [cT_ s.2.1 (cP fI (nI (gwB s.1 p)))] s.2.2) (fun s=>n - s.1)
  ⟨⟨by simp,by simpa [gwB,nI] using st⟩,by simp [gwB,nI];exact .refl _,.refl _,Heap.le_refl _⟩ ?_
 clear st G1
 rintro ⟨i,q,G⟩ ⟨hi,st⟩
 dsimp only at hi st
 have e5:IntKind.i64.wrap ((i:Int)+1)=((i+1:Nat):Int):=by rw [i6_ (by omega) (by omega)];simp
 have hs:=d_b i p
 have hgl:=a_3 i p
 have hnl:=nL_ (gwB i p)
 (try simp (disch:=first|assumption|apply Y6;assumption) only [vz,vu,vv,eqS,eF_,↓c1_,↓c2_,tabs,reduceCtorEq,X5,↓reduceIte,Y1,Y2,Y3,Y4,Y5,X1,X2,X3,X4,B72_0,hml,e5])
 refine ⟨fun h1=>⟨by omega,h1,?_⟩,fun h1=>?_⟩
 ·have hg:=mpB_get p (n:=n) (v:=i) (by omega)
  rw [hg]
  cases hp:p i
  ·simp only [hp,Bool.false_eq_true,if_false] at hs
   (try simp (disch:=first|assumption|apply Y6;assumption) only [vz,vu,vv,eqS,eF_,↓c1_,↓c2_,tabs,reduceCtorEq,X5,↓reduceIte,Y1,Y2,Y3,Y4,Y5,X1,X2,X3,X4])
   exact ⟨(i+1,q,G),⟨by simp only;omega,by rw [hs];exact st⟩,by simp only;omega,by rw [hs];exact .refl _,.refl _,Heap.le_refl _⟩
  ·simp only [hp,if_true] at hs
   (try simp (disch:=first|assumption|apply Y6;assumption) only [vz,vu,vv,eqS,eF_,↓c1_,↓c2_,tabs,reduceCtorEq,X5,↓reduceIte,Y1,Y2,Y3,Y4,Y5,X1,X2,X3,X4])
   refine lit1 a_g rfl a_u ⟨rfl,rfl⟩ ?_
   refine c_J (ys:=[(i:Int)]) st 0 rfl (by simp only [List.length_singleton];omega) fun q' G' hq' st=>?_
   have e:nI (gwB i p)++[(i:Int)]=nI (gwB (i+1) p):=by rw [hs,a_X];rfl
   rw [e] at st ⊢
   (try simp (disch:=first|assumption|apply Y6;assumption) only [vz,vu,vv,eqS,eF_,↓c1_,↓c2_,tabs,reduceCtorEq,X5,↓reduceIte,Y1,Y2,Y3,Y4,Y5,X1,X2,X3,X4,e5])
   exact ⟨(i+1,q',_),⟨by simp only;omega,st⟩,by simp only;omega,.refl _,.refl _,Heap.le_refl _⟩
 ·have:i=n:=by omega
  subst this
  exact f_g st 0 rfl
theorem d_G (g:List (List Nat)) (hg:GrB g) (some:List Nat) (hsm:∀v∈some,v < g.length) (hsl:some.length≤100000):Pu Tryz.prog 104 [Ls (gI g),Is (nI some)] (Is (nI (gwB g.length fun v=>decide (0≤farF (rwF g) g.length some v)))):=by
 refine ⟨fun H=>a_a.fin ?_⟩
 have hn:=hg.n
 refine W104_ok ?_;simp (maxSteps:=1000000) (disch:=first|assumption|apply Y6;assumption) only [W104,vz,vu,vv,eqS,eF_,↓c1_,↓c2_,tabs,reduceCtorEq,X5,↓reduceIte,Y1,Y2,Y3,Y4,Y5,X1,X2,X3,X4]
 refine e_I fun q hq=>?_
 have st:=(St.nil H).cell hq (cP fI [])
 generalize H.set q (cP fI [])=G1 at st ⊢
 clear hq
 refine Pu.use (c_k g hg some hsm hsl) ?_
 generalize farF (rwF g) g.length some=F
 generalize g.length=n at hn ⊢
 have hml:=a_f F n
 (try simp (disch:=first|assumption|apply Y6;assumption) only [vz,vu,vv,eqS,eF_,↓c1_,↓c2_,tabs,reduceCtorEq,X5,↓reduceIte,Y1,Y2,Y3,Y4,Y5,X1,X2,X3,X4,hml])
 refine L104_0_rule ((0:Nat),q,G1) (fun s=>rowP s.2.1 (nI (gwB s.1 fun v=>decide (0≤F v)))) (fun s=>I s.1) (fun s=>s.2.2)
  (fun s=>s.1≤n∧St H [cT_ s.2.1 (cP fI (nI (gwB s.1 fun v=>decide (0≤F v))))] s.2.2) (fun s=>n - s.1)
  ⟨⟨by simp,by simpa [gwB,nI] using st⟩,by simp [gwB,nI];exact .refl _,.refl _,Heap.le_refl _⟩ ?_
 clear st G1
 rintro ⟨i,q,G⟩ ⟨hi,st⟩
 dsimp only at hi st
 have e5:IntKind.i64.wrap ((i:Int)+1)=((i+1:Nat):Int):=by rw [i6_ (by omega) (by omega)];simp
 have hs:=d_b i fun v=>decide (0≤F v)
 have hgl:=a_3 i fun v=>decide (0≤F v)
 have hnl:=nL_ (gwB i fun v=>decide (0≤F v))
 (try simp (disch:=first|assumption|apply Y6;assumption) only [vz,vu,vv,eqS,eF_,↓c1_,↓c2_,tabs,reduceCtorEq,X5,↓reduceIte,Y1,Y2,Y3,Y4,Y5,X1,X2,X3,X4,B104_0,hml,e5])
 refine ⟨fun h1=>⟨by omega,h1,?_⟩,fun h1=>?_⟩
 ·have hg:=a_P F (n:=n) (v:=i) (by omega)
  rw [hg]
  refine ⟨fun h2=>?_,fun h2=>?_⟩
  ·simp only [h2,decide_true,if_true] at hs
   refine lit1 a_g rfl a_u ⟨rfl,rfl⟩ ?_
   refine c_J (ys:=[(i:Int)]) st 0 rfl (by simp only [List.length_singleton];omega) fun q' G' hq' st=>?_
   have e:nI (gwB i fun v=>decide (0≤F v))++[(i:Int)]=nI (gwB (i+1) fun v=>decide (0≤F v)):=by rw [hs,a_X];rfl
   rw [e] at st ⊢
   (try simp (disch:=first|assumption|apply Y6;assumption) only [vz,vu,vv,eqS,eF_,↓c1_,↓c2_,tabs,reduceCtorEq,X5,↓reduceIte,Y1,Y2,Y3,Y4,Y5,X1,X2,X3,X4,e5])
   exact ⟨(i+1,q',_),⟨by simp only;omega,st⟩,by simp only;omega,.refl _,.refl _,Heap.le_refl _⟩
  ·simp only [h2,decide_false,Bool.false_eq_true,if_false] at hs
   exact ⟨(i+1,q,G),⟨by simp only;omega,by rw [hs];exact st⟩,by simp only;omega,by rw [hs];exact .refl _,.refl _,Heap.le_refl _⟩
 ·have:i=n:=by omega
  subst this
  exact f_g st 0 rfl
noncomputable def fpF (g:List (List Nat)) (goals:List (List Nat)):List Nat:=gwB g.length fun v=>decide (0≤farF (rwF (a_G g)) g.length (gwB g.length (a_s (rwF g) goals)) v)
theorem e_u (g:List (List Nat)) (hg:GrB g) (goals:List (List Nat)) (hgo:GoB goals g.length):Pu Tryz.prog 62 [Ls (gI g),Ls (gI goals)] (Is (nI (fpF g goals))):=by
 refine Pu.of fun H=>?_
 have hn:=hg.n
 have htl:=a_L g
 refine W62_ok ?_;simp (maxSteps:=1000000) (disch:=first|assumption|apply Y6;assumption) only [W62,vz,vu,vv,eqS,eF_,↓c1_,↓c2_,tabs,reduceCtorEq,X5,↓reduceIte,Y1,Y2,Y3,Y4,Y5,X1,X2,X3,X4]
 refine Pu.use (sp_impl.turned g hg) ?_
 refine Pu.use (f_i g hg goals hgo) ?_
 refine Pu.use (e_t _ _ (by omega)) ?_
 have hl:=a_3 g.length (a_s (rwF g) goals)
 refine Pu.use (d_G (a_G g) (d_t hg) _ (fun v hv=>by rw [htl];exact List.mem_range.1 (List.mem_filter.1 hv).1) (by omega)) ?_
 (try simp (disch:=first|assumption|apply Y6;assumption) only [vz,vu,vv,eqS,eF_,↓c1_,↓c2_,tabs,reduceCtorEq,X5,↓reduceIte,Y1,Y2,Y3,Y4,Y5,X1,X2,X3,X4])
 rw [fpF,htl]
end Go.Proofs.YtohkciilfkhomaaGreat
namespace Go.Proofs.YtohkciilfkhomaaGreat
open Go Go.Sep Go.Pt
attribute [local irreducible] a_a
def stpL (n:Int) (es:List Ed) (s:List Int) (l:Int):List Int:=(below n.toNat).filter fun t=>es.any fun e=>decide (e.lt=l) && (decide (e.src∈s) && decide (e.dst=t))
theorem any_mem {s:List Int} {x:Int}:(s.any fun y=>decide (y=x))=decide (x∈s):=by
 induction s with
 | nil=>simp
 | cons a s ih=>rw [List.any_cons,ih,← Bool.decide_or,decide_eq_decide,List.mem_cons];exact or_congr_left eq_comm
theorem f_5 (a:Au) (sa:smAu a) (fa:GoodF a) (s:List Int) (l:Int) (hsl:s.length≤100000) (hs:∀x∈s,0≤x∧x < a.states):Pu Tryz.prog 74 [aAu a,Is s,I l] (Is (stpL a.states a.edges s l)):=by
 refine ⟨fun H=>a_a.fin ?_⟩
 have hst:=fa.st
 have hed:=fa.ed
 refine W74_ok ?_;simp (maxSteps:=1000000) (disch:=first|assumption|apply Y6;assumption) only [W74,vz,vu,vv,eqS,eF_,↓c1_,↓c2_,tabs,reduceCtorEq,X5,↓reduceIte,Y1,Y2,Y3,Y4,Y5,X1,X2,X3,X4]
 intro r hr
 have st:=(St.nil H).cell hr [I a.states,Is a.first,Es a.edges,Ls a.goals]
 generalize H.set r [I a.states,Is a.first,Es a.edges,Ls a.goals]=G at st ⊢
 (try simp (disch:=first|assumption|apply Y6;assumption) only [vz,vu,vv,eqS,eF_,↓c1_,↓c2_,tabs,reduceCtorEq,X5,↓reduceIte,Y1,Y2,Y3,Y4,Y5,X1,X2,X3,X4,lA_ (st.get 0 rfl),mS_])
 refine ⟨by omega,by omega,by omega,by omega,fun q hq=>?_⟩
 replace st:=st.cell hq (zA_ a.states.toNat [B false])
 generalize G.set q (zA_ a.states.toNat [B false])=G1 at st ⊢
 rw [c_K] at st
 (try simp (disch:=first|assumption|apply Y6;assumption) only [vz,vu,vv,eqS,eF_,↓c1_,↓c2_,tabs,reduceCtorEq,X5,↓reduceIte,Y1,Y2,Y3,Y4,Y5,X1,X2,X3,X4,lA_ (st.get 1 rfl)])
 obtain ⟨n,hn⟩:∃n:Nat,a.states=n:=⟨a.states.toNat,by omega⟩
 rw [show (I a.states:AV)=I (n:Int) from congrArg (fun x:Int=>I x) hn]
 refine d_C n s (by omega) (by omega) (fun x hx=>by have:=hs x hx;omega) fun qf G2 nf hf=>?_
 replace st:=st.push (cT_ qf _) nf hf
 (try simp (disch:=first|assumption|apply Y6;assumption) only [vz,vu,vv,eqS,eF_,↓c1_,↓c2_,tabs,reduceCtorEq,X5,↓reduceIte,Y1,Y2,Y3,Y4,Y5,X1,X2,X3,X4,lA_ (st.get 2 rfl)])
 obtain ⟨p,hp⟩:∃p:Ed→Nat→Bool,p=fun (e:Ed) (t:Nat)=>decide (e.lt=l) && (decide (e.src∈s) && decide (e.dst=(t:Int))):=⟨_,rfl⟩
 obtain ⟨fr,hfr⟩:∃fr,fr=anyP s (fun x t=>decide (x=(t:Int))) s.length n:=⟨_,rfl⟩
 rw [← hfr] at st
 have hn':a.states.toNat=n:=by omega
 rw [hn'] at st ⊢
 refine L74_0_rule ((0:Nat),G2) (fun s=>I s.1) (fun s=>s.2) (fun s=>s.1≤a.edges.length∧St H [cT_ qf (cP fB fr),cT_ q (cP fB (anyP a.edges p s.1 n)),cT_ r [I a.states,Is a.first,Es a.edges,Ls a.goals]] s.2) (fun s=>a.edges.length - s.1) ⟨⟨by simp,by simpa [anyP] using st⟩,.refl _,Heap.le_refl _⟩ ?_
 clear st hf nf
 rintro ⟨i,G⟩ ⟨hi,st⟩
 dsimp only at hi st
 (try simp (disch:=first|assumption|apply Y6;assumption) only [vz,vu,vv,eqS,eF_,↓c1_,↓c2_,tabs,reduceCtorEq,X5,↓reduceIte,Y1,Y2,Y3,Y4,Y5,X1,X2,X3,X4,B74_0])
 refine ⟨fun h1=>⟨by omega,h1,?_⟩,fun h1=>?_⟩
 ·have hlti:i < a.edges.length:=by omega
  have hei:=a_h.1 (fa.ei _ (a_e (p:=fun x=>x∈a.edges) (d:=default) (fun _ h=>h) hlti))
  have hsucc:=e_r a.edges p (n:=n) hlti
  generalize a.edges.getD i default=e at hei hsucc ⊢
  intro r10 hr10
  replace st:=st.cell hr10 [I e.src,I e.lt,I e.dst]
  generalize G.set r10 [I e.src,I e.lt,I e.dst]=G3 at st ⊢
  clear hr10
  have hfl:fr.length=n:=by rw [hfr];exact b_i ..
  have hrd:=mapB_rd (l:=fr) (i:=e.src.toNat) (by omega)
  have hfg:fr.getD e.src.toNat default=decide (e.src∈s):=by
   rw [hfr,f_W _ _ _ (by omega),List.take_length]
   have:((e.src.toNat:Nat):Int)=e.src:=by omega
   rw [this,any_mem]
  rw [hfg] at hrd
  have hlen:=b_i a.edges p i n
  have hset:=cB_set (l:=anyP a.edges p i n) (t:=e.dst.toNat) (by omega) true
  have hms:e.lt=l→e.src∈s→(anyP a.edges p i n).set e.dst.toNat true=anyP a.edges p (i+1) n:=fun c1 c2=>by
   rw [hsucc]
   unfold anyP
   rw [f_I]
   congr 1
   funext t
   congr 1
   rw [hp]
   simp only [c1,c2,decide_true,Bool.true_and]
   rw [decide_eq_decide]
   omega
  have hno:¬(e.lt=l∧e.src∈s)→anyP a.edges p (i+1) n=anyP a.edges p i n:=fun c=>by
   rw [hsucc]
   unfold anyP
   congr 1
   funext t
   have:p e t=false:=by
    rw [hp]
    by_cases c1:e.lt=l
    ·have:¬e.src∈s:=fun h=>c ⟨c1,h⟩
     simp [this]
    ·simp [c1]
   rw [this,Bool.false_or]
  have e3:IntKind.i64.wrap ((i:Int)+1)=((i+1:Nat):Int):=by rw [i6_ (by omega) (by omega)];simp
  (try simp (disch:=first|assumption|apply Y6;assumption) only [vz,vu,vv,eqS,eF_,↓c1_,↓c2_,tabs,reduceCtorEq,X5,↓reduceIte,Y1,Y2,Y3,Y4,Y5,X1,X2,X3,X4,lA_ (st.get 0 rfl),lA_ (st.get 1 rfl),sA_ (st.get 2 rfl),hrd,hset,e3])
  have keep:¬(e.lt=l∧e.src∈s)→∃s':Nat×Heap,(s'.1≤a.edges.length∧St H [cT_ qf (cP fB fr),cT_ q (cP fB (anyP a.edges p s'.1 n)),cT_ r [I a.states,Is a.first,Es a.edges,Ls a.goals]] s'.2)∧a.edges.length - s'.1 < a.edges.length - i∧AV.wk (I ((i+1:Nat):Int)) (I s'.1)∧Heap.le s'.2 G3:=fun c=>
   ⟨(i+1,G3),⟨by simp only;omega,by rw [hno c];exact st.drop⟩,by simp only;omega,.refl _,Heap.le_refl _⟩
  refine ⟨fun c1=>⟨hei.1.1,by omega,by omega,fun c2=>⟨by omega,by omega,by omega,?_⟩,fun c2=>keep fun c=>c2 c.2⟩,fun c1=>keep fun c=>c1 c.1⟩
  rw [hms c1 c2]
  exact ⟨(i+1,G3.set q (cP fB (anyP a.edges p (i+1) n))),⟨by simp only;omega,(st.put 2 rfl (cP fB (anyP a.edges p (i+1) n))).drop⟩,by simp only;omega,.refl _,Heap.le_refl _⟩
 ·have:i=a.edges.length:=by omega
  subst this
  have w:Wk (.tup [rowP q (anyP a.edges p a.edges.length n)]) G (.tup [Bls (anyP a.edges p a.edges.length n)]) (G.del q):=wkB (st.get 1 rfl) (fun v=>.tup [v]) (fun h=>.tup (.cons h .nil))
  rw [show (AV.tup [rowP q (anyP a.edges p a.edges.length n)])=.tup [.sl q 1 0 n] from by rw [rowP,b_i]] at w
  refine a_a.pre ?_ w
  refine Pu.use (l11List_spec _ (by rw [b_i];omega)) ?_
  have e9:gw (anyP a.edges p a.edges.length n).length (fun k=>(anyP a.edges p a.edges.length n).getD k default)=stpL a.states a.edges s l:=by
   rw [b_i]
   unfold gw stpL below
   rw [List.filter_map,hn']
   congr 1
   apply List.filter_congr
   intro k hk
   rw [List.mem_range] at hk
   rw [f_W _ _ _ hk,List.take_length,hp]
   rfl
  rw [e9]
  refine ⟨_,_,.forget (H':=H) fun y b hb=>?_,rfl,rfl⟩
  have:y≠q:=fun e=>by
   have:=st.fr _ (List.mem_of_getElem? (i:=1) rfl) q (by simp [cT_])
   rw [← e,hb] at this;cases this
  rw [Heap.del_other this]
  exact st.le y b hb
theorem rising_b {l:List Int} {n:Int} (h:a_x l n=true):∀x∈l,0≤x∧x < n:=by
 intro x hx
 obtain ⟨i,hi,rfl⟩:=List.mem_iff_getElem.1 hx
 have:=c_f h i hi
 rw [a_k hi] at this
 omega
def saR (a:Au) (s:List Int) (l:Int):List Int×Bool:=if a_l a && (a_x s a.states && (decide (0≤l) && decide (l < 8))) then (stpL a.states a.edges s l,true) else ([],false)
theorem e_P (n:Int):Pu Tryz.prog 71 [I n] (B (decide (0≤n) && decide (n < 8))):=by
 refine Pu.of fun H=>?_
 refine W71_ok ?_;simp (maxSteps:=1000000) (disch:=first|assumption|apply Y6;assumption) only [W71,vz,vu,vv,eqS,eF_,↓c1_,↓c2_,tabs,reduceCtorEq,X5,↓reduceIte,Y1,Y2,Y3,Y4,Y5,X1,X2,X3,X4]
 exact ⟨fun h=>by rw [decide_eq_true h];simp,fun h=>by rw [decide_eq_false h];simp⟩
theorem StepAuto_ref (a:Au) (sa:smAu a) (s:List Int) (l:Int) (hsl:s.length≤100000):Pu Tryz.prog 23 [aAu a,Is s,I l] (.tup [Is (saR a s l).1,B (saR a s l).2]):=by
 refine ⟨fun H=>a_a.fin ?_⟩
 refine W23_ok ?_;simp (maxSteps:=1000000) (disch:=first|assumption|apply Y6;assumption) only [W23,vz,vu,vv,eqS,eF_,↓c1_,↓c2_,tabs,reduceCtorEq,X5,↓reduceIte,Y1,Y2,Y3,Y4,Y5,X1,X2,X3,X4]
 intro r hr
 have st:=(St.nil H).cell hr [I a.states,Is a.first,Es a.edges,Ls a.goals]
 generalize H.set r [I a.states,Is a.first,Es a.edges,Ls a.goals]=G at st ⊢
 clear hr
 have no:saR a s l=([],false)→wkK (fun r H'=>r=AV.tup [Is (saR a s l).1,B (saR a s l).2]∧H'=H) (.tup [.p .nil,.p (.bool false)]) G:=fun hb=>by
  rw [hb]
  exact ⟨_,_,.trans (.val (v':=.tup [Is [],B false]) (a_W ⟨.nil,.refl _,trivial⟩)) (.forget st.le),rfl,rfl⟩
 (try simp (disch:=first|assumption|apply Y6;assumption) only [vz,vu,vv,eqS,eF_,↓c1_,↓c2_,tabs,reduceCtorEq,X5,↓reduceIte,Y1,Y2,Y3,Y4,Y5,X1,X2,X3,X4,lA_ (st.get 0 rfl)])
 refine Pu.use (a_F a sa) ?_
 cases ga:a_l a
 ·(try simp (disch:=first|assumption|apply Y6;assumption) only [vz,vu,vv,eqS,eF_,↓c1_,↓c2_,tabs,reduceCtorEq,X5,↓reduceIte,Y1,Y2,Y3,Y4,Y5,X1,X2,X3,X4])
  exact no (by simp [saR,ga])
 have hN:=d_u ga
 have fa:=hN.f
 have sta:=fa.st
 (try simp (disch:=first|assumption|apply Y6;assumption) only [vz,vu,vv,eqS,eF_,↓c1_,↓c2_,tabs,reduceCtorEq,X5,↓reduceIte,Y1,Y2,Y3,Y4,Y5,X1,X2,X3,X4,lA_ (st.get 0 rfl)])
 refine Pu.use (b_z s a.states (by omega) (by omega)) ?_
 cases hs:a_x s a.states
 ·(try simp (disch:=first|assumption|apply Y6;assumption) only [vz,vu,vv,eqS,eF_,↓c1_,↓c2_,tabs,reduceCtorEq,X5,↓reduceIte,Y1,Y2,Y3,Y4,Y5,X1,X2,X3,X4])
  exact no (by simp [saR,ga,hs])
 (try simp (disch:=first|assumption|apply Y6;assumption) only [vz,vu,vv,eqS,eF_,↓c1_,↓c2_,tabs,reduceCtorEq,X5,↓reduceIte,Y1,Y2,Y3,Y4,Y5,X1,X2,X3,X4])
 refine Pu.use (b_a l 0 7) ?_
 have e7:(decide (l≤7):Bool)=decide (l < 8):=by rw [decide_eq_decide];omega
 rw [e7]
 cases hl:decide (0≤l) && decide (l < 8)
 ·(try simp (disch:=first|assumption|apply Y6;assumption) only [vz,vu,vv,eqS,eF_,↓c1_,↓c2_,tabs,reduceCtorEq,X5,↓reduceIte,Y1,Y2,Y3,Y4,Y5,X1,X2,X3,X4])
  exact no (by simp only [saR,ga,hs,hl];rfl)
 (try simp (disch:=first|assumption|apply Y6;assumption) only [vz,vu,vv,eqS,eF_,↓c1_,↓c2_,tabs,reduceCtorEq,X5,↓reduceIte,Y1,Y2,Y3,Y4,Y5,X1,X2,X3,X4,lA_ (st.get 0 rfl)])
 refine Pu.use (f_5 a sa fa s l hsl (rising_b hs)) ?_
 (try simp (disch:=first|assumption|apply Y6;assumption) only [vz,vu,vv,eqS,eF_,↓c1_,↓c2_,tabs,reduceCtorEq,X5,↓reduceIte,Y1,Y2,Y3,Y4,Y5,X1,X2,X3,X4])
 have e:saR a s l=(stpL a.states a.edges s l,true):=by simp only [saR,ga,hs,hl];rfl
 rw [e]
 exact ⟨_,_,.forget st.le,rfl,rfl⟩
theorem f_6 (a:Au) (sa:smAu a) (s:List Int) (l:Int) (hsl:s.length≤100000):Pu Tryz.prog 22 [aAu a,Is s,I l] (.tup [Is (saR a s l).1,B (saR a s l).2]):=by
 refine ⟨fun H=>a_a.fin ?_⟩
 refine W22_ok ?_;simp (maxSteps:=1000000) (disch:=first|assumption|apply Y6;assumption) only [W22,vz,vu,vv,eqS,eF_,↓c1_,↓c2_,tabs,reduceCtorEq,X5,↓reduceIte,Y1,Y2,Y3,Y4,Y5,X1,X2,X3,X4,mS_]
 intro r hr
 have st:=(St.nil H).cell hr [I a.states,Is a.first,Es a.edges,Ls a.goals]
 generalize H.set r [I a.states,Is a.first,Es a.edges,Ls a.goals]=G at st ⊢
 clear hr
 have no:saR a s l=([],false)→wkK (fun r H'=>r=AV.tup [Is (saR a s l).1,B (saR a s l).2]∧H'=H) (.tup [.p .nil,.p (.bool false)]) G:=fun hb=>by
  rw [hb]
  exact ⟨_,_,.trans (.val (v':=.tup [Is [],B false]) (a_W ⟨.nil,.refl _,trivial⟩)) (.forget st.le),rfl,rfl⟩
 (try simp (disch:=first|assumption|apply Y6;assumption) only [vz,vu,vv,eqS,eF_,↓c1_,↓c2_,tabs,reduceCtorEq,X5,↓reduceIte,Y1,Y2,Y3,Y4,Y5,X1,X2,X3,X4,lA_ (st.get 0 rfl)])
 refine Pu.use (a_O a sa) ?_
 cases ga:a_l a
 ·(try simp (disch:=first|assumption|apply Y6;assumption) only [vz,vu,vv,eqS,eF_,↓c1_,↓c2_,tabs,reduceCtorEq,X5,↓reduceIte,Y1,Y2,Y3,Y4,Y5,X1,X2,X3,X4])
  exact no (by simp [saR,ga])
 have hN:=d_u ga
 have fa:=hN.f
 have sta:=fa.st
 have hed:=fa.ed
 (try simp (disch:=first|assumption|apply Y6;assumption) only [vz,vu,vv,eqS,eF_,↓c1_,↓c2_,tabs,reduceCtorEq,X5,↓reduceIte,Y1,Y2,Y3,Y4,Y5,X1,X2,X3,X4,lA_ (st.get 0 rfl)])
 refine Pu.use (a_6 s a.states (by omega)) ?_
 cases hs:a_x s a.states
 ·(try simp (disch:=first|assumption|apply Y6;assumption) only [vz,vu,vv,eqS,eF_,↓c1_,↓c2_,tabs,reduceCtorEq,X5,↓reduceIte,Y1,Y2,Y3,Y4,Y5,X1,X2,X3,X4])
  exact no (by simp [saR,ga,hs])
 (try simp (disch:=first|assumption|apply Y6;assumption) only [vz,vu,vv,eqS,eF_,↓c1_,↓c2_,tabs,reduceCtorEq,X5,↓reduceIte,Y1,Y2,Y3,Y4,Y5,X1,X2,X3,X4])
 refine Pu.use (e_P l) ?_
 cases hl:decide (0≤l) && decide (l < 8)
 ·(try simp (disch:=first|assumption|apply Y6;assumption) only [vz,vu,vv,eqS,eF_,↓c1_,↓c2_,tabs,reduceCtorEq,X5,↓reduceIte,Y1,Y2,Y3,Y4,Y5,X1,X2,X3,X4])
  exact no (by simp only [saR,ga,hs,hl];rfl)
 have es:saR a s l=(stpL a.states a.edges s l,true):=by simp only [saR,ga,hs,hl];rfl
 rw [es]
 clear no es
 (try simp (disch:=first|assumption|apply Y6;assumption) only [vz,vu,vv,eqS,eF_,↓c1_,↓c2_,tabs,reduceCtorEq,X5,↓reduceIte,Y1,Y2,Y3,Y4,Y5,X1,X2,X3,X4,lA_ (st.get 0 rfl)])
 refine ⟨by omega,by omega,by omega,by omega,fun q hq=>?_⟩
 replace st:=st.cell hq (zA_ a.states.toNat [B false])
 generalize G.set q (zA_ a.states.toNat [B false])=G1 at st ⊢
 rw [c_K] at st
 (try simp (disch:=first|assumption|apply Y6;assumption) only [vz,vu,vv,eqS,eF_,↓c1_,↓c2_,tabs,reduceCtorEq,X5,↓reduceIte,Y1,Y2,Y3,Y4,Y5,X1,X2,X3,X4,lA_ (st.get 1 rfl)])
 obtain ⟨p,hp⟩:∃p:Ed→Nat→Bool,p=fun (e:Ed) (t:Nat)=>decide (e.lt=l) && (decide (e.src∈s) && decide (e.dst=(t:Int))):=⟨_,rfl⟩
 obtain ⟨n,hn'⟩:∃n:Nat,a.states.toNat=n:=⟨_,rfl⟩
 rw [hn'] at st ⊢
 refine L22_0_rule ((0:Nat),G1) (fun s=>I s.1) (fun s=>s.2) (fun s=>s.1≤a.edges.length∧St H [cT_ q (cP fB (anyP a.edges p s.1 n)),cT_ r [I a.states,Is a.first,Es a.edges,Ls a.goals]] s.2) (fun s=>a.edges.length - s.1) ⟨⟨by simp,by simpa [anyP] using st⟩,.refl _,Heap.le_refl _⟩ ?_
 clear st
 rintro ⟨i,G⟩ ⟨hi,st⟩
 dsimp only at hi st
 (try simp (disch:=first|assumption|apply Y6;assumption) only [vz,vu,vv,eqS,eF_,↓c1_,↓c2_,tabs,reduceCtorEq,X5,↓reduceIte,Y1,Y2,Y3,Y4,Y5,X1,X2,X3,X4,B22_0])
 refine ⟨fun h1=>⟨by omega,h1,?_⟩,fun h1=>?_⟩
 ·have hlti:i < a.edges.length:=by omega
  have hei:=a_h.1 (fa.ei _ (a_e (p:=fun x=>x∈a.edges) (d:=default) (fun _ h=>h) hlti))
  have hsucc:=e_r a.edges p (n:=n) hlti
  generalize a.edges.getD i default=e at hei hsucc ⊢
  intro r10 hr10
  replace st:=st.cell hr10 [I e.src,I e.lt,I e.dst]
  generalize G.set r10 [I e.src,I e.lt,I e.dst]=G3 at st ⊢
  clear hr10
  have hlen:=b_i a.edges p i n
  have hset:=cB_set (l:=anyP a.edges p i n) (t:=e.dst.toNat) (by omega) true
  have hms:e.lt=l→e.src∈s→(anyP a.edges p i n).set e.dst.toNat true=anyP a.edges p (i+1) n:=fun c1 c2=>by
   rw [hsucc]
   unfold anyP
   rw [f_I]
   congr 1
   funext t
   congr 1
   rw [hp]
   simp only [c1,c2,decide_true,Bool.true_and]
   rw [decide_eq_decide]
   omega
  have hno:¬(e.lt=l∧e.src∈s)→anyP a.edges p (i+1) n=anyP a.edges p i n:=fun c=>by
   rw [hsucc]
   unfold anyP
   congr 1
   funext t
   have:p e t=false:=by
    rw [hp]
    by_cases c1:e.lt=l
    ·have:¬e.src∈s:=fun h=>c ⟨c1,h⟩
     simp [this]
    ·simp [c1]
   rw [this,Bool.false_or]
  have e3:IntKind.i64.wrap ((i:Int)+1)=((i+1:Nat):Int):=by rw [i6_ (by omega) (by omega)];simp
  have keep:¬(e.lt=l∧e.src∈s)→∃s':Nat×Heap,(s'.1≤a.edges.length∧St H [cT_ q (cP fB (anyP a.edges p s'.1 n)),cT_ r [I a.states,Is a.first,Es a.edges,Ls a.goals]] s'.2)∧a.edges.length - s'.1 < a.edges.length - i∧AV.wk (I ((i+1:Nat):Int)) (I s'.1)∧Heap.le s'.2 G3:=fun c=>
   ⟨(i+1,G3),⟨by simp only;omega,by rw [hno c];exact st.drop⟩,by simp only;omega,.refl _,Heap.le_refl _⟩
  (try simp (disch:=first|assumption|apply Y6;assumption) only [vz,vu,vv,eqS,eF_,↓c1_,↓c2_,tabs,reduceCtorEq,X5,↓reduceIte,Y1,Y2,Y3,Y4,Y5,X1,X2,X3,X4,lA_ (st.get 0 rfl),e3])
  refine ⟨fun c1=>?_,fun c1=>keep fun c=>c1 c.1⟩
  refine Pu.use (c_y s e.src (by omega)) ?_
  (try simp (disch:=first|assumption|apply Y6;assumption) only [vz,vu,vv,eqS,eF_,↓c1_,↓c2_,tabs,reduceCtorEq,X5,↓reduceIte,Y1,Y2,Y3,Y4,Y5,X1,X2,X3,X4])
  refine ⟨fun c2=>?_,fun c2=>keep fun c=>c2 c.2⟩
  clear keep
  (try simp (disch:=first|assumption|apply Y6;assumption) only [vz,vu,vv,eqS,eF_,↓c1_,↓c2_,tabs,reduceCtorEq,X5,↓reduceIte,Y1,Y2,Y3,Y4,Y5,X1,X2,X3,X4,lA_ (st.get 0 rfl),sA_ (st.get 1 rfl),hset,e3])
  refine ⟨by omega,by omega,by omega,?_⟩
  rw [hms c1 c2]
  exact ⟨(i+1,G3.set q (cP fB (anyP a.edges p (i+1) n))),⟨by simp only;omega,(st.put 1 rfl (cP fB (anyP a.edges p (i+1) n))).drop⟩,by simp only;omega,.refl _,Heap.le_refl _⟩
 ·have:i=a.edges.length:=by omega
  subst this
  have w:Wk (.tup [rowP q (anyP a.edges p a.edges.length n)]) G (.tup [Bls (anyP a.edges p a.edges.length n)]) (G.del q):=wkB (st.get 0 rfl) (fun v=>.tup [v]) (fun h=>.tup (.cons h .nil))
  rw [show (AV.tup [rowP q (anyP a.edges p a.edges.length n)])=.tup [.sl q 1 0 n] from by rw [rowP,b_i]] at w
  refine a_a.pre ?_ w
  refine Pu.use (e_t (fun t=>(a.edges.take a.edges.length).any fun x=>p x t) n (by omega)) ?_
  have e9:nI (gwB n fun t=>(a.edges.take a.edges.length).any fun x=>p x t)=stpL a.states a.edges s l:=by
   unfold nI gwB stpL below
   rw [List.filter_map,hn']
   congr 1
   apply List.filter_congr
   intro k hk
   rw [List.take_length,hp]
   rfl
  rw [e9]
  (try simp (disch:=first|assumption|apply Y6;assumption) only [vz,vu,vv,eqS,eF_,↓c1_,↓c2_,tabs,reduceCtorEq,X5,↓reduceIte,Y1,Y2,Y3,Y4,Y5,X1,X2,X3,X4])
  refine ⟨_,_,.forget (H':=H) fun y b hb=>?_,rfl,rfl⟩
  have:y≠q:=fun e=>by
   have:=st.fr _ (List.mem_of_getElem? (i:=0) rfl) q (by simp [cT_])
   rw [← e,hb] at this;cases this
  rw [Heap.del_other this]
  exact st.le y b hb
theorem app_part {q0 q:Nat} {xs l:List Int} {off len:Nat} {G:Heap} {K:k_} (h0:G q0=some (cP fI xs)) (hq:G q=some (cP fI l)) (hol:off+len≤l.length) (hl:xs.length+len≤1000000)
  (h:∀q',G q'=none→K (rowP q' (xs++(l.drop off).take len)) ((G.del q0).set q' (cP fI (xs++(l.drop off).take len)))):aP_ tab 24 24 (rowP q0 xs) (.sl q 1 off len) G (wkK K):=by
 simp only [aP_,a_g,a_u,srcV,c_s,h0,hq]
 have l1:(cP fI xs).length=xs.length:=by simp [cP]
 have l2:(cP fI l).length=l.length:=by simp [cP]
 have e1:List.take (xs.length*1) (List.drop 0 (cP fI xs))=cP fI xs:=by rw [List.drop_zero,Nat.mul_one,← l1,List.take_length]
 have e2:List.take (len*1) (List.drop off (cP fI l))=cP fI ((l.drop off).take len):=by simp [cP,List.map_drop,List.map_take]
 rw [e1,e2]
 refine ⟨trivial,by omega,trivial,by omega,by omega,by omega,cP_cell fI _,fun q' hq'=>wkK.keep ?_⟩
 have:=h q' hq'
 have e3:(xs++(l.drop off).take len).length=xs.length+len:=by rw [List.length_append,List.length_take,List.length_drop];omega
 rw [rowP,e3] at this
 have e4:cP fI xs++cP fI ((l.drop off).take len)=cP fI (xs++(l.drop off).take len):=by simp [cP]
 rw [e4];exact this
theorem l1Put_rz {H G:Heap} {Ts:List Th} {z:Nat} {x:AV} {l:List Int} {D:List Nat} (st:St H Ts G) (i:Nat) (hi:Ts[i]?=some (riT z x l D)) (n:Int) (hs:l.Pairwise (· < ·)) (hl:l.length≤100000) {K:k_}
  (h:∀q' G',St H (Ts.set i (riT z (rowP q' (put l n)) (put l n) [q'])) G'→K (rowP q' (put l n)) G'):a_a Tryz.prog 93 [x,I n] G K:=by
 have fin:∀q' G',(q'∈D∨G q'=none)→G' q'=some (cP fI (put l n))→(∀y b,G y=some b→y∉D→G' y=some b)→K (rowP q' (put l n)) G':=fun q' G' h1 h2 h3=>
  h q' G' (st.repl i hi _ (by simp [rzT]) (fun y hy=>by
   simp only [rzT,List.mem_singleton] at hy;subst hy;exact h1) (fun y b hb hy=>h3 y b hb hy) (.inr (e_9 h2)))
 have hrz:RZ (LPl eI) 1 z x l G D:=st.get i hi
 rcases hrz with ⟨rfl,rfl,rfl,hz⟩ | ⟨q,cs,D',rfl,hq,hll,rfl⟩
 ·refine l1Put_nil n fun q hq=>?_
  exact fin q _ (.inr hq) (Heap.set_same _ _ _) (fun y b hb _=>Heap.le_set hq y b hb)
 obtain ⟨rfl,rfl⟩:=LL.plain' hll
 have e:cells (l.map eI)=cP fI l:=b_o fI l
 rw [e] at hq
 refine a_a.fin ?_
 refine W93_ok ?_;simp (maxSteps:=1000000) (disch:=first|assumption|apply Y6;assumption) only [W93,vz,vu,vv,eqS,eF_,↓c1_,↓c2_,tabs,reduceCtorEq,X5,↓reduceIte,Y1,Y2,Y3,Y4,Y5,X1,X2,X3,X4]
 refine d_g (0:Nat) (fun i=>I i) (fun _=>G) (fun k=>k≤l.length∧∀j,j < k→l.getD j default < n) (fun k=>l.length - k) ⟨⟨by omega,by intros;omega⟩,.refl _,Heap.le_refl _⟩ ?_
 rintro k ⟨hk,ha⟩
 have ins:((k=l.length∨¬l.getD k default < n)∧n∉l)→J93_1 (wkK K) (rowP q l) (I n) (I k) G:=by
  rintro ⟨h2,hn⟩
  have ht:=d_L hk ha h2
  (try simp (disch:=first|assumption|apply Y6;assumption) only [vz,vu,vv,eqS,eF_,↓c1_,↓c2_,tabs,reduceCtorEq,X5,↓reduceIte,Y1,Y2,Y3,Y4,Y5,X1,X2,X3,X4,J93_1])
  refine e_I fun q0 hq0=>?_
  have n0:q≠q0:=fun e=>by rw [e] at hq;rw [hq] at hq0;cases hq0
  (try simp (disch:=first|assumption|apply Y6;assumption) only [vz,vu,vv,eqS,eF_,↓c1_,↓c2_,tabs,reduceCtorEq,X5,↓reduceIte,Y1,Y2,Y3,Y4,Y5,X1,X2,X3,X4,a_z])
  refine ⟨by omega,by omega,by omega,?_⟩
  have lnone:∀{G':Heap} {y:Nat},Heap.le G G'→G' y=none→G y=none:=fun {G'} {y} hle hy=>by
   cases hh:G y with
   | none=>rfl
   | some b=>rw [hle y b hh] at hy;cases hy
  have le0:Heap.le G (G.set q0 (cP fI [])):=Heap.le_set hq0
  refine app_part (xs:=[]) (l:=l) (off:=0) (Heap.set_same _ _ _) (by rw [Heap.set_other n0];exact hq) (by omega) (by simp only [List.length_nil];omega) fun q1 hq1=>?_
  have hg1:=lnone le0 hq1
  have le1:=Heap.le_setN (b:=cP fI ([]++(l.drop 0).take k)) (Heap.le_del le0 hq0) hg1
  have hs1:=Heap.set_same ((G.set q0 (cP fI [])).del q0) q1 (cP fI ([]++(l.drop 0).take k))
  have ee:(G.set q0 (cP fI []))=G.set q0 []:=rfl
  rw [ee] at le1 hs1
  generalize ((G.set q0 []).del q0).set q1 (cP fI ([]++(l.drop 0).take k))=G1 at le1 hs1 ⊢
  rw [List.nil_append,List.drop_zero] at hs1 ⊢
  have hlt:(l.take k).length=k:=by rw [List.length_take,Nat.min_eq_left hk]
  refine lit1 a_g rfl a_u ⟨rfl,rfl⟩ ?_
  refine app_row (f:=fI) (ys:=[n]) a_g rfl a_u rfl (by decide) hs1 (by simp only [hlt,List.length_singleton];omega) fun q2 hq2=>?_
  have hg2:=lnone le1 hq2
  have le2:=Heap.le_setN (b:=cP fI (l.take k++[n])) (Heap.le_del le1 hg1) hg2
  have hs2:=Heap.set_same (G1.del q1) q2 (cP fI (l.take k++[n]))
  generalize (G1.del q1).set q2 (cP fI (l.take k++[n]))=G2 at le2 hs2 ⊢
  refine ⟨by omega,by omega,by omega,?_⟩
  have e9:(↑l.length - (k:Int)).toNat=l.length - k:=by omega
  rw [e9,Nat.mul_one]
  refine app_part (l:=l) (off:=k) hs2 (le2 q _ hq) (by omega) (by simp only [List.length_append,hlt,List.length_singleton];omega) fun q3 hq3=>?_
  have hg3:=lnone le2 hq3
  have e2:l.take k++[n]++(l.drop k).take (l.length - k)=put l n:=by rw [List.take_of_length_le (l:=l.drop k) (by rw [List.length_drop];omega),put,if_neg hn,ht.1,ht.2];simp
  have le3:=Heap.le_setN (b:=cP fI (put l n)) (Heap.le_del le2 hg2) hg3
  rw [e2]
  exact wkK.keep (fin q3 _ (.inr hg3) (Heap.set_same _ _ _) fun y b hb _=>le3 y b hb)
 have here:(k=l.length∨¬l.getD k default < n)→J93_2 (wkK K) (rowP q l) (I n) (I k) G:=by
  intro h2
  have ht:=d_L hk ha h2
  have ge:∀x∈l.drop k,n≤x:=by rw [← ht.2];exact f_F hs
  have lt:∀x∈l.take k,x < n:=by rw [← ht.1];exact f_G
  by_cases hkl:k < l.length
  ·have hrd:=c_u hkl
   (try simp (disch:=first|assumption|apply Y6;assumption) only [vz,vu,vv,eqS,eF_,↓c1_,↓c2_,tabs,reduceCtorEq,X5,↓reduceIte,Y1,Y2,Y3,Y4,Y5,X1,X2,X3,X4,J93_2,lA_ hq,hrd])
   refine ⟨fun h3=>⟨by omega,by omega,by omega,fun h4=>?_,fun h4=>ins ⟨h2,fun hm=>?_⟩⟩,fun h3=>absurd h3 (by omega)⟩
   ·have hm:n∈l:=by rw [← h4];exact a_e (p:=fun x=>x∈l) (fun _ h=>h) hkl
    have ep:put l n=l:=by rw [put,if_pos hm]
    have:=fin q G (.inl (by simp)) (by rw [ep];exact hq) (fun y b hb _=>hb)
    rw [ep] at this
    exact wkK.keep this
   ·rw [← List.take_append_drop k l] at hm
    rcases List.mem_append.1 hm with hm | hm
    ·have:=lt n hm;omega
    ·rw [a_K hkl] at hm ge
     rcases List.mem_cons.1 hm with hm | hm
     ·exact h4 hm.symm
     ·have h5:=ge _ (List.mem_cons_self ..)
      have h6:(l.drop k).Pairwise (· < ·):=List.Pairwise.sublist (List.drop_sublist k l) hs
      rw [a_K hkl,List.pairwise_cons] at h6
      have:=h6.1 n hm
      omega
  ·have hrd:¬((k:Int) < l.length):=by omega
   (try simp (disch:=first|assumption|apply Y6;assumption) only [vz,vu,vv,eqS,eF_,↓c1_,↓c2_,tabs,reduceCtorEq,X5,↓reduceIte,Y1,Y2,Y3,Y4,Y5,X1,X2,X3,X4,J93_2,lA_ hq,hrd])
   refine ins ⟨h2,fun hm=>?_⟩
   rw [← List.take_append_drop k l,List.drop_of_length_le (by omega),List.append_nil] at hm
   have:=lt n hm;omega
 by_cases hkl:k < l.length
 ·have hrd:=c_u hkl
  (try simp (disch:=first|assumption|apply Y6;assumption) only [vz,vu,vv,eqS,eF_,↓c1_,↓c2_,tabs,reduceCtorEq,X5,↓reduceIte,Y1,Y2,Y3,Y4,Y5,X1,X2,X3,X4,B93_0,lA_ hq,hrd])
  refine ⟨fun h1=>⟨by omega,by omega,by omega,fun h2=>⟨k+1,⟨by omega,fun j hj=>?_⟩,by omega,?_⟩,fun h2=>here (.inr h2)⟩,fun h1=>absurd h1 (by omega)⟩
  ·rcases Nat.lt_succ_iff_lt_or_eq.1 hj with h | rfl
   ·exact ha j h
   ·exact h2
  ·rw [a_r,i6_ (by omega) (by omega)];simp
 ·have hrd:¬((k:Int) < l.length):=by omega
  (try simp (disch:=first|assumption|apply Y6;assumption) only [vz,vu,vv,eqS,eF_,↓c1_,↓c2_,tabs,reduceCtorEq,X5,↓reduceIte,Y1,Y2,Y3,Y4,Y5,X1,X2,X3,X4,B93_0,lA_ hq,hrd])
  exact here (.inl (by omega))
end Go.Proofs.YtohkciilfkhomaaGreat
