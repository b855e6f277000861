/- Texts laid together: Tv4 LayF Ss3 Ss4 Tp2 Tw1 Tw2 Tw3 Tw4 Tp3 Dr3 Ph0 Ph1 Ph4 Ph5 Fe1 Mi0. -/
import Derived.Test.YtohkciilfkhomaaPB10
import Derived.Shelf.SlGeneric
import Derived.Shelf.SlLaysF0
import Derived.Test.YtohkciilfkhomaaProg
import Derived.Shelf.SlSortCmp.NoneTotal
set_option linter.unusedVariables false
set_option linter.unusedSimpArgs false
open Go.Sep.AV renaming any → Q_
open Nat renaming reduceAdd→ν1,reduceLeDiff→ν2,reduceLT→ν3,reduceMul→ν4,reduceSub→ν5
open Int renaming reduceToNat→ι1,reduceSub→ι2,reduceAdd→ι3,reduceNeg→ι4
open Array renaming toList→ι5
open Ne renaming symm→ν6
open List renaming forall_mem_cons→ν7
namespace Go.Proofs.Ytohkciilfkhomaa
open Go Go.Sep Go.Pt
attribute [local irreducible] CallT
theorem lit0W {G:Heap} {K:AV→Heap→Prop} (h:∀q,G q=none→K (.sl q 1 0 0) (G.set q [])):bS_ tab 26 0 [] G (wkK K):=by
 simp only [bS_,tab_26,tab_24]
 refine ⟨by omega,?_⟩
 simp only [fillV,zA_,List.replicate_zero,List.flatten_nil]
 exact fun r hr=>wkK.keep (h r hr)
theorem TakesWord_impl (a:Au) (sa:smAu a) (s l:List Int) (h1:s.length≤1048576) (h2:l.length≤1048576):Pu Try.prog 12 [aAu a,aL2 s l] (.tup [B (twR a s l).1,B (twR a s l).2]):=by
 refine Pu.of fun H=>?_
 refine W12_ok ?_;simp (maxSteps:=1000000) (disch:=first | assumption | (apply ν6;assumption)) only [W12,vz,vu,vv,eqS,eF_,↓c1_,↓c2_,tabs,reduceCtorEq,ι5,↓reduceIte,ν1,ν2,ν3,ν4,ν5,ι1,ι2,ι3,ι4,mS_]
 intro r hr r3 n3 hr3
 have st:=((St.nil H).cell hr [I a.states,Is a.first,Es a.edges,Ls a.goals]).cell (r:=r3) (by rw [Heap.set_other n3];exact hr3) [Is s,Is l]
 generalize (H.set r [I a.states,Is a.first,Es a.edges,Ls a.goals]).set r3 [Is s,Is l]=G1 at st ⊢
 clear hr hr3 n3
 (try simp (maxSteps:=1000000) (disch:=first | assumption | (apply ν6;assumption)) only [vz,vu,vv,eqS,eF_,↓c1_,↓c2_,tabs,reduceCtorEq,ι5,↓reduceIte,ν1,ν2,ν3,ν4,ν5,ι1,ι2,ι3,ι4,lA_ (st.get 1 rfl)])
 refine Pu.use (GoodAuto_impl a sa) ?_
 cases ga:goodA a
 ·(try simp (maxSteps:=1000000) (disch:=first | assumption | (apply ν6;assumption)) only [vz,vu,vv,eqS,eF_,↓c1_,↓c2_,tabs,reduceCtorEq,ι5,↓reduceIte,ν1,ν2,ν3,ν4,ν5,ι1,ι2,ι3,ι4])
  first | exact ⟨by simp [twR,ga],st.le⟩ | (simp [twR,ga];exact st.le)
 (try simp (maxSteps:=1000000) (disch:=first | assumption | (apply ν6;assumption)) only [vz,vu,vv,eqS,eF_,↓c1_,↓c2_,tabs,reduceCtorEq,ι5,↓reduceIte,ν1,ν2,ν3,ν4,ν5,ι1,ι2,ι3,ι4,lA_ (st.get 0 rfl)])
 refine Pu.use (GoodLassoI s l (by omega) (by omega)) ?_
 cases gl:goodL s l
 ·(try simp (maxSteps:=1000000) (disch:=first | assumption | (apply ν6;assumption)) only [vz,vu,vv,eqS,eF_,↓c1_,↓c2_,tabs,reduceCtorEq,ι5,↓reduceIte,ν1,ν2,ν3,ν4,ν5,ι1,ι2,ι3,ι4])
  first | exact ⟨by simp [twR,ga,gl],st.le⟩ | (simp [twR,ga,gl];exact st.le)
 obtain ⟨hs,hl⟩:=goodL_f gl
 have fa:=good_facts ga
 have sa:=fa.st
 have hed:=fa.ed
 have hgl:=fa.gl
 have hpr:=wpA_pr ga hs hl
 have e0:IntKind.i64.wrap ((s.length:Int)+(l.length:Int))=((s.length+l.length:Nat):Int):=by rw [i6_ (by omega) (by omega)];simp
 have hm:=mul_bd (a:=((s.length+l.length:Nat):Int)) (A:=48) (b:=a.states) (B:=96) (by omega) (by omega)
 have e1:IntKind.i64.wrap (((s.length+l.length:Nat):Int)*a.states)=((s.length+l.length:Nat):Int)*a.states:=i6_ (by omega) (by omega)
 (try simp (maxSteps:=1000000) (disch:=first | assumption | (apply ν6;assumption)) only [vz,vu,vv,eqS,eF_,↓c1_,↓c2_,tabs,reduceCtorEq,ι5,↓reduceIte,ν1,ν2,ν3,ν4,ν5,ι1,ι2,ι3,ι4,lA_ (st.get 0 rfl),lA_ (st.get 1 rfl),e0,e1])
 refine ⟨by omega,by omega,by omega,by omega,fun q hq=>?_⟩
 replace st:=tab_new (n:=(((s.length+l.length:Nat):Int)*a.states).toNat) st (q:=q) hq
 clear hq
 rw [← outL_nil] at st
 generalize G1.set q (zA_ (((s.length+l.length:Nat):Int)*a.states).toNat [.p .nil])=G3 at st ⊢
 refine lit0W fun q8 hq8=>?_
 replace st:=st.push (rgT 0 (.sl q8 1 0 0) [] [q8]) (New.cell hq8) (.inr ⟨q8,[],[],rfl,Heap.set_same _ _ _,⟨rfl,rfl⟩,rfl⟩)
 generalize G3.set q8 []=G4 at st ⊢
 clear hq8 G3
 have hwE:∀t j,t≤s.length+l.length→(wpE a s l t++wpR a.states s l t (a.edges.take j)).length≤200000:=fun t j ht=>by
  have h1:=wpE_len a s l t
  have h2:=wpR_len a.states s l t (a.edges.take j)
  rw [List.length_take] at h2
  have h3:t*a.edges.length≤48*2400:=Nat.mul_le_mul (by omega) hed
  rw [List.length_append];omega
 have hT0:outL (((s.length+l.length:Nat):Int)*a.states).toNat (wpE a s l (s.length+l.length))=outR (wpA a s l) (wpA a s l).edges.length:=by
  rw [outL,outR]
  show _=(List.range (((s.length+l.length:Nat):Int)*a.states).toNat).map (outN (wpA a s l) (wpA a s l).edges.length)
  congr 1
  funext t
  rw [outN,List.take_length];rfl
 have hN:∀t:Nat,t < s.length+l.length→∀x:Int,0≤x∧x < a.states→0≤(t:Int)*a.states+x∧(t:Int)*a.states+x < ((s.length+l.length:Nat):Int)*a.states:=fun t ht x hx=>lex_bd (by omega) hx
 obtain ⟨N,hNe⟩:∃N,(((s.length+l.length:Nat):Int)*a.states).toNat=N:=⟨_,rfl⟩
 rw [hNe] at st hT0 ⊢
 have hNi:(N:Int)=((s.length+l.length:Nat):Int)*a.states:=by omega
 refine L12_0_rule ((0:Nat),[q],G4) (fun z=>I z.1) (fun z=>z.2.2)
  (fun z=>z.1≤s.length+l.length∧St H [rgT 0 (.sl q8 1 0 0) [] [q8],tabT q (outL N (wpE a s l z.1)) z.2.1,cT_ r3 [Is s,Is l],cT_ r [I a.states,Is a.first,Es a.edges,Ls a.goals]] z.2.2) (fun z=>s.length+l.length - z.1)
  ⟨⟨by simp,by simpa [wpE] using st⟩,.refl _,Heap.le_refl _⟩ ?_
 clear st G4
 rintro ⟨t,D,G⟩ ⟨ht,st⟩
 dsimp only at ht st
 have e5:IntKind.i64.wrap ((t:Int)+1)=((t+1:Nat):Int):=by rw [i6_ (by omega) (by omega)];simp
 (try simp (maxSteps:=1000000) (disch:=first | assumption | (apply ν6;assumption)) only [vz,vu,vv,eqS,eF_,↓c1_,↓c2_,tabs,reduceCtorEq,ι5,↓reduceIte,ν1,ν2,ν3,ν4,ν5,ι1,ι2,ι3,ι4,B12_0,e5])
 refine ⟨fun h1=>?_,fun h1=>?_⟩
 ·have hlt:t < s.length+l.length:=by omega
  have hnx:=nxW_lt (s:=s) hl.1 hlt
  (try simp (maxSteps:=1000000) (disch:=first | assumption | (apply ν6;assumption)) only [vz,vu,vv,eqS,eF_,↓c1_,↓c2_,tabs,reduceCtorEq,ι5,↓reduceIte,ν1,ν2,ν3,ν4,ν5,ι1,ι2,ι3,ι4,lA_ (st.get 3 rfl)])
  refine L12_1_rule ((0:Nat),D,G) (fun z=>I z.1) (fun z=>z.2.2)
   (fun z=>z.1≤a.edges.length∧St H [rgT 0 (.sl q8 1 0 0) [] [q8],tabT q (outL N (wpE a s l t++wpR a.states s l t (a.edges.take z.1))) z.2.1,cT_ r3 [Is s,Is l],cT_ r [I a.states,Is a.first,Es a.edges,Ls a.goals]] z.2.2) (fun z=>a.edges.length - z.1)
   ⟨⟨by simp,by simpa [wpR] using st⟩,.refl _,Heap.le_refl _⟩ ?_
  clear st D G
  rintro ⟨j,D,G⟩ ⟨hj,st⟩
  dsimp only at hj st
  have e6:IntKind.i64.wrap ((j:Int)+1)=((j+1:Nat):Int):=by rw [i6_ (by omega) (by omega)];simp
  (try simp (maxSteps:=1000000) (disch:=first | assumption | (apply ν6;assumption)) only [vz,vu,vv,eqS,eF_,↓c1_,↓c2_,tabs,reduceCtorEq,ι5,↓reduceIte,ν1,ν2,ν3,ν4,ν5,ι1,ι2,ι3,ι4,B12_1,e6])
  refine ⟨fun h2=>⟨by omega,h2,?_⟩,fun h2=>?_⟩
  ·have hltj:j < a.edges.length:=by omega
   have hdi:=edIn_iff.1 (fa.ei _ (getD_all (p:=fun x=>x∈a.edges) (d:=default) (fun _ h=>h) hltj))
   have hs2:=wpR_succ a.states s l t a.edges hltj
   have hbj:=hwE t j ht
   generalize a.edges.getD j default=d at hdi hs2 ⊢
   intro r12 hr12
   replace st:=st.cell hr12 [I d.src,I d.lt,I d.dst]
   generalize G.set r12 [I d.src,I d.lt,I d.dst]=G5 at st ⊢
   clear hr12
   (try simp (maxSteps:=1000000) (disch:=first | assumption | (apply ν6;assumption)) only [vz,vu,vv,eqS,eF_,↓c1_,↓c2_,tabs,reduceCtorEq,ι5,↓reduceIte,ν1,ν2,ν3,ν4,ν5,ι1,ι2,ι3,ι4,lA_ (st.get 0 rfl),lA_ (st.get 3 rfl)])
   refine Pu.use (letterAt_spec s l hs hl hlt) ?_
   (try simp (maxSteps:=1000000) (disch:=first | assumption | (apply ν6;assumption)) only [vz,vu,vv,eqS,eF_,↓c1_,↓c2_,tabs,reduceCtorEq,ι5,↓reduceIte,ν1,ν2,ν3,ν4,ν5,ι1,ι2,ι3,ι4,lA_ (st.get 0 rfl),lA_ (st.get 3 rfl),lA_ (st.get 4 rfl),e6])
   refine ⟨fun h3=>?_,fun h3=>?_⟩
   ·rw [if_pos h3] at hs2
    have x1:=hN t hlt d.src (by omega)
    have x2:=hN (nxW s l t) hnx d.dst (by omega)
    have y1:0≤(t:Int)*a.states:=Int.mul_nonneg (by omega) (by omega)
    have y2:0≤((nxW s l t:Nat):Int)*a.states:=Int.mul_nonneg (by omega) (by omega)
    have w1:IntKind.i64.wrap ((t:Int)*a.states)=(t:Int)*a.states:=i6_ (by omega) (by omega)
    have w2:IntKind.i64.wrap ((t:Int)*a.states+d.src)=(t:Int)*a.states+d.src:=i6_ (by omega) (by omega)
    have w3:IntKind.i64.wrap (((nxW s l t:Nat):Int)*a.states)=((nxW s l t:Nat):Int)*a.states:=i6_ (by omega) (by omega)
    obtain ⟨xd,hxd⟩:∃xd,((nxW s l t:Nat):Int)*a.states+d.dst=xd:=⟨_,rfl⟩
    have w4:IntKind.i64.wrap (((nxW s l t:Nat):Int)*a.states+d.dst)=xd:=by rw [← hxd];exact i6_ (by omega) (by omega)
    obtain ⟨w,hw⟩:∃w:Nat,(t:Int)*a.states+d.src=(w:Int):=⟨((t:Int)*a.states+d.src).toNat,by omega⟩
    have hwN:w < N:=by omega
    have hpush:=outL_push N (wpE a s l t++wpR a.states s l t (a.edges.take j)) (wpS a.states s l t d) (w:=w) hw hwN
    rw [List.append_assoc,← hs2] at hpush
    have hrl:=outL_row N (wpE a s l t++wpR a.states s l t (a.edges.take j)) w hwN
    have htl:=outL_len N (wpE a s l t++wpR a.states s l t (a.edges.take j))
    have hdst:(wpS a.states s l t d).dst=((nxW s l t:Nat):Int)*a.states+d.dst:=rfl
    rw [hdst,hxd] at hpush
    rw [hw] at w2
    obtain ⟨pre,c,post,Di,Dr,hpl,hpp,st⟩:=tab_take st 2 rfl (i:=w) (by omega)
    rw [htl] at hpp
    simp only [List.eraseIdx_cons_succ,List.eraseIdx_cons_zero] at st
    generalize outL N (wpE a s l t++wpR a.states s l t (a.edges.take j))=rows at st hpush hrl htl
    generalize hr0:rows.getD w default=row at st hpush hrl
    have hG:=(st.get 1 rfl:(holeT q pre c post _ _ Dr).P G5).1
    have hrd:=tab_rd (c:=c) (post:=post) hpl
    have hb:w*1+1≤pre.length+(post.length+1):=by omega
    have hsp:∀c',List.take (w*1) (pre++(c::post))++[c']++List.drop (w*1+1) (pre++(c::post))=pre++(c'::post):=fun c'=>tab_sp hpl
    (try simp (maxSteps:=1000000) (disch:=first | assumption | (apply ν6;assumption)) only [vz,vu,vv,eqS,eF_,↓c1_,↓c2_,tabs,reduceCtorEq,ι5,↓reduceIte,ν1,ν2,ν3,ν4,ν5,ι1,ι2,ι3,ι4,lA_ (st.get 2 rfl),lA_ (st.get 4 rfl),lA_ (st.get 5 rfl),w1,w2,w3,w4,hw,lA_ hG,hrd,Int.toNat_natCast])
    refine ⟨by omega,by omega,?_⟩
    first | refine ⟨hb,?_⟩ | skip
    refine Pu.use (nextPlace_spec s l hs hl hlt) ?_
    (try simp (maxSteps:=1000000) (disch:=first | assumption | (apply ν6;assumption)) only [vz,vu,vv,eqS,eF_,↓c1_,↓c2_,tabs,reduceCtorEq,ι5,↓reduceIte,ν1,ν2,ν3,ν4,ν5,ι1,ι2,ι3,ι4,lA_ (st.get 2 rfl),lA_ (st.get 4 rfl),lA_ (st.get 5 rfl),w1,w2,w3,w4,hw,lA_ hG,hrd,Int.toNat_natCast])
    refine ⟨hb,?_⟩
    refine lit1 tab_24 rfl tab_3 ⟨rfl,rfl⟩ ?_
    (try simp (maxSteps:=1000000) (disch:=first | assumption | (apply ν6;assumption)) only [vz,vu,vv,eqS,eF_,↓c1_,↓c2_,tabs,reduceCtorEq,ι5,↓reduceIte,ν1,ν2,ν3,ν4,ν5,ι1,ι2,ι3,ι4,lA_ (st.get 2 rfl),lA_ (st.get 4 rfl),lA_ (st.get 5 rfl),lA_ hG,hrd])
    refine ⟨hb,?_⟩
    refine rn_appI (ys:=[xd]) st 0 rfl (by simp only [List.length_cons,List.length_nil];omega) fun q' G' hq' st=>?_
    simp only [List.set_cons_zero] at st
    have hG:=(st.get 1 rfl:(holeT q pre c post _ _ Dr).P G').1
    (try simp (maxSteps:=1000000) (disch:=first | assumption | (apply ν6;assumption)) only [vz,vu,vv,eqS,eF_,↓c1_,↓c2_,tabs,reduceCtorEq,ι5,↓reduceIte,ν1,ν2,ν3,ν4,ν5,ι1,ι2,ι3,ι4,lA_ (st.get 2 rfl),lA_ (st.get 4 rfl),lA_ (st.get 5 rfl),sA_ hG])
    refine ⟨by omega,by omega,hb,?_⟩
    obtain ⟨D',st⟩:=tab_put st (by omega)
    rw [← hpush] at st
    rw [hsp]
    simp only [rowP,List.length_append,List.length_singleton] at st
    exact ⟨(j+1,D',_),⟨by simp only;omega,(st.erase 1).perm (List.Perm.swap _ _ _)⟩,by simp only;omega,.refl _,Heap.le_refl _⟩
   ·rw [if_neg h3] at hs2
    exact ⟨(j+1,D,_),⟨by simp only;omega,by rw [hs2];exact st.drop⟩,by simp only;omega,.refl _,Heap.le_refl _⟩
  ·have:j=a.edges.length:=by omega
   subst this
   rw [List.take_length,← wpE_succ] at st
   (try simp (maxSteps:=1000000) (disch:=first | assumption | (apply ν6;assumption)) only [vz,vu,vv,eqS,eF_,↓c1_,↓c2_,tabs,reduceCtorEq,ι5,↓reduceIte,ν1,ν2,ν3,ν4,ν5,ι1,ι2,ι3,ι4,e5])
   exact ⟨(t+1,D,G),⟨by simp only;omega,st⟩,by simp only;omega,.refl _,Heap.le_refl _⟩
 ·have:t=s.length+l.length:=by omega
  subst this
  rw [hT0] at st
  obtain ⟨T,hT⟩:∃T,s.length+l.length=T:=⟨_,rfl⟩
  have hgo:=goalsT a s l
  rw [hT] at hgo ⊢
  have hTb:T≤48:=by omega
  (try simp (maxSteps:=1000000) (disch:=first | assumption | (apply ν6;assumption)) only [vz,vu,vv,eqS,eF_,↓c1_,↓c2_,tabs,reduceCtorEq,ι5,↓reduceIte,ν1,ν2,ν3,ν4,ν5,ι1,ι2,ι3,ι4,lA_ (st.get 3 rfl)])
  refine L12_2_rule ((0:Nat),(.sl q8 1 0 0:AV),[q8],G) (fun z=>z.2.1) (fun z=>I z.1) (fun z=>z.2.2.2)
   (fun z=>z.1≤a.goals.length∧St H [rgT 0 z.2.1 (wpG a T z.1) z.2.2.1,tabT q (outR (wpA a s l) (wpA a s l).edges.length) D,cT_ r3 [Is s,Is l],cT_ r [I a.states,Is a.first,Es a.edges,Ls a.goals]] z.2.2.2) (fun z=>a.goals.length - z.1)
   ⟨⟨by simp,by simpa [wpG] using st⟩,.refl _,.refl _,Heap.le_refl _⟩ ?_
  clear st G e5
  rintro ⟨k,x,Dz,G⟩ ⟨hk,st⟩
  dsimp only at hk st
  have e5:IntKind.i64.wrap ((k:Int)+1)=((k+1:Nat):Int):=by rw [i6_ (by omega) (by omega)];simp
  have hwl:=wpG_len a T k
  (try simp (maxSteps:=1000000) (disch:=first | assumption | (apply ν6;assumption)) only [vz,vu,vv,eqS,eF_,↓c1_,↓c2_,tabs,reduceCtorEq,ι5,↓reduceIte,ν1,ν2,ν3,ν4,ν5,ι1,ι2,ι3,ι4,B12_2,e5])
  refine ⟨fun h2=>⟨by omega,h2,?_⟩,fun h2=>?_⟩
  ·have hltk:k < a.goals.length:=by omega
   have hgk:=getD_all (p:=fun x=>smI x∧x.length≤96) (d:=default) fa.gi hltk
   have hsucc:=wpG_succ a T hltk
   generalize a.goals.getD k default=gk at hgk hsucc ⊢
   refine lit0I fun q0 hq0=>?_
   replace st:=st.cell hq0 (cP fI [])
   generalize G.set q0 (cP fI [])=G1 at st ⊢
   clear hq0
   refine L12_3_rule ((0:Nat),q0,G1) (fun z=>rowP z.2.1 (prs (below z.1) gk a.states)) (fun z=>I z.1) (fun z=>z.2.2)
    (fun z=>z.1≤T∧St H [cT_ z.2.1 (cP fI (prs (below z.1) gk a.states)),rgT 0 x (wpG a T k) Dz,tabT q (outR (wpA a s l) (wpA a s l).edges.length) D,cT_ r3 [Is s,Is l],cT_ r [I a.states,Is a.first,Es a.edges,Ls a.goals]] z.2.2) (fun z=>T - z.1)
    ⟨⟨by simp,by simpa [below,prs] using st⟩,by simp [below,prs];exact .refl _,.refl _,Heap.le_refl _⟩ ?_
   clear st
   rintro ⟨i,q1,G⟩ ⟨hi,st⟩
   dsimp only at hi st
   have hpl:=prs_len (below i) gk a.states
   rw [below_len] at hpl
   have hml:i*gk.length≤48*96:=Nat.mul_le_mul (by omega) hgk.2
   (try simp (maxSteps:=1000000) (disch:=first | assumption | (apply ν6;assumption)) only [vz,vu,vv,eqS,eF_,↓c1_,↓c2_,tabs,reduceCtorEq,ι5,↓reduceIte,ν1,ν2,ν3,ν4,ν5,ι1,ι2,ι3,ι4,B12_3])
   refine ⟨fun h3=>?_,fun h3=>?_⟩
   ·have hlti:i < T:=by omega
    have hps:prs (below (i+1)) gk a.states=prs (below i) gk a.states++gk.map fun j=>(i:Int)*a.states+j:=by
     have:=prs_succ (below (i+1)) gk a.states (i:=i) (by rw [below_len];omega)
     rw [below_takeW _ (Nat.le_succ i),below_getW (Nat.lt_succ_self i)] at this
     rw [← this,List.take_of_length_le (by rw [below_len];omega)]
    refine L12_4_rule ((0:Nat),q1,G) (fun z=>rowP z.2.1 (prs (below i) gk a.states++(gk.take z.1).map fun j=>(i:Int)*a.states+j)) (fun z=>I z.1) (fun z=>z.2.2)
     (fun z=>z.1≤gk.length∧St H [cT_ z.2.1 (cP fI (prs (below i) gk a.states++(gk.take z.1).map fun j=>(i:Int)*a.states+j)),rgT 0 x (wpG a T k) Dz,tabT q (outR (wpA a s l) (wpA a s l).edges.length) D,cT_ r3 [Is s,Is l],cT_ r [I a.states,Is a.first,Es a.edges,Ls a.goals]] z.2.2) (fun z=>gk.length - z.1)
     ⟨⟨by simp,by simpa using st⟩,by simp;exact .refl _,.refl _,Heap.le_refl _⟩ ?_
    clear st
    rintro ⟨j,q1,G⟩ ⟨hj,st⟩
    dsimp only at hj st
    (try simp (maxSteps:=1000000) (disch:=first | assumption | (apply ν6;assumption)) only [vz,vu,vv,eqS,eF_,↓c1_,↓c2_,tabs,reduceCtorEq,ι5,↓reduceIte,ν1,ν2,ν3,ν4,ν5,ι1,ι2,ι3,ι4,B12_4,lA_ (st.get 4 rfl)])
    refine ⟨fun h4=>⟨by omega,h4,?_⟩,fun h4=>?_⟩
    ·have hltj:j < gk.length:=by omega
     have hx:=getD_all (p:=fun x=>0≤x∧x≤100000) (d:=default) hgk.1.2 hltj
     have ht:(gk.take (j+1)).map (fun j=>(i:Int)*a.states+j)=(gk.take j).map (fun j=>(i:Int)*a.states+j)++[(i:Int)*a.states+gk.getD j default]:=by
      rw [tS_ hltj,List.map_append];rfl
     have hlt:((gk.take j).map fun j=>(i:Int)*a.states+j).length≤96:=by rw [List.length_map,List.length_take];omega
     generalize gk.getD j default=e at hx ht ⊢
     have m1:=mul_bd (a:=i) (A:=48) (b:=a.states) (B:=96) (by omega) (by omega)
     have e1:IntKind.i64.wrap ((i:Int)*a.states)=(i:Int)*a.states:=i6_ (by omega) (by omega)
     have e2:IntKind.i64.wrap ((i:Int)*a.states+e)=(i:Int)*a.states+e:=i6_ (by omega) (by omega)
     have e3:IntKind.i64.wrap ((j:Int)+1)=((j+1:Nat):Int):=by rw [i6_ (by omega) (by omega)];simp
     (try simp (maxSteps:=1000000) (disch:=first | assumption | (apply ν6;assumption)) only [vz,vu,vv,eqS,eF_,↓c1_,↓c2_,tabs,reduceCtorEq,ι5,↓reduceIte,ν1,ν2,ν3,ν4,ν5,ι1,ι2,ι3,ι4,e1,e2,e3])
     refine lit1 tab_24 rfl tab_3 ⟨rfl,rfl⟩ ?_
     refine st_appI (ys:=[(i:Int)*a.states+e]) st 0 rfl (by rw [List.length_append];simp only [List.length_singleton];omega) fun q' G' hq' st=>?_
     rw [List.append_assoc,← ht] at st ⊢
     exact ⟨(j+1,q',G'),⟨by simp only;omega,st⟩,by simp only;omega,.refl _,.refl _,Heap.le_refl _⟩
    ·have:j=gk.length:=by omega
     subst this
     rw [List.take_length,← hps] at st ⊢
     have e3:IntKind.i64.wrap ((i:Int)+1)=((i+1:Nat):Int):=by rw [i6_ (by omega) (by omega)];simp
     (try simp (maxSteps:=1000000) (disch:=first | assumption | (apply ν6;assumption)) only [vz,vu,vv,eqS,eF_,↓c1_,↓c2_,tabs,reduceCtorEq,ι5,↓reduceIte,ν1,ν2,ν3,ν4,ν5,ι1,ι2,ι3,ι4,e3])
     exact ⟨(i+1,q1,G),⟨by simp only;omega,st⟩,by simp only;omega,.refl _,.refl _,Heap.le_refl _⟩
   ·have:i=T:=by omega
    subst this
    (try simp (maxSteps:=1000000) (disch:=first | assumption | (apply ν6;assumption)) only [vz,vu,vv,eqS,eF_,↓c1_,↓c2_,tabs,reduceCtorEq,ι5,↓reduceIte,ν1,ν2,ν3,ν4,ν5,ι1,ι2,ι3,ι4,e5])
    refine lit_live1 fun ql hql=>?_
    replace st:=st.cell hql [rowP q1 (prs (below i) gk a.states)]
    generalize G.set ql [.sl q1 1 0 (prs (below i) gk a.states).length]=G4 at st ⊢
    (try simp (maxSteps:=1000000) (disch:=first | assumption | (apply ν6;assumption)) only [vz,vu,vv,eqS,eF_,↓c1_,↓c2_,tabs,reduceCtorEq,ι5,↓reduceIte,ν1,ν2,ν3,ν4,ν5,ι1,ι2,ι3,ι4])
    refine rz_pushL st 0 rfl (by omega) fun q' D' G5 hq' st=>?_
    rw [← hsucc] at st
    (try simp (maxSteps:=1000000) (disch:=first | assumption | (apply ν6;assumption)) only [vz,vu,vv,eqS,eF_,↓c1_,↓c2_,tabs,reduceCtorEq,ι5,↓reduceIte,ν1,ν2,ν3,ν4,ν5,ι1,ι2,ι3,ι4,e5])
    exact ⟨(k+1,_,D',_),⟨by simp only;omega,st⟩,by simp only;omega,.refl _,.refl _,Heap.le_refl _⟩
  ·have:k=a.goals.length:=by omega
   subst this
   rw [← hgo] at st
   have hme:=meeting_O hpr
   have hfst:(wpA a s l).first=a.first:=rfl
   have htl:(outR (wpA a s l) (wpA a s l).edges.length).length=N:=by rw [outR_len];exact hNe
   have htw:twR a s l=(decide (0≤meetF (rwF (gO (wpA a s l))) (gO (wpA a s l)).length (nN (wpA a s l).first) (goN (wpA a s l).goals)),true):=by rw [twR,ga,gl];rfl
   rw [htw]
   generalize meetF (rwF (gO (wpA a s l))) (gO (wpA a s l)).length (nN (wpA a s l).first) (goN (wpA a s l).goals)=mm at hme ⊢
   rw [hfst] at hme
   generalize outR (wpA a s l) (wpA a s l).edges.length=T0 at st hme htl
   generalize (wpA a s l).goals=gs at st hme
   (try simp (maxSteps:=1000000) (disch:=first | assumption | (apply ν6;assumption)) only [vz,vu,vv,eqS,eF_,↓c1_,↓c2_,tabs,reduceCtorEq,ι5,↓reduceIte,ν1,ν2,ν3,ν4,ν5,ι1,ι2,ι3,ι4,lA_ (st.get 3 rfl)])
   obtain ⟨Gw,hwk,hfr⟩:∃G',Wk (.tup [.sl q 1 0 T0.length,Is a.first,x]) G (.tup [Ls T0,Is a.first,Ls gs]) G'∧∀y,y∉D→y∉Dz→G' y=G y:=by
    obtain ⟨G1,w1,f1⟩:=LRow.frzV (e:=eL) (sz:=1) (v:=.tup [.sl q 1 0 T0.length,Is a.first,x]) (v':=.tup [Ls T0,Is a.first,x]) (by omega) (fun _=>rfl) LIn.local LIn.frz (st.get 1 rfl) (st.ndT 1 rfl) (fun q _ hr=>.tup (.cons hr (.cons (.same _) (.cons (.same _) .nil))))
    obtain ⟨x',hx,lx⟩:=(st.get 0 rfl:RZ LIc 1 0 x _ G Dz).row
    have lx1:=LRow.local LIc.local lx (G':=G1) fun y hy bb hb=>by rw [f1 y (fun hm=>st.disjI 1 0 rfl rfl (by decide) y hm hy)];exact hb
    obtain ⟨G2,w2,f2⟩:=LRow.frzV (e:=eL) (sz:=1) (v:=.tup [Ls T0,Is a.first,x']) (v':=.tup [Ls T0,Is a.first,Ls gs]) (by omega) (fun _=>rfl) LIc.local LIc.frz lx1 (st.ndT 0 rfl) (fun q _ hr=>.tup (.cons (.same _) (.cons (.same _) (.cons hr .nil))))
    exact ⟨G2,.trans w1 (.trans (.val (v':=.tup [Ls T0,Is a.first,x']) (wk_tup ⟨.refl _,.refl _,hx,trivial⟩)) w2),fun y h1 h2=>by rw [f2 y h2,f1 y h1]⟩
   have hle:Heap.le H Gw:=fun v bb hb=>by
    rw [hfr v (st.wkNone v bb hb _ (List.mem_of_getElem? (i:=1) rfl)) (st.wkNone v bb hb _ (List.mem_of_getElem? (i:=0) rfl))];exact st.le v bb hb
   rw [htl] at hwk
   refine CallT.pre (Pu.use hme ?_) hwk
   (try simp (maxSteps:=1000000) (disch:=first | assumption | (apply ν6;assumption)) only [vz,vu,vv,eqS,eF_,↓c1_,↓c2_,tabs,reduceCtorEq,ι5,↓reduceIte,ν1,ν2,ν3,ν4,ν5,ι1,ι2,ι3,ι4])
   first | exact ⟨rfl,hle⟩ | exact hle
end Go.Proofs.Ytohkciilfkhomaa
/-
 DERIVED: THE SHELF's CONTRACTS AT THIS DUMP,IN PLAIN WORDS (tools/lay-plain.mjs out of 'YtohkciilfkhomaaLayF.lean',which tools/lay-shelf.mjs wrote): THE SAME DECLARATIONS UNDER THE SAME NAMES: 'import','namespace','open','def','theorem' AND NOTHING ELSE: no command of the shelf's: FOR A HAND-IN. Each laying: the table of numbers ('.._ren') and one theorem,a field a fact of the dump's own or the kernel's comparison;each contract: ONE APPLICATION.
-/
namespace Go.Proofs
open Go.Shelf
def Try.laySF_ren:Go.Shelf.Ren:=⟨fun | 6=>62 | 15=>82 | 14=>81 | 28=>98 | 29=>99 | 20=>90 | 21=>91 | 22=>92 | 23=>93 | 24=>94 | 25=>95 | 26=>96 | 27=>97 | 46=>104 | 47=>105 | 48=>106 | 49=>107 | 50=>108 | 57=>109 | n=>n,fun | 22=>25 | 24=>46 | 25=>70 | 3=>3 | 39=>98 | 0=>0 | 53=>120 | 55=>54 | 4=>4 | 46=>113 | 45=>112 | 50=>117 | 5=>5 | 9=>9 | 66=>127 | 70=>131 | 76=>133 | 77=>134 | n=>n,fun | n=>n⟩
theorem Try.laySF:Go.Proofs.SlLaysF0.n6 Try.prog Try.laySF_ren:={
 mixed:=by kernel_rfl
 f6:=⟨Try.f62.name,by decide,Try.func62.trans (congrArg some (by kernel_rfl))⟩
 f14:=⟨Try.f81.name,by decide,Try.func81.trans (congrArg some (by kernel_rfl))⟩
 f15:=Try.func82.trans (congrArg some (by kernel_rfl))
 f20:=⟨Try.f90.name,by decide,Try.func90.trans (congrArg some (by kernel_rfl))⟩
 f21:=⟨Try.f91.name,by decide,Try.func91.trans (congrArg some (by kernel_rfl))⟩
 f22:=⟨Try.f92.name,by decide,Try.func92.trans (congrArg some (by kernel_rfl))⟩
 f23:=⟨Try.f93.name,by decide,Try.func93.trans (congrArg some (by kernel_rfl))⟩
 f24:=⟨Try.f94.name,by decide,Try.func94.trans (congrArg some (by kernel_rfl))⟩
 f25:=⟨Try.f95.name,by decide,Try.func95.trans (congrArg some (by kernel_rfl))⟩
 f26:=⟨Try.f96.name,by decide,Try.func96.trans (congrArg some (by kernel_rfl))⟩
 f27:=⟨Try.f97.name,by decide,Try.func97.trans (congrArg some (by kernel_rfl))⟩
 f28:=Try.func98.trans (congrArg some (by kernel_rfl))
 f29:=Try.func99.trans (congrArg some (by kernel_rfl))
 f46:=⟨Try.f104.name,by decide,Try.func104.trans (congrArg some (by kernel_rfl))⟩
 f47:=Try.func105.trans (congrArg some (by kernel_rfl))
 f48:=Try.func106.trans (congrArg some (by kernel_rfl))
 f49:=⟨Try.f107.name,by decide,Try.func107.trans (congrArg some (by kernel_rfl))⟩
 f50:=⟨Try.f108.name,by decide,Try.func108.trans (congrArg some (by kernel_rfl))⟩
 f57:=⟨Try.f109.name,by decide,Try.func109.trans (congrArg some (by kernel_rfl))⟩
 t0:=Try.underlying0
 a0:=Try.isAgg0
 z0:=Try.sizeOf0
 v0:=Try.zeroValue0
 t3:=Try.underlying3
 a3:=Try.isAgg3
 z3:=Try.sizeOf3
 v3:=Try.zeroValue3
 t4:=Try.underlying4
 a4:=Try.isAgg4
 z4:=Try.sizeOf4
 v4:=Try.zeroValue4
 t5:=Try.underlying5
 a5:=Try.isAgg5
 z5:=Try.sizeOf5
 v5:=Try.zeroValue5
 t9:=Try.underlying9
 a9:=Try.isAgg9
 z9:=Try.sizeOf9
 v9:=Try.zeroValue9
 t22:=Try.underlying25
 a22:=Try.isAgg25
 z22:=Try.sizeOf25
 v22:=Try.zeroValue25
 t25:=Try.underlying70
 a25:=Try.isAgg70
 z25:=Try.sizeOf70
 v25:=Try.zeroValue70
 t39:=Try.underlying98
 a39:=Try.isAgg98
 z39:=Try.sizeOf98
 v39:=Try.zeroValue98
 t45:=Try.underlying112
 a45:=Try.isAgg112
 z45:=Try.sizeOf112
 v45:=Try.zeroValue112
 t46:=Try.underlying113
 a46:=Try.isAgg113
 z46:=Try.sizeOf113
 v46:=Try.zeroValue113
 t50:=Try.underlying117
 a50:=Try.isAgg117
 z50:=Try.sizeOf117
 v50:=Try.zeroValue117
 t53:=Try.underlying120
 a53:=Try.isAgg120
 z53:=Try.sizeOf120
 v53:=Try.zeroValue120
 t55:=Try.underlying54
 a55:=Try.isAgg54
 z55:=Try.sizeOf54
 v55:=Try.zeroValue54
 t66:=Try.underlying127
 a66:=Try.isAgg127
 z66:=Try.sizeOf127
 v66:=Try.zeroValue127
 t70:=Try.underlying131
 a70:=Try.isAgg131
 z70:=Try.sizeOf131
 v70:=Try.zeroValue131
 t76:=Try.underlying133
 a76:=Try.isAgg133
 z76:=Try.sizeOf133
 v76:=Try.zeroValue133
 t77:=Try.underlying134
 a77:=Try.isAgg134
 z77:=Try.sizeOf134
 v77:=Try.zeroValue134 }
end Go.Proofs
namespace Go.Sep
open Go Go.RowKit Go.Sort Go.Proofs Go.Pt
theorem CallT.quiet {P:Program} {f:Nat} {args:List AV} {v:AV} (h:CallT P f args (fun _=>none) (fun r _=>r=v)) {xs:Array Value} (ha:∀Z φ,ArgsRel Z φ args xs) {x:Value} (hx:∀Z φ y,Cv Z φ v y→y=x) (w:World) :
  Calls P f xs w fun e w'=>e=.returned x∧∃q os',w'=Go.Sort.grow (w.drewN q) os':=by
 have hor:Heap.or (fun _=>none) (fun _=>none)=(fun _=>none:Heap):=by funext x;rfl
 have sim:Sim (fun _ _=>none) (fun _=>none) w.heap.size w (Heap.or (fun _=>none) (fun _=>none)) w:=by
  rw [hor]
  exact ⟨Nat.le_refl _,Bel.refl _ _,⟨0,fun _ _=>rfl⟩,fun r blk h=>(by simp at h),fun r r' pl pl' h=>absurd rfl h,fun b i v h=>(by cases h),fun b i v _ r pl h=>absurd rfl h⟩
 refine (h.2 w.heap.size w (fun _=>none) (fun _ _=>none) (fun _=>none) w xs (fun r h=>absurd rfl h) sim (ha _ _)).mono ?_
 rintro e w' ⟨y,rfl,v',H1,Z1,φ1,rfl,_,_,_,s1,hc⟩
 refine ⟨by rw [hx _ _ _ hc],w'.drawn - w.drawn,w'.heap.extract w.heap.size w'.heap.size,?_⟩
 obtain ⟨⟨h1,h2,h3,h4,h5⟩,h6⟩:=s1.below
 unfold DrawnLe at h6
 have hh:w'.heap=w.heap++w'.heap.extract w.heap.size w'.heap.size:=by
  apply Array.ext_getElem?
  intro k
  by_cases hk:k < w.heap.size
  ·rw [Array.getElem?_append_left hk];exact h5 k hk
  ·rw [Array.getElem?_append_right (by omega),Array.getElem?_extract]
   by_cases hk2:k < w'.heap.size
   ·rw [if_pos (by omega)];congr 1;omega
   ·rw [if_neg (by omega)];exact Array.getElem?_eq_none (by omega)
 cases w';cases w
 simp only [Go.Sort.grow,World.drewN] at *
 subst h1;subst h2;subst h3
 rw [← hh]
 congr 1
 omega
theorem holds_vals {w:World} {b o:Nat} {zs:List Int} (h:Holds (Value.int .i64) w b o zs.toArray):Holds id w b o (zs.map (Value.int .i64)).toArray:=by
 intro j hj
 have hj':j < zs.length:=by simpa using hj
 have:=h j (by simpa using hj')
 simpa [hj'] using this
theorem putRow_vals (w:World) (b o:Nat) (zs:List Int):putRow id w b o (zs.map (Value.int .i64)).toArray=putRow (Value.int .i64) w b o zs.toArray:=by
 unfold putRow
 congr 1
 funext c
 unfold putCells
 apply Array.ext_getElem?
 intro k
 simp only [Array.getElem?_mapIdx]
 cases c[k]? with
 | none=>rfl
 | some v=>
  simp only [Option.map_some,List.size_toArray,List.length_map]
  congr 1
  by_cases hk:o≤k∧k < o+zs.length
  ·rw [if_pos hk,if_pos hk]
   have:k - o < zs.length:=by omega
   simp [this]
  ·rw [if_neg hk,if_neg hk]
theorem flat_get {α:Type} (g:α→List Int) (hg:∀x,(g x).length=3):∀(xs:List α) (t:Nat),(xs.flatMap g)[t]?=(xs[t / 3]?).bind fun x=>(g x)[t % 3]?
 | [],t=>by simp
 | x::xs,t=>by
  rw [List.flatMap_cons,List.getElem?_append,hg]
  by_cases h:t < 3
  ·rw [if_pos h]
   have h1:t / 3=0:=by omega
   have h2:t % 3=t:=by omega
   rw [h1,h2];rfl
  ·rw [if_neg h,flat_get g hg xs (t - 3)]
   have h1:t / 3=(t - 3) / 3+1:=by omega
   have h2:(t - 3) % 3=t % 3:=by omega
   rw [h1,h2,List.getElem?_cons_succ]
abbrev iE (x:Ed):List Int:=[x.src,x.lt,x.dst]
abbrev vE (x:Ed):List Value:=[.int .i64 x.src,.int .i64 x.lt,.int .i64 x.dst]
theorem flatE_len (xs:List Ed):(xs.flatMap iE).length=xs.length*3:=by
 induction xs with
 | nil=>rfl
 | cons x xs ih=>rw [List.flatMap_cons,List.length_append,ih];simp only [List.length_cons,List.length_nil];omega
theorem flatE (xs:List Ed):flatK vE 3 xs.toArray=((xs.flatMap iE).map (Value.int .i64)).toArray:=by
 apply Array.ext_getElem?
 intro t
 have e0:∀l:List Value,(l.toArray)[t]?=l[t]?:=fun l=>by simp
 refine Eq.trans ?_ (e0 _).symm
 rw [List.getElem?_map,flat_get iE (fun _=>rfl)]
 by_cases ht:t < xs.length*3
 ·have h1:t / 3 < xs.length:=by omega
  have h2:t % 3 < 3:=by omega
  have h0:(flatK vE 3 xs.toArray)[t]?=some ((vE (xs.toArray[t / 3]!))[t % 3]!):=by
   have:=get_flatK vE 3 xs.toArray t (by simpa using ht)
   rw [← this]
   have hs:t < (flatK vE 3 xs.toArray).size:=by simpa using ht
   rw [Array.getElem?_eq_getElem hs,getElem!_pos (flatK vE 3 xs.toArray) t hs]
  rw [h0,List.getElem?_eq_getElem h1,Option.bind_some]
  have h3:xs.toArray[t / 3]! = xs[t / 3]:=by simp [h1]
  rw [h3]
  generalize xs[t / 3]=x
  have:t % 3=0∨t % 3=1∨t % 3=2:=by omega
  rcases this with e | e | e<;>rw [e]<;>rfl
 ·rw [Array.getElem?_eq_none (by simp;omega),List.getElem?_eq_none (by omega)];rfl
end Go.Sep
namespace Go.Proofs.Ytohkciilfkhomaa
open Go Go.Sep Go.Pt Go.RowKit Go.Sort
attribute [local irreducible] CallT
def cfE (x y:Ed):Int:=if edLt x y then -1 else if edLt y x then 1 else 0
theorem cfE_lt (x y:Ed):ltOf cfE x y=edLt x y:=by
 unfold ltOf cfE
 by_cases h1:edLt x y
 ·simp [h1]
 ·by_cases h2:edLt y x<;>simp [h1,h2]
theorem edLt_iff (x y:Ed):edLt x y=true↔(x.src < y.src∨x.src=y.src∧(x.lt < y.lt∨x.lt=y.lt∧x.dst < y.dst)):=by
 unfold edLt
 split
 ·split
  ·simp;omega
  ·simp;omega
 ·simp;omega
theorem edLt_iff' (x y:Ed):edLt x y=false↔¬(x.src < y.src∨x.src=y.src∧(x.lt < y.lt∨x.lt=y.lt∧x.dst < y.dst)):=by
 rw [← edLt_iff];simp
theorem cfE_swo:SWO (ltOf cfE) where
 irrefl x:=by rw [cfE_lt,edLt_iff'];omega
 trans x y z h1 h2:=by rw [cfE_lt,edLt_iff] at *;omega
 ntrans x y z h1 h2:=by rw [cfE_lt,edLt_iff'] at *;omega
theorem cfE_tot (x y:Ed) (h1:ltOf cfE x y=false) (h2:ltOf cfE y x=false):x=y:=by
 rw [cfE_lt,edLt_iff'] at *
 cases x;cases y
 simp only [Ed.mk.injEq] at *
 omega
abbrev srtE (xs:List Ed):List Ed:=xs.mergeSort fun x y=>!edLt y x
theorem cE_flat (xs:List Ed):cE xs=(xs.flatMap iE).map fun n=>AV.p (.int .i64 n):=by
 induction xs with
 | nil=>rfl
 | cons x xs ih=>simp only [List.map_cons,cells,List.flatMap_cons,List.map_append] at *;simp_all
theorem SF_hb:HasBody Try.prog 62:=⟨_,bO_ Try.f62,Try.func62,by kernel_rfl,rfl⟩
theorem ce_enters:∀args w,(callFunc 44 args).run Try.prog w=.ok (.enter 44 args) w:=Go.Proofs.enters_of Try.func44 (by kernel_rfl) rfl
theorem ce_lays (blk off size:Nat) (w:World):CmpLays Try.prog 44 #[] vE 3 cfE blk off size w:=by
 intro m os dk _ x y
 refine CallT.quiet (args:=[aE x,aE y]) (v:=I (cfE x y)) (((compareEdges_spec x y).all _).mono fun _ _ h=>h.1) (fun Z φ=>⟨rfl,?_⟩) ?_ _
 ·intro i av x' h1 h2
  have ag:∀z:Ed,Cv Z φ (aE z) (.agg (vE z).toArray):=fun z=>.agg _ _ rfl fun i av x h1 h2=>by
   match i,h1,h2 with
   | 0,h1,h2=>cases h1;cases h2;exact .p (.int _ _)
   | 1,h1,h2=>cases h1;cases h2;exact .p (.int _ _)
   | 2,h1,h2=>cases h1;cases h2;exact .p (.int _ _)
   | i+3,h1,h2=>cases h1
  match i,h1,h2 with
  | 0,h1,h2=>cases h1;cases h2;exact ag x
  | 1,h1,h2=>cases h1;cases h2;exact ag y
  | i+2,h1,h2=>cases h1
 ·intro Z φ y' h
  cases h with
  | p h=>cases h;rfl
theorem srtE_len (xs:List Ed):(srtE xs).length=xs.length:=List.length_mergeSort ..
theorem SF_row {H:Heap} {q:Nat} {xs:List Ed} {K:AV→Heap→Prop} (hq:H q=some (cE xs)) (hl:xs.length≤1000000000) (h:K (.tup []) (H.set q (cE (srtE xs)))) :
  CallT Try.prog 62 [rowE q xs,.fn 44 []] H K:=by
 unfold CallT
 refine ⟨SF_hb,?_⟩
 intro B0 w0 F Z φ w ys hd hs ha
 obtain ⟨hsz,hrel⟩:=ha
 obtain ⟨x,y,rfl⟩:∃x y,ys=#[x,y]:=by
  have h1:ys.size=2:=hsz
  refine ⟨ys[0],ys[1],Array.ext (by simp [h1]) fun i hi1 hi2=>?_⟩
  have:i=0∨i=1:=by simp at hi2;omega
  rcases this with rfl | rfl<;>rfl
 have hx:=hrel 0 (rowE q xs) x rfl rfl
 have hy:=hrel 1 (.fn 44 []) y rfl rfl
 have ey:y=.func (.func 44) #[] #[]:=by
  cases hy with
  | fn _ _ xs hs h=>
   have:xs=#[]:=by apply Array.eq_empty_of_size_eq_zero;exact hs
   rw [this]
 subst ey
 have hq':(H.or F) q=some ((xs.flatMap iE).map fun n=>AV.p (.int .i64 n)):=by rw [← cE_flat];exact Heap.or_left hq
 have hFq:F q=none:=hd q (by rw [hq];simp)
 have hfl:=flatE_len xs
 have empty:xs=[]→∀a c,x=.slice a 0 c→Calls Try.prog 62 #[x,.func (.func 44) #[] #[]] w (fun e w'=>∃x,e=.returned x∧UpV B0 w0 F Z φ K x w'):=by
  rintro rfl a c rfl
  refine (AnyF.slices_SortFunc_none Try.laySF a c _ w).mono ?_
  rintro e w' ⟨rfl,rfl⟩
  have hset:H.set q (cE (srtE []))=H:=by
   funext y
   by_cases e:y=q
   ·subst e;rw [Heap.set_same,show srtE []=[] from List.eq_nil_of_length_eq_zero (srtE_len [])];exact hq.symm
   ·rw [Heap.set_other e]
  rw [hset] at h
  exact ⟨_,rfl,.tup [],H,Z,φ,h,Fro.le_refl _,Pm.le_refl _,hd,hs,.tup [] #[] rfl (fun i av x h=>by simp at h)⟩
 unfold rowE at hx
 generalize hm:xs.length=m at hx
 cases hx with
 | slz _ _ _ a=>exact empty (List.eq_nil_of_length_eq_zero hm) a 0 rfl
 | sl hp hl' hC=>
  rename_i c pl
  subst hm
  by_cases h0:xs.length=0
  ·exact empty (List.eq_nil_of_length_eq_zero h0) _ _ (by rw [h0])
  have hh:=hs.holdsInts hq' (by omega) hp
  have hH:HoldsK vE 3 w pl.b pl.o xs.toArray:=by
   unfold HoldsK;rw [flatE];exact holds_vals hh.1
  have hcon:=AnyQ.slices_SortFunc_total Try.laySF 3 (fun w=>by kernel_rfl) (fun w=>by kernel_rfl) vE (fun _=>rfl) (fun x v hv=>by simp at hv;rcases hv with rfl | rfl | rfl<;>rfl) cfE cfE_swo 44 #[] pl.b pl.o c xs.toArray w ce_enters (ce_lays _ _ _ _) hH hh.2 (by simp;omega) cfE_tot
  rw [List.size_toArray] at hcon
  refine hcon.mono ?_
  rintro e w' ⟨rfl,n,os,rfl⟩
  have e1:(xs.toArray.toList.mergeSort fun x y=>!(ltOf cfE) y x)=srtE xs:=by
   have:(fun x y=>!(ltOf cfE) y x)=fun x y=>!edLt y x:=by funext x y;rw [cfE_lt]
   rw [this]
  have e2:sortWorldK vE 3 w pl.b pl.o n (srtE xs).toArray os=Go.Sort.grow (putRow (Value.int .i64) (Go.Sort.ahead w n) pl.b pl.o ((srtE xs).flatMap iE).toArray) os:=by
   unfold sortWorldK putRowK
   rw [flatE,putRow_vals]
  rw [e1,e2]
  have s2:=hs.putInts (zs':=(srtE xs).flatMap iE) hq' (by rw [flatE_len,flatE_len,srtE_len]) (by omega) hp n os
  rw [cE_flat] at h
  refine ⟨_,rfl,.tup [],_,Z,φ,h,Fro.le_refl _,Pm.le_refl _,hd.set hFq,?_,.tup [] #[] rfl (fun i av x h=>by simp at h)⟩
  rw [Heap.or_set];exact s2
theorem SF_nil {H:Heap} {K:AV→Heap→Prop} (h:K (.tup []) H):CallT Try.prog 62 [.p .nil,.fn 44 []] H K:=by
 unfold CallT
 refine ⟨SF_hb,?_⟩
 intro B0 w0 F Z φ w ys hd hs ha
 obtain ⟨hsz,hrel⟩:=ha
 obtain ⟨x,y,rfl⟩:∃x y,ys=#[x,y]:=by
  have h1:ys.size=2:=hsz
  refine ⟨ys[0],ys[1],Array.ext (by simp [h1]) fun i hi1 hi2=>?_⟩
  have:i=0∨i=1:=by simp at hi2;omega
  rcases this with rfl | rfl<;>rfl
 have hx:=hrel 0 (.p .nil) x rfl rfl
 have ex:x=.slice none 0 0:=by
  cases hx with
  | p h=>cases h;rfl
 subst ex
 refine (AnyF.slices_SortFunc_none Try.laySF none 0 _ w).mono ?_
 rintro e w' ⟨rfl,rfl⟩
 exact ⟨_,rfl,.tup [],H,Z,φ,h,Fro.le_refl _,Pm.le_refl _,hd,hs,.tup [] #[] rfl (fun i av x h=>by simp at h)⟩
end Go.Proofs.Ytohkciilfkhomaa
namespace Go.Proofs.Ytohkciilfkhomaa
open Go Go.Sep Go.Pt
attribute [local irreducible] CallT
theorem srtE_ext {xs ys:List Ed} (hn:xs.Nodup) (hs:ys.Pairwise (fun a b=>edLt a b=true)) (hm:∀e,e∈xs↔e∈ys):srtE xs=ys:=by
 have hny:ys.Nodup:=hs.imp fun h e=>by subst e;have:=(edLt_iff _ _).1 h;omega
 have hp:(srtE xs).Perm ys:=(List.mergeSort_perm xs _).trans ((List.perm_ext_iff_of_nodup hn hny).2 hm)
 have h1:(srtE xs).Pairwise (fun a b=>(!edLt b a)=true):=List.pairwise_mergeSort (le:=fun x y=>!edLt y x) (fun a b c h1 h2=>by
  simp only [Bool.not_eq_true',edLt_iff'] at *;omega) (fun a b=>by
  rw [Bool.or_eq_true];simp only [Bool.not_eq_true',edLt_iff'];omega) xs
 have h2:ys.Pairwise (fun a b=>(!edLt b a)=true):=hs.imp fun h=>by
  rw [edLt_iff] at h;rw [Bool.not_eq_true',edLt_iff'];omega
 refine hp.eq_of_pairwise (fun a b _ _ h1 h2=>?_) h1 h2
 rw [Bool.not_eq_true'] at h1 h2
 exact cfE_tot _ _ (by rw [cfE_lt];exact h2) (by rw [cfE_lt];exact h1)
theorem edsOk_pw {n:Int} {es:List Ed} (h:edsOk n es=true):es.Pairwise (fun a b=>edLt a b=true):=by
 unfold edsOk at h
 rw [List.all_eq_true] at h
 have key:∀d i,i+d+1 < es.length→edLt (es.getD i default) (es.getD (i+d+1) default)=true:=by
  intro d
  induction d with
  | zero=>
   intro i hi
   have h1:=h (i+1) (List.mem_range.2 (by omega))
   unfold edAt at h1
   rw [Bool.and_eq_true,Bool.or_eq_true,decide_eq_true_eq] at h1
   rcases h1.2 with h2 | h2
   ·omega
   ·exact h2
  | succ d ih=>
   intro i hi
   have h1:=ih i (by omega)
   have h2:=h (i+(d+1)+1) (List.mem_range.2 hi)
   unfold edAt at h2
   rw [Bool.and_eq_true,Bool.or_eq_true,decide_eq_true_eq] at h2
   rcases h2.2 with h3 | h3
   ·omega
   ·rw [show i+(d+1)+1 - 1=i+d+1 by omega] at h3
    rw [edLt_iff] at *
    omega
 rw [List.pairwise_iff_getElem]
 intro i j hi hj hij
 have:=key (j - i - 1) i (by omega)
 rw [show i+(j - i - 1)+1=j by omega,getD_lt hi,getD_lt hj] at this
 exact this
theorem rz_appE9 {H G:Heap} {Ts:List Th} {z:Nat} {x:AV} {xs ys:List Ed} {D:List Nat} (s:St H Ts G) (i:Nat) (hi:Ts[i]?=some (reT z x xs D)) (hl:xs.length+ys.length≤1000000000) {K:AV→Heap→Prop}
  (h:∀q' G',G q'=none→St H (Ts.set i (reT z (rowE q' (xs++ys)) (xs++ys) [q'])) G'→K (rowE q' (xs++ys)) G'):aP_ tab 25 25 x (Es ys) G (wkK K):=
 RZ.app (bz:=24) tab_25 rfl tab_46 tab_25 rfl rfl rfl (fun _=>rfl) s i hi rfl (by omega) (by omega) h
theorem rz_sortE {H G:Heap} {Ts:List Th} {z:Nat} {x:AV} {xs:List Ed} {D:List Nat} (s:St H Ts G) (i:Nat) (hi:Ts[i]?=some (reT z x xs D)) (hl:xs.length≤1000000000) {K:AV→Heap→Prop}
  (h:∀G',St H (Ts.set i (reT z x (srtE xs) D)) G'→K (.tup []) G'):CallT Try.prog 62 [x,.fn 44 []] G K:=by
 have hrz:RZ (LPl eE) 3 z x xs G D:=s.get i hi
 have he:=srtE_len xs
 rcases hrz with ⟨rfl,rfl,rfl,hz⟩ | ⟨q,cs,D',rfl,hq,hll,rfl⟩
 ·refine SF_nil (h G ?_)
  have:srtE []=[]:=List.eq_nil_of_length_eq_zero he
  rw [this]
  have e:Ts.set i (reT z (.p .nil) [] [z])=Ts:=by
   obtain ⟨h1,h2⟩:=List.getElem?_eq_some_iff.1 hi
   rw [← h2];exact List.set_getElem_self h1
  rw [e];exact s
 ·obtain ⟨rfl,rfl⟩:=LL.plain' hll
  refine SF_row hq (by omega) (h _ ?_)
  refine s.upd i hi (reT z (.sl q 3 0 xs.length) (srtE xs) [q]) rfl (fun y hy=>Heap.set_other (fun e=>hy (by simp [rzT,e]))) (.inr ?_)
  refine ⟨q,_,[],by rw [he],Heap.set_same _ _ _,LL.plain _,rfl⟩
def gw (n:Nat) (p:Nat→Bool):List Int:=((List.range n).filter p).map fun (g:Nat)=>(g:Int)
theorem gw_succ (n:Nat) (p:Nat→Bool):gw (n+1) p=if p n=true then gw n p++[(n:Int)] else gw n p:=by
 unfold gw
 rw [List.range_succ,List.filter_append,List.map_append]
 by_cases h:p n=true
 ·simp [h]
 ·simp [h]
theorem gw_len (n:Nat) (p:Nat→Bool):(gw n p).length≤n:=by
 unfold gw
 rw [List.length_map]
 have:=List.length_filter_le p (List.range n)
 rwa [List.length_range] at this
end Go.Proofs.Ytohkciilfkhomaa
namespace Go.Proofs.Ytohkciilfkhomaa
open Go Go.Sep Go.Pt
attribute [local irreducible] CallT
def ltP (u w:Int) (e:Ed):Bool:=decide (e.src=u) && decide (e.dst=w)
def ltF (a:Au) (u w:Int):Int:=((a.edges.find? (ltP u w)).map Ed.lt).getD 0
theorem find_at {α:Type} {xs:List α} {p:α→Bool} {i:Nat} (hi:i < xs.length) (h1:p xs[i]=true) (h2:∀j (hj:j < xs.length),j < i→p xs[j]=false):xs.find? p=some xs[i]:=by
 rw [List.find?_eq_some_iff_getElem]
 exact ⟨h1,i,hi,rfl,fun j hj=>by rw [h2 j (by omega) hj];rfl⟩
theorem find_no {α:Type} {xs:List α} {p:α→Bool} (h2:∀j (hj:j < xs.length),p xs[j]=false):xs.find? p=none:=by
 rw [List.find?_eq_none]
 intro x hx
 obtain ⟨j,hj,rfl⟩:=List.mem_iff_getElem.1 hx
 rw [h2 j hj];simp
theorem l12Letter_spec (a:Au) (hl:a.edges.length≤1000000) (u w:Int):Pu Try.prog 57 [aAu a,I u,I w] (I (ltF a u w)):=by
 refine Pu.of fun H=>?_
 refine W57_ok ?_;simp (maxSteps:=1000000) (disch:=first | assumption | (apply ν6;assumption)) only [W57,vz,vu,vv,eqS,eF_,↓c1_,↓c2_,tabs,reduceCtorEq,ι5,↓reduceIte,ν1,ν2,ν3,ν4,ν5,ι1,ι2,ι3,ι4]
 intro r hr
 have hle:=Heap.le_set (b:=[I a.states,Is a.first,Es a.edges,Ls a.goals]) hr
 (try simp (maxSteps:=1000000) (disch:=first | assumption | (apply ν6;assumption)) only [vz,vu,vv,eqS,eF_,↓c1_,↓c2_,tabs,reduceCtorEq,ι5,↓reduceIte,ν1,ν2,ν3,ν4,ν5,ι1,ι2,ι3,ι4])
 generalize H.set r [I a.states,Is a.first,Es a.edges,Ls a.goals]=G at hle ⊢
 refine L57_0_rule (0:Nat) (fun i=>I i) (fun _=>G) (fun i=>i≤a.edges.length∧∀j (hj:j < a.edges.length),j < i→ltP u w a.edges[j]=false) (fun i=>a.edges.length - i) ⟨⟨by omega,by intros;omega⟩,.refl _,Heap.le_refl _⟩ ?_
 rintro i ⟨hi,ha⟩
 (try simp (maxSteps:=1000000) (disch:=first | assumption | (apply ν6;assumption)) only [vz,vu,vv,eqS,eF_,↓c1_,↓c2_,tabs,reduceCtorEq,ι5,↓reduceIte,ν1,ν2,ν3,ν4,ν5,ι1,ι2,ι3,ι4,B57_0])
 refine ⟨fun h=>?_,fun h=>?_⟩
 ·have hlt:i < a.edges.length:=by omega
  have hm:(a.edges.getD i default)=a.edges[i]:=getD_lt hlt
  rw [hm]
  have nx:ltP u w a.edges[i]=false→∀j (hj:j < a.edges.length),j < i+1→ltP u w a.edges[j]=false:=fun h1 j hj hji=>by
   rcases Nat.lt_succ_iff_lt_or_eq.1 hji with h2 | rfl
   ·exact ha j hj h2
   ·exact h1
  refine ⟨by omega,by omega,?_⟩
  intro r2 hr2
  have hle2:=Heap.le_trans hle (Heap.le_set (b:=[I a.edges[i].src,I a.edges[i].lt,I a.edges[i].dst]) hr2)
  have hle3:=Heap.le_set (b:=[I a.edges[i].src,I a.edges[i].lt,I a.edges[i].dst]) hr2
  (try simp (maxSteps:=1000000) (disch:=first | assumption | (apply ν6;assumption)) only [vz,vu,vv,eqS,eF_,↓c1_,↓c2_,tabs,reduceCtorEq,ι5,↓reduceIte,ν1,ν2,ν3,ν4,ν5,ι1,ι2,ι3,ι4])
  have hx:IntKind.i64.wrap ((i:Int)+1)=((i+1:Nat):Int):=by rw [i6_ (by omega) (by omega)];simp
  refine ⟨fun h1=>⟨fun h2=>⟨?_,hle2⟩,fun h2=>⟨i+1,⟨by omega,nx (by simp [ltP,h2])⟩,by omega,by rw [hx];exact .refl _,hle3⟩⟩,fun h1=>⟨i+1,⟨by omega,nx (by simp [ltP,h1])⟩,by omega,by rw [hx];exact .refl _,hle3⟩⟩
  rw [ltF,find_at hlt (by simp [ltP,h1,h2]) ha]
  rfl
 ·have e:i=a.edges.length:=by omega
  subst e
  refine ⟨?_,hle⟩
  rw [ltF,find_no fun j hj=>ha j hj hj]
  rfl
end Go.Proofs.Ytohkciilfkhomaa
namespace Go.Proofs.Ytohkciilfkhomaa
open Go Go.Sep Go.Pt
attribute [local irreducible] CallT
end Go.Proofs.Ytohkciilfkhomaa
namespace Go.Proofs.Ytohkciilfkhomaa
open Go Go.Sep Go.Pt
attribute [local irreducible] CallT
noncomputable def c1F (row:Nat→List Nat) (m v w:Nat):Bool:=decide (partF (aO_ row) v=partF (aO_ row) m) && decide (partF (aO_ row) w=partF (aO_ row) m)
noncomputable def in1G (g:List (List Nat)) (m:Nat):List (List Nat):=(List.range g.length).map (in1F (rwF g) m)
noncomputable def w1R (g:List (List Nat)) (m k j:Nat):List (List Nat):=(List.range g.length).map fun v=>if v < k then in1F (rwF g) m v else if v=k then ((rwF g k).take j).filter (c1F (rwF g) m k) else []
end Go.Proofs.Ytohkciilfkhomaa
namespace Go.Proofs.Ytohkciilfkhomaa
open Go Go.Sep Go.Pt
attribute [local irreducible] CallT
end Go.Proofs.Ytohkciilfkhomaa
namespace Go.Proofs.Ytohkciilfkhomaa
open Go Go.Sep Go.Pt
attribute [local irreducible] CallT
theorem buildN_1 (x:Int):buildN tab 24 1 [(0,I x)]=some (fun r=>.sl r 1 0 1,cP fI [x]):=by
 simp only [buildN,tab_24,tab_3]
 rfl
theorem RNr.res (l:List Int):ResU (fun r G D=>RN (LPl eI) 1 r l G D):=by
 refine ⟨?_,?_,?_⟩
 ·intro r G G' D h hf
  exact h.local (LPl.local eI) hf
 ·intro r G D h
  rcases rnI_cases h with ⟨rfl,_,rfl⟩ | ⟨q,rfl,hq,rfl⟩
  ·exact ⟨.inr ⟨.inr ⟨.p .nil,fun _=>rfl⟩,fun _=>rfl⟩,fun y hy=>by cases hy⟩
  ·refine ⟨.inr ⟨.inr ⟨.inl ⟨_,_,_,_,rfl⟩,fun _=>rfl⟩,fun _=>rfl⟩,fun y hy bs hb c hc=>?_⟩
   rw [List.mem_singleton.1 hy,hq] at hb;cases hb
   obtain ⟨z,_,rfl⟩:=List.mem_map.1 hc
   exact .p (.int _ _)
 ·intro r G D n G0 h0 h
  rcases rnI_cases h with ⟨rfl,hl,rfl⟩ | ⟨q,rfl,hq,rfl⟩
  ·exact .inl ⟨rfl,hl,rfl⟩
  ·refine rnI_mk ?_
   have em:(cP fI l).map (shC n)=cP fI l:=by rw [cP,List.map_map];rfl
   simp only [Heap.or,h0 (q+n) (by omega),shH,Nat.le_add_left,if_true,Nat.add_sub_cancel,hq,Option.map_some,em]
end Go.Proofs.Ytohkciilfkhomaa
namespace Go.Proofs.Ytohkciilfkhomaa
open Go Go.Sep Go.Pt
attribute [local irreducible] CallT
noncomputable def wS (a:Au):List Nat:=laS (rwF (gA a)) (gA a).length (nN a.first) (goN a.goals)
noncomputable def wL (a:Au):List Nat:=laL (rwF (gA a)) (gA a).length (nN a.first) (goN a.goals)
def wyF (S L:List Nat):List Nat:=S++L++[L.getD 0 0]
def ltsF (a:Au) (wy:List Nat) (n:Nat):List Int:=(List.range n).map fun i=>ltF a (wy.getD i 0) (wy.getD (i+1) 0)
theorem ltsF_len (a:Au) (wy:List Nat) (n:Nat):(ltsF a wy n).length=n:=by simp [ltsF]
theorem ltsF_succ (a:Au) (wy:List Nat) (n:Nat):ltsF a wy (n+1)=ltsF a wy n++[ltF a (wy.getD n 0) (wy.getD (n+1) 0)]:=by simp [ltsF,List.range_succ]
structure WayA (a:Au) (S L:List Nat):Prop where
 ne:0 < L.length
 sz:S.length≤100∧L.length≤2000
 way:∀i,i < S.length+L.length→a.edges.any (ltP (((wyF S L).getD i 0:Nat):Int) (((wyF S L).getD (i+1) 0:Nat):Int))=true
theorem arc_edge {a:Au} (fa:GoodF a) {u w:Nat} (h:w∈rwF (gA a) u):a.edges.any (ltP (u:Int) (w:Int))=true:=by
 have hu:u < (nextG a).length:=by
  rcases Nat.lt_or_ge u (gA a).length with h2 | h2
  ·simpa [gA] using h2
  ·rw [rwF_out (by omega)] at h;cases h
 have e:rwF (gA a) u=nN (sc (outN a a.edges.length u)):=by
  have hu2:u < a.states.toNat:=by rw [nextG_len] at hu;exact hu
  simp [rwF,gA,nextG,List.getD,hu2]
 rw [e] at h
 obtain ⟨x,hx,rfl⟩:=List.mem_map.1 h
 rw [sc_mem] at hx
 simp only [outN,List.mem_map,List.mem_filter,List.take_length,decide_eq_true_eq] at hx
 obtain ⟨e,⟨he,h1⟩,rfl⟩:=hx
 have:=edIn_iff.1 (fa.ei e he)
 refine List.any_eq_true.2 ⟨e,he,?_⟩
 simp only [ltP,Bool.and_eq_true,decide_eq_true_eq]
 omega
theorem wayA_of {a:Au} (h:AutoN a) (hf:fairA a=true):WayA a (wS a) (wL a):=by
 obtain ⟨h1,h2,h3⟩:=h.gob
 have hst:=h.f.st
 have hl:=gA_len a
 have hg:=gA_B h.f
 have hm:¬meetF (rwF (gA a)) (gA a).length (nN a.first) (goN a.goals) < 0:=by
  simpa [fairA,laB] using hf
 have hfi:∀v∈nN a.first,v < (gA a).length:=by rw [hl];exact nN_lt h.fr
 obtain ⟨m,em,hml,hfair,hreach⟩:=meetF_pos hg.gr hfi hm
 obtain ⟨FL,hsl2,hrl2,_,_⟩:=fair_lasso (b:=96) hg.gr hml hfair (fun l hl=>⟨h1.lt l hl,h2 l hl⟩) hreach
 have eS:wS a=stemF (rwF (gA a)) (gA a).length m (nN a.first):=by rw [wS,laS,if_neg hm,em];rfl
 have eL:wL a=ringF (rwF (gA a)) (gA a).length m (goN a.goals):=by rw [wL,laL,if_neg hm,em];rfl
 rw [← eS,← eL] at FL
 rw [← eS] at hsl2
 rw [← eL] at hrl2
 have hgl:(goN a.goals).length≤6:=by have:=h.f.gl;simpa [goN] using this
 refine ⟨FL.ne,⟨by omega,?_⟩,fun i hi=>arc_edge h.f ?_⟩
 ·have:(goN a.goals).length*((gA a).length+96)≤6*192:=Nat.mul_le_mul hgl (by omega)
  omega
 ·exact FL.way i (by simp only [List.length_append,List.length_cons,List.length_nil];omega)
theorem wyF_len (S L:List Nat):(wyF S L).length=S.length+L.length+1:=by simp [wyF];omega
noncomputable def woB (a:Au):Bool:=goodA a && (fairA a && goodL (ltsF a (wyF (wS a) (wL a)) (wS a).length) ((ltsF a (wyF (wS a) (wL a)) ((wS a).length+(wL a).length)).drop (wS a).length))
noncomputable def woS (a:Au):List Int:=if woB a then ltsF a (wyF (wS a) (wL a)) (wS a).length else []
noncomputable def woL (a:Au):List Int:=if woB a then (ltsF a (wyF (wS a) (wL a)) ((wS a).length+(wL a).length)).drop (wS a).length else []
theorem ltsF_take (a:Au) (wy:List Nat) {n k:Nat} (h:k≤n):(ltsF a wy n).take k=ltsF a wy k:=by
 rw [ltsF,ltsF,← List.map_take,List.take_range]
 congr 2;omega
theorem wk_la {H G:Heap} {Ts:List Th} {z1 z2:Nat} {x y:AV} {l m:List Int} {D1 D2:List Nat} (s:St H Ts G) (i j:Nat) (hi:Ts[i]?=some (riT z1 x l D1)) (hj:Ts[j]?=some (riT z2 y m D2)) (hij:i≠j) :
  ∃G',Wk (.tup [.agg [x,y]]) G (.tup [aL2 l m]) G'∧∀w,w∉D1→w∉D2→G' w=G w:=by
 obtain ⟨x',hx,lx⟩:=(s.get i hi:RZ (LPl eI) 1 z1 x l G D1).row
 obtain ⟨y',hy,ly⟩:=(s.get j hj:RZ (LPl eI) 1 z2 y m G D2).row
 obtain ⟨q1,c1,E1,rfl,hq1,ll1,rfl⟩:=lx
 obtain ⟨q2,c2,E2,rfl,hq2,ll2,rfl⟩:=ly
 obtain ⟨rfl,rfl⟩:=LL.plain' ll1
 obtain ⟨rfl,rfl⟩:=LL.plain' ll2
 have hne:q2≠q1:=fun e=>s.disjI i j hi hj hij q1 (by simp [rzT]) (by simp [rzT,e])
 have f1:FrzR q1 1 (l.map eI) (.tup [.agg [.sl q1 1 0 l.length,.sl q2 1 0 m.length]]) (.tup [.agg [Is l,.sl q2 1 0 m.length]]):=by
  have:FrzR q1 1 (l.map eI) (.sl q1 1 0 (l.map eI).length) (.p (.sl (l.map eI))):=.here
  rw [List.length_map] at this
  exact .tup (.cons (.agg (.cons this (.cons (.same _) .nil))) .nil)
 have f2:FrzR q2 1 (m.map eI) (.tup [.agg [Is l,.sl q2 1 0 m.length]]) (.tup [.agg [Is l,Is m]]):=by
  have:FrzR q2 1 (m.map eI) (.sl q2 1 0 (m.map eI).length) (.p (.sl (m.map eI))):=.here
  rw [List.length_map] at this
  exact .tup (.cons (.agg (.cons (.same _) (.cons this .nil))) .nil)
 have w1:Wk (.tup [.agg [x,y]]) G (.tup [.agg [.sl q1 1 0 l.length,.sl q2 1 0 m.length]]) G:=.val (wk_tup ⟨wk_agg ⟨hx,hy,trivial⟩,trivial⟩)
 have w2:=Wk.frz (sz:=1) (by omega) hq1 (sized_map (f:=eI) (fun _=>rfl) l) f1
 have w3:=Wk.frz (H:=G.del q1) (sz:=1) (by omega) (by rw [Heap.del_other hne];exact hq2) (sized_map (f:=eI) (fun _=>rfl) m) f2
 refine ⟨_,.trans w1 (.trans w2 w3),fun w h1 h2=>?_⟩
 rw [Heap.del_other (fun e=>h2 (by simp [e])),Heap.del_other (fun e=>h1 (by simp [e]))]
theorem take_grow {l:List Int} {c:Int} {s:Nat} (h:l.length < s):(l++[c]).take s=l.take s++[c]:=by
 rw [List.take_of_length_le (by simp;omega),List.take_of_length_le (by omega)]
theorem drop_grow {l:List Int} {c:Int} {s:Nat} (h:l.length < s):(l++[c]).drop s=l.drop s:=by
 rw [List.drop_eq_nil_of_le (by simp;omega),List.drop_eq_nil_of_le (by omega)]
theorem WordOf_ref (a:Au) (sa:smAu a):Pu Try.prog 30 [aAu a] (.tup [aL2 (woS a) (woL a),B (woB a)]):=by
 refine ⟨fun H=>CallT.fin ?_⟩
 refine CallT.ghost W30_hb fun z1 hz1=>?_
 refine CallT.ghost W30_hb fun z2 hz2=>?_
 have st:=lent (LPl.local eI) (LPl.has eI) 1 (lent (LPl.local eI) (LPl.has eI) 1 (((St.nil H).cell hz1 []).cell hz2 []) 1 rfl) 0 rfl
 generalize (H.set z1 []).set z2 []=G0 at st ⊢
 clear hz1 hz2
 refine W30_ok ?_;simp (maxSteps:=1000000) (disch:=first | assumption | (apply ν6;assumption)) only [W30,vz,vu,vv,eqS,eF_,↓c1_,↓c2_,tabs,reduceCtorEq,ι5,↓reduceIte,ν1,ν2,ν3,ν4,ν5,ι1,ι2,ι3,ι4]
 intro r hr r2 n2r hr2
 replace st:=(st.cell hr [I a.states,Is a.first,Es a.edges,Ls a.goals]).cell (r:=r2) (by rw [Heap.set_other n2r];exact hr2) [.p .nil,.p .nil]
 generalize (G0.set r [I a.states,Is a.first,Es a.edges,Ls a.goals]).set r2 [.p .nil,.p .nil]=G at st ⊢
 clear hr hr2 n2r G0
 have no:∀G',Heap.le H G'→woB a=false→wkK (fun r H'=>r=AV.tup [aL2 (woS a) (woL a),B (woB a)]∧H'=H) (.tup [.agg [.p .nil,.p .nil],.p (.bool false)]) G':=fun G' hle hb=>by
  rw [woS,woL,hb]
  exact ⟨_,_,.trans (.val (v':=.tup [aL2 [] [],B false]) (wk_tup ⟨wk_agg ⟨.nil,.nil,trivial⟩,.refl _,trivial⟩)) (.forget hle),rfl,rfl⟩
 (try simp (maxSteps:=1000000) (disch:=first | assumption | (apply ν6;assumption)) only [vz,vu,vv,eqS,eF_,↓c1_,↓c2_,tabs,reduceCtorEq,ι5,↓reduceIte,ν1,ν2,ν3,ν4,ν5,ι1,ι2,ι3,ι4,lA_ (st.get 1 rfl)])
 refine Pu.use (GoodAuto_spec a sa) ?_
 cases ga:goodA a
 ·(try simp (maxSteps:=1000000) (disch:=first | assumption | (apply ν6;assumption)) only [vz,vu,vv,eqS,eF_,↓c1_,↓c2_,tabs,reduceCtorEq,ι5,↓reduceIte,ν1,ν2,ν3,ν4,ν5,ι1,ι2,ι3,ι4,sA_ (st.get 0 rfl)])
  exact no _ (st.put 0 rfl _).le (by rw [woB,ga];rfl)
 ·have hN:=autoN ga
  (try simp (maxSteps:=1000000) (disch:=first | assumption | (apply ν6;assumption)) only [vz,vu,vv,eqS,eF_,↓c1_,↓c2_,tabs,reduceCtorEq,ι5,↓reduceIte,ν1,ν2,ν3,ν4,ν5,ι1,ι2,ι3,ι4,lA_ (st.get 1 rfl)])
  refine Pu.use (l12Graph_spec a hN.f) ?_
  (try simp (maxSteps:=1000000) (disch:=first | assumption | (apply ν6;assumption)) only [vz,vu,vv,eqS,eF_,↓c1_,↓c2_,tabs,reduceCtorEq,ι5,↓reduceIte,ν1,ν2,ν3,ν4,ν5,ι1,ι2,ι3,ι4,lA_ (st.get 1 rfl)])
  refine Pu.use (lasso_A hN) ?_
  have ev:lassoV (rwF (gA a)) (gA a).length (nN a.first) (goN a.goals)=.tup [Is (nI (wS a)),Is (nI (wL a)),B (fairA a)]:=rfl
  rw [ev]
  cases hf:fairA a
  ·(try simp (maxSteps:=1000000) (disch:=first | assumption | (apply ν6;assumption)) only [vz,vu,vv,eqS,eF_,↓c1_,↓c2_,tabs,reduceCtorEq,ι5,↓reduceIte,ν1,ν2,ν3,ν4,ν5,ι1,ι2,ι3,ι4,sA_ (st.get 0 rfl)])
   exact no _ (st.put 0 rfl _).le (by rw [woB,hf,ga];rfl)
  have hw:=wayA_of hN hf
  have hb:woB a=goodL (ltsF a (wyF (wS a) (wL a)) (wS a).length) ((ltsF a (wyF (wS a) (wL a)) ((wS a).length+(wL a).length)).drop (wS a).length):=by rw [woB,ga,hf];rfl
  rw [woS,woL,hb]
  clear no hb
  generalize wS a=S at hw ⊢
  generalize wL a=L at hw ⊢
  have hS:=nL_ S
  have hL:=nL_ L
  have hne:=hw.ne
  obtain ⟨hs1,hs2⟩:=hw.sz
  have hl0:(nI L).getD 0 default=((L.getD 0 0:Nat):Int):=nI_get hne
  have hbn:=buildN_1 (L.getD 0 0)
  (try simp (maxSteps:=1000000) (disch:=first | assumption | (apply ν6;assumption)) only [vz,vu,vv,eqS,eF_,↓c1_,↓c2_,tabs,reduceCtorEq,ι5,↓reduceIte,ν1,ν2,ν3,ν4,ν5,ι1,ι2,ι3,ι4,hL,hl0,hbn,safeV,newV,Int.toNat_zero])
  refine ⟨by omega,by omega,?_⟩
  refine l1Own_row (nI S) (by omega) fun q hq=>?_
  replace st:=st.cell hq (cP fI (nI S))
  generalize G.set q (cP fI (nI S))=G1 at st ⊢
  clear hq
  refine st_appI (ys:=nI L) st 0 rfl (by omega) fun q1 G1 hq1 st=>?_
  intro r1 hr1
  change aP_ _ _ _ _ _ (G1.set r1 (cP fI (nI [L.getD 0 0]))) _
  replace st:=st.cell hr1 (cP fI (nI [L.getD 0 0]))
  generalize G1.set r1 (cP fI (nI [L.getD 0 0]))=G2 at st ⊢
  clear hr1 hq1
  refine st_appL (off:=0) (n:=1) st 1 rfl (st.get 0 rfl) (by simp [nI]) (by rw [List.length_append];omega) fun q2 G3 hq2 st=>?_
  have ew:nI S++nI L++((nI [L.getD 0 0]).drop 0).take 1=nI (wyF S L):=by simp [wyF,nI]
  rw [ew] at st ⊢
  have hwl:=wyF_len S L
  have hwI:=nL_ (wyF S L)
  intro r8 hr8
  replace st:=st.cell hr8 [.p .nil,.p .nil]
  generalize G3.set r8 [.p .nil,.p .nil]=G4 at st ⊢
  clear hr8 hq2
  have hway:=hw.way
  clear ew hw hl0 hbn hL
  generalize wyF S L=wy at st hwl hwI hway ⊢
  have st2:St H [cT_ r8 [.p .nil,.p .nil],cT_ r1 (cP fI (nI [L.getD 0 0])),cT_ q2 (cP fI (nI wy)),cT_ r2 [.p .nil,.p .nil],cT_ r [I a.states,Is a.first,Es a.edges,Ls a.goals],riT z2 (.p .nil) [] [z2],riT z1 (.p .nil) [] [z1]] G4:=st
  clear st
  have hed:=hN.f.ed
  refine L30_0_rule ((0:Nat),(.p .nil:AV),[z1],(.p .nil:AV),[z2],G4) (fun z=>I z.1) (fun z=>z.2.2.2.2.2)
   (fun z=>z.1≤S.length+L.length∧St H [cT_ r8 [z.2.1,z.2.2.2.1],cT_ r1 (cP fI (nI [L.getD 0 0])),cT_ q2 (cP fI (nI wy)),cT_ r2 [.p .nil,.p .nil],cT_ r [I a.states,Is a.first,Es a.edges,Ls a.goals],riT z2 z.2.2.2.1 ((ltsF a wy z.1).drop S.length) z.2.2.2.2.1,riT z1 z.2.1 ((ltsF a wy z.1).take S.length) z.2.2.1] z.2.2.2.2.2) (fun z=>S.length+L.length - z.1)
   ⟨⟨by simp,by simpa [ltsF] using st2⟩,.refl _,Heap.le_refl _⟩ ?_
  clear st2 G4
  rintro ⟨i,x,D1,y,D2,G⟩ ⟨hi,st⟩
  dsimp only at hi st
  have e5:IntKind.i64.wrap ((i:Int)+1)=((i+1:Nat):Int):=by rw [i6_ (by omega) (by omega)];simp
  (try simp (maxSteps:=1000000) (disch:=first | assumption | (apply ν6;assumption)) only [vz,vu,vv,eqS,eF_,↓c1_,↓c2_,tabs,reduceCtorEq,ι5,↓reduceIte,ν1,ν2,ν3,ν4,ν5,ι1,ι2,ι3,ι4,B30_0,hwI,e5])
  refine ⟨fun h1=>?_,fun h1=>?_⟩
  ·have hlt:i < S.length+L.length:=by omega
   have g1:=cI_rd (l:=nI wy) (i:=i) (by omega)
   have g2:=cI_rd (l:=nI wy) (i:=i+1) (by omega)
   rw [nI_get (by omega)] at g1 g2
   have hcl:(cP fI (nI wy)).length=wy.length:=by simp [cP,hwI]
   (try simp (maxSteps:=1000000) (disch:=first | assumption | (apply ν6;assumption)) only [vz,vu,vv,eqS,eF_,↓c1_,↓c2_,tabs,reduceCtorEq,ι5,↓reduceIte,ν1,ν2,ν3,ν4,ν5,ι1,ι2,ι3,ι4,lA_ (st.get 4 rfl),lA_ (st.get 2 rfl),hcl,g1,g2,Int.toNat_natCast])
   repeat refine ⟨by omega,?_⟩
   refine Pu.use (l12Letter_spec a (by omega) _ _) ?_
   have hsu:=ltsF_succ a wy i
   have hlen:=ltsF_len a wy i
   generalize ltF a (wy.getD i 0:Nat) (wy.getD (i+1) 0:Nat)=c at hsu ⊢
   have h8:=st.get 0 rfl
   (try simp (maxSteps:=1000000) (disch:=first | assumption | (apply ν6;assumption)) only [vz,vu,vv,eqS,eF_,↓c1_,↓c2_,tabs,reduceCtorEq,ι5,↓reduceIte,ν1,ν2,ν3,ν4,ν5,ι1,ι2,ι3,ι4,hS])
   refine ⟨fun h2=>?_,fun h2=>?_⟩
   ·have et:(ltsF a wy (i+1)).take S.length=(ltsF a wy i).take S.length++[c]:=by rw [hsu,take_grow (by omega)]
    have ed:(ltsF a wy (i+1)).drop S.length=(ltsF a wy i).drop S.length:=by rw [hsu,drop_grow (by omega)]
    (try simp (maxSteps:=1000000) (disch:=first | assumption | (apply ν6;assumption)) only [vz,vu,vv,eqS,eF_,↓c1_,↓c2_,tabs,reduceCtorEq,ι5,↓reduceIte,ν1,ν2,ν3,ν4,ν5,ι1,ι2,ι3,ι4,lA_ h8])
    refine lit1 tab_24 rfl tab_3 ⟨rfl,rfl⟩ ?_
    refine rz_appI (ys:=[c]) st 6 rfl (by rw [List.length_take];simp only [List.length_cons,List.length_nil];omega) fun q' G' hq' st=>?_
    rw [← et] at st ⊢
    rw [← ed] at st
    obtain ⟨l',hl'⟩:∃l',(ltsF a wy (i+1)).take S.length=l':=⟨_,rfl⟩
    rw [hl'] at st ⊢
    (try simp (maxSteps:=1000000) (disch:=first | assumption | (apply ν6;assumption)) only [vz,vu,vv,eqS,eF_,↓c1_,↓c2_,tabs,reduceCtorEq,ι5,↓reduceIte,ν1,ν2,ν3,ν4,ν5,ι1,ι2,ι3,ι4,sA_ (st.get 0 rfl)])
    replace st:=st.put 0 rfl [rowP q' l',y]
    rw [← hl'] at st
    exact ⟨(i+1,_,_,_,_,_),⟨by simp only;omega,st⟩,by simp only;omega,.refl _,by rw [hl'];exact Heap.le_refl _⟩
   ·have et:(ltsF a wy (i+1)).take S.length=(ltsF a wy i).take S.length:=by rw [hsu,List.take_append_of_le_length (by omega)]
    have ed:(ltsF a wy (i+1)).drop S.length=(ltsF a wy i).drop S.length++[c]:=by rw [hsu,List.drop_append_of_le_length (by omega)]
    (try simp (maxSteps:=1000000) (disch:=first | assumption | (apply ν6;assumption)) only [vz,vu,vv,eqS,eF_,↓c1_,↓c2_,tabs,reduceCtorEq,ι5,↓reduceIte,ν1,ν2,ν3,ν4,ν5,ι1,ι2,ι3,ι4,lA_ h8])
    refine lit1 tab_24 rfl tab_3 ⟨rfl,rfl⟩ ?_
    refine rz_appI (ys:=[c]) st 5 rfl (by rw [List.length_drop];simp only [List.length_cons,List.length_nil];omega) fun q' G' hq' st=>?_
    rw [← ed] at st ⊢
    rw [← et] at st
    obtain ⟨l',hl'⟩:∃l',(ltsF a wy (i+1)).drop S.length=l':=⟨_,rfl⟩
    rw [hl'] at st ⊢
    (try simp (maxSteps:=1000000) (disch:=first | assumption | (apply ν6;assumption)) only [vz,vu,vv,eqS,eF_,↓c1_,↓c2_,tabs,reduceCtorEq,ι5,↓reduceIte,ν1,ν2,ν3,ν4,ν5,ι1,ι2,ι3,ι4,sA_ (st.get 0 rfl)])
    replace st:=st.put 0 rfl [x,rowP q' l']
    rw [← hl'] at st
    exact ⟨(i+1,_,_,_,_,_),⟨by simp only;omega,st⟩,by simp only;omega,.refl _,by rw [hl'];exact Heap.le_refl _⟩
  ·have:i=S.length+L.length:=by omega
   subst this
   have hlen:=ltsF_len a wy (S.length+L.length)
   have et:=ltsF_take a wy (n:=S.length+L.length) (k:=S.length) (by omega)
   have hlen2:=ltsF_len a wy S.length
   rw [et] at st
   obtain ⟨Gw,hwk,hfr⟩:=wk_la st 6 5 rfl rfl (by decide)
   have hle:Heap.le H Gw:=fun v b hb=>by
    rw [hfr v (st.wkNone v b hb _ (List.mem_of_getElem? (i:=6) rfl)) (st.wkNone v b hb _ (List.mem_of_getElem? (i:=5) rfl))];exact st.le v b hb
   have g2:Gw r2=some [.p .nil,.p .nil]:=by
    rw [hfr r2 (fun hm=>st.disjI 6 3 rfl rfl (by decide) r2 hm (by simp [cT_])) (fun hm=>st.disjI 5 3 rfl rfl (by decide) r2 hm (by simp [cT_]))];exact st.get 3 rfl
   have hle2:∀b,Heap.le H (Gw.set r2 b):=fun b v c hb=>by
    rw [Heap.set_other (fun e=>st.wkNone v c hb _ (List.mem_of_getElem? (i:=3) rfl) (by simp [cT_,e]))];exact hle v c hb
   have hdl:((ltsF a wy (S.length+L.length)).drop S.length).length≤1000000000:=by rw [List.length_drop];omega
   generalize (ltsF a wy (S.length+L.length)).drop S.length=dl at hwk hdl ⊢
   generalize ltsF a wy S.length=sl at hwk hlen2 ⊢
   have hx:=RZ.sl (st.get 6 rfl:RZ (LPl eI) 1 z1 x _ G D1)
   have hy:=RZ.sl (st.get 5 rfl:RZ (LPl eI) 1 z2 y _ G D2)
   (try simp (maxSteps:=1000000) (disch:=first | assumption | (apply ν6;assumption)) only [vz,vu,vv,eqS,eF_,↓c1_,↓c2_,tabs,reduceCtorEq,ι5,↓reduceIte,ν1,ν2,ν3,ν4,ν5,ι1,ι2,ι3,ι4,lA_ (st.get 0 rfl)])
   refine CallT.pre (Pu.use (l9Made_spec sl dl (by omega) hdl) ?_) hwk
   (try simp (maxSteps:=1000000) (disch:=first | assumption | (apply ν6;assumption)) only [vz,vu,vv,eqS,eF_,↓c1_,↓c2_,tabs,reduceCtorEq,ι5,↓reduceIte,ν1,ν2,ν3,ν4,ν5,ι1,ι2,ι3,ι4,sA_ g2])
   refine ⟨_,_,.forget (hle2 _),?_,rfl⟩
   cases goodL sl dl<;>rfl
end Go.Proofs.Ytohkciilfkhomaa
namespace Go.Proofs.Ytohkciilfkhomaa
open Go Go.Sep Go.Pt
attribute [local irreducible] CallT
theorem bigC (a b:List Int):Pu Try.prog 5 [.p (.sl (a.map e8)),.p (.sl (b.map e8))] (B (decide (1048576 < a.length+b.length))):=by
 refine Pu.of fun H=>?_
 refine W5_ok ?_;simp (maxSteps:=1000000) (disch:=first | assumption | (apply ν6;assumption)) only [W5,vz,vu,vv,eqS,eF_,↓c1_,↓c2_,tabs,reduceCtorEq,ι5,↓reduceIte,ν1,ν2,ν3,ν4,ν5,ι1,ι2,ι3,ι4]
 refine ⟨fun h=>?_,fun h=>?_⟩
 ·have:1048576 < a.length+b.length:=by omega
  simp [this]
 ·have hw:IntKind.i64.wrap (1048576 - ↑a.length)=1048576 - ↑a.length:=i6_ (by omega) (by omega)
  rw [hw]
  congr 2
  apply decide_eq_decide.2
  omega
theorem sameInts_self (xs:List Int) (hl:xs.length≤1000000000):Pu Try.prog 26 [Is xs,Is xs] (B true):=by
 refine Pu.of fun H=>?_
 refine W26_ok ?_;simp (maxSteps:=1000000) (disch:=first | assumption | (apply ν6;assumption)) only [W26,vz,vu,vv,eqS,eF_,↓c1_,↓c2_,tabs,reduceCtorEq,ι5,↓reduceIte,ν1,ν2,ν3,ν4,ν5,ι1,ι2,ι3,ι4]
 refine L26_0_rule (0:Nat) (fun i=>I i) (fun _=>H) (fun i=>i≤xs.length) (fun i=>xs.length - i) ⟨by omega,.refl _,Heap.le_refl _⟩ ?_
 rintro i hi
 have e5:IntKind.i64.wrap ((i:Int)+1)=((i+1:Nat):Int):=by rw [i6_ (by omega) (by omega)];simp
 (try simp (maxSteps:=1000000) (disch:=first | assumption | (apply ν6;assumption)) only [vz,vu,vv,eqS,eF_,↓c1_,↓c2_,tabs,reduceCtorEq,ι5,↓reduceIte,ν1,ν2,ν3,ν4,ν5,ι1,ι2,ι3,ι4,B26_0,e5])
 intro h
 exact ⟨by omega,by omega,by omega,by omega,i+1,by omega,by omega,.refl _⟩
theorem sameLists_self (xs:List (List Int)) (hs:smLs xs):Pu Try.prog 27 [Ls xs,Ls xs] (B true):=by
 refine Pu.of fun H=>?_
 have hs1:=hs.1
 refine W27_ok ?_;simp (maxSteps:=1000000) (disch:=first | assumption | (apply ν6;assumption)) only [W27,vz,vu,vv,eqS,eF_,↓c1_,↓c2_,tabs,reduceCtorEq,ι5,↓reduceIte,ν1,ν2,ν3,ν4,ν5,ι1,ι2,ι3,ι4]
 refine L27_0_rule (0:Nat) (fun i=>I i) (fun _=>H) (fun i=>i≤xs.length) (fun i=>xs.length - i) ⟨by omega,.refl _,Heap.le_refl _⟩ ?_
 rintro i hi
 have e5:IntKind.i64.wrap ((i:Int)+1)=((i+1:Nat):Int):=by rw [i6_ (by omega) (by omega)];simp
 (try simp (maxSteps:=1000000) (disch:=first | assumption | (apply ν6;assumption)) only [vz,vu,vv,eqS,eF_,↓c1_,↓c2_,tabs,reduceCtorEq,ι5,↓reduceIte,ν1,ν2,ν3,ν4,ν5,ι1,ι2,ι3,ι4,B27_0,e5])
 intro h
 have hlt:i < xs.length:=by omega
 have hm:(xs.getD i default).length≤1048576:=hs.2 _ (getD_all (p:=fun x=>x∈xs) (fun _ h=>h) hlt)
 repeat refine ⟨by omega,?_⟩
 refine Pu.use (sameInts_self (xs.getD i default) (by omega)) ?_
 (try simp (maxSteps:=1000000) (disch:=first | assumption | (apply ν6;assumption)) only [vz,vu,vv,eqS,eF_,↓c1_,↓c2_,tabs,reduceCtorEq,ι5,↓reduceIte,ν1,ν2,ν3,ν4,ν5,ι1,ι2,ι3,ι4,e5])
 exact ⟨i+1,by omega,by omega,.refl _⟩
theorem sameAuto_self (a:Au) (sa:smAu a):Pu Try.prog 9 [aAu a,aAu a] (B true):=by
 refine Pu.of fun H=>?_
 obtain ⟨s1,s2,s3⟩:=sa
 refine W9_ok ?_;simp (maxSteps:=1000000) (disch:=first | assumption | (apply ν6;assumption)) only [W9,vz,vu,vv,eqS,eF_,↓c1_,↓c2_,tabs,reduceCtorEq,ι5,↓reduceIte,ν1,ν2,ν3,ν4,ν5,ι1,ι2,ι3,ι4]
 intro r hr r3 n3 hr3
 have st:=((St.nil H).cell hr [I a.states,Is a.first,Es a.edges,Ls a.goals]).cell (r:=r3) (by rw [Heap.set_other n3];exact hr3) [I a.states,Is a.first,Es a.edges,Ls a.goals]
 generalize (H.set r [I a.states,Is a.first,Es a.edges,Ls a.goals]).set r3 [I a.states,Is a.first,Es a.edges,Ls a.goals]=G at st ⊢
 clear hr hr3 n3
 (try simp (maxSteps:=1000000) (disch:=first | assumption | (apply ν6;assumption)) only [vz,vu,vv,eqS,eF_,↓c1_,↓c2_,tabs,reduceCtorEq,ι5,↓reduceIte,ν1,ν2,ν3,ν4,ν5,ι1,ι2,ι3,ι4,lA_ (st.get 1 rfl),lA_ (st.get 0 rfl)])
 refine Pu.use (sameInts_self a.first (by omega)) ?_
 (try simp (maxSteps:=1000000) (disch:=first | assumption | (apply ν6;assumption)) only [vz,vu,vv,eqS,eF_,↓c1_,↓c2_,tabs,reduceCtorEq,ι5,↓reduceIte,ν1,ν2,ν3,ν4,ν5,ι1,ι2,ι3,ι4,lA_ (st.get 1 rfl),lA_ (st.get 0 rfl)])
 refine Pu.use (sameLists_self a.goals s3) ?_
 (try simp (maxSteps:=1000000) (disch:=first | assumption | (apply ν6;assumption)) only [vz,vu,vv,eqS,eF_,↓c1_,↓c2_,tabs,reduceCtorEq,ι5,↓reduceIte,ν1,ν2,ν3,ν4,ν5,ι1,ι2,ι3,ι4,lA_ (st.get 1 rfl),lA_ (st.get 0 rfl)])
 refine L9_0_rule (0:Nat) (fun i=>I i) (fun _=>G) (fun i=>i≤a.edges.length) (fun i=>a.edges.length - i) ⟨by omega,.refl _,Heap.le_refl _⟩ ?_
 rintro i hi
 have e5:IntKind.i64.wrap ((i:Int)+1)=((i+1:Nat):Int):=by rw [i6_ (by omega) (by omega)];simp
 (try simp (maxSteps:=1000000) (disch:=first | assumption | (apply ν6;assumption)) only [vz,vu,vv,eqS,eF_,↓c1_,↓c2_,tabs,reduceCtorEq,ι5,↓reduceIte,ν1,ν2,ν3,ν4,ν5,ι1,ι2,ι3,ι4,B9_0,lA_ (st.get 1 rfl),lA_ (st.get 0 rfl),e5])
 refine ⟨fun h=>?_,fun h=>st.le⟩
 exact ⟨by omega,by omega,by omega,by omega,i+1,by omega,by omega,.refl _⟩
theorem aus_val {f:Nat} {args:List AV} {a:Au} {ok:Bool} (h:∀{H:Heap} {K:AV→Heap→Prop},(∀v G D,LAu a v G D→New H G D→K (.tup [v,B ok]) G)→CallT Try.prog f args H K):Pu Try.prog f args (.tup [aAu a,B ok]):=by
 refine ⟨fun H=>CallT.fin (h fun v G D hv hn=>?_)⟩
 obtain ⟨G',w,fr⟩:=LAu.wk hv hn.nd (fun v=>.tup [v,B ok]) (fun h=>.tup (.cons h (.cons (.same _) .nil)))
 refine ⟨_,H,.trans w (.forget fun y b hb=>?_),rfl,rfl⟩
 rw [fr y (fun hy=>by rw [hn.fr y hy] at hb;cases hb)]
 exact hn.le y b hb
theorem wo_len (a:Au):(woS a).length≤24∧(woL a).length≤24:=by
 unfold woS woL
 cases hb:woB a
 ·simp
 ·have hb2:=hb
  rw [woB,Bool.and_eq_true,Bool.and_eq_true] at hb2
  have:=goodL_f hb2.2.2
  simp only [if_true]
  omega
theorem DrawBoth_spec {code:List Int} (hc:CodeC code) {H:Heap} {K:AV→Heap→Prop} (h:∀a b,smAu a→smAu b→K (.tup [aAu a,aAu b]) H):CallT Try.prog 13 [.p (.sl (code.map e8))] H K:=by
 refine CallT.fin ?_
 refine W13_ok ?_;simp (maxSteps:=1000000) (disch:=first | assumption | (apply ν6;assumption)) only [W13,vz,vu,vv,eqS,eF_,↓c1_,↓c2_,tabs,reduceCtorEq,ι5,↓reduceIte,ν1,ν2,ν3,ν4,ν5,ι1,ι2,ι3,ι4]
 intro r2 hr2 r3 n3 hr3 r7 n73 n72 hr7
 have st:=((((St.nil H).cell hr2 [I 0,.p .nil,.p .nil,.p .nil]).cell (r:=r3) (by rw [Heap.set_other n3];exact hr3) [I 0,.p .nil,.p .nil,.p .nil]).cell (r:=r7) (by rw [Heap.set_other n73,Heap.set_other n72];exact hr7) (cur code 0 0))
 have ec:((H.set r2 [AV.p (PV.int IntKind.i64 0),AV.p PV.nil,AV.p PV.nil,AV.p PV.nil]).set r3 [AV.p (PV.int IntKind.i64 0),AV.p PV.nil,AV.p PV.nil,AV.p PV.nil]).set r7 [AV.p (PV.sl (List.map e8 code)),AV.p (PV.int IntKind.i64 0),AV.p (PV.int IntKind.u64 0)]=((H.set r2 [I 0,.p .nil,.p .nil,.p .nil]).set r3 [I 0,.p .nil,.p .nil,.p .nil]).set r7 (cur code 0 0):=rfl
 rw [ec]
 generalize ((H.set r2 [I 0,.p .nil,.p .nil,.p .nil]).set r3 [I 0,.p .nil,.p .nil,.p .nil]).set r7 (cur code 0 0)=G at st ⊢
 clear ec hr2 n3 hr3 n73 n72 hr7
 refine auto_spec hc (st.get 0 rfl) (by omega) 4 (by omega) fun a k1 s1 sa _ hk1 hk2=>?_
 replace st:=st.put 0 rfl (cur code k1 s1)
 generalize G.set r7 (cur code k1 s1)=G1 at st ⊢
 refine auto_spec hc (st.get 0 rfl) (by omega) 3 (by omega) fun b k2 s2 sb _ hk3 hk4=>?_
 replace st:=st.put 0 rfl (cur code k2 s2)
 generalize G1.set r7 (cur code k2 s2)=G2 at st ⊢
 (try simp (maxSteps:=1000000) (disch:=first | assumption | (apply ν6;assumption)) only [vz,vu,vv,eqS,eF_,↓c1_,↓c2_,tabs,reduceCtorEq,ι5,↓reduceIte,ν1,ν2,ν3,ν4,ν5,ι1,ι2,ι3,ι4,sA_ (st.get 2 rfl)])
 replace st:=st.put 2 rfl [I a.states,Is a.first,Es a.edges,Ls a.goals]
 generalize G2.set r2 [I a.states,Is a.first,Es a.edges,Ls a.goals]=G3 at st ⊢
 (try simp (maxSteps:=1000000) (disch:=first | assumption | (apply ν6;assumption)) only [vz,vu,vv,eqS,eF_,↓c1_,↓c2_,tabs,reduceCtorEq,ι5,↓reduceIte,ν1,ν2,ν3,ν4,ν5,ι1,ι2,ι3,ι4,sA_ (st.get 1 rfl)])
 replace st:=st.put 1 rfl [I b.states,Is b.first,Es b.edges,Ls b.goals]
 generalize G3.set r3 [I b.states,Is b.first,Es b.edges,Ls b.goals]=G4 at st ⊢
 (try simp (maxSteps:=1000000) (disch:=first | assumption | (apply ν6;assumption)) only [vz,vu,vv,eqS,eF_,↓c1_,↓c2_,tabs,reduceCtorEq,ι5,↓reduceIte,ν1,ν2,ν3,ν4,ν5,ι1,ι2,ι3,ι4,lA_ (st.get 2 rfl),lA_ (st.get 1 rfl)])
 exact ⟨_,H,.forget st.le,h a b sa sb⟩
theorem DrawTakes_spec {code:List Int} (hc:CodeC code) {H:Heap} {K:AV→Heap→Prop} (h:∀a s l,smAu a→s.length≤1000→l.length≤1000→K (.tup [aAu a,aL2 s l]) H):CallT Try.prog 10 [.p (.sl (code.map e8))] H K:=by
 refine CallT.fin ?_
 refine W10_ok ?_;simp (maxSteps:=1000000) (disch:=first | assumption | (apply ν6;assumption)) only [W10,vz,vu,vv,eqS,eF_,↓c1_,↓c2_,tabs,reduceCtorEq,ι5,↓reduceIte,ν1,ν2,ν3,ν4,ν5,ι1,ι2,ι3,ι4]
 intro r2 hr2 r3 n3 hr3 r7 n73 n72 hr7
 have st:=((((St.nil H).cell hr2 [I 0,.p .nil,.p .nil,.p .nil]).cell (r:=r3) (by rw [Heap.set_other n3];exact hr3) [.p .nil,.p .nil]).cell (r:=r7) (by rw [Heap.set_other n73,Heap.set_other n72];exact hr7) (cur code 0 0))
 have ec:((H.set r2 [AV.p (PV.int IntKind.i64 0),AV.p PV.nil,AV.p PV.nil,AV.p PV.nil]).set r3 [AV.p PV.nil,AV.p PV.nil]).set r7 [AV.p (PV.sl (List.map e8 code)),AV.p (PV.int IntKind.i64 0),AV.p (PV.int IntKind.u64 0)]=((H.set r2 [I 0,.p .nil,.p .nil,.p .nil]).set r3 [.p .nil,.p .nil]).set r7 (cur code 0 0):=rfl
 rw [ec]
 generalize ((H.set r2 [I 0,.p .nil,.p .nil,.p .nil]).set r3 [.p .nil,.p .nil]).set r7 (cur code 0 0)=G at st ⊢
 clear ec hr2 n3 hr3 n73 n72 hr7
 refine auto_spec hc (st.get 0 rfl) (by omega) 5 (by omega) fun a k1 s1 sa _ hk1 hk2=>?_
 replace st:=st.put 0 rfl (cur code k1 s1)
 generalize G.set r7 (cur code k1 s1)=G1 at st ⊢
 (try simp (maxSteps:=1000000) (disch:=first | assumption | (apply ν6;assumption)) only [vz,vu,vv,eqS,eF_,↓c1_,↓c2_,tabs,reduceCtorEq,ι5,↓reduceIte,ν1,ν2,ν3,ν4,ν5,ι1,ι2,ι3,ι4])
 intro r5 hr5
 replace st:=st.cell hr5 [I a.states,Is a.first,Es a.edges,Ls a.goals]
 generalize G1.set r5 [I a.states,Is a.first,Es a.edges,Ls a.goals]=G2 at st ⊢
 clear hr5
 refine lasso_spec hc (st.get 1 rfl) (by omega) fun s l k2 s2 hs hl hk3 hk4=>?_
 replace st:=st.put 1 rfl (cur code k2 s2)
 generalize G2.set r7 (cur code k2 s2)=G3 at st ⊢
 (try simp (maxSteps:=1000000) (disch:=first | assumption | (apply ν6;assumption)) only [vz,vu,vv,eqS,eF_,↓c1_,↓c2_,tabs,reduceCtorEq,ι5,↓reduceIte,ν1,ν2,ν3,ν4,ν5,ι1,ι2,ι3,ι4])
 intro r6 hr6
 replace st:=st.cell hr6 [Is s,Is l]
 generalize G3.set r6 [Is s,Is l]=G4 at st ⊢
 clear hr6
 (try simp (maxSteps:=1000000) (disch:=first | assumption | (apply ν6;assumption)) only [vz,vu,vv,eqS,eF_,↓c1_,↓c2_,tabs,reduceCtorEq,ι5,↓reduceIte,ν1,ν2,ν3,ν4,ν5,ι1,ι2,ι3,ι4,lA_ (st.get 1 rfl)])
 refine Pu.use (WordOf_ref a sa) ?_
 obtain ⟨w1,w2⟩:=wo_len a
 generalize woS a=ws at w1 ⊢
 generalize woL a=wl at w2 ⊢
 (try simp (maxSteps:=1000000) (disch:=first | assumption | (apply ν6;assumption)) only [vz,vu,vv,eqS,eF_,↓c1_,↓c2_,tabs,reduceCtorEq,ι5,↓reduceIte,ν1,ν2,ν3,ν4,ν5,ι1,ι2,ι3,ι4])
 intro r4 hr4
 replace st:=st.cell hr4 [Is ws,Is wl]
 generalize G4.set r4 [Is ws,Is wl]=G5 at st ⊢
 clear hr4
 have fin:∀(k:Nat) (s:Int) (G:Heap) (s' l':List Int) (c:List AV),s'.length≤1000→l'.length≤1000→St H [cT_ r4 [Is ws,Is wl],cT_ r6 [Is s',Is l'],cT_ r5 [I a.states,Is a.first,Es a.edges,Ls a.goals],cT_ r7 c,cT_ r3 [.p .nil,.p .nil],cT_ r2 [I 0,.p .nil,.p .nil,.p .nil]] G→J10_0 (wkK K) (.ptr r2 0) (.ptr r3 0) (.ptr r5 0) (.ptr r6 0) G:=by
  intro k s G s' l' c h1 h2 st
  (try simp (maxSteps:=1000000) (disch:=first | assumption | (apply ν6;assumption)) only [vz,vu,vv,eqS,eF_,↓c1_,↓c2_,tabs,reduceCtorEq,ι5,↓reduceIte,ν1,ν2,ν3,ν4,ν5,ι1,ι2,ι3,ι4,J10_0,lA_ (st.get 2 rfl),lA_ (st.get 1 rfl),sA_ (st.get 5 rfl)])
  replace st:=st.put 5 rfl [I a.states,Is a.first,Es a.edges,Ls a.goals]
  generalize G.set r2 [I a.states,Is a.first,Es a.edges,Ls a.goals]=G1 at st ⊢
  (try simp (maxSteps:=1000000) (disch:=first | assumption | (apply ν6;assumption)) only [vz,vu,vv,eqS,eF_,↓c1_,↓c2_,tabs,reduceCtorEq,ι5,↓reduceIte,ν1,ν2,ν3,ν4,ν5,ι1,ι2,ι3,ι4,lA_ (st.get 1 rfl),sA_ (st.get 4 rfl)])
  replace st:=st.put 4 rfl [Is s',Is l']
  generalize G1.set r3 [Is s',Is l']=G2 at st ⊢
  (try simp (maxSteps:=1000000) (disch:=first | assumption | (apply ν6;assumption)) only [vz,vu,vv,eqS,eF_,↓c1_,↓c2_,tabs,reduceCtorEq,ι5,↓reduceIte,ν1,ν2,ν3,ν4,ν5,ι1,ι2,ι3,ι4,lA_ (st.get 5 rfl),lA_ (st.get 4 rfl)])
  exact ⟨_,H,.forget st.le,h a s' l' sa h1 h2⟩
 refine ⟨fun hb=>?_,fun hb=>?_⟩
 ·refine one_spec hc 2 (by omega) (k:=k2) (by omega) (st.get 3 rfl) fun x k3 s3 hk5 hk6=>?_
  replace st:=st.put 3 rfl (cur code k3 s3)
  generalize G5.set r7 (cur code k3 s3)=G6 at st ⊢
  (try simp (maxSteps:=1000000) (disch:=first | assumption | (apply ν6;assumption)) only [vz,vu,vv,eqS,eF_,↓c1_,↓c2_,tabs,reduceCtorEq,ι5,↓reduceIte,ν1,ν2,ν3,ν4,ν5,ι1,ι2,ι3,ι4])
  refine ⟨fun hx=>?_,fun hx=>fin k3 s3 G6 s l _ (by omega) (by omega) st⟩
  clear fin
  (try simp (maxSteps:=1000000) (disch:=first | assumption | (apply ν6;assumption)) only [vz,vu,vv,eqS,eF_,↓c1_,↓c2_,tabs,reduceCtorEq,ι5,↓reduceIte,ν1,ν2,ν3,ν4,ν5,ι1,ι2,ι3,ι4,lA_ (st.get 2 rfl),lA_ (st.get 0 rfl),sA_ (st.get 5 rfl)])
  replace st:=st.put 5 rfl [I a.states,Is a.first,Es a.edges,Ls a.goals]
  generalize G6.set r2 [I a.states,Is a.first,Es a.edges,Ls a.goals]=G1 at st ⊢
  (try simp (maxSteps:=1000000) (disch:=first | assumption | (apply ν6;assumption)) only [vz,vu,vv,eqS,eF_,↓c1_,↓c2_,tabs,reduceCtorEq,ι5,↓reduceIte,ν1,ν2,ν3,ν4,ν5,ι1,ι2,ι3,ι4,lA_ (st.get 0 rfl),sA_ (st.get 4 rfl)])
  replace st:=st.put 4 rfl [Is ws,Is wl]
  generalize G1.set r3 [Is ws,Is wl]=G2 at st ⊢
  (try simp (maxSteps:=1000000) (disch:=first | assumption | (apply ν6;assumption)) only [vz,vu,vv,eqS,eF_,↓c1_,↓c2_,tabs,reduceCtorEq,ι5,↓reduceIte,ν1,ν2,ν3,ν4,ν5,ι1,ι2,ι3,ι4,lA_ (st.get 5 rfl),lA_ (st.get 4 rfl)])
  exact ⟨_,H,.forget st.le,h a ws wl sa (by omega) (by omega)⟩
 ·exact fin k2 s2 G5 s l _ (by omega) (by omega) st
end Go.Proofs.Ytohkciilfkhomaa
namespace Go.Proofs.Ytohkciilfkhomaa
open Go Go.Sep Go.Pt
def ArcE (es:List Ed) (v w:Nat):Prop:=∃e∈es,e.src=(v:Int)∧e.dst=(w:Int)
def FairE (es:List Ed) (goals:List (List Nat)) (v:Nat):Prop:=(∃a b,Con (ArcE es) v a∧Con (ArcE es) v b∧ArcE es a b)∧∀g∈goals,∃x∈g,Con (ArcE es) v x
def AccE (p:Au):Prop:=∃u∈nN p.first,∃v,Rch (ArcE p.edges) u v∧FairE p.edges (goN p.goals) v
theorem arcE_eq {p:Au} (h:GoodX p):aO_ (rwF (gO p))=ArcE p.edges:=by
 funext v w
 exact propext ((gO_gA v w).trans (arc_iff h))
theorem acc_iff {p:Au} (h:PrB p):twF p=true↔AccE p:=by
 have hl:=gO_len p
 have ha:=arcE_eq h.x
 have hb:∀a b,b∈rwF (gO p) a↔ArcE p.edges a b:=fun a b=>by rw [← ha]
 rw [twF,decide_eq_true_eq,meetF_iff (goals:=goN p.goals) (gO_B h.x).gr (some:=nN p.first) (by rw [hl];exact nN_lt h.fr)]
 unfold AccE FairP FairE
 simp only [ha,hb]
theorem acc_lasso {p:Au} (h:PrB p) (ht:twF p=true):∃stem loop,FairL (rwF (gO p)) (nN p.first) (goN p.goals) stem loop:=by
 have hl:=gO_len p
 obtain ⟨h1,h2,_⟩:=h.gob hl
 have hm:¬meetF (rwF (gO p)) (gO p).length (nN p.first) (goN p.goals) < 0:=by
  rw [twF,decide_eq_true_eq] at ht;omega
 obtain ⟨m,em,hml,hfair,hreach⟩:=meetF_pos (gO_B h.x).gr (by rw [hl];exact nN_lt h.fr) hm
 obtain ⟨FL,_⟩:=fair_lasso (b:=9216) (gO_B h.x).gr hml hfair (fun l hl=>⟨h1.lt l hl,h2 l hl⟩) hreach
 exact ⟨_,_,FL⟩
end Go.Proofs.Ytohkciilfkhomaa
namespace Go.Proofs.Ytohkciilfkhomaa
open Go Go.Sep Go.Pt
def StepA (a:Au) (c:Int) (q q':Nat):Prop:=∃e∈a.edges,e.lt=c∧e.src=(q:Int)∧e.dst=(q':Int)
def ArcW (a:Au) (s l:List Int) (x y:Nat×Nat):Prop:=x.1 < s.length+l.length∧y.1=nxW s l x.1∧StepA a (letW s l x.1) x.2 y.2
def enc (n:Nat) (x:Nat×Nat):Nat:=x.1*n+x.2
theorem stepA_lt {a:Au} (fa:GoodF a) {c:Int} {q q':Nat} (h:StepA a c q q'):q < a.states.toNat∧q' < a.states.toNat:=by
 obtain ⟨e,he,_,h1,h2⟩:=h
 have:=edIn_iff.1 (fa.ei e he)
 omega
theorem arcW_iff {a:Au} (fa:GoodF a) {s l:List Int} {v w:Nat}:ArcE (wpE a s l (s.length+l.length)) v w↔∃x y,ArcW a s l x y∧v=enc a.states.toNat x∧w=enc a.states.toNat y:=by
 have hst:=fa.st
 have key:∀(t q:Nat),((enc a.states.toNat (t,q):Nat):Int)=(t:Int)*a.states+q:=fun t q=>by
  unfold enc
  rw [Int.natCast_add,Int.natCast_mul,Int.toNat_of_nonneg (by omega)]
 constructor
 ·rintro ⟨e,he,h1,h2⟩
  simp only [wpE,wpR,List.mem_flatMap,List.mem_map,List.mem_filter,List.mem_range,decide_eq_true_eq] at he
  obtain ⟨t,ht,e0,⟨h3,h4⟩,rfl⟩:=he
  have hi:=edIn_iff.1 (fa.ei e0 h3)
  refine ⟨(t,e0.src.toNat),(nxW s l t,e0.dst.toNat),⟨ht,rfl,e0,h3,h4,by simp only;omega,by simp only;omega⟩,?_,?_⟩
  ·have:=key t e0.src.toNat
   simp only [wpS] at h1
   rw [← Int.ofNat_inj,this];omega
  ·have:=key (nxW s l t) e0.dst.toNat
   simp only [wpS] at h2
   rw [← Int.ofNat_inj,this];omega
 ·rintro ⟨⟨t,q⟩,⟨t',q'⟩,⟨h1,h2,e,he,h3,h4,h5⟩,rfl,rfl⟩
  simp only at h1 h2 h3 h4 h5
  subst h2
  refine ⟨wpS a.states s l t e,?_,?_,?_⟩
  ·simp only [wpE,wpR,List.mem_flatMap,List.mem_map,List.mem_filter,List.mem_range,decide_eq_true_eq]
   exact ⟨t,h1,e,⟨he,h3⟩,rfl⟩
  ·rw [key];simp only [wpS];omega
  ·rw [key];simp only [wpS];omega
end Go.Proofs.Ytohkciilfkhomaa
namespace Go.Proofs.Ytohkciilfkhomaa
open Go Go.Sep Go.Pt
theorem often {f:Nat→Nat} {M:Nat} (hM:∀i,f i < M):∃v,∀n,∃i,n≤i∧f i=v:=by
 have key:∀M,(∀v,v < M→∃n,∀i,n≤i→f i≠v)→∃n,∀i,n≤i→M≤f i:=by
  intro M
  induction M with
  | zero=>exact fun _=>⟨0,fun _ _=>Nat.zero_le _⟩
  | succ M ih=>
   intro h
   obtain ⟨n,hn⟩:=ih fun v hv=>h v (by omega)
   obtain ⟨m,hm⟩:=h M (by omega)
   refine ⟨max n m,fun i hi=>?_⟩
   have h1:=hn i (by omega)
   have h2:=hm i (by omega)
   omega
 apply Classical.byContradiction
 intro hc
 obtain ⟨n,hn⟩:=key M fun v _=>by
  apply Classical.byContradiction
  intro h2
  exact hc ⟨v,fun n=>by
   apply Classical.byContradiction
   intro h3
   exact h2 ⟨n,fun i hi e=>h3 ⟨i,hi,e⟩⟩⟩
 have h1:=hn n (Nat.le_refl _)
 have h2:=hM n
 omega
theorem rch_seq {E:Nat→Nat→Prop} {f:Nat→Nat} (hE:∀i,E (f i) (f (i+1))) (i k:Nat):Rch E (f i) (f (i+k)):=by
 induction k with
 | zero=>exact .refl _
 | succ k ih=>exact ih.snoc (hE (i+k))
theorem run_part {E:Nat→Nat→Prop} {f:Nat→Nat} {M:Nat} (hE:∀i,E (f i) (f (i+1))) (hM:∀i,f i < M):∃N,∀i,N≤i→Con E (f N) (f i):=by
 obtain ⟨v,hv⟩:=often hM
 obtain ⟨N,_,hN⟩:=hv 0
 refine ⟨N,fun i hi=>⟨?_,?_⟩⟩
 ·have:=rch_seq hE N (i - N)
  rwa [show N+(i - N)=i by omega] at this
 ·obtain ⟨j,hj,e⟩:=hv i
  have:=rch_seq hE i (j - i)
  rw [show i+(j - i)=j by omega,e,← hN] at this
  exact this
def FairX (E:Nat→Nat→Prop) (goals:List (List Nat)) (v:Nat):Prop:=(∃a b,Con E v a∧Con E v b∧E a b)∧∀g∈goals,∃x∈g,Con E v x
theorem run_fair {E:Nat→Nat→Prop} {f:Nat→Nat} {M:Nat} {goals:List (List Nat)} (hE:∀i,E (f i) (f (i+1))) (hM:∀i,f i < M) (hg:∀g∈goals,∀n,∃i,n≤i∧f i∈g):∃N,FairX E goals (f N):=by
 obtain ⟨N,hN⟩:=run_part hE hM
 refine ⟨N,⟨f N,f (N+1),hN _ (Nat.le_refl _),hN _ (by omega),hE N⟩,fun g h=>?_⟩
 obtain ⟨i,hi,h2⟩:=hg g h N
 exact ⟨f i,h2,hN i hi⟩
def posW (S L i:Nat):Nat:=if i < S then i else S+(i - S) % L
theorem posW_zero (S L:Nat):posW S L 0=0:=by
 unfold posW
 split
 ·rfl
 ·rename_i h
  have:S=0:=by omega
  subst this;simp
theorem posW_lt (S:Nat) {L:Nat} (h:1≤L) (i:Nat):posW S L i < S+L:=by
 unfold posW
 split
 ·omega
 ·have:=Nat.mod_lt (i - S) h;omega
theorem posW_succ (S:Nat) {L:Nat} (h:1≤L) (i:Nat):posW S L (i+1)=if posW S L i+1 < S+L then posW S L i+1 else S:=by
 unfold posW
 by_cases h1:i+1 < S
 ·rw [if_pos h1,if_pos (show i < S by omega),if_pos (by omega)]
 ·rw [if_neg h1]
  by_cases h2:i < S
  ·have e:i+1=S:=by omega
   rw [if_pos h2,if_pos (by omega),e];simp
  ·rw [if_neg h2]
   have e1:i+1 - S=(i - S)+1:=by omega
   have e2:=Nat.div_add_mod (i - S) L
   have hr:=Nat.mod_lt (i - S) h
   rw [e1]
   generalize (i - S) % L=r at e2 hr ⊢
   have e3:(i - S+1) % L=(r+1) % L:=by
    conv=>lhs;rw [← e2,Nat.add_assoc,Nat.mul_add_mod]
   rw [e3]
   by_cases h4:r+1 < L
   ·rw [Nat.mod_eq_of_lt h4,if_pos (by omega)];omega
   ·have h5:r+1=L:=by omega
    rw [h5,Nat.mod_self,if_neg (by omega)];omega
theorem posW_often {S L j:Nat} (h1:S≤j) (h2:j < S+L) (n:Nat):∃i,n≤i∧posW S L i=j:=by
 refine ⟨S+n*L+(j - S),?_,?_⟩
 ·have:=Nat.le_mul_of_pos_right n (show 0 < L by omega)
  omega
 ·unfold posW
  rw [if_neg (by omega)]
  have e:S+n*L+(j - S) - S=(j - S)+n*L:=by omega
  rw [e,Nat.add_mul_mod_self_right,Nat.mod_eq_of_lt (by omega)];omega
theorem lasso_run {row:Nat→List Nat} {some:List Nat} {goals:List (List Nat)} {stem loop:List Nat} (h:FairL row some goals stem loop):∃f:Nat→Nat,(∀i,f i=(stem++loop).getD (posW stem.length loop.length i) 0)∧f 0∈some∧(∀i,f (i+1)∈row (f i))∧∀g∈goals,∀n,∃i,n≤i∧f i∈g:=by
 obtain ⟨f,hf⟩:∃f:Nat→Nat,∀i,f i=(stem++loop).getD (posW stem.length loop.length i) 0:=⟨_,fun i=>rfl⟩
 have hne:=h.ne
 refine ⟨f,hf,by rw [hf,posW_zero];exact h.fst,fun i=>?_,fun g hg n=>?_⟩
 ·have hp:=posW_lt stem.length hne i
  have hs:=posW_succ stem.length hne i
  rw [hf,hf,hs]
  generalize posW stem.length loop.length i=p at hp ⊢
  have hw:=h.way p (by simp only [List.length_append,List.length_cons,List.length_nil];omega)
  have e1:(stem++loop++[loop.getD 0 0]).getD p 0=(stem++loop).getD p 0:=by
   simp only [List.getD]
   rw [List.getElem?_append_left (by simpa using hp)]
  rw [e1] at hw
  by_cases h1:p+1 < stem.length+loop.length
  ·rw [if_pos h1]
   have e2:(stem++loop++[loop.getD 0 0]).getD (p+1) 0=(stem++loop).getD (p+1) 0:=by
    simp only [List.getD]
    rw [List.getElem?_append_left (by simpa using h1)]
   rwa [e2] at hw
  ·rw [if_neg h1]
   have e2:(stem++loop++[loop.getD 0 0]).getD (p+1) 0=loop.getD 0 0:=by
    have:p+1=(stem++loop).length:=by simp;omega
    rw [this];simp [List.getD]
   have e3:(stem++loop).getD stem.length 0=loop.getD 0 0:=by
    simp [List.getD,List.getElem?_append_right]
   rw [e2] at hw
   rw [e3];exact hw
 ·obtain ⟨x,hx,hxg⟩:=h.met g hg
  obtain ⟨k,hk,rfl⟩:=List.mem_iff_getElem.1 hx
  obtain ⟨i,hi,e⟩:=posW_often (S:=stem.length) (L:=loop.length) (j:=stem.length+k) (by omega) (by omega) n
  refine ⟨i,hi,?_⟩
  rw [hf,e]
  have:(stem++loop).getD (stem.length+k) 0=loop[k]:=by
   simp [List.getD,hk]
  rw [this];exact hxg
def wdW (s l:List Int) (i:Nat):Int:=letW s l (posW s.length l.length i)
def AccR (a:Au) (w:Nat→Int):Prop:=∃q:Nat→Nat,((q 0:Nat):Int)∈a.first∧(∀i,StepA a (w i) (q i) (q (i+1)))∧∀g∈a.goals,∀n,∃i,n≤i∧((q i:Nat):Int)∈g
theorem enc_div {n p q:Nat} (h:q < n):enc n (p,q) / n=p:=by
 unfold enc
 simp only
 rw [Nat.add_comm,Nat.add_mul_div_right _ _ (by omega),Nat.div_eq_of_lt h,Nat.zero_add]
theorem enc_mod {n p q:Nat} (h:q < n):enc n (p,q) % n=q:=by
 unfold enc
 simp only
 rw [Nat.add_comm,Nat.add_mul_mod_self_right,Nat.mod_eq_of_lt h]
theorem encI {n:Int} (h:0≤n) (p q:Nat):((enc n.toNat (p,q):Nat):Int)=(p:Int)*n+q:=by
 unfold enc
 rw [Int.natCast_add,Int.natCast_mul,Int.toNat_of_nonneg h]
theorem accR_iff {a:Au} (ga:goodA a=true) {s l:List Int} (hs:s.length≤24) (hl:1≤l.length∧l.length≤24):twF (wpA a s l)=true↔AccR a (wdW s l):=by
 have fa:=good_facts ga
 have hN:=autoN ga
 have sta:=fa.st
 have hpr:=wpA_pr ga hs hl
 have hg1:goN (wpA a s l).goals=a.goals.map fun g=>nN (prs (below (s.length+l.length)) g a.states):=by
  show (wpG a (s.length+l.length) a.goals.length).map nN=_
  rw [wpG,List.take_length,List.map_map];rfl
 constructor
 ·intro ht
  obtain ⟨stem,loop,hL⟩:=acc_lasso hpr ht
  have ha:=arcE_eq hpr.x
  obtain ⟨f,_,h0,h1,h2⟩:=lasso_run hL
  have hE:∀i,∃x y,ArcW a s l x y∧f i=enc a.states.toNat x∧f (i+1)=enc a.states.toNat y:=fun i=>(arcW_iff fa).1 (by
   have:aO_ (rwF (gO (wpA a s l))) (f i) (f (i+1)):=h1 i
   rw [ha] at this;exact this)
  have h0':((f 0:Nat):Int)∈a.first∧f 0 < a.states.toNat:=by
   obtain ⟨x,hx,e⟩:=List.mem_map.1 h0
   have hx2:x∈a.first:=hx
   have:=hN.fr x hx2
   rw [← e,Int.toNat_of_nonneg (by omega)]
   exact ⟨hx2,by omega⟩
  have hp:∀i,f i / a.states.toNat=posW s.length l.length i:=by
   intro i
   induction i with
   | zero=>rw [posW_zero,Nat.div_eq_of_lt h0'.2]
   | succ i ih=>
    obtain ⟨⟨p,q⟩,⟨p',q'⟩,⟨k1,k2,k3⟩,e1,e2⟩:=hE i
    have hq:=stepA_lt fa k3
    simp only at k1 k2 hq
    rw [e1,enc_div hq.1] at ih
    rw [e2,enc_div hq.2,posW_succ _ hl.1,← ih,k2];rfl
  have hm:∀i,f i % a.states.toNat < a.states.toNat:=fun i=>Nat.mod_lt _ (by omega)
  refine ⟨fun i=>f i % a.states.toNat,by simp only;rw [Nat.mod_eq_of_lt h0'.2];exact h0'.1,fun i=>?_,fun g hg n=>?_⟩
  ·obtain ⟨⟨p,q⟩,⟨p',q'⟩,⟨k1,k2,k3⟩,e1,e2⟩:=hE i
   have hq:=stepA_lt fa k3
   simp only at k1 k2 hq k3
   have hp1:=hp i
   rw [e1,enc_div hq.1] at hp1
   show StepA a (letW s l (posW s.length l.length i)) _ _
   simp only
   rw [e1,e2,enc_mod hq.1,enc_mod hq.2,← hp1];exact k3
  ·obtain ⟨i,hi,hm⟩:=h2 _ (by rw [hg1];exact List.mem_map.2 ⟨g,hg,rfl⟩) n
   refine ⟨i,hi,?_⟩
   obtain ⟨z,hz,e⟩:=List.mem_map.1 hm
   obtain ⟨t,ht,j,hj,rfl⟩:=prs_mem.1 hz
   have ht2:=below_mem'.1 ht
   have hj2:=hN.go g hg j hj
   have e2:=encI (n:=a.states) (by omega) t.toNat j.toNat
   rw [Int.toNat_of_nonneg ht2.1,Int.toNat_of_nonneg hj2.1] at e2
   rw [← e2,Int.toNat_natCast] at e
   simp only
   rw [← e,enc_mod (by omega),Int.toNat_of_nonneg hj2.1];exact hj
 ·rintro ⟨q,q0,q1,q2⟩
  have hlt:∀i,q i < a.states.toNat:=fun i=>(stepA_lt fa (q1 i)).1
  have hE:∀i,ArcE (wpA a s l).edges (enc a.states.toNat (posW s.length l.length i,q i)) (enc a.states.toNat (posW s.length l.length (i+1),q (i+1))):=fun i=>
   (arcW_iff fa).2 ⟨(posW s.length l.length i,q i),(posW s.length l.length (i+1),q (i+1)),⟨posW_lt _ hl.1 i,by simp only;rw [posW_succ _ hl.1];rfl,q1 i⟩,rfl,rfl⟩
  rw [acc_iff hpr]
  have hb:∀i,enc a.states.toNat (posW s.length l.length i,q i) < (s.length+l.length)*a.states.toNat:=fun i=>by
   have h1:=posW_lt s.length hl.1 i
   have h2:=hlt i
   have h3:(posW s.length l.length i+1)*a.states.toNat≤(s.length+l.length)*a.states.toNat:=Nat.mul_le_mul_right _ h1
   unfold enc
   simp only
   rw [Nat.add_mul] at h3
   omega
  obtain ⟨N,hf⟩:=run_fair (E:=ArcE (wpA a s l).edges) (f:=fun i=>enc a.states.toNat (posW s.length l.length i,q i)) (goals:=goN (wpA a s l).goals) hE hb (fun g' hg' n=>by
   rw [hg1] at hg'
   obtain ⟨g,hg,rfl⟩:=List.mem_map.1 hg'
   obtain ⟨i,hi,hm⟩:=q2 g hg n
   refine ⟨i,hi,List.mem_map.2 ⟨(posW s.length l.length i:Int)*a.states+q i,prs_mem.2 ⟨_,below_mem'.2 ⟨by omega,by have:=posW_lt s.length hl.1 i;omega⟩,_,hm,rfl⟩,?_⟩⟩
   rw [← encI (by omega)];simp)
  refine ⟨q 0,?_,_,?_,hf⟩
  ·show q 0∈nN a.first
   exact List.mem_map.2 ⟨_,q0,by simp⟩
  ·have:=rch_seq (E:=ArcE (wpA a s l).edges) (f:=fun i=>enc a.states.toNat (posW s.length l.length i,q i)) hE 0 N
   simp only [Nat.zero_add,posW_zero] at this
   have e:enc a.states.toNat (0,q 0)=q 0:=by simp [enc]
   rw [e] at this;exact this
end Go.Proofs.Ytohkciilfkhomaa
namespace Go.Proofs.Ytohkciilfkhomaa
open Go Go.Sep Go.Pt
end Go.Proofs.Ytohkciilfkhomaa
namespace Go.Proofs.Ytohkciilfkhomaa
open Go Go.Sep Go.Pt
attribute [local irreducible] CallT
theorem sm_good {a:Au} (h:goodA a=true):smAu a:=by
 have f:=good_facts h
 obtain ⟨h1,h2⟩:=f.fi
 have h3:=f.ed
 have h4:=f.gl
 refine ⟨by omega,by omega,by omega,fun c hc=>?_⟩
 have:=(f.gi c hc).2
 omega
theorem sm_zero:smAu zeroA:=⟨by simp [zeroA],by simp [zeroA],by simp [zeroA],by simp [zeroA]⟩
end Go.Proofs.Ytohkciilfkhomaa
namespace Go.Proofs.Ytohkciilfkhomaa
open Go Go.Sep Go.Pt
def mkE (m:Int) (e f:Ed):Ed:=⟨e.src*m+f.src,e.lt,e.dst*m+f.dst⟩
def bRow (m:Int) (e:Ed) (bs:List Ed):List Ed:=(bs.filter fun f=>decide (e.lt=f.lt)).map (mkE m e)
def bE (m:Int) (us bs:List Ed):List Ed:=us.flatMap fun e=>bRow m e bs
theorem bRow_succ (m:Int) (e:Ed) (bs:List Ed) {j:Nat} (h:j < bs.length):bRow m e (bs.take (j+1))=if e.lt=(bs.getD j default).lt then bRow m e (bs.take j)++[mkE m e (bs.getD j default)] else bRow m e (bs.take j):=by
 unfold bRow
 rw [tS_ h,List.filter_append,List.map_append]
 generalize bs.getD j default=y
 by_cases hc:e.lt=y.lt<;>simp [hc]
theorem bE_succ (m:Int) (us bs:List Ed) {i:Nat} (h:i < us.length):bE m (us.take (i+1)) bs=bE m (us.take i) bs++bRow m (us.getD i default) bs:=by
 unfold bE
 rw [tS_ h,List.flatMap_append]
 simp
theorem bRow_len (m:Int) (e:Ed) (bs:List Ed):(bRow m e bs).length≤bs.length:=by
 unfold bRow;rw [List.length_map];exact List.length_filter_le _ _
theorem bE_len (m:Int) (us bs:List Ed):(bE m us bs).length≤us.length*bs.length:=by
 induction us with
 | nil=>simp [bE]
 | cons a us ih=>
  rw [bE,List.flatMap_cons,List.length_append,List.length_cons,Nat.add_mul,Nat.one_mul]
  rw [bE] at ih
  have:=bRow_len m a bs
  omega
def stp (n:Int) (es:List Ed) (s l:Int):List Int:=(below n.toNat).filter fun t=>es.any fun e=>decide (e.lt=l) && (decide (e.src=s) && decide (e.dst=t))
theorem below_lt (n:Nat):(below n).Pairwise (· < ·):=by
 unfold below
 rw [List.pairwise_map]
 exact List.pairwise_lt_range.imp fun h=>Int.ofNat_lt.2 h
theorem below_mem {n:Nat} {x:Int}:x∈below n↔0≤x∧x < n:=by
 unfold below
 rw [List.mem_map]
 exact ⟨fun ⟨k,hk,e⟩=>by rw [List.mem_range] at hk;omega,fun h=>⟨x.toNat,List.mem_range.2 (by omega),by omega⟩⟩
theorem stp_lt (n:Int) (es:List Ed) (s l:Int):(stp n es s l).Pairwise (· < ·):=(below_lt _).filter _
theorem stp_mem {n:Int} {es:List Ed} {s l t:Int}:t∈stp n es s l↔(0≤t∧t < n)∧∃e∈es,e.lt=l∧e.src=s∧e.dst=t:=by
 unfold stp
 rw [List.mem_filter,below_mem,List.any_eq_true]
 simp only [Bool.and_eq_true,decide_eq_true_eq]
 constructor
 ·rintro ⟨h1,h2⟩;exact ⟨⟨h1.1,by omega⟩,h2⟩
 ·rintro ⟨h1,h2⟩;exact ⟨⟨h1.1,by omega⟩,h2⟩
theorem stp_len (n:Int) (es:List Ed) (s l:Int):(stp n es s l).length≤n.toNat:=by
 unfold stp
 have:=List.length_filter_le (fun t=>es.any fun e=>decide (e.lt=l) && (decide (e.src=s) && decide (e.dst=t))) (below n.toNat)
 rwa [below_len] at this
def sCell (a b:Au) (k l:Nat):List Int:=prs (stp a.states a.edges ((k:Int) / b.states) l) (stp b.states b.edges ((k:Int) % b.states) l) b.states
def sRow (a b:Au) (k l:Nat):List Ed:=(List.range l).flatMap fun (i:Nat)=>(sCell a b k i).map fun t=>⟨k,i,t⟩
def sAll (a b:Au) (k:Nat):List Ed:=(List.range k).flatMap fun i=>sRow a b i 8
theorem sRow_succ (a b:Au) (k l:Nat):sRow a b k (l+1)=sRow a b k l++(sCell a b k l).map fun t=>⟨k,l,t⟩:=by simp [sRow,List.range_succ,List.flatMap_append]
theorem sAll_succ (a b:Au) (k:Nat):sAll a b (k+1)=sAll a b k++sRow a b k 8:=by simp [sAll,List.range_succ,List.flatMap_append]
theorem sCell_len (a b:Au) (k l:Nat):(sCell a b k l).length≤a.states.toNat*b.states.toNat:=by
 rw [sCell,prs_len]
 exact Nat.mul_le_mul (stp_len ..) (stp_len ..)
theorem sRow_len (a b:Au) (k l:Nat):(sRow a b k l).length≤l*(a.states.toNat*b.states.toNat):=by
 induction l with
 | zero=>simp [sRow]
 | succ l ih=>
  rw [sRow_succ,List.length_append,List.length_map,Nat.add_mul,Nat.one_mul]
  have:=sCell_len a b k l
  omega
theorem sAll_len (a b:Au) (k:Nat):(sAll a b k).length≤k*(8*(a.states.toNat*b.states.toNat)):=by
 induction k with
 | zero=>simp [sAll]
 | succ k ih=>
  rw [sAll_succ,List.length_append,Nat.add_mul,Nat.one_mul]
  have:=sRow_len a b k 8
  omega
theorem sAll_lt (a b:Au) (n:Nat):(sAll a b n).Pairwise (fun a b=>edLt a b=true):=by
 unfold sAll
 rw [List.pairwise_flatMap]
 refine ⟨fun k hk=>?_,List.Pairwise.imp (fun h x hx y hy=>?_) List.pairwise_lt_range⟩
 ·unfold sRow
  rw [List.pairwise_flatMap]
  refine ⟨fun l hl=>?_,List.Pairwise.imp (fun h x hx y hy=>?_) List.pairwise_lt_range⟩
  ·rw [List.pairwise_map]
   refine List.Pairwise.imp (fun h=>?_) (prs_lt (m:=b.states) (stp_lt ..) (stp_lt ..) fun j hj=>(stp_mem.1 hj).1)
   rw [edLt_iff];exact .inr ⟨rfl,.inr ⟨rfl,h⟩⟩
  ·obtain ⟨t1,_,rfl⟩:=List.mem_map.1 hx
   obtain ⟨t2,_,rfl⟩:=List.mem_map.1 hy
   rw [edLt_iff];exact .inr ⟨rfl,.inl (Int.ofNat_lt.2 h)⟩
 ·obtain ⟨l1,_,hx⟩:=List.mem_flatMap.1 hx
  obtain ⟨l2,_,hy⟩:=List.mem_flatMap.1 hy
  obtain ⟨t1,_,rfl⟩:=List.mem_map.1 hx
  obtain ⟨t2,_,rfl⟩:=List.mem_map.1 hy
  rw [edLt_iff];exact .inl (Int.ofNat_lt.2 h)
theorem sAll_mem {a b:Au} {n:Nat} (e:Ed):e∈sAll a b n↔∃k l:Nat,k < n∧l < 8∧∃t∈sCell a b k l,e=⟨k,l,t⟩:=by
 simp only [sAll,sRow,List.mem_flatMap,List.mem_map,List.mem_range]
 constructor
 ·rintro ⟨k,hk,l,hl,t,ht,rfl⟩;exact ⟨k,l,hk,hl,t,ht,rfl⟩
 ·rintro ⟨k,l,hk,hl,t,ht,rfl⟩;exact ⟨k,hk,l,hl,t,ht,rfl⟩
theorem ed_nd {es:List Ed} (h:es.Pairwise (fun a b=>edLt a b=true)):es.Pairwise (·≠·):=h.imp fun h e=>by subst e;have:=(edLt_iff _ _).1 h;omega
theorem bE_nd {n m:Int} {us bs:List Ed} (ha:edsOk n us=true) (hb:edsOk m bs=true) (hm:∀f∈bs,edIn m f=true):(bE m us bs).Nodup:=by
 unfold bE List.Nodup
 have inj:∀e e' f f',f∈bs→f'∈bs→mkE m e f=mkE m e' f'→e.src=e'.src∧f.src=f'.src∧e.lt=e'.lt∧e.dst=e'.dst∧f.dst=f'.dst:=by
  intro e e' f f' hf hf' h
  have h1:=hm f hf
  have h2:=hm f' hf'
  simp only [edIn,Bool.and_eq_true,decide_eq_true_eq] at h1 h2
  simp only [mkE,Ed.mk.injEq] at h
  have d1:=lex_div (i:=e.src) h1.1
  have d2:=lex_div (i:=e'.src) h2.1
  have d3:=lex_div (i:=e.dst) h1.2.1
  have d4:=lex_div (i:=e'.dst) h2.2.1
  rw [h.1] at d1
  rw [h.2.2] at d3
  exact ⟨d1.1.symm.trans d2.1,d1.2.symm.trans d2.2,h.2.1,d3.1.symm.trans d4.1,d3.2.symm.trans d4.2⟩
 rw [List.pairwise_flatMap]
 refine ⟨fun e he=>?_,List.Pairwise.imp (fun {a1 a2} h x hx y hy exy=>?_) (ed_nd (edsOk_pw ha))⟩
 ·unfold bRow
  rw [List.pairwise_map]
  have hp:(bs.filter fun f=>decide (e.lt=f.lt)).Pairwise (·≠·):=(ed_nd (edsOk_pw hb)).filter _
  refine List.Pairwise.imp_of_mem (fun {x y} hx hy h e1=>h ?_) hp
  obtain ⟨hx1,hx2⟩:=List.mem_filter.1 hx
  obtain ⟨hy1,hy2⟩:=List.mem_filter.1 hy
  rw [decide_eq_true_eq] at hx2 hy2
  obtain ⟨_,i2,_,_,i5⟩:=inj _ _ _ _ hx1 hy1 e1
  cases x;cases y
  simp only [Ed.mk.injEq] at *
  omega
 ·subst exy
  obtain ⟨f,hf,rfl⟩:=List.mem_map.1 hx
  obtain ⟨f',hf',e1⟩:=List.mem_map.1 hy
  obtain ⟨i1,_,i3,i4,_⟩:=inj _ _ _ _ (List.mem_filter.1 hf').1 (List.mem_filter.1 hf).1 e1
  apply h
  cases a1;cases a2
  simp only [Ed.mk.injEq] at *
  omega
theorem srt_bE {a b:Au} (ha:goodA a=true) (hb:goodA b=true):srtE (bE b.states a.edges b.edges)=sAll a b (a.states*b.states).toNat:=by
 have ga:=good_facts ha
 have gb:=good_facts hb
 simp only [goodA,Bool.and_eq_true] at ha hb
 have ia:=ga.ei
 have ib:=gb.ei
 refine srtE_ext (bE_nd ha.2.2.2.2 hb.2.2.2.2 ib) (sAll_lt ..) fun e=>?_
 rw [sAll_mem]
 simp only [bE,bRow,List.mem_flatMap,List.mem_map,List.mem_filter,decide_eq_true_eq]
 constructor
 ·rintro ⟨x,hx,y,⟨hy,hxy⟩,rfl⟩
  have h1:=ia x hx
  have h2:=ib y hy
  simp only [edIn,Bool.and_eq_true,decide_eq_true_eq] at h1 h2
  have bd:=lex_bd h1.1 h2.1
  have dv:=lex_div (i:=x.src) h2.1
  refine ⟨(x.src*b.states+y.src).toNat,x.lt.toNat,by omega,by omega,x.dst*b.states+y.dst,?_,?_⟩
  ·rw [sCell,prs_mem]
   rw [Int.toNat_of_nonneg bd.1,Int.toNat_of_nonneg h1.2.2.1,dv.1,dv.2]
   exact ⟨x.dst,stp_mem.2 ⟨h1.2.1,x,hx,rfl,rfl,rfl⟩,y.dst,stp_mem.2 ⟨h2.2.1,y,hy,hxy.symm,rfl,rfl⟩,rfl⟩
  ·rw [Int.toNat_of_nonneg bd.1,Int.toNat_of_nonneg h1.2.2.1];rfl
 ·rintro ⟨k,l,hk,hl,t,ht,rfl⟩
  rw [sCell,prs_mem] at ht
  obtain ⟨i,hi,j,hj,rfl⟩:=ht
  obtain ⟨_,x,hx,x1,x2,x3⟩:=stp_mem.1 hi
  obtain ⟨_,y,hy,y1,y2,y3⟩:=stp_mem.1 hj
  refine ⟨x,hx,y,⟨hy,by omega⟩,?_⟩
  simp only [mkE,Ed.mk.injEq]
  refine ⟨?_,x1,by rw [x3,y3]⟩
  rw [x2,y2,Int.mul_comm]
  exact Int.mul_ediv_add_emod _ _
end Go.Proofs.Ytohkciilfkhomaa
