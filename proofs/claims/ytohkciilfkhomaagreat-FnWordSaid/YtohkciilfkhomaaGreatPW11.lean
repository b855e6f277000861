/- Texts laid together: Tv4 LayF Ss3 Ss4 Tp2 Tw1 Tw2 Tw3 Tw4 Tp3. -/
import Derived.Test.YtohkciilfkhomaaGreatPW10
import Derived.Shelf.SlSortCmp.NoneTotal
set_option linter.unusedVariables false
set_option linter.unusedSimpArgs false
open Go.Sep.AV renaming any → Q_
open Nat renaming reduceAdd→ν1,reduceLeDiff→ν2,reduceLT→ν3,reduceMul→ν4,reduceSub→ν5
open Int renaming reduceToNat→ι1,reduceSub→ι2,reduceAdd→ι3,reduceNeg→ι4
open Array renaming toList→ι5
open Ne renaming symm→ν6
open List renaming forall_mem_cons→ν7
namespace Go.Proofs.YtohkciilfkhomaaGreat
open Go Go.Sep Go.Pt
attribute [local irreducible] CallT
theorem lit0W {G:Heap} {K:AV→Heap→Prop} (h:∀q,G q=none→K (.sl q 1 0 0) (G.set q [])):bS_ tab 26 0 [] G (wkK K):=by
 simp only [bS_,tab_26,tab_24]
 refine ⟨by omega,?_⟩
 simp only [fillV,zA_,List.replicate_zero,List.flatten_nil]
 exact fun r hr=>wkK.keep (h r hr)
theorem TakesWord_impl (a:Au) (sa:smAu a) (s l:List Int) (h1:s.length≤1048576) (h2:l.length≤1048576):Pu Tryz.prog 12 [aAu a,aL2 s l] (.tup [B (twR a s l).1,B (twR a s l).2]):=by
 refine Pu.of fun H=>?_
 refine W12_ok ?_;simp (maxSteps:=1000000) (disch:=first | assumption | (apply ν6;assumption)) only [W12,vz,vu,vv,eqS,eF_,↓c1_,↓c2_,tabs,reduceCtorEq,ι5,↓reduceIte,ν1,ν2,ν3,ν4,ν5,ι1,ι2,ι3,ι4,mS_]
 intro r hr r3 n3 hr3
 have st:=((St.nil H).cell hr [I a.states,Is a.first,Es a.edges,Ls a.goals]).cell (r:=r3) (by rw [Heap.set_other n3];exact hr3) [Is s,Is l]
 generalize (H.set r [I a.states,Is a.first,Es a.edges,Ls a.goals]).set r3 [Is s,Is l]=G1 at st ⊢
 clear hr hr3 n3
 (try simp (maxSteps:=1000000) (disch:=first | assumption | (apply ν6;assumption)) only [vz,vu,vv,eqS,eF_,↓c1_,↓c2_,tabs,reduceCtorEq,ι5,↓reduceIte,ν1,ν2,ν3,ν4,ν5,ι1,ι2,ι3,ι4,lA_ (st.get 1 rfl)])
 refine Pu.use (GoodAuto_impl a sa) ?_
 cases ga:goodA a
 ·(try simp (maxSteps:=1000000) (disch:=first | assumption | (apply ν6;assumption)) only [vz,vu,vv,eqS,eF_,↓c1_,↓c2_,tabs,reduceCtorEq,ι5,↓reduceIte,ν1,ν2,ν3,ν4,ν5,ι1,ι2,ι3,ι4])
  first | exact ⟨by simp [twR,ga],st.le⟩ | (simp [twR,ga];exact st.le)
 (try simp (maxSteps:=1000000) (disch:=first | assumption | (apply ν6;assumption)) only [vz,vu,vv,eqS,eF_,↓c1_,↓c2_,tabs,reduceCtorEq,ι5,↓reduceIte,ν1,ν2,ν3,ν4,ν5,ι1,ι2,ι3,ι4,lA_ (st.get 0 rfl)])
 refine Pu.use (GoodLassoI s l (by omega) (by omega)) ?_
 cases gl:goodL s l
 ·(try simp (maxSteps:=1000000) (disch:=first | assumption | (apply ν6;assumption)) only [vz,vu,vv,eqS,eF_,↓c1_,↓c2_,tabs,reduceCtorEq,ι5,↓reduceIte,ν1,ν2,ν3,ν4,ν5,ι1,ι2,ι3,ι4])
  first | exact ⟨by simp [twR,ga,gl],st.le⟩ | (simp [twR,ga,gl];exact st.le)
 obtain ⟨hs,hl⟩:=goodL_f gl
 have fa:=good_facts ga
 have sa:=fa.st
 have hed:=fa.ed
 have hgl:=fa.gl
 have hpr:=wpA_pr ga hs hl
 have e0:IntKind.i64.wrap ((s.length:Int)+(l.length:Int))=((s.length+l.length:Nat):Int):=by rw [i6_ (by omega) (by omega)];simp
 have hm:=mul_bd (a:=((s.length+l.length:Nat):Int)) (A:=48) (b:=a.states) (B:=96) (by omega) (by omega)
 have e1:IntKind.i64.wrap (((s.length+l.length:Nat):Int)*a.states)=((s.length+l.length:Nat):Int)*a.states:=i6_ (by omega) (by omega)
 (try simp (maxSteps:=1000000) (disch:=first | assumption | (apply ν6;assumption)) only [vz,vu,vv,eqS,eF_,↓c1_,↓c2_,tabs,reduceCtorEq,ι5,↓reduceIte,ν1,ν2,ν3,ν4,ν5,ι1,ι2,ι3,ι4,lA_ (st.get 0 rfl),lA_ (st.get 1 rfl),e0,e1])
 refine ⟨by omega,by omega,by omega,by omega,fun q hq=>?_⟩
 replace st:=tab_new (n:=(((s.length+l.length:Nat):Int)*a.states).toNat) st (q:=q) hq
 clear hq
 rw [← outL_nil] at st
 generalize G1.set q (zA_ (((s.length+l.length:Nat):Int)*a.states).toNat [.p .nil])=G3 at st ⊢
 refine lit0W fun q8 hq8=>?_
 replace st:=st.push (rgT 0 (.sl q8 1 0 0) [] [q8]) (New.cell hq8) (.inr ⟨q8,[],[],rfl,Heap.set_same _ _ _,⟨rfl,rfl⟩,rfl⟩)
 generalize G3.set q8 []=G4 at st ⊢
 clear hq8 G3
 have hwE:∀t j,t≤s.length+l.length→(wpE a s l t++wpR a.states s l t (a.edges.take j)).length≤200000:=fun t j ht=>by
  have h1:=wpE_len a s l t
  have h2:=wpR_len a.states s l t (a.edges.take j)
  rw [List.length_take] at h2
  have h3:t*a.edges.length≤48*2400:=Nat.mul_le_mul (by omega) hed
  rw [List.length_append];omega
 have hT0:outL (((s.length+l.length:Nat):Int)*a.states).toNat (wpE a s l (s.length+l.length))=outR (wpA a s l) (wpA a s l).edges.length:=by
  rw [outL,outR]
  show _=(List.range (((s.length+l.length:Nat):Int)*a.states).toNat).map (outN (wpA a s l) (wpA a s l).edges.length)
  congr 1
  funext t
  rw [outN,List.take_length];rfl
 have hN:∀t:Nat,t < s.length+l.length→∀x:Int,0≤x∧x < a.states→0≤(t:Int)*a.states+x∧(t:Int)*a.states+x < ((s.length+l.length:Nat):Int)*a.states:=fun t ht x hx=>lex_bd (by omega) hx
 obtain ⟨N,hNe⟩:∃N,(((s.length+l.length:Nat):Int)*a.states).toNat=N:=⟨_,rfl⟩
 rw [hNe] at st hT0 ⊢
 have hNi:(N:Int)=((s.length+l.length:Nat):Int)*a.states:=by omega
 refine L12_0_rule ((0:Nat),[q],G4) (fun z=>I z.1) (fun z=>z.2.2)
  (fun z=>z.1≤s.length+l.length∧St H [rgT 0 (.sl q8 1 0 0) [] [q8],tabT q (outL N (wpE a s l z.1)) z.2.1,cT_ r3 [Is s,Is l],cT_ r [I a.states,Is a.first,Es a.edges,Ls a.goals]] z.2.2) (fun z=>s.length+l.length - z.1)
  ⟨⟨by simp,by simpa [wpE] using st⟩,.refl _,Heap.le_refl _⟩ ?_
 clear st G4
 rintro ⟨t,D,G⟩ ⟨ht,st⟩
 dsimp only at ht st
 have e5:IntKind.i64.wrap ((t:Int)+1)=((t+1:Nat):Int):=by rw [i6_ (by omega) (by omega)];simp
 (try simp (maxSteps:=1000000) (disch:=first | assumption | (apply ν6;assumption)) only [vz,vu,vv,eqS,eF_,↓c1_,↓c2_,tabs,reduceCtorEq,ι5,↓reduceIte,ν1,ν2,ν3,ν4,ν5,ι1,ι2,ι3,ι4,B12_0,e5])
 refine ⟨fun h1=>?_,fun h1=>?_⟩
 ·have hlt:t < s.length+l.length:=by omega
  have hnx:=nxW_lt (s:=s) hl.1 hlt
  (try simp (maxSteps:=1000000) (disch:=first | assumption | (apply ν6;assumption)) only [vz,vu,vv,eqS,eF_,↓c1_,↓c2_,tabs,reduceCtorEq,ι5,↓reduceIte,ν1,ν2,ν3,ν4,ν5,ι1,ι2,ι3,ι4,lA_ (st.get 3 rfl)])
  refine L12_1_rule ((0:Nat),D,G) (fun z=>I z.1) (fun z=>z.2.2)
   (fun z=>z.1≤a.edges.length∧St H [rgT 0 (.sl q8 1 0 0) [] [q8],tabT q (outL N (wpE a s l t++wpR a.states s l t (a.edges.take z.1))) z.2.1,cT_ r3 [Is s,Is l],cT_ r [I a.states,Is a.first,Es a.edges,Ls a.goals]] z.2.2) (fun z=>a.edges.length - z.1)
   ⟨⟨by simp,by simpa [wpR] using st⟩,.refl _,Heap.le_refl _⟩ ?_
  clear st D G
  rintro ⟨j,D,G⟩ ⟨hj,st⟩
  dsimp only at hj st
  have e6:IntKind.i64.wrap ((j:Int)+1)=((j+1:Nat):Int):=by rw [i6_ (by omega) (by omega)];simp
  (try simp (maxSteps:=1000000) (disch:=first | assumption | (apply ν6;assumption)) only [vz,vu,vv,eqS,eF_,↓c1_,↓c2_,tabs,reduceCtorEq,ι5,↓reduceIte,ν1,ν2,ν3,ν4,ν5,ι1,ι2,ι3,ι4,B12_1,e6])
  refine ⟨fun h2=>⟨by omega,h2,?_⟩,fun h2=>?_⟩
  ·have hltj:j < a.edges.length:=by omega
   have hdi:=edIn_iff.1 (fa.ei _ (getD_all (p:=fun x=>x∈a.edges) (d:=default) (fun _ h=>h) hltj))
   have hs2:=wpR_succ a.states s l t a.edges hltj
   have hbj:=hwE t j ht
   generalize a.edges.getD j default=d at hdi hs2 ⊢
   intro r12 hr12
   replace st:=st.cell hr12 [I d.src,I d.lt,I d.dst]
   generalize G.set r12 [I d.src,I d.lt,I d.dst]=G5 at st ⊢
   clear hr12
   (try simp (maxSteps:=1000000) (disch:=first | assumption | (apply ν6;assumption)) only [vz,vu,vv,eqS,eF_,↓c1_,↓c2_,tabs,reduceCtorEq,ι5,↓reduceIte,ν1,ν2,ν3,ν4,ν5,ι1,ι2,ι3,ι4,lA_ (st.get 0 rfl),lA_ (st.get 3 rfl)])
   refine Pu.use (letterAt_spec s l hs hl hlt) ?_
   (try simp (maxSteps:=1000000) (disch:=first | assumption | (apply ν6;assumption)) only [vz,vu,vv,eqS,eF_,↓c1_,↓c2_,tabs,reduceCtorEq,ι5,↓reduceIte,ν1,ν2,ν3,ν4,ν5,ι1,ι2,ι3,ι4,lA_ (st.get 0 rfl),lA_ (st.get 3 rfl),lA_ (st.get 4 rfl),e6])
   refine ⟨fun h3=>?_,fun h3=>?_⟩
   ·rw [if_pos h3] at hs2
    have x1:=hN t hlt d.src (by omega)
    have x2:=hN (nxW s l t) hnx d.dst (by omega)
    have y1:0≤(t:Int)*a.states:=Int.mul_nonneg (by omega) (by omega)
    have y2:0≤((nxW s l t:Nat):Int)*a.states:=Int.mul_nonneg (by omega) (by omega)
    have w1:IntKind.i64.wrap ((t:Int)*a.states)=(t:Int)*a.states:=i6_ (by omega) (by omega)
    have w2:IntKind.i64.wrap ((t:Int)*a.states+d.src)=(t:Int)*a.states+d.src:=i6_ (by omega) (by omega)
    have w3:IntKind.i64.wrap (((nxW s l t:Nat):Int)*a.states)=((nxW s l t:Nat):Int)*a.states:=i6_ (by omega) (by omega)
    obtain ⟨xd,hxd⟩:∃xd,((nxW s l t:Nat):Int)*a.states+d.dst=xd:=⟨_,rfl⟩
    have w4:IntKind.i64.wrap (((nxW s l t:Nat):Int)*a.states+d.dst)=xd:=by rw [← hxd];exact i6_ (by omega) (by omega)
    obtain ⟨w,hw⟩:∃w:Nat,(t:Int)*a.states+d.src=(w:Int):=⟨((t:Int)*a.states+d.src).toNat,by omega⟩
    have hwN:w < N:=by omega
    have hpush:=outL_push N (wpE a s l t++wpR a.states s l t (a.edges.take j)) (wpS a.states s l t d) (w:=w) hw hwN
    rw [List.append_assoc,← hs2] at hpush
    have hrl:=outL_row N (wpE a s l t++wpR a.states s l t (a.edges.take j)) w hwN
    have htl:=outL_len N (wpE a s l t++wpR a.states s l t (a.edges.take j))
    have hdst:(wpS a.states s l t d).dst=((nxW s l t:Nat):Int)*a.states+d.dst:=rfl
    rw [hdst,hxd] at hpush
    rw [hw] at w2
    obtain ⟨pre,c,post,Di,Dr,hpl,hpp,st⟩:=tab_take st 2 rfl (i:=w) (by omega)
    rw [htl] at hpp
    simp only [List.eraseIdx_cons_succ,List.eraseIdx_cons_zero] at st
    generalize outL N (wpE a s l t++wpR a.states s l t (a.edges.take j))=rows at st hpush hrl htl
    generalize hr0:rows.getD w default=row at st hpush hrl
    have hG:=(st.get 1 rfl:(holeT q pre c post _ _ Dr).P G5).1
    have hrd:=tab_rd (c:=c) (post:=post) hpl
    have hb:w*1+1≤pre.length+(post.length+1):=by omega
    have hsp:∀c',List.take (w*1) (pre++(c::post))++[c']++List.drop (w*1+1) (pre++(c::post))=pre++(c'::post):=fun c'=>tab_sp hpl
    (try simp (maxSteps:=1000000) (disch:=first | assumption | (apply ν6;assumption)) only [vz,vu,vv,eqS,eF_,↓c1_,↓c2_,tabs,reduceCtorEq,ι5,↓reduceIte,ν1,ν2,ν3,ν4,ν5,ι1,ι2,ι3,ι4,lA_ (st.get 2 rfl),lA_ (st.get 4 rfl),lA_ (st.get 5 rfl),w1,w2,w3,w4,hw,lA_ hG,hrd,Int.toNat_natCast])
    refine ⟨by omega,by omega,?_⟩
    first | refine ⟨hb,?_⟩ | skip
    refine Pu.use (nextPlace_spec s l hs hl hlt) ?_
    (try simp (maxSteps:=1000000) (disch:=first | assumption | (apply ν6;assumption)) only [vz,vu,vv,eqS,eF_,↓c1_,↓c2_,tabs,reduceCtorEq,ι5,↓reduceIte,ν1,ν2,ν3,ν4,ν5,ι1,ι2,ι3,ι4,lA_ (st.get 2 rfl),lA_ (st.get 4 rfl),lA_ (st.get 5 rfl),w1,w2,w3,w4,hw,lA_ hG,hrd,Int.toNat_natCast])
    refine ⟨hb,?_⟩
    refine lit1 tab_24 rfl tab_3 ⟨rfl,rfl⟩ ?_
    (try simp (maxSteps:=1000000) (disch:=first | assumption | (apply ν6;assumption)) only [vz,vu,vv,eqS,eF_,↓c1_,↓c2_,tabs,reduceCtorEq,ι5,↓reduceIte,ν1,ν2,ν3,ν4,ν5,ι1,ι2,ι3,ι4,lA_ (st.get 2 rfl),lA_ (st.get 4 rfl),lA_ (st.get 5 rfl),lA_ hG,hrd])
    refine ⟨hb,?_⟩
    refine rn_appI (ys:=[xd]) st 0 rfl (by simp only [List.length_cons,List.length_nil];omega) fun q' G' hq' st=>?_
    simp only [List.set_cons_zero] at st
    have hG:=(st.get 1 rfl:(holeT q pre c post _ _ Dr).P G').1
    (try simp (maxSteps:=1000000) (disch:=first | assumption | (apply ν6;assumption)) only [vz,vu,vv,eqS,eF_,↓c1_,↓c2_,tabs,reduceCtorEq,ι5,↓reduceIte,ν1,ν2,ν3,ν4,ν5,ι1,ι2,ι3,ι4,lA_ (st.get 2 rfl),lA_ (st.get 4 rfl),lA_ (st.get 5 rfl),sA_ hG])
    refine ⟨by omega,by omega,hb,?_⟩
    obtain ⟨D',st⟩:=tab_put st (by omega)
    rw [← hpush] at st
    rw [hsp]
    simp only [rowP,List.length_append,List.length_singleton] at st
    exact ⟨(j+1,D',_),⟨by simp only;omega,(st.erase 1).perm (List.Perm.swap _ _ _)⟩,by simp only;omega,.refl _,Heap.le_refl _⟩
   ·rw [if_neg h3] at hs2
    exact ⟨(j+1,D,_),⟨by simp only;omega,by rw [hs2];exact st.drop⟩,by simp only;omega,.refl _,Heap.le_refl _⟩
  ·have:j=a.edges.length:=by omega
   subst this
   rw [List.take_length,← wpE_succ] at st
   (try simp (maxSteps:=1000000) (disch:=first | assumption | (apply ν6;assumption)) only [vz,vu,vv,eqS,eF_,↓c1_,↓c2_,tabs,reduceCtorEq,ι5,↓reduceIte,ν1,ν2,ν3,ν4,ν5,ι1,ι2,ι3,ι4,e5])
   exact ⟨(t+1,D,G),⟨by simp only;omega,st⟩,by simp only;omega,.refl _,Heap.le_refl _⟩
 ·have:t=s.length+l.length:=by omega
  subst this
  rw [hT0] at st
  obtain ⟨T,hT⟩:∃T,s.length+l.length=T:=⟨_,rfl⟩
  have hgo:=goalsT a s l
  rw [hT] at hgo ⊢
  have hTb:T≤48:=by omega
  (try simp (maxSteps:=1000000) (disch:=first | assumption | (apply ν6;assumption)) only [vz,vu,vv,eqS,eF_,↓c1_,↓c2_,tabs,reduceCtorEq,ι5,↓reduceIte,ν1,ν2,ν3,ν4,ν5,ι1,ι2,ι3,ι4,lA_ (st.get 3 rfl)])
  refine L12_2_rule ((0:Nat),(.sl q8 1 0 0:AV),[q8],G) (fun z=>z.2.1) (fun z=>I z.1) (fun z=>z.2.2.2)
   (fun z=>z.1≤a.goals.length∧St H [rgT 0 z.2.1 (wpG a T z.1) z.2.2.1,tabT q (outR (wpA a s l) (wpA a s l).edges.length) D,cT_ r3 [Is s,Is l],cT_ r [I a.states,Is a.first,Es a.edges,Ls a.goals]] z.2.2.2) (fun z=>a.goals.length - z.1)
   ⟨⟨by simp,by simpa [wpG] using st⟩,.refl _,.refl _,Heap.le_refl _⟩ ?_
  clear st G e5
  rintro ⟨k,x,Dz,G⟩ ⟨hk,st⟩
  dsimp only at hk st
  have e5:IntKind.i64.wrap ((k:Int)+1)=((k+1:Nat):Int):=by rw [i6_ (by omega) (by omega)];simp
  have hwl:=wpG_len a T k
  (try simp (maxSteps:=1000000) (disch:=first | assumption | (apply ν6;assumption)) only [vz,vu,vv,eqS,eF_,↓c1_,↓c2_,tabs,reduceCtorEq,ι5,↓reduceIte,ν1,ν2,ν3,ν4,ν5,ι1,ι2,ι3,ι4,B12_2,e5])
  refine ⟨fun h2=>⟨by omega,h2,?_⟩,fun h2=>?_⟩
  ·have hltk:k < a.goals.length:=by omega
   have hgk:=getD_all (p:=fun x=>smI x∧x.length≤96) (d:=default) fa.gi hltk
   have hsucc:=wpG_succ a T hltk
   generalize a.goals.getD k default=gk at hgk hsucc ⊢
   refine lit0I fun q0 hq0=>?_
   replace st:=st.cell hq0 (cP fI [])
   generalize G.set q0 (cP fI [])=G1 at st ⊢
   clear hq0
   refine L12_3_rule ((0:Nat),q0,G1) (fun z=>rowP z.2.1 (prs (below z.1) gk a.states)) (fun z=>I z.1) (fun z=>z.2.2)
    (fun z=>z.1≤T∧St H [cT_ z.2.1 (cP fI (prs (below z.1) gk a.states)),rgT 0 x (wpG a T k) Dz,tabT q (outR (wpA a s l) (wpA a s l).edges.length) D,cT_ r3 [Is s,Is l],cT_ r [I a.states,Is a.first,Es a.edges,Ls a.goals]] z.2.2) (fun z=>T - z.1)
    ⟨⟨by simp,by simpa [below,prs] using st⟩,by simp [below,prs];exact .refl _,.refl _,Heap.le_refl _⟩ ?_
   clear st
   rintro ⟨i,q1,G⟩ ⟨hi,st⟩
   dsimp only at hi st
   have hpl:=prs_len (below i) gk a.states
   rw [below_len] at hpl
   have hml:i*gk.length≤48*96:=Nat.mul_le_mul (by omega) hgk.2
   (try simp (maxSteps:=1000000) (disch:=first | assumption | (apply ν6;assumption)) only [vz,vu,vv,eqS,eF_,↓c1_,↓c2_,tabs,reduceCtorEq,ι5,↓reduceIte,ν1,ν2,ν3,ν4,ν5,ι1,ι2,ι3,ι4,B12_3])
   refine ⟨fun h3=>?_,fun h3=>?_⟩
   ·have hlti:i < T:=by omega
    have hps:prs (below (i+1)) gk a.states=prs (below i) gk a.states++gk.map fun j=>(i:Int)*a.states+j:=by
     have:=prs_succ (below (i+1)) gk a.states (i:=i) (by rw [below_len];omega)
     rw [below_takeW _ (Nat.le_succ i),below_getW (Nat.lt_succ_self i)] at this
     rw [← this,List.take_of_length_le (by rw [below_len];omega)]
    refine L12_4_rule ((0:Nat),q1,G) (fun z=>rowP z.2.1 (prs (below i) gk a.states++(gk.take z.1).map fun j=>(i:Int)*a.states+j)) (fun z=>I z.1) (fun z=>z.2.2)
     (fun z=>z.1≤gk.length∧St H [cT_ z.2.1 (cP fI (prs (below i) gk a.states++(gk.take z.1).map fun j=>(i:Int)*a.states+j)),rgT 0 x (wpG a T k) Dz,tabT q (outR (wpA a s l) (wpA a s l).edges.length) D,cT_ r3 [Is s,Is l],cT_ r [I a.states,Is a.first,Es a.edges,Ls a.goals]] z.2.2) (fun z=>gk.length - z.1)
     ⟨⟨by simp,by simpa using st⟩,by simp;exact .refl _,.refl _,Heap.le_refl _⟩ ?_
    clear st
    rintro ⟨j,q1,G⟩ ⟨hj,st⟩
    dsimp only at hj st
    (try simp (maxSteps:=1000000) (disch:=first | assumption | (apply ν6;assumption)) only [vz,vu,vv,eqS,eF_,↓c1_,↓c2_,tabs,reduceCtorEq,ι5,↓reduceIte,ν1,ν2,ν3,ν4,ν5,ι1,ι2,ι3,ι4,B12_4,lA_ (st.get 4 rfl)])
    refine ⟨fun h4=>⟨by omega,h4,?_⟩,fun h4=>?_⟩
    ·have hltj:j < gk.length:=by omega
     have hx:=getD_all (p:=fun x=>0≤x∧x≤100000) (d:=default) hgk.1.2 hltj
     have ht:(gk.take (j+1)).map (fun j=>(i:Int)*a.states+j)=(gk.take j).map (fun j=>(i:Int)*a.states+j)++[(i:Int)*a.states+gk.getD j default]:=by
      rw [tS_ hltj,List.map_append];rfl
     have hlt:((gk.take j).map fun j=>(i:Int)*a.states+j).length≤96:=by rw [List.length_map,List.length_take];omega
     generalize gk.getD j default=e at hx ht ⊢
     have m1:=mul_bd (a:=i) (A:=48) (b:=a.states) (B:=96) (by omega) (by omega)
     have e1:IntKind.i64.wrap ((i:Int)*a.states)=(i:Int)*a.states:=i6_ (by omega) (by omega)
     have e2:IntKind.i64.wrap ((i:Int)*a.states+e)=(i:Int)*a.states+e:=i6_ (by omega) (by omega)
     have e3:IntKind.i64.wrap ((j:Int)+1)=((j+1:Nat):Int):=by rw [i6_ (by omega) (by omega)];simp
     (try simp (maxSteps:=1000000) (disch:=first | assumption | (apply ν6;assumption)) only [vz,vu,vv,eqS,eF_,↓c1_,↓c2_,tabs,reduceCtorEq,ι5,↓reduceIte,ν1,ν2,ν3,ν4,ν5,ι1,ι2,ι3,ι4,e1,e2,e3])
     refine lit1 tab_24 rfl tab_3 ⟨rfl,rfl⟩ ?_
     refine st_appI (ys:=[(i:Int)*a.states+e]) st 0 rfl (by rw [List.length_append];simp only [List.length_singleton];omega) fun q' G' hq' st=>?_
     rw [List.append_assoc,← ht] at st ⊢
     exact ⟨(j+1,q',G'),⟨by simp only;omega,st⟩,by simp only;omega,.refl _,.refl _,Heap.le_refl _⟩
    ·have:j=gk.length:=by omega
     subst this
     rw [List.take_length,← hps] at st ⊢
     have e3:IntKind.i64.wrap ((i:Int)+1)=((i+1:Nat):Int):=by rw [i6_ (by omega) (by omega)];simp
     (try simp (maxSteps:=1000000) (disch:=first | assumption | (apply ν6;assumption)) only [vz,vu,vv,eqS,eF_,↓c1_,↓c2_,tabs,reduceCtorEq,ι5,↓reduceIte,ν1,ν2,ν3,ν4,ν5,ι1,ι2,ι3,ι4,e3])
     exact ⟨(i+1,q1,G),⟨by simp only;omega,st⟩,by simp only;omega,.refl _,.refl _,Heap.le_refl _⟩
   ·have:i=T:=by omega
    subst this
    (try simp (maxSteps:=1000000) (disch:=first | assumption | (apply ν6;assumption)) only [vz,vu,vv,eqS,eF_,↓c1_,↓c2_,tabs,reduceCtorEq,ι5,↓reduceIte,ν1,ν2,ν3,ν4,ν5,ι1,ι2,ι3,ι4,e5])
    refine lit_live1 fun ql hql=>?_
    replace st:=st.cell hql [rowP q1 (prs (below i) gk a.states)]
    generalize G.set ql [.sl q1 1 0 (prs (below i) gk a.states).length]=G4 at st ⊢
    (try simp (maxSteps:=1000000) (disch:=first | assumption | (apply ν6;assumption)) only [vz,vu,vv,eqS,eF_,↓c1_,↓c2_,tabs,reduceCtorEq,ι5,↓reduceIte,ν1,ν2,ν3,ν4,ν5,ι1,ι2,ι3,ι4])
    refine rz_pushL st 0 rfl (by omega) fun q' D' G5 hq' st=>?_
    rw [← hsucc] at st
    (try simp (maxSteps:=1000000) (disch:=first | assumption | (apply ν6;assumption)) only [vz,vu,vv,eqS,eF_,↓c1_,↓c2_,tabs,reduceCtorEq,ι5,↓reduceIte,ν1,ν2,ν3,ν4,ν5,ι1,ι2,ι3,ι4,e5])
    exact ⟨(k+1,_,D',_),⟨by simp only;omega,st⟩,by simp only;omega,.refl _,.refl _,Heap.le_refl _⟩
  ·have:k=a.goals.length:=by omega
   subst this
   rw [← hgo] at st
   have hme:=meeting_O hpr
   have hfst:(wpA a s l).first=a.first:=rfl
   have htl:(outR (wpA a s l) (wpA a s l).edges.length).length=N:=by rw [outR_len];exact hNe
   have htw:twR a s l=(decide (0≤meetF (rwF (gO (wpA a s l))) (gO (wpA a s l)).length (nN (wpA a s l).first) (goN (wpA a s l).goals)),true):=by rw [twR,ga,gl];rfl
   rw [htw]
   generalize meetF (rwF (gO (wpA a s l))) (gO (wpA a s l)).length (nN (wpA a s l).first) (goN (wpA a s l).goals)=mm at hme ⊢
   rw [hfst] at hme
   generalize outR (wpA a s l) (wpA a s l).edges.length=T0 at st hme htl
   generalize (wpA a s l).goals=gs at st hme
   (try simp (maxSteps:=1000000) (disch:=first | assumption | (apply ν6;assumption)) only [vz,vu,vv,eqS,eF_,↓c1_,↓c2_,tabs,reduceCtorEq,ι5,↓reduceIte,ν1,ν2,ν3,ν4,ν5,ι1,ι2,ι3,ι4,lA_ (st.get 3 rfl)])
   obtain ⟨Gw,hwk,hfr⟩:∃G',Wk (.tup [.sl q 1 0 T0.length,Is a.first,x]) G (.tup [Ls T0,Is a.first,Ls gs]) G'∧∀y,y∉D→y∉Dz→G' y=G y:=by
    obtain ⟨G1,w1,f1⟩:=LRow.frzV (e:=eL) (sz:=1) (v:=.tup [.sl q 1 0 T0.length,Is a.first,x]) (v':=.tup [Ls T0,Is a.first,x]) (by omega) (fun _=>rfl) LIn.local LIn.frz (st.get 1 rfl) (st.ndT 1 rfl) (fun q _ hr=>.tup (.cons hr (.cons (.same _) (.cons (.same _) .nil))))
    obtain ⟨x',hx,lx⟩:=(st.get 0 rfl:RZ LIc 1 0 x _ G Dz).row
    have lx1:=LRow.local LIc.local lx (G':=G1) fun y hy bb hb=>by rw [f1 y (fun hm=>st.disjI 1 0 rfl rfl (by decide) y hm hy)];exact hb
    obtain ⟨G2,w2,f2⟩:=LRow.frzV (e:=eL) (sz:=1) (v:=.tup [Ls T0,Is a.first,x']) (v':=.tup [Ls T0,Is a.first,Ls gs]) (by omega) (fun _=>rfl) LIc.local LIc.frz lx1 (st.ndT 0 rfl) (fun q _ hr=>.tup (.cons (.same _) (.cons (.same _) (.cons hr .nil))))
    exact ⟨G2,.trans w1 (.trans (.val (v':=.tup [Ls T0,Is a.first,x']) (wk_tup ⟨.refl _,.refl _,hx,trivial⟩)) w2),fun y h1 h2=>by rw [f2 y h2,f1 y h1]⟩
   have hle:Heap.le H Gw:=fun v bb hb=>by
    rw [hfr v (st.wkNone v bb hb _ (List.mem_of_getElem? (i:=1) rfl)) (st.wkNone v bb hb _ (List.mem_of_getElem? (i:=0) rfl))];exact st.le v bb hb
   rw [htl] at hwk
   refine CallT.pre (Pu.use hme ?_) hwk
   (try simp (maxSteps:=1000000) (disch:=first | assumption | (apply ν6;assumption)) only [vz,vu,vv,eqS,eF_,↓c1_,↓c2_,tabs,reduceCtorEq,ι5,↓reduceIte,ν1,ν2,ν3,ν4,ν5,ι1,ι2,ι3,ι4])
   first | exact ⟨rfl,hle⟩ | exact hle
end Go.Proofs.YtohkciilfkhomaaGreat
namespace Go.Sep
open Go Go.RowKit Go.Sort Go.Proofs Go.Pt
theorem CallT.quiet {P:Program} {f:Nat} {args:List AV} {v:AV} (h:CallT P f args (fun _=>none) (fun r _=>r=v)) {xs:Array Value} (ha:∀Z φ,ArgsRel Z φ args xs) {x:Value} (hx:∀Z φ y,Cv Z φ v y→y=x) (w:World) :
  Calls P f xs w fun e w'=>e=.returned x∧∃q os',w'=Go.Sort.grow (w.drewN q) os':=by
 have hor:Heap.or (fun _=>none) (fun _=>none)=(fun _=>none:Heap):=by funext x;rfl
 have sim:Sim (fun _ _=>none) (fun _=>none) w.heap.size w (Heap.or (fun _=>none) (fun _=>none)) w:=by
  rw [hor]
  exact ⟨Nat.le_refl _,Bel.refl _ _,⟨0,fun _ _=>rfl⟩,fun r blk h=>(by simp at h),fun r r' pl pl' h=>absurd rfl h,fun b i v h=>(by cases h),fun b i v _ r pl h=>absurd rfl h⟩
 refine (h.2 w.heap.size w (fun _=>none) (fun _ _=>none) (fun _=>none) w xs (fun r h=>absurd rfl h) sim (ha _ _)).mono ?_
 rintro e w' ⟨y,rfl,v',H1,Z1,φ1,rfl,_,_,_,s1,hc⟩
 refine ⟨by rw [hx _ _ _ hc],w'.drawn - w.drawn,w'.heap.extract w.heap.size w'.heap.size,?_⟩
 obtain ⟨⟨h1,h2,h3,h4,h5⟩,h6⟩:=s1.below
 unfold DrawnLe at h6
 have hh:w'.heap=w.heap++w'.heap.extract w.heap.size w'.heap.size:=by
  apply Array.ext_getElem?
  intro k
  by_cases hk:k < w.heap.size
  ·rw [Array.getElem?_append_left hk];exact h5 k hk
  ·rw [Array.getElem?_append_right (by omega),Array.getElem?_extract]
   by_cases hk2:k < w'.heap.size
   ·rw [if_pos (by omega)];congr 1;omega
   ·rw [if_neg (by omega)];exact Array.getElem?_eq_none (by omega)
 cases w';cases w
 simp only [Go.Sort.grow,World.drewN] at *
 subst h1;subst h2;subst h3
 rw [← hh]
 congr 1
 omega
end Go.Sep
namespace Go.Proofs.YtohkciilfkhomaaGreat
open Go Go.Sep Go.Pt Go.RowKit Go.Sort
attribute [local irreducible] CallT
theorem edLt_iff (x y:Ed):edLt x y=true↔(x.src < y.src∨x.src=y.src∧(x.lt < y.lt∨x.lt=y.lt∧x.dst < y.dst)):=by
 unfold edLt
 split
 ·split
  ·simp;omega
  ·simp;omega
 ·simp;omega
end Go.Proofs.YtohkciilfkhomaaGreat
namespace Go.Proofs.YtohkciilfkhomaaGreat
open Go Go.Sep Go.Pt
attribute [local irreducible] CallT
theorem edsOk_pw {n:Int} {es:List Ed} (h:edsOk n es=true):es.Pairwise (fun a b=>edLt a b=true):=by
 unfold edsOk at h
 rw [List.all_eq_true] at h
 have key:∀d i,i+d+1 < es.length→edLt (es.getD i default) (es.getD (i+d+1) default)=true:=by
  intro d
  induction d with
  | zero=>
   intro i hi
   have h1:=h (i+1) (List.mem_range.2 (by omega))
   unfold edAt at h1
   rw [Bool.and_eq_true,Bool.or_eq_true,decide_eq_true_eq] at h1
   rcases h1.2 with h2 | h2
   ·omega
   ·exact h2
  | succ d ih=>
   intro i hi
   have h1:=ih i (by omega)
   have h2:=h (i+(d+1)+1) (List.mem_range.2 hi)
   unfold edAt at h2
   rw [Bool.and_eq_true,Bool.or_eq_true,decide_eq_true_eq] at h2
   rcases h2.2 with h3 | h3
   ·omega
   ·rw [show i+(d+1)+1 - 1=i+d+1 by omega] at h3
    rw [edLt_iff] at *
    omega
 rw [List.pairwise_iff_getElem]
 intro i j hi hj hij
 have:=key (j - i - 1) i (by omega)
 rw [show i+(j - i - 1)+1=j by omega,getD_lt hi,getD_lt hj] at this
 exact this
end Go.Proofs.YtohkciilfkhomaaGreat
namespace Go.Proofs.YtohkciilfkhomaaGreat
open Go Go.Sep Go.Pt
attribute [local irreducible] CallT
def ltP (u w:Int) (e:Ed):Bool:=decide (e.src=u) && decide (e.dst=w)
def ltF (a:Au) (u w:Int):Int:=((a.edges.find? (ltP u w)).map Ed.lt).getD 0
theorem find_at {α:Type} {xs:List α} {p:α→Bool} {i:Nat} (hi:i < xs.length) (h1:p xs[i]=true) (h2:∀j (hj:j < xs.length),j < i→p xs[j]=false):xs.find? p=some xs[i]:=by
 rw [List.find?_eq_some_iff_getElem]
 exact ⟨h1,i,hi,rfl,fun j hj=>by rw [h2 j (by omega) hj];rfl⟩
theorem find_no {α:Type} {xs:List α} {p:α→Bool} (h2:∀j (hj:j < xs.length),p xs[j]=false):xs.find? p=none:=by
 rw [List.find?_eq_none]
 intro x hx
 obtain ⟨j,hj,rfl⟩:=List.mem_iff_getElem.1 hx
 rw [h2 j hj];simp
theorem l12Letter_spec (a:Au) (hl:a.edges.length≤1000000) (u w:Int):Pu Tryz.prog 39 [aAu a,I u,I w] (I (ltF a u w)):=by
 refine Pu.of fun H=>?_
 refine W39_ok ?_;simp (maxSteps:=1000000) (disch:=first | assumption | (apply ν6;assumption)) only [W39,vz,vu,vv,eqS,eF_,↓c1_,↓c2_,tabs,reduceCtorEq,ι5,↓reduceIte,ν1,ν2,ν3,ν4,ν5,ι1,ι2,ι3,ι4]
 intro r hr
 have hle:=Heap.le_set (b:=[I a.states,Is a.first,Es a.edges,Ls a.goals]) hr
 (try simp (maxSteps:=1000000) (disch:=first | assumption | (apply ν6;assumption)) only [vz,vu,vv,eqS,eF_,↓c1_,↓c2_,tabs,reduceCtorEq,ι5,↓reduceIte,ν1,ν2,ν3,ν4,ν5,ι1,ι2,ι3,ι4])
 generalize H.set r [I a.states,Is a.first,Es a.edges,Ls a.goals]=G at hle ⊢
 refine L39_0_rule (0:Nat) (fun i=>I i) (fun _=>G) (fun i=>i≤a.edges.length∧∀j (hj:j < a.edges.length),j < i→ltP u w a.edges[j]=false) (fun i=>a.edges.length - i) ⟨⟨by omega,by intros;omega⟩,.refl _,Heap.le_refl _⟩ ?_
 rintro i ⟨hi,ha⟩
 (try simp (maxSteps:=1000000) (disch:=first | assumption | (apply ν6;assumption)) only [vz,vu,vv,eqS,eF_,↓c1_,↓c2_,tabs,reduceCtorEq,ι5,↓reduceIte,ν1,ν2,ν3,ν4,ν5,ι1,ι2,ι3,ι4,B39_0])
 refine ⟨fun h=>?_,fun h=>?_⟩
 ·have hlt:i < a.edges.length:=by omega
  have hm:(a.edges.getD i default)=a.edges[i]:=getD_lt hlt
  rw [hm]
  have nx:ltP u w a.edges[i]=false→∀j (hj:j < a.edges.length),j < i+1→ltP u w a.edges[j]=false:=fun h1 j hj hji=>by
   rcases Nat.lt_succ_iff_lt_or_eq.1 hji with h2 | rfl
   ·exact ha j hj h2
   ·exact h1
  refine ⟨by omega,by omega,?_⟩
  intro r2 hr2
  have hle2:=Heap.le_trans hle (Heap.le_set (b:=[I a.edges[i].src,I a.edges[i].lt,I a.edges[i].dst]) hr2)
  have hle3:=Heap.le_set (b:=[I a.edges[i].src,I a.edges[i].lt,I a.edges[i].dst]) hr2
  (try simp (maxSteps:=1000000) (disch:=first | assumption | (apply ν6;assumption)) only [vz,vu,vv,eqS,eF_,↓c1_,↓c2_,tabs,reduceCtorEq,ι5,↓reduceIte,ν1,ν2,ν3,ν4,ν5,ι1,ι2,ι3,ι4])
  have hx:IntKind.i64.wrap ((i:Int)+1)=((i+1:Nat):Int):=by rw [i6_ (by omega) (by omega)];simp
  refine ⟨fun h1=>⟨fun h2=>⟨?_,hle2⟩,fun h2=>⟨i+1,⟨by omega,nx (by simp [ltP,h2])⟩,by omega,by rw [hx];exact .refl _,hle3⟩⟩,fun h1=>⟨i+1,⟨by omega,nx (by simp [ltP,h1])⟩,by omega,by rw [hx];exact .refl _,hle3⟩⟩
  rw [ltF,find_at hlt (by simp [ltP,h1,h2]) ha]
  rfl
 ·have e:i=a.edges.length:=by omega
  subst e
  refine ⟨?_,hle⟩
  rw [ltF,find_no fun j hj=>ha j hj hj]
  rfl
theorem IndexFuncE_at (xs:List Ed) (g:Nat) (caps:List AV) (p:Ed→Bool) {H:Heap} (hl:xs.length≤1000000000) (hp:∀x∈xs,PuAt Tryz.prog g (aE x::caps) H (B (p x))) :
  PuAt Tryz.prog 85 [Es xs,.fn g caps] H (I (if xs.any p then (xs.findIdx p:Int) else -1)):=by
 intro K hK
 refine CallT.fin ?_
 refine W85_ok ?_;simp (maxSteps:=1000000) (disch:=first | assumption | (apply ν6;assumption)) only [W85,vz,vu,vv,eqS,eF_,↓c1_,↓c2_,tabs,reduceCtorEq,ι5,↓reduceIte,ν1,ν2,ν3,ν4,ν5,ι1,ι2,ι3,ι4]
 refine L85_0_rule (0:Nat) (fun i=>I i) (fun _=>H) (fun i=>i≤xs.length∧∀j (hj:j < xs.length),j < i→p xs[j]=false) (fun i=>xs.length - i) ⟨⟨by omega,by intros;omega⟩,.refl _,Heap.le_refl _⟩ ?_
 rintro i ⟨hi1,ha⟩
 (try simp (maxSteps:=1000000) (disch:=first | assumption | (apply ν6;assumption)) only [vz,vu,vv,eqS,eF_,↓c1_,↓c2_,tabs,reduceCtorEq,ι5,↓reduceIte,ν1,ν2,ν3,ν4,ν5,ι1,ι2,ι3,ι4,B85_0])
 refine ⟨fun h=>?_,fun h=>?_⟩
 ·have hlt:i < xs.length:=by omega
  rw [getD_lt hlt]
  refine ⟨by omega,by omega,?_⟩
  (try simp (maxSteps:=1000000) (disch:=first | assumption | (apply ν6;assumption)) only [vz,vu,vv,eqS,eF_,↓c1_,↓c2_,tabs,reduceCtorEq,ι5,↓reduceIte,ν1,ν2,ν3,ν4,ν5,ι1,ι2,ι3,ι4,callF,List.cons_append,List.nil_append])
  refine PuAt.use (hp _ (List.getElem_mem hlt)) ?_
  (try simp (maxSteps:=1000000) (disch:=first | assumption | (apply ν6;assumption)) only [vz,vu,vv,eqS,eF_,↓c1_,↓c2_,tabs,reduceCtorEq,ι5,↓reduceIte,ν1,ν2,ν3,ν4,ν5,ι1,ι2,ι3,ι4])
  refine ⟨fun h1=>?_,fun h1=>⟨i+1,⟨by omega,fun j hj hji=>?_⟩,by omega,?_⟩⟩
  ·have h2:xs.any p=true:=List.any_eq_true.2 ⟨xs[i],List.getElem_mem hlt,h1⟩
   have h3:xs.findIdx p=i:=by
    rw [List.findIdx_eq hlt];exact ⟨h1,fun j hj=>ha j (by omega) hj⟩
   rw [h2,h3] at hK;exact wkK.keep (by simpa using hK)
  ·rcases Nat.lt_succ_iff_lt_or_eq.1 hji with h2 | rfl
   ·exact ha j hj h2
   ·exact h1
  ·rw [wk_int,i6_ (by omega) (by omega)];simp
 ·have hi:i=xs.length:=by omega
  have h2:xs.any p=false:=by
   rw [List.any_eq_false]
   intro x hx
   obtain ⟨j,hj,rfl⟩:=List.mem_iff_getElem.1 hx
   rw [ha j hj (by omega)];simp
  rw [h2] at hK;exact wkK.keep (by simpa using hK)
theorem letterOf1_at {u w:Int} {G:Heap} {r4 r5:Nat} (h4:G r4=some [I u]) (h5:G r5=some [I w]) (x:Ed):PuAt Tryz.prog 86 [aE x,.ptr r4 0,.ptr r5 0] G (B (ltP u w x)):=by
 intro K hK
 refine CallT.fin ?_
 refine W86_ok ?_;simp (maxSteps:=1000000) (disch:=first | assumption | (apply ν6;assumption)) only [W86,vz,vu,vv,eqS,eF_,↓c1_,↓c2_,tabs,reduceCtorEq,ι5,↓reduceIte,ν1,ν2,ν3,ν4,ν5,ι1,ι2,ι3,ι4]
 intro r hr
 have n4:r4≠r:=fun e=>by rw [e,hr] at h4;cases h4
 have n5:r5≠r:=fun e=>by rw [e,hr] at h5;cases h5
 have g4:(G.set r [I x.src,I x.lt,I x.dst]) r4=some [I u]:=by rw [Heap.set_other n4];exact h4
 have g5:(G.set r [I x.src,I x.lt,I x.dst]) r5=some [I w]:=by rw [Heap.set_other n5];exact h5
 have hle:=Heap.le_set (b:=[I x.src,I x.lt,I x.dst]) hr
 (try simp (maxSteps:=1000000) (disch:=first | assumption | (apply ν6;assumption)) only [vz,vu,vv,eqS,eF_,↓c1_,↓c2_,tabs,reduceCtorEq,ι5,↓reduceIte,ν1,ν2,ν3,ν4,ν5,ι1,ι2,ι3,ι4,lA_ g4,lA_ g5])
 refine ⟨fun h1=>fin_le hle ?_,fun h1=>fin_le hle ?_⟩
 ·by_cases h2:x.dst=w
  ·simpa [ltP,h1,h2] using hK
  ·simpa [ltP,h1,h2] using hK
 ·simpa [ltP,h1] using hK
theorem letterOf_spec (a:Au) (ga:goodA a=true) {u w:Int} (hu:a.edges.any (ltP u w)=true):Pu Tryz.prog 33 [aAu a,I u,I w] (I (ltF a u w)):=by
 refine Pu.of fun H=>?_
 have hl:=(good_facts ga).ed
 have hpw:a.edges.Pairwise (fun x y=>edLt x y=true):=by
  rw [goodA_def] at ga
  simp only [Bool.and_eq_true] at ga
  exact edsOk_pw ga.2.2.2.2
 have hk:a.edges.findIdx (ltP u w) < a.edges.length:=List.findIdx_lt_length_of_exists (by simpa using hu)
 obtain ⟨k,ek⟩:∃k,k=a.edges.findIdx (ltP u w):=⟨_,rfl⟩
 have hpk:ltP u w (a.edges[a.edges.findIdx (ltP u w)])=true:=List.findIdx_getElem (w:=hk)
 have hbefore:∀j (hj:j < a.edges.length),j < a.edges.findIdx (ltP u w)→ltP u w a.edges[j]=false:=fun j hj h=>by simpa using List.not_of_lt_findIdx h
 have hlt:ltF a u w=a.edges[a.edges.findIdx (ltP u w)].lt:=by rw [ltF,find_at hk hpk hbefore];rfl
 rw [hlt]
 simp only [← ek] at hk hpk hbefore ⊢
 have key:∀j (hj:j < a.edges.length),ltP u w a.edges[j]=true→¬a.edges[j].lt < a.edges[k].lt:=by
  intro j hj h1 h2
  rcases Nat.lt_trichotomy j k with h | h | h
  ·rw [hbefore j hj h] at h1;cases h1
  ·subst h;omega
  ·have:=List.pairwise_iff_getElem.1 hpw k j hk hj h
   simp only [ltP,Bool.and_eq_true,decide_eq_true_eq] at h1 hpk
   unfold edLt at this
   rw [if_pos (by omega)] at this
   split at this
   ·simp at this;omega
   ·simp at this;omega
 refine W33_ok ?_;simp (maxSteps:=1000000) (disch:=first | assumption | (apply ν6;assumption)) only [W33,vz,vu,vv,eqS,eF_,↓c1_,↓c2_,tabs,reduceCtorEq,ι5,↓reduceIte,ν1,ν2,ν3,ν4,ν5,ι1,ι2,ι3,ι4]
 intro r3 h3 r4 n43 h4 r5 n54 n53 h5
 have st:=(((St.nil H).cell h3 [I a.states,Is a.first,Es a.edges,Ls a.goals]).cell (r:=r4) (by rw [Heap.set_other n43];exact h4) [I u]).cell (r:=r5) (by rw [Heap.set_other n54,Heap.set_other n53];exact h5) [I w]
 have e:∀n:Int,AV.p (PV.int IntKind.i64 n)=I n:=fun _=>rfl
 simp only [e]
 generalize ((H.set r3 [I a.states,Is a.first,Es a.edges,Ls a.goals]).set r4 [I u]).set r5 [I w]=G at st ⊢
 clear h3 h4 h5 n43 n54 n53
 (try simp (maxSteps:=1000000) (disch:=first | assumption | (apply ν6;assumption)) only [vz,vu,vv,eqS,eF_,↓c1_,↓c2_,tabs,reduceCtorEq,ι5,↓reduceIte,ν1,ν2,ν3,ν4,ν5,ι1,ι2,ι3,ι4,lA_ (st.get 2 rfl)])
 refine PuAt.use (IndexFuncE_at a.edges _ _ (ltP u w) (by omega) fun x _=>letterOf1_at (st.get 1 rfl) (st.get 0 rfl) x) ?_
 simp only [if_pos hu,← ek]
 (try simp (maxSteps:=1000000) (disch:=first | assumption | (apply ν6;assumption)) only [vz,vu,vv,eqS,eF_,↓c1_,↓c2_,tabs,reduceCtorEq,ι5,↓reduceIte,ν1,ν2,ν3,ν4,ν5,ι1,ι2,ι3,ι4,lA_ (st.get 2 rfl)])
 refine L33_0_rule (0:Nat) (fun i=>I i) (fun _=>G) (fun i=>i≤a.edges.length) (fun i=>a.edges.length - i) ⟨by omega,.refl _,Heap.le_refl _⟩ ?_
 intro i hi
 have hkd:a.edges.getD k default=a.edges[k]:=getD_lt hk
 (try simp (maxSteps:=1000000) (disch:=first | assumption | (apply ν6;assumption)) only [vz,vu,vv,eqS,eF_,↓c1_,↓c2_,tabs,reduceCtorEq,ι5,↓reduceIte,ν1,ν2,ν3,ν4,ν5,ι1,ι2,ι3,ι4,B33_0,lA_ (st.get 2 rfl),hkd,Int.toNat_natCast])
 refine ⟨fun h=>?_,fun h=>?_⟩
 ·have hlt2:i < a.edges.length:=by omega
  have hm:(a.edges.getD i default)=a.edges[i]:=getD_lt hlt2
  rw [hm]
  refine ⟨by omega,by omega,?_⟩
  intro r2 hr2
  have hle3:=Heap.le_set (b:=[I a.edges[i].src,I a.edges[i].lt,I a.edges[i].dst]) hr2
  have g3:=hle3 _ _ (st.get 2 rfl)
  have g4:=hle3 _ _ (st.get 1 rfl)
  have g5:=hle3 _ _ (st.get 0 rfl)
  have hx:IntKind.i64.wrap ((i:Int)+1)=((i+1:Nat):Int):=by rw [i6_ (by omega) (by omega)];simp
  have hkey:=key i hlt2
  (try simp (maxSteps:=1000000) (disch:=first | assumption | (apply ν6;assumption)) only [vz,vu,vv,eqS,eF_,↓c1_,↓c2_,tabs,reduceCtorEq,ι5,↓reduceIte,ν1,ν2,ν3,ν4,ν5,ι1,ι2,ι3,ι4,lA_ g3,lA_ g4,lA_ g5,hkd,Int.toNat_natCast,hx])
  have nx:∃s':Nat,s'≤a.edges.length∧a.edges.length - s' < a.edges.length - i∧(AV.p (PV.int IntKind.i64 ((i+1:Nat):Int))).wk (I s')∧Heap.le G (G.set r2 [I a.edges[i].src,I a.edges[i].lt,I a.edges[i].dst]):=⟨i+1,by omega,by omega,.refl _,hle3⟩
  refine ⟨fun h1=>⟨fun h2=>⟨by omega,by omega,fun h3=>absurd h3 (hkey (by simp [ltP,h1,h2])),fun _=>nx⟩,fun _=>nx⟩,fun _=>nx⟩
 ·have hkn:0≤(k:Int)∧(k:Int) < a.edges.length:=⟨by omega,by omega⟩
  first | exact ⟨hkn.1,hkn.2,rfl,st.le⟩ | exact ⟨hkn.1,hkn.2,st.le⟩ | exact ⟨rfl,st.le⟩
end Go.Proofs.YtohkciilfkhomaaGreat
namespace Go.Proofs.YtohkciilfkhomaaGreat
open Go Go.Sep Go.Pt
attribute [local irreducible] CallT
theorem leastWay1_at {l:List Int} {v:Nat} {G:Heap} {r7 r12:Nat} (h7:G r7=some [Is l]) (h12:G r12=some [I v]) (hv:v < l.length) {w:Nat} (hw:w < l.length) (hb:∀u,u < l.length→-1≤l.getD u default∧l.getD u default≤1000000) :
  PuAt Tryz.prog 114 [I w,.ptr r7 0,.ptr r12 0] G (B (decide (l.getD w default=l.getD v default - 1))):=by
 intro K hK
 have hbv:=hb v hv
 have e6:IntKind.i64.wrap (l.getD v default - 1)=l.getD v default - 1:=i6_ (by omega) (by omega)
 refine W114_ok ?_;simp (maxSteps:=1000000) (disch:=first | assumption | (apply ν6;assumption)) only [W114,vz,vu,vv,eqS,eF_,↓c1_,↓c2_,tabs,reduceCtorEq,ι5,↓reduceIte,ν1,ν2,ν3,ν4,ν5,ι1,ι2,ι3,ι4,lA_ h7,lA_ h12,Int.toNat_natCast,e6]
 exact ⟨by omega,by omega,by omega,by omega,hK⟩
theorem nI_getE {l:List Nat} {i:Nat} (h:i < (nI l).length):(nI l)[i]=((l.getD i 0:Nat):Int):=by
 rw [nL_] at h
 simp [nI,List.getD,h]
theorem leastWay_row (g:List (List Nat)) (hg:GrB g) (some to:List Nat) (hs:∀v∈some,v < g.length) (hsl:some.length≤500000) (ht:∀v∈to,v < g.length) (htl:to.length≤100000)
  {H:Heap} {K:AV→Heap→Prop} (hK:∀x G D,RN (LPl eI) 1 x (nI (lwayF (rwF g) g.length some to)) G D→New H G D→K x G) :
  CallT Tryz.prog 77 [Ls (gI g),Is (nI some),Is (nI to)] H K:=by
 have hn:=hg.n
 have hg2:=turnG_B hg
 have hgl:=gI_len g
 have hsn:=nL_ some
 refine CallT.fin ?_
 refine W77_ok ?_;simp (maxSteps:=1000000) (disch:=first | assumption | (apply ν6;assumption)) only [W77,vz,vu,vv,eqS,eF_,↓c1_,↓c2_,tabs,reduceCtorEq,ι5,↓reduceIte,ν1,ν2,ν3,ν4,ν5,ι1,ι2,ι3,ι4,hsn]
 refine Pu.use (sp_impl.turned g hg) ?_
 have hfar:=sp_stepsFrom (turnG g) hg2 to (by rw [turnG_len];exact ht) htl
 rw [toF_turn hg,turnG_len] at hfar
 refine Pu.use hfar ?_
 have hnear:=toF_near hg.gr ht
 have hbd:=toF_bd hg.gr ht
 have hwl:lwayF (rwF g) g.length some to=if bestF (toF (rwF g) g.length to) some < 0 then [] else wayF (toF (rwF g) g.length to) (rwF g) (bestF (toF (rwF g) g.length to) some).toNat:=rfl
 have hbc:=bestF_cases (toF (rwF g) g.length to)
 generalize toF (rwF g) g.length to=far at hnear hbd hwl hbc
 have hml:=mpI_len far g.length
 have hmg:=fun v (h:v < g.length)=>mpI_get far h
 (try simp (maxSteps:=1000000) (disch:=first | assumption | (apply ν6;assumption)) only [vz,vu,vv,eqS,eF_,↓c1_,↓c2_,tabs,reduceCtorEq,ι5,↓reduceIte,ν1,ν2,ν3,ν4,ν5,ι1,ι2,ι3,ι4])
 intro r7 hr7
 have st:=(St.nil H).cell hr7 [Is (mpI far g.length)]
 (try simp (maxSteps:=1000000) (disch:=first | assumption | (apply ν6;assumption)) only [vz,vu,vv,eqS,eF_,↓c1_,↓c2_,tabs,reduceCtorEq,ι5,↓reduceIte,ν1,ν2,ν3,ν4,ν5,ι1,ι2,ι3,ι4])
 generalize H.set r7 [Is (mpI far g.length)]=G1 at st ⊢
 clear hr7
 have go:∀(v q r12:Nat) (G:Heap),v < g.length→0≤far v→bestF far some=(v:Int)→St H [cT_ r12 [I v],rnI (rowP q (nI [v])) (nI [v]) [q],cT_ r7 [Is (mpI far g.length)]] G→
   L77_1 (wkK K) (Ls (gI g)) (.ptr r7 0) (rowP q (nI [v])) (.ptr r12 0) G:=by
  intro v q r12 G hv h0 hb st
  have hvb:=hbd v
  refine L77_1_rule ((0:Nat),q,r12,G) (fun z=>rowP z.2.1 (nI ((List.range (z.1+1)).map (itF far (rwF g) v)))) (fun z=>.ptr z.2.2.1 0) (fun z=>z.2.2.2)
   (fun z=>(z.1:Int)≤far v∧St H [cT_ z.2.2.1 [I (itF far (rwF g) v z.1:Nat)],rnI (rowP z.2.1 (nI ((List.range (z.1+1)).map (itF far (rwF g) v)))) (nI ((List.range (z.1+1)).map (itF far (rwF g) v))) [z.2.1],cT_ r7 [Is (mpI far g.length)]] z.2.2.2) (fun z=>(far v).toNat - z.1)
   ⟨⟨by simpa using h0,st⟩,.refl _,.refl _,Heap.le_refl _⟩ ?_
  clear st q G r12
  rintro ⟨k,q,r12,G⟩ ⟨hk,st⟩
  dsimp only at hk st
  have hsk:=itF_s hnear (v:=v) k hk
  have hbk:=hbd (itF far (rwF g) v k)
  have hisc:=itK_succ far (rwF g) v k
  have hik:itF far (rwF g) v (k+1)=nxtF far (rwF g) (itF far (rwF g) v k):=rfl
  generalize hu:itF far (rwF g) v k=u at hsk hbk hisc hik st
  have hun:u < g.length:=hbk.2.2 (by omega)
  (try simp (maxSteps:=1000000) (disch:=first | assumption | (apply ν6;assumption)) only [vz,vu,vv,eqS,eF_,↓c1_,↓c2_,tabs,reduceCtorEq,ι5,↓reduceIte,ν1,ν2,ν3,ν4,ν5,ι1,ι2,ι3,ι4,B77_1,lA_ (st.get 0 rfl),lA_ (st.get 2 rfl),hml,Int.toNat_natCast])
  rw [hmg u hun]
  refine ⟨by omega,by omega,fun h1=>?_,fun h1=>?_⟩
  ·(try simp (maxSteps:=1000000) (disch:=first | assumption | (apply ν6;assumption)) only [vz,vu,vv,eqS,eF_,↓c1_,↓c2_,tabs,reduceCtorEq,ι5,↓reduceIte,ν1,ν2,ν3,ν4,ν5,ι1,ι2,ι3,ι4,lA_ (st.get 0 rfl),hgl,Int.toNat_natCast])
   refine ⟨by omega,by omega,?_⟩
   rw [gI_get hun]
   have hrl:=hg.row hun
   have hrn:=nL_ (rwF g u)
   obtain ⟨j0,hj0,hp0⟩:=near_at hnear (v:=u) h1
   have hif:=IndexFunc_at (nI (rwF g u)) 114 [.ptr r7 0,.ptr r12 0] (fun x=>decide ((mpI far g.length).getD x.toNat default=(mpI far g.length).getD u default - 1)) (H:=G) (by omega) (by
    intro x hx
    obtain ⟨w,hw,rfl⟩:=nI_mem.1 hx
    have hwn:=hg.gr.lt u w hw
    have:=leastWay1_at (l:=mpI far g.length) (v:=u) (w:=w) (st.get 2 rfl) (st.get 0 rfl) (by rw [mpI_len];exact hun) (by rw [mpI_len];exact hwn) (fun z hz=>by
     rw [mpI_len] at hz
     rw [hmg z hz]
     have:=hbd z
     omega)
    simpa using this)
   refine PuAt.use hif ?_
   have hany:((nI (rwF g u)).any fun x=>decide ((mpI far g.length).getD x.toNat default=(mpI far g.length).getD u default - 1))=true:=by
    rw [List.any_eq_true]
    refine ⟨((rwF g u).getD j0 0:Nat),nI_mem.2 ⟨_,by simp [List.getD,hj0],rfl⟩,?_⟩
    rw [decide_eq_true_eq,Int.toNat_natCast,hmg _ (hg.lt hj0),hmg u hun];exact hp0
   rw [if_pos hany]
   have hjl:(nI (rwF g u)).findIdx (fun x=>decide ((mpI far g.length).getD x.toNat default=(mpI far g.length).getD u default - 1)) < (nI (rwF g u)).length:=by
    rw [List.findIdx_lt_length]
    obtain ⟨x,h1,h2⟩:=List.any_eq_true.1 hany
    exact ⟨x,h1,h2⟩
   have hjp:=List.findIdx_getElem (w:=hjl)
   have hjn:=fun (i:Nat) (hi:i < (nI (rwF g u)).findIdx (fun x=>decide ((mpI far g.length).getD x.toNat default=(mpI far g.length).getD u default - 1)))=>List.not_of_lt_findIdx hi
   have hlj:(nI (rwF g u)).findIdx (fun x=>decide ((mpI far g.length).getD x.toNat default=(mpI far g.length).getD u default - 1)) < (rwF g u).length:=by rw [nL_] at hjl;exact hjl
   have hnx:nxtF far (rwF g) u=(rwF g u).getD ((nI (rwF g u)).findIdx (fun x=>decide ((mpI far g.length).getD x.toNat default=(mpI far g.length).getD u default - 1))) 0:=by
    refine nxt_at hlj (fun i hi he=>?_) ?_
    ·have hil:i < (rwF g u).length:=by omega
     have:=hjn i hi
     rw [nI_getE,Int.toNat_natCast,hmg _ (hg.lt hil),hmg u hun,decide_eq_false_iff_not] at this
     exact this he
    ·rw [decide_eq_true_eq] at hjp
     have h2:=hjp.trans (congrArg (fun z:Int=>z - 1) (hmg u hun))
     rw [nI_getE,Int.toNat_natCast,hmg _ (hg.lt hlj)] at h2
     exact h2
   clear hjl hjp hjn
   generalize (nI (rwF g u)).findIdx (fun x=>decide ((mpI far g.length).getD x.toNat default=(mpI far g.length).getD u default - 1))=j at hlj hnx
   have hw:=hg.lt hlj
   have hgj:=nI_get hlj
   rw [hnx] at hisc hik
   generalize (rwF g u).getD j 0=w at hw hgj hisc hik
   (try simp (maxSteps:=1000000) (disch:=first | assumption | (apply ν6;assumption)) only [vz,vu,vv,eqS,eF_,↓c1_,↓c2_,tabs,reduceCtorEq,ι5,↓reduceIte,ν1,ν2,ν3,ν4,ν5,ι1,ι2,ι3,ι4,lA_ (st.get 0 rfl),hgl,gI_get hun,hrn,hgj,sA_ (st.get 0 rfl),Int.toNat_natCast])
   refine ⟨by omega,by omega,by omega,by omega,?_⟩
   replace st:=st.put 0 rfl [I (w:Nat)]
   simp only [List.set_cons_zero] at st
   generalize G.set r12 [I (w:Nat)]=G2 at st ⊢
   (try simp (maxSteps:=1000000) (disch:=first | assumption | (apply ν6;assumption)) only [vz,vu,vv,eqS,eF_,↓c1_,↓c2_,tabs,reduceCtorEq,ι5,↓reduceIte,ν1,ν2,ν3,ν4,ν5,ι1,ι2,ι3,ι4,lA_ (st.get 0 rfl)])
   refine lit1 tab_24 rfl tab_3 ⟨rfl,rfl⟩ ?_
   refine rn_appI (ys:=[(w:Int)]) st 1 rfl (by rw [nL_,List.length_map,List.length_range];simp only [List.length_cons,List.length_nil];omega) fun q' G' hq' st=>?_
   simp only [List.set_cons_zero,List.set_cons_succ] at st
   rw [← nI_one,← nI_app,← hisc] at st ⊢
   (try simp (maxSteps:=1000000) (disch:=first | assumption | (apply ν6;assumption)) only [vz,vu,vv,eqS,eF_,↓c1_,↓c2_,tabs,reduceCtorEq,ι5,↓reduceIte,ν1,ν2,ν3,ν4,ν5,ι1,ι2,ι3,ι4,lA_ (st.get 0 rfl)])
   intro r' hr'
   (try simp (maxSteps:=1000000) (disch:=first | assumption | (apply ν6;assumption)) only [vz,vu,vv,eqS,eF_,↓c1_,↓c2_,tabs,reduceCtorEq,ι5,↓reduceIte,ν1,ν2,ν3,ν4,ν5,ι1,ι2,ι3,ι4])
   replace st:=(st.drop).cell hr' [I (w:Nat)]
   exact ⟨(k+1,q',r',_),⟨by simp only;omega,by simp only [hik];exact st⟩,by simp only;omega,.refl _,.refl _,Heap.le_refl _⟩
  ·have hek:(far v).toNat+1=k+1:=by omega
   have hway:lwayF (rwF g) g.length some to=(List.range (k+1)).map (itF far (rwF g) v):=by
    rw [hwl,if_neg (by omega),hb,Int.toNat_natCast,wayF,hek]
   have st2:=st.sub (Us:=[rnI (rowP q (nI ((List.range (k+1)).map (itF far (rwF g) v)))) (nI ((List.range (k+1)).map (itF far (rwF g) v))) [q]]) (.cons _ (.cons_cons _ (.cons _ .slnil)))
   exact wkK.keep (hK _ G [q] (by rw [hway];exact st.get 1 rfl) ⟨st2.ndT 0 rfl,st2.fr _ (List.mem_cons_self ..),st2.le⟩)
 refine L77_0_rule (0:Nat) (fun k=>I (bestF far (some.take k))) (fun k=>I k) (fun _=>G1) (fun k=>k≤some.length) (fun k=>some.length - k) ⟨by simp,.refl _,.refl _,Heap.le_refl _⟩ ?_
 intro k hk
 have e5:IntKind.i64.wrap ((k:Int)+1)=((k+1:Nat):Int):=by rw [i6_ (by omega) (by omega)];simp
 (try simp (maxSteps:=1000000) (disch:=first | assumption | (apply ν6;assumption)) only [vz,vu,vv,eqS,eF_,↓c1_,↓c2_,tabs,reduceCtorEq,ι5,↓reduceIte,ν1,ν2,ν3,ν4,ν5,ι1,ι2,ι3,ι4,B77_0,hsn,hml,e5,lA_ (st.get 0 rfl)])
 refine ⟨fun h1=>?_,fun h1=>?_⟩
 ·have hlt:k < some.length:=by omega
  refine ⟨by omega,h1,?_⟩
  rw [nI_get hlt,Int.toNat_natCast]
  have hv:=hs (some.getD k 0) (by simp [List.getD,hlt])
  have hsc:bestF far (some.take (k+1))=bput1 far (bestF far (some.take k)) (some.getD k 0):=by
   rw [tS_ hlt,bestF_snoc];rfl
  have hbk:bestF far (some.take k) < 0∨bestF far (some.take k) < g.length:=by
   rcases hbc (some.take k) with ⟨e,_⟩ | ⟨u,hu,e,_⟩
   ·omega
   ·have:=hs u (List.mem_of_mem_take hu)
    omega
  generalize some.getD k 0=w at hv hsc ⊢
  generalize bestF far (some.take k)=mk at hsc hbk ⊢
  have yes:bestF far (some.take (k+1))=(w:Int)→∃s':Nat,s'≤some.length∧some.length - s' < some.length - k∧(I (w:Int)).wk (I (bestF far (some.take s')))∧(I ((k+1:Nat):Int)).wk (I s'):=
   fun h=>⟨k+1,by omega,by omega,by rw [h];exact .refl _,.refl _⟩
  have no:bestF far (some.take (k+1))=mk→∃s':Nat,s'≤some.length∧some.length - s' < some.length - k∧(I mk).wk (I (bestF far (some.take s')))∧(I ((k+1:Nat):Int)).wk (I s'):=
   fun h=>⟨k+1,by omega,by omega,by rw [h];exact .refl _,.refl _⟩
  rw [hmg w hv]
  have hp:¬mk < 0→0≤mk∧mk < g.length∧mk.toNat < g.length:=by clear yes no;omega
  refine ⟨by clear yes no;omega,by clear yes no;omega,fun h3=>⟨fun h4=>?_,fun h4=>⟨by clear yes no;omega,by clear yes no;omega,(hp h4).1,(hp h4).2.1,?_⟩⟩,fun h3=>?_⟩
  ·exact yes (by rw [hsc,bput1,if_pos ⟨h3,.inl h4⟩])
  ·rw [hmg mk.toNat (hp h4).2.2]
   refine ⟨fun h5=>yes ?_,fun h5=>no ?_⟩
   ·rw [hsc,bput1,if_pos ⟨h3,.inr h5⟩]
   ·rw [hsc,bput1,if_neg (fun h=>h5 (h.2.resolve_left h4))]
  ·exact no (by rw [hsc,bput1,if_neg (fun h=>h3 h.1)])
 ·have:k=some.length:=by omega
  subst this
  rw [List.take_length]
  refine ⟨fun h2=>?_,fun h2=>?_⟩
  ·have hnil:lwayF (rwF g) g.length some to=[]:=by rw [hwl,if_pos h2]
   exact ⟨_,_,.forget st.le,hK (.p .nil) H [] (.inl ⟨rfl,by rw [hnil];rfl,rfl⟩) ⟨.nil,fun y hy=>(by cases hy),Heap.le_refl _⟩⟩
  ·rcases hbc some with ⟨e,_⟩ | ⟨v,hv,e,h0,_⟩
   ·omega
   ·rw [e] at h2 ⊢
    refine lit_row fun q hq=>?_
    have st:=st.push (rnI (rowP q (nI [v])) (nI [v]) [q]) (New.cell (b:=cP fI (nI [v])) hq) (rnI_mk (Heap.set_same _ _ _))
    generalize hG:G1.set q (cP fI (nI [v]))=G3 at st
    have hG':G1.set q (cP fI [(v:Int)])=G3:=hG
    rw [hG']
    (try simp (maxSteps:=1000000) (disch:=first | assumption | (apply ν6;assumption)) only [vz,vu,vv,eqS,eF_,↓c1_,↓c2_,tabs,reduceCtorEq,ι5,↓reduceIte,ν1,ν2,ν3,ν4,ν5,ι1,ι2,ι3,ι4])
    intro r12 hr12
    (try simp (maxSteps:=1000000) (disch:=first | assumption | (apply ν6;assumption)) only [vz,vu,vv,eqS,eF_,↓c1_,↓c2_,tabs,reduceCtorEq,ι5,↓reduceIte,ν1,ν2,ν3,ν4,ν5,ι1,ι2,ι3,ι4])
    have st:=st.cell hr12 [I (v:Nat)]
    exact go v q r12 _ (hs v hv) h0 e st
theorem leastWay_spec (g:List (List Nat)) (hg:GrB g) (some to:List Nat) (hs:∀v∈some,v < g.length) (hsl:some.length≤500000) (ht:∀v∈to,v < g.length) (htl:to.length≤100000) :
  Pu Tryz.prog 77 [Ls (gI g),Is (nI some),Is (nI to)] (Is (nI (lwayF (rwF g) g.length some to))):=by
 refine ⟨fun H=>CallT.fin (leastWay_row g hg some to hs hsl ht htl fun x G D hx hn=>?_)⟩
 have hle:∀y b,H y=Option.some b→y∉D:=fun y b hb hy=>by rw [hn.fr y hy] at hb;cases hb
 rcases rnI_cases hx with ⟨rfl,e,rfl⟩ | ⟨q,rfl,hq,rfl⟩
 ·rw [e];exact ⟨_,_,.trans (.val .nil) (.forget hn.le),rfl,rfl⟩
 ·refine ⟨_,H,.trans (Wk.frz (r:=q) (sz:=1) (es:=(nI (lwayF (rwF g) g.length some to)).map eI) (v':=Is (nI (lwayF (rwF g) g.length some to))) (by omega) (by have h:=hq;rw [← (cells_P fI (nI (lwayF (rwF g) g.length some to)):cells ((nI (lwayF (rwF g) g.length some to)).map eI)=_)] at h;exact h) (szI _) ?_) (.forget fun y b hb=>?_),rfl,rfl⟩
  ·have:FrzR q 1 ((nI (lwayF (rwF g) g.length some to)).map eI) (.sl q 1 0 ((nI (lwayF (rwF g) g.length some to)).map eI).length) (.p (.sl ((nI (lwayF (rwF g) g.length some to)).map eI))):=.here
   rwa [List.length_map] at this
  ·rw [Heap.del_other (fun e=>hle y b hb (by rw [e];simp))]
   exact hn.le y b hb
end Go.Proofs.YtohkciilfkhomaaGreat
namespace Go.Proofs.YtohkciilfkhomaaGreat
open Go Go.Sep Go.Pt
attribute [local irreducible] CallT
noncomputable def c1F (row:Nat→List Nat) (m v w:Nat):Bool:=decide (partF (aO_ row) v=partF (aO_ row) m) && decide (partF (aO_ row) w=partF (aO_ row) m)
theorem in1F_c (row:Nat→List Nat) (m v:Nat):in1F row m v=(row v).filter (c1F row m v):=by
 unfold in1F
 have hc:∀u,Con (aO_ row) m u↔partF (aO_ row) u=partF (aO_ row) m:=fun u=>⟨fun h=>partF_iff.2 h.symm,fun h=>(partF_iff.1 h).symm⟩
 by_cases h:Con (aO_ row) m v
 ·rw [if_pos h]
  apply List.filter_congr
  intro w _
  rw [c1F,decide_eq_true ((hc v).1 h),Bool.true_and,decide_eq_decide]
  exact hc w
 ·rw [if_neg h,eq_comm,List.filter_eq_nil_iff]
  intro w _
  rw [c1F,decide_eq_false (fun k=>h ((hc v).2 k))];simp
noncomputable def in1G (g:List (List Nat)) (m:Nat):List (List Nat):=(List.range g.length).map (in1F (rwF g) m)
theorem in1G_len (g:List (List Nat)) (m:Nat):(in1G g m).length=g.length:=by simp [in1G]
theorem in1G_row {g:List (List Nat)} (hg:GrB g) (m:Nat):rwF (in1G g m)=in1F (rwF g) m:=rwF_mapOk (in1F_ok hg.gr m)
theorem in1G_B {g:List (List Nat)} (hg:GrB g) (m:Nat):GrB (in1G g m):=by
 refine ⟨?_,by rw [in1G_len];exact hg.n,?_⟩
 ·intro l hl x hx
  obtain ⟨v,_,rfl⟩:=List.mem_map.1 hl
  rw [in1G_len]
  exact hg.gr.lt v x (in1F_mem.1 hx).2.1
 ·rw [prT_sum,in1G_len,in1G_row hg]
  refine Nat.le_trans (sumN_mono fun v=>?_) (by rw [← prT_sum];exact hg.arcs)
  rw [in1F_c];exact List.length_filter_le _ _
noncomputable def w1R (g:List (List Nat)) (m k j:Nat):List (List Nat):=(List.range g.length).map fun v=>if v < k then in1F (rwF g) m v else if v=k then ((rwF g k).take j).filter (c1F (rwF g) m k) else []
theorem w1R_len (g:List (List Nat)) (m k j:Nat):(w1R g m k j).length=g.length:=by simp [w1R]
theorem w1R_zero (g:List (List Nat)) (m:Nat):w1R g m 0 0=List.replicate g.length []:=by
 apply List.ext_getElem
 ·simp [w1R]
 ·intro i h1 h2;simp [w1R]
theorem w1R_next (g:List (List Nat)) (m k:Nat):w1R g m k (rwF g k).length=w1R g m (k+1) 0:=by
 unfold w1R
 apply List.map_congr_left
 intro v _
 rw [List.take_length,← in1F_c]
 by_cases h1:v < k
 ·rw [if_pos h1,if_pos (by omega)]
 ·by_cases h2:v=k
  ·subst h2;simp
  ·rw [if_neg h1,if_neg h2,if_neg (by omega)];simp
theorem w1R_all (g:List (List Nat)) (m:Nat):w1R g m g.length 0=in1G g m:=by
 unfold w1R in1G
 apply List.map_congr_left
 intro v hv
 rw [if_pos (List.mem_range.1 hv)]
theorem w1R_get {g:List (List Nat)} {m k j:Nat} (h:k < g.length):rwF (w1R g m k j) k=((rwF g k).take j).filter (c1F (rwF g) m k):=by simp [rwF,w1R,List.getD,h]
theorem w1R_succ {g:List (List Nat)} {m k j:Nat} (hj:j < (rwF g k).length):w1R g m k (j+1)=if c1F (rwF g) m k ((rwF g k).getD j 0)=true then (w1R g m k j).set k (((rwF g k).take j).filter (c1F (rwF g) m k)++[(rwF g k).getD j 0]) else w1R g m k j:=by
 have ht:(rwF g k).take (j+1)=(rwF g k).take j++[(rwF g k).getD j 0]:=tS_ hj
 generalize (rwF g k).getD j 0=w at ht ⊢
 by_cases hc:c1F (rwF g) m k w=true
 ·rw [if_pos hc]
  apply List.ext_getElem
  ·simp [w1R]
  ·intro v h1 h2
   simp only [w1R,List.getElem_map,List.getElem_range,List.getElem_set,ht,List.filter_append]
   by_cases e:k=v
   ·subst e;simp [hc]
   ·have:¬v=k:=fun h=>e h.symm
    simp [e,this]
 ·rw [if_neg hc]
  unfold w1R
  apply List.map_congr_left
  intro v _
  simp [ht,hc]
theorem inside_spec (g:List (List Nat)) (hg:GrB g) (m:Nat):Pu Tryz.prog 79 [Ls (gI g),Is (prtI g),I (partF (aO_ (rwF g)) m:Nat)] (Ls (gI (in1G g m))):=by
 refine ⟨fun H=>CallT.finish ?_⟩
 have hn:=hg.n
 have hgl:=gI_len g
 have hpl:=prtI_len g
 have hpg:=fun v (h:v < g.length)=>prtI_get h
 refine W79_ok ?_;simp (maxSteps:=1000000) (disch:=first | assumption | (apply ν6;assumption)) only [W79,vz,vu,vv,eqS,eF_,↓c1_,↓c2_,tabs,reduceCtorEq,ι5,↓reduceIte,ν1,ν2,ν3,ν4,ν5,ι1,ι2,ι3,ι4,mS_,hgl]
 refine ⟨by omega,by omega,by omega,by omega,fun q hq=>?_⟩
 have st:=tab_new (n:=g.length) (St.nil H) (q:=q) hq
 rw [← gI_nil,← w1R_zero g m] at st
 generalize H.set q (zA_ g.length [.p .nil])=G1 at st ⊢
 refine L79_0_rule ((0:Nat),[q],G1) (fun s=>I s.1) (fun s=>s.2.2) (fun s=>s.1≤g.length∧St H [tabT q (gI (w1R g m s.1 0)) s.2.1] s.2.2) (fun s=>g.length - s.1)
  ⟨⟨by simp,st⟩,.refl _,Heap.le_refl _⟩ ?_
 clear st
 rintro ⟨k,D,G⟩ ⟨hk,st⟩
 dsimp only at hk st
 have e5:IntKind.i64.wrap ((k:Int)+1)=((k+1:Nat):Int):=by rw [i6_ (by omega) (by omega)];simp
 (try simp (maxSteps:=1000000) (disch:=first | assumption | (apply ν6;assumption)) only [vz,vu,vv,eqS,eF_,↓c1_,↓c2_,tabs,reduceCtorEq,ι5,↓reduceIte,ν1,ν2,ν3,ν4,ν5,ι1,ι2,ι3,ι4,B79_0,hgl])
 refine ⟨fun h1=>?_,fun h1=>?_⟩
 ·have hlt:k < g.length:=by omega
  have hrl:=hg.row hlt
  refine ⟨by omega,h1,?_⟩
  rw [gI_get hlt]
  have hrn:=nL_ (rwF g k)
  (try simp (maxSteps:=1000000) (disch:=first | assumption | (apply ν6;assumption)) only [vz,vu,vv,eqS,eF_,↓c1_,↓c2_,tabs,reduceCtorEq,ι5,↓reduceIte,ν1,ν2,ν3,ν4,ν5,ι1,ι2,ι3,ι4,hrn])
  refine L79_1_rule ((0:Nat),D,G) (fun s=>I s.1) (fun s=>s.2.2) (fun s=>s.1≤(rwF g k).length∧St H [tabT q (gI (w1R g m k s.1)) s.2.1] s.2.2) (fun s=>(rwF g k).length - s.1)
   ⟨⟨by simp,st⟩,.refl _,Heap.le_refl _⟩ ?_
  clear st D
  rintro ⟨j,D,G⟩ ⟨hj,st⟩
  dsimp only at hj st
  have e6:IntKind.i64.wrap ((j:Int)+1)=((j+1:Nat):Int):=by rw [i6_ (by omega) (by omega)];simp
  (try simp (maxSteps:=1000000) (disch:=first | assumption | (apply ν6;assumption)) only [vz,vu,vv,eqS,eF_,↓c1_,↓c2_,tabs,reduceCtorEq,ι5,↓reduceIte,ν1,ν2,ν3,ν4,ν5,ι1,ι2,ι3,ι4,B79_1,hrn,hpl,e6])
  refine ⟨fun h2=>?_,fun h2=>?_⟩
  ·have hlj:j < (rwF g k).length:=by omega
   refine ⟨by omega,h2,?_⟩
   rw [nI_get hlj]
   have hw:=hg.lt hlj
   have hsc:=w1R_succ (m:=m) hlj
   generalize (rwF g k).getD j 0=w at hw hsc ⊢
   have htl:(gI (w1R g m k j)).length=g.length:=by rw [gI_len,w1R_len]
   have hget:(gI (w1R g m k j)).getD k default=nI (((rwF g k).take j).filter (c1F (rwF g) m k)):=by rw [gI_get (by rw [w1R_len];exact hlt),w1R_get hlt]
   have hfl:(((rwF g k).take j).filter (c1F (rwF g) m k)).length≤500000:=Nat.le_trans (List.length_filter_le _ _) (by rw [List.length_take];omega)
   rw [Int.toNat_natCast,hpg k hlt,hpg w hw]
   have no:c1F (rwF g) m k w=false→∃z:Nat×List Nat×Heap,(z.1≤(rwF g k).length∧St H [tabT q (gI (w1R g m k z.1)) z.2.1] z.2.2)∧(rwF g k).length - z.1 < (rwF g k).length - j∧(I ((j+1:Nat):Int)).wk (I z.1)∧z.2.2.le G:=by
    intro h
    rw [if_neg (by rw [h];simp)] at hsc
    exact ⟨(j+1,D,G),⟨by simp only;omega,by rw [hsc];exact st⟩,by simp only;omega,.refl _,Heap.le_refl _⟩
   refine ⟨by clear no;omega,by clear no;omega,fun h3=>⟨by clear no;omega,by clear no;omega,fun h4=>?_,fun h4=>?_⟩,fun h3=>?_⟩
   ·have ht:c1F (rwF g) m k w=true:=by
     rw [c1F,decide_eq_true (by omega),decide_eq_true (by omega)];rfl
    rw [if_pos ht] at hsc
    have:=fun (K:Heap→Prop)=>tab_push (K:=K) st 0 rfl htl hlt (w:Int) (by rw [hget,nL_];omega)
    refine this _ fun G' D' st=>?_
    rw [hget,← nI_one,← nI_app,← gI_set,← hsc] at st
    exact ⟨(j+1,D',G'),⟨by simp only;omega,st⟩,by simp only;omega,.refl _,Heap.le_refl _⟩
   ·exact no (by rw [c1F,decide_eq_false (by clear no;omega:¬partF (aO_ (rwF g)) w=partF (aO_ (rwF g)) m),Bool.and_false])
   ·exact no (by rw [c1F,decide_eq_false (by clear no;omega:¬partF (aO_ (rwF g)) k=partF (aO_ (rwF g)) m),Bool.false_and])
  ·have:j=(rwF g k).length:=by omega
   subst this
   rw [w1R_next] at st
   (try simp (maxSteps:=1000000) (disch:=first | assumption | (apply ν6;assumption)) only [vz,vu,vv,eqS,eF_,↓c1_,↓c2_,tabs,reduceCtorEq,ι5,↓reduceIte,ν1,ν2,ν3,ν4,ν5,ι1,ι2,ι3,ι4,e5])
   exact ⟨(k+1,D,G),⟨by simp only;omega,st⟩,by simp only;omega,.refl _,Heap.le_refl _⟩
 ·have:k=g.length:=by omega
  subst this
  rw [w1R_all] at st
  have e:(gI (in1G g m)).length=g.length:=by rw [gI_len,in1G_len]
  rw [← e]
  exact tab_whole (fun G D s=>.ofWkK (lii_val (s.get 0 rfl) ⟨s.ndT 0 rfl,s.fr _ (List.mem_cons_self ..),s.le⟩)) st
end Go.Proofs.YtohkciilfkhomaaGreat
namespace Go.Proofs.YtohkciilfkhomaaGreat
open Go Go.Sep Go.Pt
attribute [local irreducible] CallT
theorem take_filter_at {xs:List Int} {p:Int→Bool} {k:Nat} (h:k < xs.length) (h1:p xs[k]=true) (h2:∀i (hi:i < k),p (xs[i]'(by omega))=false):xs.take k=(xs.take (k+1)).filter fun x=>!p x:=by
 rw [List.take_succ_eq_append_getElem h,List.filter_append]
 have e1:([xs[k]]:List Int).filter (fun x=>!p x)=[]:=by simp [h1]
 rw [e1,List.append_nil,eq_comm,List.filter_eq_self]
 intro x hx
 obtain ⟨i,hi,rfl⟩:=List.getElem_of_mem hx
 rw [List.length_take] at hi
 rw [List.getElem_take]
 have:=h2 i (by omega)
 simp [this]
theorem findIdx_filter {xs:List Int} {p:Int→Bool} (h:xs.findIdx p < xs.length):xs.take (xs.findIdx p)=(xs.take (xs.findIdx p+1)).filter fun x=>!p x:=
 take_filter_at h (List.findIdx_getElem (w:=h)) fun i hi=>by simpa using List.not_of_lt_findIdx hi
theorem IndexFunc_live {xs:List Int} {q:Nat} (g:Nat) (caps:List AV) (p:Int→Bool) {H:Heap} (hq:H q=some (cP fI xs)) (hl:xs.length≤1000000000) (hp:∀x∈xs,PuAt Tryz.prog g (I x::caps) H (B (p x))) :
  PuAt Tryz.prog 113 [.sl q 1 0 xs.length,.fn g caps] H (I (if xs.any p then (xs.findIdx p:Int) else -1)):=by
 intro K hK
 refine CallT.fin ?_
 refine W113_ok ?_;simp (maxSteps:=1000000) (disch:=first | assumption | (apply ν6;assumption)) only [W113,vz,vu,vv,eqS,eF_,↓c1_,↓c2_,tabs,reduceCtorEq,ι5,↓reduceIte,ν1,ν2,ν3,ν4,ν5,ι1,ι2,ι3,ι4]
 refine L113_0_rule (0:Nat) (fun i=>I i) (fun _=>H) (fun i=>i≤xs.length∧∀j (hj:j < xs.length),j < i→p xs[j]=false) (fun i=>xs.length - i) ⟨⟨by omega,by intros;omega⟩,.refl _,Heap.le_refl _⟩ ?_
 rintro i ⟨hi1,ha⟩
 (try simp (maxSteps:=1000000) (disch:=first | assumption | (apply ν6;assumption)) only [vz,vu,vv,eqS,eF_,↓c1_,↓c2_,tabs,reduceCtorEq,ι5,↓reduceIte,ν1,ν2,ν3,ν4,ν5,ι1,ι2,ι3,ι4,B113_0])
 refine ⟨fun h=>?_,fun h=>?_⟩
 ·have hlt:i < xs.length:=by omega
  have hrd:=cI_rd (l:=xs) (i:=i) hlt
  rw [getD_lt hlt] at hrd
  (try simp (maxSteps:=1000000) (disch:=first | assumption | (apply ν6;assumption)) only [vz,vu,vv,eqS,eF_,↓c1_,↓c2_,tabs,reduceCtorEq,ι5,↓reduceIte,ν1,ν2,ν3,ν4,ν5,ι1,ι2,ι3,ι4,lA_ hq,hrd,cI_len,callF,List.cons_append,List.nil_append])
  refine ⟨by omega,by omega,by omega,?_⟩
  refine PuAt.use (hp _ (List.getElem_mem hlt)) ?_
  (try simp (maxSteps:=1000000) (disch:=first | assumption | (apply ν6;assumption)) only [vz,vu,vv,eqS,eF_,↓c1_,↓c2_,tabs,reduceCtorEq,ι5,↓reduceIte,ν1,ν2,ν3,ν4,ν5,ι1,ι2,ι3,ι4])
  refine ⟨fun h1=>?_,fun h1=>⟨i+1,⟨by omega,fun j hj hji=>?_⟩,by omega,?_⟩⟩
  ·have h2:xs.any p=true:=List.any_eq_true.2 ⟨xs[i],List.getElem_mem hlt,h1⟩
   have h3:xs.findIdx p=i:=by
    rw [List.findIdx_eq hlt];exact ⟨h1,fun j hj=>ha j (by omega) hj⟩
   rw [h2,h3] at hK;exact wkK.keep (by simpa using hK)
  ·rcases Nat.lt_succ_iff_lt_or_eq.1 hji with h2 | rfl
   ·exact ha j hj h2
   ·exact h1
  ·rw [wk_int,i6_ (by omega) (by omega)];simp
 ·have hi:i=xs.length:=by omega
  have h2:xs.any p=false:=by
   rw [List.any_eq_false]
   intro x hx
   obtain ⟨j,hj,rfl⟩:=List.mem_iff_getElem.1 hx
   rw [ha j hj (by omega)];simp
  rw [h2] at hK;exact wkK.keep (by simpa using hK)
theorem DeleteFunc_row {H G:Heap} {Ts:List Th} {q:Nat} {xs:List Int} (p:Int→Bool) (f:Nat) (caps:List AV) (s:St H (cT_ q (cP fI xs)::Ts) G) (hl:xs.length≤1000000)
  (hp:∀x∈xs,∀G',(∀y b,G y=some b→y≠q→G' y=some b)→PuAt Tryz.prog f (I x::caps) G' (B (p x))) {K:AV→Heap→Prop}
  (h:∀J G',(∀y b,G y=some b→y≠q→G' y=some b)→St H (cT_ q (cP fI ((xs.filter fun x=>!p x)++J))::Ts) G'→K (.sl q 1 0 (xs.filter fun x=>!p x).length) G'):CallT Tryz.prog 80 [.sl q 1 0 xs.length,.fn f caps] G K:=by
 have hq:G q=some (cP fI xs):=s.get 0 rfl
 refine W80_ok ?_;simp (maxSteps:=1000000) (disch:=first | assumption | (apply ν6;assumption)) only [W80,vz,vu,vv,eqS,eF_,↓c1_,↓c2_,tabs,reduceCtorEq,ι5,↓reduceIte,ν1,ν2,ν3,ν4,ν5,ι1,ι2,ι3,ι4]
 refine PuAt.use (IndexFunc_live f caps p hq (by omega) fun x hx=>hp x hx _ fun y b hb hy=>hb) ?_
 by_cases hany:xs.any p=true
 ·rw [if_pos hany]
  have hidx:xs.findIdx p < xs.length:=by
   rw [List.findIdx_lt_length]
   obtain ⟨x,h1,h2⟩:=List.any_eq_true.1 hany
   exact ⟨x,h1,h2⟩
  have hft:=findIdx_filter hidx
  generalize xs.findIdx p=k at hidx hft
  have hk1:¬(k:Int)=-1:=by omega
  have e5:IntKind.i64.wrap ((k:Int)+1)=((k+1:Nat):Int):=by rw [i6_ (by omega) (by omega)];simp
  (try simp (maxSteps:=1000000) (disch:=first | assumption | (apply ν6;assumption)) only [vz,vu,vv,eqS,eF_,↓c1_,↓c2_,tabs,reduceCtorEq,ι5,↓reduceIte,ν1,ν2,ν3,ν4,ν5,ι1,ι2,ι3,ι4,hk1,decide_false,e5])
  refine L80_0_rule (k,k+1,xs,G) (fun z=>I z.1) (fun z=>I z.2.1) (fun z=>z.2.2.2)
   (fun z=>z.1 < z.2.1∧z.2.1≤xs.length∧z.2.2.1.length=xs.length∧z.2.2.1.take z.1=(xs.take z.2.1).filter (fun x=>!p x)∧z.2.2.1.drop z.2.1=xs.drop z.2.1∧(∀y b,G y=some b→y≠q→z.2.2.2 y=some b)∧St H (cT_ q (cP fI z.2.2.1)::Ts) z.2.2.2) (fun z=>xs.length - z.2.1)
   ⟨⟨by simp only;omega,by simp only;omega,rfl,hft,rfl,fun y b hb _=>hb,s⟩,.refl _,.refl _,Heap.le_refl _⟩ ?_
  clear hft hk1 e5 hidx
  rintro ⟨i,j,Z,G2⟩ ⟨h1,h2,h3,h4,h5,h6,st⟩
  dsimp only at h1 h2 h3 h4 h5 h6 st
  have e6:IntKind.i64.wrap ((j:Int)+1)=((j+1:Nat):Int):=by rw [i6_ (by omega) (by omega)];simp
  have e7:IntKind.i64.wrap ((i:Int)+1)=((i+1:Nat):Int):=by rw [i6_ (by omega) (by omega)];simp
  have hZl:(cP fI Z).length=xs.length:=by rw [cI_len,h3]
  (try simp (maxSteps:=1000000) (disch:=first | assumption | (apply ν6;assumption)) only [vz,vu,vv,eqS,eF_,↓c1_,↓c2_,tabs,reduceCtorEq,ι5,↓reduceIte,ν1,ν2,ν3,ν4,ν5,ι1,ι2,ι3,ι4,B80_0])
  refine ⟨fun hj=>?_,fun hj=>?_⟩
  ·have hlj:j < xs.length:=by omega
   have hzj:Z.getD j default=xs.getD j default:=by
    have a:=congrArg (fun l:List Int=>l.getD 0 default) h5
    simpa [List.getD,List.getElem?_drop] using a
   have hrd:=cI_rd (l:=Z) (i:=j) (by omega)
   rw [hzj] at hrd
   have hmem:xs.getD j default∈xs:=getD_all (p:=fun z=>z∈xs) (fun _ k=>k) hlj
   have htk:xs.take (j+1)=xs.take j++[xs.getD j default]:=tS_ hlj
   have hd1:Z.drop (j+1)=xs.drop (j+1):=by
    have a:=congrArg (fun l:List Int=>l.drop 1) h5
    simpa [List.drop_drop,Nat.add_comm] using a
   generalize xs.getD j default=x at hrd hmem htk
   (try simp (maxSteps:=1000000) (disch:=first | assumption | (apply ν6;assumption)) only [vz,vu,vv,eqS,eF_,↓c1_,↓c2_,tabs,reduceCtorEq,ι5,↓reduceIte,ν1,ν2,ν3,ν4,ν5,ι1,ι2,ι3,ι4,lA_ (st.get 0 rfl),hrd,hZl,cI_len,h3,callF,List.cons_append,List.nil_append])
   refine ⟨by omega,by omega,by omega,?_⟩
   refine PuAt.use (hp x hmem _ h6) ?_
   cases hpx:p x
   ·have hset:=cI_set (l:=Z) (t:=i) (by omega) x
    (try simp (maxSteps:=1000000) (disch:=first | assumption | (apply ν6;assumption)) only [vz,vu,vv,eqS,eF_,↓c1_,↓c2_,tabs,reduceCtorEq,ι5,↓reduceIte,ν1,ν2,ν3,ν4,ν5,ι1,ι2,ι3,ι4,sA_ (st.get 0 rfl),hZl,cI_len,h3,e6,e7])
    repeat refine ⟨by omega,?_⟩
    rw [hset]
    refine ⟨(i+1,j+1,Z.set i x,_),⟨by simp only;omega,by simp only;omega,by simp only [List.length_set];exact h3,?_,?_,fun y b hb hy=>Eq.trans (Heap.set_other hy) (h6 y b hb hy),st.put 0 rfl (cP fI (Z.set i x))⟩,by simp only;omega,.refl _,.refl _,Heap.le_refl _⟩
    ·simp only [htk,List.filter_append,List.filter_cons,hpx,Bool.not_false,if_true,List.filter_nil]
     rw [← h4,List.take_succ_eq_append_getElem (by rw [List.length_set];omega),List.getElem_set_self,List.take_set_of_le (Nat.le_refl _)]
    ·simp only
     rw [List.drop_set_of_lt (by omega)];exact hd1
   ·(try simp (maxSteps:=1000000) (disch:=first | assumption | (apply ν6;assumption)) only [vz,vu,vv,eqS,eF_,↓c1_,↓c2_,tabs,reduceCtorEq,ι5,↓reduceIte,ν1,ν2,ν3,ν4,ν5,ι1,ι2,ι3,ι4,e6])
    refine ⟨(i,j+1,Z,G2),⟨by simp only;omega,by simp only;omega,h3,?_,hd1,h6,st⟩,by simp only;omega,.refl _,.refl _,Heap.le_refl _⟩
    simp only [htk,List.filter_append,List.filter_cons,hpx,Bool.not_true,Bool.false_eq_true,if_false,List.filter_nil,List.append_nil]
    exact h4
  ·have:j=xs.length:=by omega
   subst this
   rw [List.take_length] at h4
   have hfl:(xs.filter fun x=>!p x).length=i:=by
    have:=congrArg List.length h4
    rw [List.length_take] at this
    omega
   have em:((xs.length:Int) - (i:Int)).toNat=xs.length - i:=by omega
   have hz0:¬xs.length - i=0:=by omega
   (try simp (maxSteps:=1000000) (disch:=first | assumption | (apply ν6;assumption)) only [vz,vu,vv,eqS,eF_,↓c1_,↓c2_,tabs,reduceCtorEq,ι5,↓reduceIte,ν1,ν2,ν3,ν4,ν5,ι1,ι2,ι3,ι4,em])
   refine ⟨by omega,by omega,by omega,?_⟩
   have hq2:G2 q=some (cP fI Z):=st.get 0 rfl
   have hzz:zA_ (xs.length - i) [I 0]=cP fI (List.replicate (xs.length - i) 0):=cP_rep _
   have hzl:(cP fI (List.replicate (xs.length - i) 0)).length=xs.length - i:=by simp [cP]
   have hsp:splice (cP fI Z) (i*1) (cP fI (List.replicate (xs.length - i) 0))=cP fI ((xs.filter fun x=>!p x)++List.replicate (xs.length - i) 0):=by
    unfold splice
    rw [hzl,List.drop_of_length_le (by rw [cI_len];omega),List.append_nil,Nat.mul_one,cI_app,← h4,cP,← List.map_take]
   simp only [clearV,tab_24,tab_3,hq2]
   refine ⟨trivial,?_⟩
   rw [if_neg hz0,hzz,hsp,cI_len]
   refine ⟨by omega,cP_all _,by omega,by omega,by omega,?_⟩
   have:=h (List.replicate (xs.length - i) 0) (G2.set q (cP fI ((xs.filter fun x=>!p x)++List.replicate (xs.length - i) 0))) (fun y b hb hy=>Eq.trans (Heap.set_other hy) (h6 y b hb hy)) (st.put 0 rfl _)
   rwa [hfl] at this
 ·rw [if_neg hany]
  have hall:(xs.filter fun x=>!p x)=xs:=by
   rw [List.filter_eq_self]
   intro x hx
   rw [List.any_eq_true] at hany
   cases hpx:p x
   ·rfl
   ·exact absurd ⟨x,hx,hpx⟩ hany
  have:=h [] G (fun y b hb _=>hb) (by rw [hall,List.append_nil];exact s)
  rw [hall] at this
  have e1:((-1:Int)=-1)=True:=eq_true rfl
  (try simp (maxSteps:=1000000) (disch:=first | assumption | (apply ν6;assumption)) only [vz,vu,vv,eqS,eF_,↓c1_,↓c2_,tabs,reduceCtorEq,ι5,↓reduceIte,ν1,ν2,ν3,ν4,ν5,ι1,ι2,ι3,ι4,e1,decide_true])
  exact this
end Go.Proofs.YtohkciilfkhomaaGreat
namespace Go.Proofs.YtohkciilfkhomaaGreat
open Go Go.Sep Go.Pt
attribute [local irreducible] CallT
theorem buildN_1 (x:Int):buildN tab 24 1 [(0,I x)]=some (fun r=>.sl r 1 0 1,cP fI [x]):=by
 simp only [buildN,tab_24,tab_3]
 rfl
theorem fairLasso1_at {l:List Int} {v:Int} {G:Heap} {r11 r9:Nat} (h11:G r11=some [Is l]) (h9:G r9=some [I v]) (hv:0≤v∧v < l.length) {w:Int} (hw:0≤w∧w < l.length) :
  PuAt Tryz.prog 81 [I w,.ptr r11 0,.ptr r9 0] G (B (!decide (l.getD w.toNat default=l.getD v.toNat default))):=by
 intro K hK
 refine W81_ok ?_;simp (maxSteps:=1000000) (disch:=first | assumption | (apply ν6;assumption)) only [W81,vz,vu,vv,eqS,eF_,↓c1_,↓c2_,tabs,reduceCtorEq,ι5,↓reduceIte,ν1,ν2,ν3,ν4,ν5,ι1,ι2,ι3,ι4,lA_ h11,lA_ h9]
 refine ⟨by omega,by omega,by omega,by omega,?_⟩
 first | exact hK | simpa using hK
theorem RNr.res (l:List Int):ResU (fun r G D=>RN (LPl eI) 1 r l G D):=by
 refine ⟨?_,?_,?_⟩
 ·intro r G G' D h hf
  exact h.local (LPl.local eI) hf
 ·intro r G D h
  rcases rnI_cases h with ⟨rfl,_,rfl⟩ | ⟨q,rfl,hq,rfl⟩
  ·exact ⟨.inr ⟨.inr ⟨.p .nil,fun _=>rfl⟩,fun _=>rfl⟩,fun y hy=>by cases hy⟩
  ·refine ⟨.inr ⟨.inr ⟨.inl ⟨_,_,_,_,rfl⟩,fun _=>rfl⟩,fun _=>rfl⟩,fun y hy bs hb c hc=>?_⟩
   rw [List.mem_singleton.1 hy,hq] at hb;cases hb
   obtain ⟨z,_,rfl⟩:=List.mem_map.1 hc
   exact .p (.int _ _)
 ·intro r G D n G0 h0 h
  rcases rnI_cases h with ⟨rfl,hl,rfl⟩ | ⟨q,rfl,hq,rfl⟩
  ·exact .inl ⟨rfl,hl,rfl⟩
  ·refine rnI_mk ?_
   have em:(cP fI l).map (shC n)=cP fI l:=by rw [cP,List.map_map];rfl
   simp only [Heap.or,h0 (q+n) (by omega),shH,Nat.le_add_left,if_true,Nat.add_sub_cancel,hq,Option.map_some,em]
theorem fairLasso_spec (g:List (List Nat)) (hg:GrB g) (some:List Nat) (hs:∀v∈some,v < g.length) (hsl:some.length≤100000) (goals:List (List Nat)) (b:Nat) (hgo:GoB goals g.length) (hgb:∀l∈goals,l.length≤b) (hB:(goals.length+1)*(g.length+b+2)≤800000) :
  Pu Tryz.prog 30 [Ls (gI g),Is (nI some),Ls (gI goals)] (lassoV (rwF g) g.length some goals):=by
 refine ⟨fun H=>CallT.fin ?_⟩
 have hn:=hg.n
 have hgl:=gI_len g
 have hol:=gI_len goals
 have hon:=hgo.len
 refine W30_ok ?_;simp (maxSteps:=1000000) (disch:=first | assumption | (apply ν6;assumption)) only [W30,vz,vu,vv,eqS,eF_,↓c1_,↓c2_,tabs,reduceCtorEq,ι5,↓reduceIte,ν1,ν2,ν3,ν4,ν5,ι1,ι2,ι3,ι4]
 refine Pu.use (meeting_spec g hg some hs hsl goals hgo) ?_
 (try simp (maxSteps:=1000000) (disch:=first | assumption | (apply ν6;assumption)) only [vz,vu,vv,eqS,eF_,↓c1_,↓c2_,tabs,reduceCtorEq,ι5,↓reduceIte,ν1,ν2,ν3,ν4,ν5,ι1,ι2,ι3,ι4])
 intro r9 hr9
 (try simp (maxSteps:=1000000) (disch:=first | assumption | (apply ν6;assumption)) only [vz,vu,vv,eqS,eF_,↓c1_,↓c2_,tabs,reduceCtorEq,ι5,↓reduceIte,ν1,ν2,ν3,ν4,ν5,ι1,ι2,ι3,ι4])
 have st:=(St.nil H).cell hr9 [I (meetF (rwF g) g.length some goals)]
 refine ⟨fun h2=>?_,fun h2=>?_⟩
 ·have e:lassoV (rwF g) g.length some goals=.tup [Is [],Is [],B false]:=by
   rw [lassoV,laS,laL,laB,if_pos h2,if_pos h2,decide_eq_true h2];rfl
  rw [e]
  exact ⟨_,_,.trans (.val (v':=.tup [Is [],Is [],B false]) (wk_tup ⟨.nil,.nil,.refl _,trivial⟩)) (.forget st.le),rfl,rfl⟩
 ·obtain ⟨m,em,hm,hfair,hreach⟩:=meetF_pos hg.gr hs h2
  have e:lassoV (rwF g) g.length some goals=.tup [Is (nI (stemF (rwF g) g.length m some)),Is (nI (ringF (rwF g) g.length m goals)),B true]:=by
   rw [lassoV,laS,laL,laB,if_neg h2,if_neg h2,em,Int.toNat_natCast,decide_eq_false (by omega)];rfl
  rw [e]
  rw [em] at st ⊢
  generalize H.set r9 [I (m:Nat)]=G at st ⊢
  clear hr9
  obtain ⟨FL,hsl2,hrl2,hbst,hpos⟩:=fair_lasso (b:=b) hg.gr hm hfair (fun l hl=>⟨hgo.lt l hl,hgb l hl⟩) hreach
  have hinv:=loopF_inv (b:=b) hg.gr hm hfair (fun l hl=>⟨hgo.lt l hl,hgb l hl⟩)
  refine lit1 tab_24 rfl tab_3 ⟨rfl,rfl⟩ ?_
  have hmo:∀v∈[m],v < g.length:=fun v hv=>by rw [List.mem_singleton.1 hv];exact hm
  refine Pu.use (leastWay_spec g hg some [m] hs (by omega) hmo (by simp)) ?_
  refine Pu.use (parts_spec g hg) ?_
  have hpl:=prtI_len g
  have hpg:=fun v (h:v < g.length)=>prtI_get h
  have hpm:=hpg m hm
  (try simp (maxSteps:=1000000) (disch:=first | assumption | (apply ν6;assumption)) only [vz,vu,vv,eqS,eF_,↓c1_,↓c2_,tabs,reduceCtorEq,ι5,↓reduceIte,ν1,ν2,ν3,ν4,ν5,ι1,ι2,ι3,ι4])
  intro r11 hr11
  replace st:=st.cell hr11 [Is (prtI g)]
  (try simp (maxSteps:=1000000) (disch:=first | assumption | (apply ν6;assumption)) only [vz,vu,vv,eqS,eF_,↓c1_,↓c2_,tabs,reduceCtorEq,ι5,↓reduceIte,ν1,ν2,ν3,ν4,ν5,ι1,ι2,ι3,ι4])
  generalize G.set r11 [Is (prtI g)]=G1 at st ⊢
  clear hr11
  have hbn:=buildN_1 m
  (try simp (maxSteps:=1000000) (disch:=first | assumption | (apply ν6;assumption)) only [vz,vu,vv,eqS,eF_,↓c1_,↓c2_,tabs,reduceCtorEq,ι5,↓reduceIte,ν1,ν2,ν3,ν4,ν5,ι1,ι2,ι3,ι4,lA_ (st.get 1 rfl),lA_ (st.get 0 rfl),hpl,hpm,Int.toNat_natCast,hbn,safeV,newV])
  refine ⟨by omega,by omega,?_⟩
  refine Pu.use (inside_spec g hg m) ?_
  (try simp (maxSteps:=1000000) (disch:=first | assumption | (apply ν6;assumption)) only [vz,vu,vv,eqS,eF_,↓c1_,↓c2_,tabs,reduceCtorEq,ι5,↓reduceIte,ν1,ν2,ν3,ν4,ν5,ι1,ι2,ι3,ι4,lA_ (st.get 1 rfl),hbn,safeV,newV])
  intro q hq
  replace st:=st.cell hq (cP fI (nI [m]))
  generalize hG2:G1.set q (cP fI (nI [m]))=G2 at st
  have hst:nI (stemF (rwF g) g.length m some)=(nI (lwayF (rwF g) g.length some [m])).take ((nI (lwayF (rwF g) g.length some [m])).length - 1):=by
   rw [nI_take,nL_,stemF,List.dropLast_eq_take]
  rw [hst]
  have hstl:(nI (lwayF (rwF g) g.length some [m])).length=(lwayF (rwF g) g.length some [m]).length:=nL_ _
  have hlwl:(lwayF (rwF g) g.length some [m]).length≤g.length+2:=(lwayF_spec hg.gr hmo hbst).2
  generalize nI (lwayF (rwF g) g.length some [m])=stm at hstl ⊢
  have hG3:G1.set q [AV.p (fI (m:Int))]=G2:=hG2
  have st3:St H [cT_ q (cP fI (nI [m])),cT_ r11 [Is (prtI g)],cT_ r9 [I (m:Nat)]] G2:=st
  clear st hq
  have hil:=in1G_len g m
  have hirow:=in1G_row hg m
  have hgi:=in1G_B hg m
  have hilg:=gI_len (in1G g m)
  rw [hil] at hilg
  (try simp (maxSteps:=1000000) (disch:=first | assumption | (apply ν6;assumption)) only [vz,vu,vv,eqS,eF_,↓c1_,↓c2_,tabs,reduceCtorEq,ι5,↓reduceIte,ν1,ν2,ν3,ν4,ν5,ι1,ι2,ι3,ι4,hol,hG3])
  clear hG3 hG2
  have e0:loopF (rwF g) g.length m (goals.take 0)=[m]:=rfl
  refine L30_0_rule ((0:Nat),q,G2) (fun z=>rowP z.2.1 (nI (loopF (rwF g) g.length m (goals.take z.1)))) (fun z=>I z.1) (fun z=>z.2.2) (fun z=>z.1≤goals.length∧St H [cT_ z.2.1 (cP fI (nI (loopF (rwF g) g.length m (goals.take z.1)))),cT_ r11 [Is (prtI g)],cT_ r9 [I (m:Nat)]] z.2.2) (fun z=>goals.length - z.1)
   ⟨⟨by simp,st3⟩,.refl _,.refl _,Heap.le_refl _⟩ ?_
  clear st3 q G2
  rintro ⟨t,q,G⟩ ⟨ht,st⟩
  dsimp only at ht st
  have hli:=hinv t ht
  have hll:=hli.len
  have hlast:=hli.last
  have hne:=hli.ne
  have hmul:(goals.take t).length*(g.length+b)≤goals.length*(g.length+b):=Nat.mul_le_mul_right _ (by rw [List.length_take];omega)
  have hB2:(goals.length+1)*(g.length+b+2)=goals.length*(g.length+b)+goals.length*2+(g.length+b+2):=by rw [Nat.add_mul,Nat.one_mul,Nat.mul_add]
  have e5:IntKind.i64.wrap ((t:Int)+1)=((t+1:Nat):Int):=by rw [i6_ (by omega) (by omega)];simp
  generalize hacc:loopF (rwF g) g.length m (goals.take t)=acc at st hli hll hlast hne
  have hal:(nI acc).length=acc.length:=nL_ acc
  simp only [hacc]
  have e7:IntKind.i64.wrap ((acc.length:Int) - 1)=((acc.length - 1:Nat):Int):=by rw [i6_ (by omega) (by omega)];omega
  (try simp (maxSteps:=1000000) (disch:=first | assumption | (apply ν6;assumption)) only [vz,vu,vv,eqS,eF_,↓c1_,↓c2_,tabs,reduceCtorEq,ι5,↓reduceIte,ν1,ν2,ν3,ν4,ν5,ι1,ι2,ι3,ι4,B30_0,hol,hal])
  refine ⟨fun h3=>?_,fun h3=>?_⟩
  ·have hlt:t < goals.length:=by omega
   refine ⟨by omega,h3,?_⟩
   rw [gI_get hlt]
   obtain ⟨hsz,hxlt⟩:=hgo.get hlt
   have hnl:=nL_ (rwF goals t)
   have hmem:rwF goals t∈goals:=by simp [rwF,List.getD,hlt]
   refine CloneI_row (nI (rwF goals t)) (by omega) fun q4 hq4=>?_
   replace st:=st.cell hq4 (cP fI (nI (rwF goals t)))
   generalize G.set q4 (cP fI (nI (rwF goals t)))=G2 at st ⊢
   clear hq4
   have n11:r11≠q4:=fun e=>st.disjI 0 2 rfl rfl (by decide) q4 (by simp [cT_]) (by simp [cT_,e])
   have n9:r9≠q4:=fun e=>st.disjI 0 3 rfl rfl (by decide) q4 (by simp [cT_]) (by simp [cT_,e])
   refine DeleteFunc_row (fun x=>!decide ((prtI g).getD x.toNat default=(prtI g).getD m default)) 81 [.ptr r11 0,.ptr r9 0] st (by omega) (fun x hx G' hf=>?_) fun J G3 hf st=>?_
   ·obtain ⟨w,hw,rfl⟩:=nI_mem.1 hx
    have hwn:=hgo.lt _ hmem w hw
    have:=fairLasso1_at (l:=prtI g) (v:=(m:Int)) (w:=(w:Int)) (hf r11 _ (st.get 2 rfl) n11) (hf r9 _ (st.get 3 rfl) n9) (by rw [hpl];omega) (by rw [hpl];omega)
    simpa using this
   have hown':((nI (rwF goals t)).filter fun x=>!(!decide ((prtI g).getD x.toNat default=(prtI g).getD m default)))=nI (ownF (rwF g) m (rwF goals t)):=by
    rw [ownF_eq,nI,nI,List.filter_map]
    congr 1
    apply List.filter_congr
    intro w hw
    have hwn:=hgo.lt _ hmem w hw
    simp only [Function.comp_apply,Bool.not_not,Int.toNat_natCast,hpg w hwn,hpm,decide_eq_decide]
    omega
   rw [hown'] at st ⊢
   obtain ⟨hbest,hleg,hlp⟩:=loop_leg hg.gr hli (hfair.2 _ hmem) (hgo.lt _ hmem) (hgb _ hmem)
   have hown:∀v∈ownF (rwF g) m (rwF goals t),v < g.length:=fun v hv=>hgo.lt _ hmem v (ownF_mem.1 hv).1
   have hol2:(ownF (rwF g) m (rwF goals t)).length≤100000:=Nat.le_trans (List.length_filter_le _ _) hsz
   have hlegd:legF (rwF g) g.length m acc (rwF goals t)=acc++(lwayF (inF (rwF g)) g.length [lastF acc] (ownF (rwF g) m (rwF goals t))).tail:=rfl
   have hwl2:=(lwayF_spec (inF_ok hg.gr) hown hbest).2
   have hin1:=lway_in1 (n:=g.length) (m:=m) (some:=[lastF acc]) (to:=ownF (rwF g) m (rwF goals t)) hg.gr hown (fun v hv=>(ownF_mem.1 hv).2) (fun v hv=>by rw [List.mem_singleton.1 hv];exact hlast.1)
   have hnext:loopF (rwF g) g.length m (goals.take (t+1))=legF (rwF g) g.length m acc (rwF goals t):=by
    have:goals.take (t+1)=goals.take t++[rwF goals t]:=tS_ hlt
    rw [this,loopF_snoc,hacc]
   generalize ownF (rwF g) m (rwF goals t)=own at st hbest hleg hlp hown hol2 hlegd hwl2 hin1
   have e8:((acc.length:Int) - ((acc.length - 1:Nat):Int)).toNat=1:=by omega
   (try simp (maxSteps:=1000000) (disch:=first | assumption | (apply ν6;assumption)) only [vz,vu,vv,eqS,eF_,↓c1_,↓c2_,tabs,reduceCtorEq,ι5,↓reduceIte,ν1,ν2,ν3,ν4,ν5,ι1,ι2,ι3,ι4,hal,e7,e8,Int.toNat_natCast])
   refine ⟨by omega,by omega,by omega,?_⟩
   have hqa:G3 q=Option.some (cP fI (nI acc)):=st.get 1 rfl
   have hq4:G3 q4=Option.some (cP fI (nI own++J)):=st.get 0 rfl
   have hne4:q≠q4:=fun e=>st.disjI 0 1 rfl rfl (by decide) q4 (by simp [cT_]) (by simp [cT_,e])
   have hlastI:((nI acc).drop (acc.length - 1)).take 1=nI [lastF acc]:=by
    rw [nI_drop,nI_take]
    congr 1
    have:acc.length - 1 < acc.length:=by omega
    rw [drop_cons this];rfl
   have hwk:Wk (.tup [Ls (gI (in1G g m)),.sl q 1 ((acc.length - 1)*1) 1,.sl q4 1 0 (nI own).length]) G3 (.tup [Ls (gI (in1G g m)),Is (nI [lastF acc]),Is (nI own)]) ((G3.del q).del q4):=by
    refine .trans (Wk.frzS (r:=q) (es:=(nI acc).map fI) (v':=.tup [Ls (gI (in1G g m)),Is (nI [lastF acc]),.sl q4 1 0 (nI own).length]) (by rw [hqa,List.map_map];rfl) (.tup (.cons (.same _) (.cons ?_ (.cons (.same _) .nil)))))
     (Wk.frzS (r:=q4) (es:=(nI own++J).map fI) (by rw [Heap.del_other (Ne.symm hne4),hq4,List.map_map];rfl) (.tup (.cons (.same _) (.cons (.same _) (.cons ?_ .nil)))))
    ·have:=FrzS.part (r:=q) (es:=(nI acc).map fI) (acc.length - 1) 1 (by rw [List.length_map,nL_];omega)
     have e:((((nI acc).map fI).drop (acc.length - 1)).take 1).map (fun v=>[v])=(nI [lastF acc]).map eI:=by
      rw [← List.map_drop,← List.map_take,hlastI,List.map_map];rfl
     rw [e] at this
     rw [Nat.mul_one];exact this
    ·have:=FrzS.part (r:=q4) (es:=(nI own++J).map fI) 0 (nI own).length (by rw [List.length_map,List.length_append];omega)
     have e:((((nI own++J).map fI).drop 0).take (nI own).length).map (fun v=>[v])=(nI own).map eI:=by
      rw [List.drop_zero,← List.map_take,List.take_left' rfl,List.map_map];rfl
     rw [e] at this
     exact this
   have hrow:=fun {H:Heap} {K:AV→Heap→Prop}=>leastWay_row (in1G g m) hgi [lastF acc] own (fun v hv=>by rw [in1G_len,List.mem_singleton.1 hv];exact hlast.2) (by simp) (fun v hv=>by rw [in1G_len];exact hown v hv) hol2 (H:=H) (K:=K)
   rw [hirow,hil,← hin1] at hrow
   generalize lwayF (inF (rwF g)) g.length [lastF acc] own=leg at hrow hlegd hlp hwl2
   refine thawU (RNr.res (nI leg)) (fun hK=>hrow fun v G D h1 h2=>hK _ _ _ h1 h2) hwk fun vr G7 D7 hrs hn7=>?_
   replace st:=st.push (rnI vr (nI leg) D7) hn7 hrs
   rcases rnI_cases (st.get 0 rfl) with ⟨_,h0,_⟩ | ⟨q5,rfl,hq5,rfl⟩
   ·have:=congrArg List.length h0
    rw [nL_,List.length_nil] at this
    omega
   have hnleg:=nL_ leg
   have e9:((leg.length:Int) - 1).toNat=leg.length - 1:=by omega
   (try simp (maxSteps:=1000000) (disch:=first | assumption | (apply ν6;assumption)) only [vz,vu,vv,eqS,eF_,↓c1_,↓c2_,tabs,reduceCtorEq,ι5,↓reduceIte,ν1,ν2,ν3,ν4,ν5,ι1,ι2,ι3,ι4,hnleg,e9,e5])
   refine ⟨by omega,by omega,by omega,?_⟩
   refine st_appL st 2 rfl hq5 (by rw [nL_];omega) (by rw [nL_];omega) fun q' G' hq' st=>?_
   have et:((nI leg).drop 1).take (leg.length - 1)=nI leg.tail:=by
    rw [List.take_of_length_le (by rw [List.length_drop,nL_];omega),nI_drop,List.drop_one]
   rw [et,← nI_app,← hlegd,← hnext] at st ⊢
   exact ⟨(t+1,q',G'),⟨by simp only;omega,st.drop.drop⟩,by simp only;omega,.refl _,.refl _,Heap.le_refl _⟩
  ·have:t=goals.length:=by omega
   subst this
   rw [List.take_length] at hacc hli
   obtain ⟨hbest,hlw,hbl⟩:=loop_back hg.gr hli hfair.1
   have hin1:=lway_in1 (n:=g.length) (m:=m) (some:=inF (rwF g) (lastF acc)) (to:=[m]) hg.gr hmo (fun v hv=>by rw [List.mem_singleton.1 hv];exact .refl _) (fun v hv=>hlast.1.trans (inF_mem.1 hv).2)
   have e8:IntKind.i64.wrap ((stm.length:Int) - 1)=((stm.length - 1:Nat):Int):=by rw [i6_ (by omega) (by omega)];omega
   have hrl:=cI_rd (l:=nI acc) (i:=acc.length - 1) (by rw [nL_];omega)
   rw [nI_get (by omega)] at hrl
   have hlr:acc.getD (acc.length - 1) 0=lastF acc:=rfl
   rw [hlr] at hrl
   have hgl2:(gI (in1G g m)).getD (lastF acc) default=nI (inF (rwF g) (lastF acc)):=by rw [gI_get (by rw [in1G_len];exact hlast.2),hirow,in1F_eq hlast.1]
   (try simp (maxSteps:=1000000) (disch:=first | assumption | (apply ν6;assumption)) only [vz,vu,vv,eqS,eF_,↓c1_,↓c2_,tabs,reduceCtorEq,ι5,↓reduceIte,ν1,ν2,ν3,ν4,ν5,ι1,ι2,ι3,ι4,lA_ (st.get 0 rfl),lA_ (st.get 2 rfl),e7,e8,hrl,cI_len,hal,hilg,hgl2,Int.toNat_natCast])
   refine ⟨by omega,by omega,by omega,by omega,by omega,?_⟩
   refine lit1 tab_24 rfl tab_3 ⟨rfl,rfl⟩ ?_
   have hin:(inF (rwF g) (lastF acc)).length≤500000:=by
    rw [inF_cB];exact Nat.le_trans (List.length_filter_le _ _) (hg.row hlast.2)
   have hps:=leastWay_spec (in1G g m) hgi (inF (rwF g) (lastF acc)) [m] (fun v hv=>by rw [in1G_len];exact hg.gr.lt _ v (inF_mem.1 hv).1) hin (fun v hv=>by rw [in1G_len];exact hmo v hv) (by simp)
   rw [hirow,hil,← hin1] at hps
   have hring:ringF (rwF g) g.length m goals=acc++(backF (rwF g) g.length m acc).dropLast:=by rw [ringF,hacc]
   have hback:lwayF (inF (rwF g)) g.length (inF (rwF g) (lastF acc)) [m]=backF (rwF g) g.length m acc:=rfl
   rw [hring]
   rw [hback] at hps
   (try simp (maxSteps:=1000000) (disch:=first | assumption | (apply ν6;assumption)) only [vz,vu,vv,eqS,eF_,↓c1_,↓c2_,tabs,reduceCtorEq,ι5,↓reduceIte,ν1,ν2,ν3,ν4,ν5,ι1,ι2,ι3,ι4,lA_ (st.get 0 rfl),hrl,cI_len,hal,hgl2,hilg,Int.toNat_natCast])
   refine ⟨by omega,?_⟩
   refine Pu.use hps ?_
   have hbp:=hlw.pos
   generalize backF (rwF g) g.length m acc=back at hbp hbl
   have hbkl:=nL_ back
   have e9:IntKind.i64.wrap ((back.length:Int) - 1)=((back.length - 1:Nat):Int):=by rw [i6_ (by omega) (by omega)];omega
   (try simp (maxSteps:=1000000) (disch:=first | assumption | (apply ν6;assumption)) only [vz,vu,vv,eqS,eF_,↓c1_,↓c2_,tabs,reduceCtorEq,ι5,↓reduceIte,ν1,ν2,ν3,ν4,ν5,ι1,ι2,ι3,ι4,hbkl,e9,Int.toNat_natCast])
   refine ⟨by omega,by omega,by omega,fun e he=>?_,by omega,by omega,by omega,fun e he=>?_,?_⟩
   ·obtain ⟨x,_,rfl⟩:=List.mem_map.1 he;rfl
   ·obtain ⟨x,_,rfl⟩:=List.mem_map.1 he;rfl
   have ed:(nI back).take (back.length - 1)=nI back.dropLast:=by rw [nI_take,List.dropLast_eq_take]
   rw [ed]
   refine st_appI st 0 rfl (by rw [nL_,nL_,List.length_dropLast];omega) fun q' G' hq' st=>?_
   rw [← nI_app] at st ⊢
   simp only [List.set_cons_zero] at st
   have hg':G' q'=Option.some (cP fI (nI (acc++back.dropLast))):=st.get 0 rfl
   refine ⟨_,H,.trans (Wk.frzS (r:=q') (es:=(nI (acc++back.dropLast)).map fI) (v':=.tup [Is (stm.take (stm.length - 1)),Is (nI (acc++back.dropLast)),B true]) (by rw [hg',List.map_map];rfl) (.tup (.cons (.same _) (.cons ?_ (.cons (.same _) .nil))))) (.forget fun y z hz=>?_),rfl,rfl⟩
   ·have:=FrzS.part (r:=q') (es:=(nI (acc++back.dropLast)).map fI) 0 (nI (acc++back.dropLast)).length (by simp)
    have e:((((nI (acc++back.dropLast)).map fI).drop 0).take (nI (acc++back.dropLast)).length).map (fun v=>[v])=(nI (acc++back.dropLast)).map eI:=by
     rw [List.drop_zero,List.take_of_length_le (by simp),List.map_map];rfl
    rw [e] at this
    exact this
   ·have hfr:=st.fr _ (List.mem_cons_self ..) q' (by simp [cT_])
    rw [Heap.del_other (fun e=>by rw [e,hfr] at hz;cases hz)]
    exact st.le y z hz
end Go.Proofs.YtohkciilfkhomaaGreat
namespace Go.Proofs.YtohkciilfkhomaaGreat
open Go Go.Sep Go.Pt
attribute [local irreducible] CallT
noncomputable def wS (a:Au):List Nat:=laS (rwF (gA a)) (gA a).length (nN a.first) (goN a.goals)
noncomputable def wL (a:Au):List Nat:=laL (rwF (gA a)) (gA a).length (nN a.first) (goN a.goals)
def wyF (S L:List Nat):List Nat:=S++L++[L.getD 0 0]
def ltsF (a:Au) (wy:List Nat) (n:Nat):List Int:=(List.range n).map fun i=>ltF a (wy.getD i 0) (wy.getD (i+1) 0)
theorem ltsF_len (a:Au) (wy:List Nat) (n:Nat):(ltsF a wy n).length=n:=by simp [ltsF]
theorem ltsF_succ (a:Au) (wy:List Nat) (n:Nat):ltsF a wy (n+1)=ltsF a wy n++[ltF a (wy.getD n 0) (wy.getD (n+1) 0)]:=by simp [ltsF,List.range_succ]
structure WayA (a:Au) (S L:List Nat):Prop where
 ne:0 < L.length
 sz:S.length≤100∧L.length≤2000
 way:∀i,i < S.length+L.length→a.edges.any (ltP (((wyF S L).getD i 0:Nat):Int) (((wyF S L).getD (i+1) 0:Nat):Int))=true
theorem arc_edge {a:Au} (fa:GoodF a) {u w:Nat} (h:w∈rwF (gA a) u):a.edges.any (ltP (u:Int) (w:Int))=true:=by
 have hu:u < (nextG a).length:=by
  rcases Nat.lt_or_ge u (gA a).length with h2 | h2
  ·simpa [gA] using h2
  ·rw [rwF_out (by omega)] at h;cases h
 have e:rwF (gA a) u=nN (sc (outN a a.edges.length u)):=by
  have hu2:u < a.states.toNat:=by rw [nextG_len] at hu;exact hu
  simp [rwF,gA,nextG,List.getD,hu2]
 rw [e] at h
 obtain ⟨x,hx,rfl⟩:=List.mem_map.1 h
 rw [sc_mem] at hx
 simp only [outN,List.mem_map,List.mem_filter,List.take_length,decide_eq_true_eq] at hx
 obtain ⟨e,⟨he,h1⟩,rfl⟩:=hx
 have:=edIn_iff.1 (fa.ei e he)
 refine List.any_eq_true.2 ⟨e,he,?_⟩
 simp only [ltP,Bool.and_eq_true,decide_eq_true_eq]
 omega
theorem wayA_of {a:Au} (h:AutoN a) (hf:fairA a=true):WayA a (wS a) (wL a):=by
 obtain ⟨h1,h2,h3⟩:=h.gob
 have hst:=h.f.st
 have hl:=gA_len a
 have hg:=gA_B h.f
 have hm:¬meetF (rwF (gA a)) (gA a).length (nN a.first) (goN a.goals) < 0:=by
  simpa [fairA,laB] using hf
 have hfi:∀v∈nN a.first,v < (gA a).length:=by rw [hl];exact nN_lt h.fr
 obtain ⟨m,em,hml,hfair,hreach⟩:=meetF_pos hg.gr hfi hm
 obtain ⟨FL,hsl2,hrl2,_,_⟩:=fair_lasso (b:=96) hg.gr hml hfair (fun l hl=>⟨h1.lt l hl,h2 l hl⟩) hreach
 have eS:wS a=stemF (rwF (gA a)) (gA a).length m (nN a.first):=by rw [wS,laS,if_neg hm,em];rfl
 have eL:wL a=ringF (rwF (gA a)) (gA a).length m (goN a.goals):=by rw [wL,laL,if_neg hm,em];rfl
 rw [← eS,← eL] at FL
 rw [← eS] at hsl2
 rw [← eL] at hrl2
 have hgl:(goN a.goals).length≤6:=by have:=h.f.gl;simpa [goN] using this
 refine ⟨FL.ne,⟨by omega,?_⟩,fun i hi=>arc_edge h.f ?_⟩
 ·have:(goN a.goals).length*((gA a).length+96)≤6*192:=Nat.mul_le_mul hgl (by omega)
  omega
 ·exact FL.way i (by simp only [List.length_append,List.length_cons,List.length_nil];omega)
theorem wyF_len (S L:List Nat):(wyF S L).length=S.length+L.length+1:=by simp [wyF];omega
noncomputable def woB (a:Au):Bool:=goodA a && (fairA a && goodL (ltsF a (wyF (wS a) (wL a)) (wS a).length) ((ltsF a (wyF (wS a) (wL a)) ((wS a).length+(wL a).length)).drop (wS a).length))
noncomputable def woS (a:Au):List Int:=if woB a then ltsF a (wyF (wS a) (wL a)) (wS a).length else []
noncomputable def woL (a:Au):List Int:=if woB a then (ltsF a (wyF (wS a) (wL a)) ((wS a).length+(wL a).length)).drop (wS a).length else []
theorem ltsF_take (a:Au) (wy:List Nat) {n k:Nat} (h:k≤n):(ltsF a wy n).take k=ltsF a wy k:=by
 rw [ltsF,ltsF,← List.map_take,List.take_range]
 congr 2;omega
theorem wk_la {H G:Heap} {Ts:List Th} {z1 z2:Nat} {x y:AV} {l m:List Int} {D1 D2:List Nat} (s:St H Ts G) (i j:Nat) (hi:Ts[i]?=some (riT z1 x l D1)) (hj:Ts[j]?=some (riT z2 y m D2)) (hij:i≠j) :
  ∃G',Wk (.tup [.agg [x,y]]) G (.tup [aL2 l m]) G'∧∀w,w∉D1→w∉D2→G' w=G w:=by
 obtain ⟨x',hx,lx⟩:=(s.get i hi:RZ (LPl eI) 1 z1 x l G D1).row
 obtain ⟨y',hy,ly⟩:=(s.get j hj:RZ (LPl eI) 1 z2 y m G D2).row
 obtain ⟨q1,c1,E1,rfl,hq1,ll1,rfl⟩:=lx
 obtain ⟨q2,c2,E2,rfl,hq2,ll2,rfl⟩:=ly
 obtain ⟨rfl,rfl⟩:=LL.plain' ll1
 obtain ⟨rfl,rfl⟩:=LL.plain' ll2
 have hne:q2≠q1:=fun e=>s.disjI i j hi hj hij q1 (by simp [rzT]) (by simp [rzT,e])
 have f1:FrzR q1 1 (l.map eI) (.tup [.agg [.sl q1 1 0 l.length,.sl q2 1 0 m.length]]) (.tup [.agg [Is l,.sl q2 1 0 m.length]]):=by
  have:FrzR q1 1 (l.map eI) (.sl q1 1 0 (l.map eI).length) (.p (.sl (l.map eI))):=.here
  rw [List.length_map] at this
  exact .tup (.cons (.agg (.cons this (.cons (.same _) .nil))) .nil)
 have f2:FrzR q2 1 (m.map eI) (.tup [.agg [Is l,.sl q2 1 0 m.length]]) (.tup [.agg [Is l,Is m]]):=by
  have:FrzR q2 1 (m.map eI) (.sl q2 1 0 (m.map eI).length) (.p (.sl (m.map eI))):=.here
  rw [List.length_map] at this
  exact .tup (.cons (.agg (.cons (.same _) (.cons this .nil))) .nil)
 have w1:Wk (.tup [.agg [x,y]]) G (.tup [.agg [.sl q1 1 0 l.length,.sl q2 1 0 m.length]]) G:=.val (wk_tup ⟨wk_agg ⟨hx,hy,trivial⟩,trivial⟩)
 have w2:=Wk.frz (sz:=1) (by omega) hq1 (sized_map (f:=eI) (fun _=>rfl) l) f1
 have w3:=Wk.frz (H:=G.del q1) (sz:=1) (by omega) (by rw [Heap.del_other hne];exact hq2) (sized_map (f:=eI) (fun _=>rfl) m) f2
 refine ⟨_,.trans w1 (.trans w2 w3),fun w h1 h2=>?_⟩
 rw [Heap.del_other (fun e=>h2 (by simp [e])),Heap.del_other (fun e=>h1 (by simp [e]))]
theorem take_grow {l:List Int} {c:Int} {s:Nat} (h:l.length < s):(l++[c]).take s=l.take s++[c]:=by
 rw [List.take_of_length_le (by simp;omega),List.take_of_length_le (by omega)]
theorem drop_grow {l:List Int} {c:Int} {s:Nat} (h:l.length < s):(l++[c]).drop s=l.drop s:=by
 rw [List.drop_eq_nil_of_le (by simp;omega),List.drop_eq_nil_of_le (by omega)]
theorem WordOf_ref (a:Au) (sa:smAu a):Pu Tryz.prog 8 [aAu a] (.tup [aL2 (woS a) (woL a),B (woB a)]):=by
 refine ⟨fun H=>CallT.fin ?_⟩
 refine CallT.ghost W8_hb fun z1 hz1=>?_
 refine CallT.ghost W8_hb fun z2 hz2=>?_
 have st:=lent (LPl.local eI) (LPl.has eI) 1 (lent (LPl.local eI) (LPl.has eI) 1 (((St.nil H).cell hz1 []).cell hz2 []) 1 rfl) 0 rfl
 generalize (H.set z1 []).set z2 []=G0 at st ⊢
 clear hz1 hz2
 refine W8_ok ?_;simp (maxSteps:=1000000) (disch:=first | assumption | (apply ν6;assumption)) only [W8,vz,vu,vv,eqS,eF_,↓c1_,↓c2_,tabs,reduceCtorEq,ι5,↓reduceIte,ν1,ν2,ν3,ν4,ν5,ι1,ι2,ι3,ι4]
 intro r hr r2 n2r hr2
 replace st:=(st.cell hr [I a.states,Is a.first,Es a.edges,Ls a.goals]).cell (r:=r2) (by rw [Heap.set_other n2r];exact hr2) [.p .nil,.p .nil]
 generalize (G0.set r [I a.states,Is a.first,Es a.edges,Ls a.goals]).set r2 [.p .nil,.p .nil]=G at st ⊢
 clear hr hr2 n2r G0
 have no:∀G',Heap.le H G'→woB a=false→wkK (fun r H'=>r=AV.tup [aL2 (woS a) (woL a),B (woB a)]∧H'=H) (.tup [.agg [.p .nil,.p .nil],.p (.bool false)]) G':=fun G' hle hb=>by
  rw [woS,woL,hb]
  exact ⟨_,_,.trans (.val (v':=.tup [aL2 [] [],B false]) (wk_tup ⟨wk_agg ⟨.nil,.nil,trivial⟩,.refl _,trivial⟩)) (.forget hle),rfl,rfl⟩
 (try simp (maxSteps:=1000000) (disch:=first | assumption | (apply ν6;assumption)) only [vz,vu,vv,eqS,eF_,↓c1_,↓c2_,tabs,reduceCtorEq,ι5,↓reduceIte,ν1,ν2,ν3,ν4,ν5,ι1,ι2,ι3,ι4,lA_ (st.get 1 rfl)])
 refine Pu.use (GoodAuto_spec a sa) ?_
 cases ga:goodA a
 ·(try simp (maxSteps:=1000000) (disch:=first | assumption | (apply ν6;assumption)) only [vz,vu,vv,eqS,eF_,↓c1_,↓c2_,tabs,reduceCtorEq,ι5,↓reduceIte,ν1,ν2,ν3,ν4,ν5,ι1,ι2,ι3,ι4,sA_ (st.get 0 rfl)])
  exact no _ (st.put 0 rfl _).le (by rw [woB,ga];rfl)
 ·have hN:=autoN ga
  (try simp (maxSteps:=1000000) (disch:=first | assumption | (apply ν6;assumption)) only [vz,vu,vv,eqS,eF_,↓c1_,↓c2_,tabs,reduceCtorEq,ι5,↓reduceIte,ν1,ν2,ν3,ν4,ν5,ι1,ι2,ι3,ι4,lA_ (st.get 1 rfl)])
  refine Pu.use (l12Graph_spec a hN.f) ?_
  (try simp (maxSteps:=1000000) (disch:=first | assumption | (apply ν6;assumption)) only [vz,vu,vv,eqS,eF_,↓c1_,↓c2_,tabs,reduceCtorEq,ι5,↓reduceIte,ν1,ν2,ν3,ν4,ν5,ι1,ι2,ι3,ι4,lA_ (st.get 1 rfl)])
  refine Pu.use (lasso_A hN) ?_
  have ev:lassoV (rwF (gA a)) (gA a).length (nN a.first) (goN a.goals)=.tup [Is (nI (wS a)),Is (nI (wL a)),B (fairA a)]:=rfl
  rw [ev]
  cases hf:fairA a
  ·(try simp (maxSteps:=1000000) (disch:=first | assumption | (apply ν6;assumption)) only [vz,vu,vv,eqS,eF_,↓c1_,↓c2_,tabs,reduceCtorEq,ι5,↓reduceIte,ν1,ν2,ν3,ν4,ν5,ι1,ι2,ι3,ι4,sA_ (st.get 0 rfl)])
   exact no _ (st.put 0 rfl _).le (by rw [woB,hf,ga];rfl)
  have hw:=wayA_of hN hf
  have hb:woB a=goodL (ltsF a (wyF (wS a) (wL a)) (wS a).length) ((ltsF a (wyF (wS a) (wL a)) ((wS a).length+(wL a).length)).drop (wS a).length):=by rw [woB,ga,hf];rfl
  rw [woS,woL,hb]
  clear no hb
  generalize wS a=S at hw ⊢
  generalize wL a=L at hw ⊢
  have hS:=nL_ S
  have hL:=nL_ L
  have hne:=hw.ne
  obtain ⟨hs1,hs2⟩:=hw.sz
  have hl0:(nI L).getD 0 default=((L.getD 0 0:Nat):Int):=nI_get hne
  have hbn:=buildN_1 (L.getD 0 0)
  (try simp (maxSteps:=1000000) (disch:=first | assumption | (apply ν6;assumption)) only [vz,vu,vv,eqS,eF_,↓c1_,↓c2_,tabs,reduceCtorEq,ι5,↓reduceIte,ν1,ν2,ν3,ν4,ν5,ι1,ι2,ι3,ι4,hL,hl0,hbn,safeV,newV,Int.toNat_zero])
  refine ⟨by omega,by omega,?_⟩
  refine l1Own_row (nI S) (by omega) fun q hq=>?_
  replace st:=st.cell hq (cP fI (nI S))
  generalize G.set q (cP fI (nI S))=G1 at st ⊢
  clear hq
  refine st_appI (ys:=nI L) st 0 rfl (by omega) fun q1 G1 hq1 st=>?_
  intro r1 hr1
  change aP_ _ _ _ _ _ (G1.set r1 (cP fI (nI [L.getD 0 0]))) _
  replace st:=st.cell hr1 (cP fI (nI [L.getD 0 0]))
  generalize G1.set r1 (cP fI (nI [L.getD 0 0]))=G2 at st ⊢
  clear hr1 hq1
  refine st_appL (off:=0) (n:=1) st 1 rfl (st.get 0 rfl) (by simp [nI]) (by rw [List.length_append];omega) fun q2 G3 hq2 st=>?_
  have ew:nI S++nI L++((nI [L.getD 0 0]).drop 0).take 1=nI (wyF S L):=by simp [wyF,nI]
  rw [ew] at st ⊢
  have hwl:=wyF_len S L
  have hwI:=nL_ (wyF S L)
  intro r8 hr8
  replace st:=st.cell hr8 [.p .nil,.p .nil]
  generalize G3.set r8 [.p .nil,.p .nil]=G4 at st ⊢
  clear hr8 hq2
  have hway:=hw.way
  clear ew hw hl0 hbn hL
  generalize wyF S L=wy at st hwl hwI hway ⊢
  have st2:St H [cT_ r8 [.p .nil,.p .nil],cT_ r1 (cP fI (nI [L.getD 0 0])),cT_ q2 (cP fI (nI wy)),cT_ r2 [.p .nil,.p .nil],cT_ r [I a.states,Is a.first,Es a.edges,Ls a.goals],riT z2 (.p .nil) [] [z2],riT z1 (.p .nil) [] [z1]] G4:=st
  clear st
  have hed:=hN.f.ed
  refine L8_0_rule ((0:Nat),(.p .nil:AV),[z1],(.p .nil:AV),[z2],G4) (fun z=>I z.1) (fun z=>z.2.2.2.2.2)
   (fun z=>z.1≤S.length+L.length∧St H [cT_ r8 [z.2.1,z.2.2.2.1],cT_ r1 (cP fI (nI [L.getD 0 0])),cT_ q2 (cP fI (nI wy)),cT_ r2 [.p .nil,.p .nil],cT_ r [I a.states,Is a.first,Es a.edges,Ls a.goals],riT z2 z.2.2.2.1 ((ltsF a wy z.1).drop S.length) z.2.2.2.2.1,riT z1 z.2.1 ((ltsF a wy z.1).take S.length) z.2.2.1] z.2.2.2.2.2) (fun z=>S.length+L.length - z.1)
   ⟨⟨by simp,by simpa [ltsF] using st2⟩,.refl _,Heap.le_refl _⟩ ?_
  clear st2 G4
  rintro ⟨i,x,D1,y,D2,G⟩ ⟨hi,st⟩
  dsimp only at hi st
  have e5:IntKind.i64.wrap ((i:Int)+1)=((i+1:Nat):Int):=by rw [i6_ (by omega) (by omega)];simp
  (try simp (maxSteps:=1000000) (disch:=first | assumption | (apply ν6;assumption)) only [vz,vu,vv,eqS,eF_,↓c1_,↓c2_,tabs,reduceCtorEq,ι5,↓reduceIte,ν1,ν2,ν3,ν4,ν5,ι1,ι2,ι3,ι4,B8_0,hwI,e5])
  refine ⟨fun h1=>?_,fun h1=>?_⟩
  ·have hlt:i < S.length+L.length:=by omega
   have g1:=cI_rd (l:=nI wy) (i:=i) (by omega)
   have g2:=cI_rd (l:=nI wy) (i:=i+1) (by omega)
   rw [nI_get (by omega)] at g1 g2
   have hcl:(cP fI (nI wy)).length=wy.length:=by simp [cP,hwI]
   (try simp (maxSteps:=1000000) (disch:=first | assumption | (apply ν6;assumption)) only [vz,vu,vv,eqS,eF_,↓c1_,↓c2_,tabs,reduceCtorEq,ι5,↓reduceIte,ν1,ν2,ν3,ν4,ν5,ι1,ι2,ι3,ι4,lA_ (st.get 4 rfl),lA_ (st.get 2 rfl),hcl,g1,g2,Int.toNat_natCast])
   repeat refine ⟨by omega,?_⟩
   refine Pu.use (l12Letter_spec a (by omega) _ _) ?_
   have hsu:=ltsF_succ a wy i
   have hlen:=ltsF_len a wy i
   generalize ltF a (wy.getD i 0:Nat) (wy.getD (i+1) 0:Nat)=c at hsu ⊢
   have h8:=st.get 0 rfl
   (try simp (maxSteps:=1000000) (disch:=first | assumption | (apply ν6;assumption)) only [vz,vu,vv,eqS,eF_,↓c1_,↓c2_,tabs,reduceCtorEq,ι5,↓reduceIte,ν1,ν2,ν3,ν4,ν5,ι1,ι2,ι3,ι4,hS])
   refine ⟨fun h2=>?_,fun h2=>?_⟩
   ·have et:(ltsF a wy (i+1)).take S.length=(ltsF a wy i).take S.length++[c]:=by rw [hsu,take_grow (by omega)]
    have ed:(ltsF a wy (i+1)).drop S.length=(ltsF a wy i).drop S.length:=by rw [hsu,drop_grow (by omega)]
    (try simp (maxSteps:=1000000) (disch:=first | assumption | (apply ν6;assumption)) only [vz,vu,vv,eqS,eF_,↓c1_,↓c2_,tabs,reduceCtorEq,ι5,↓reduceIte,ν1,ν2,ν3,ν4,ν5,ι1,ι2,ι3,ι4,lA_ h8])
    refine lit1 tab_24 rfl tab_3 ⟨rfl,rfl⟩ ?_
    refine rz_appI (ys:=[c]) st 6 rfl (by rw [List.length_take];simp only [List.length_cons,List.length_nil];omega) fun q' G' hq' st=>?_
    rw [← et] at st ⊢
    rw [← ed] at st
    obtain ⟨l',hl'⟩:∃l',(ltsF a wy (i+1)).take S.length=l':=⟨_,rfl⟩
    rw [hl'] at st ⊢
    (try simp (maxSteps:=1000000) (disch:=first | assumption | (apply ν6;assumption)) only [vz,vu,vv,eqS,eF_,↓c1_,↓c2_,tabs,reduceCtorEq,ι5,↓reduceIte,ν1,ν2,ν3,ν4,ν5,ι1,ι2,ι3,ι4,sA_ (st.get 0 rfl)])
    replace st:=st.put 0 rfl [rowP q' l',y]
    rw [← hl'] at st
    exact ⟨(i+1,_,_,_,_,_),⟨by simp only;omega,st⟩,by simp only;omega,.refl _,by rw [hl'];exact Heap.le_refl _⟩
   ·have et:(ltsF a wy (i+1)).take S.length=(ltsF a wy i).take S.length:=by rw [hsu,List.take_append_of_le_length (by omega)]
    have ed:(ltsF a wy (i+1)).drop S.length=(ltsF a wy i).drop S.length++[c]:=by rw [hsu,List.drop_append_of_le_length (by omega)]
    (try simp (maxSteps:=1000000) (disch:=first | assumption | (apply ν6;assumption)) only [vz,vu,vv,eqS,eF_,↓c1_,↓c2_,tabs,reduceCtorEq,ι5,↓reduceIte,ν1,ν2,ν3,ν4,ν5,ι1,ι2,ι3,ι4,lA_ h8])
    refine lit1 tab_24 rfl tab_3 ⟨rfl,rfl⟩ ?_
    refine rz_appI (ys:=[c]) st 5 rfl (by rw [List.length_drop];simp only [List.length_cons,List.length_nil];omega) fun q' G' hq' st=>?_
    rw [← ed] at st ⊢
    rw [← et] at st
    obtain ⟨l',hl'⟩:∃l',(ltsF a wy (i+1)).drop S.length=l':=⟨_,rfl⟩
    rw [hl'] at st ⊢
    (try simp (maxSteps:=1000000) (disch:=first | assumption | (apply ν6;assumption)) only [vz,vu,vv,eqS,eF_,↓c1_,↓c2_,tabs,reduceCtorEq,ι5,↓reduceIte,ν1,ν2,ν3,ν4,ν5,ι1,ι2,ι3,ι4,sA_ (st.get 0 rfl)])
    replace st:=st.put 0 rfl [x,rowP q' l']
    rw [← hl'] at st
    exact ⟨(i+1,_,_,_,_,_),⟨by simp only;omega,st⟩,by simp only;omega,.refl _,by rw [hl'];exact Heap.le_refl _⟩
  ·have:i=S.length+L.length:=by omega
   subst this
   have hlen:=ltsF_len a wy (S.length+L.length)
   have et:=ltsF_take a wy (n:=S.length+L.length) (k:=S.length) (by omega)
   have hlen2:=ltsF_len a wy S.length
   rw [et] at st
   obtain ⟨Gw,hwk,hfr⟩:=wk_la st 6 5 rfl rfl (by decide)
   have hle:Heap.le H Gw:=fun v b hb=>by
    rw [hfr v (st.wkNone v b hb _ (List.mem_of_getElem? (i:=6) rfl)) (st.wkNone v b hb _ (List.mem_of_getElem? (i:=5) rfl))];exact st.le v b hb
   have g2:Gw r2=some [.p .nil,.p .nil]:=by
    rw [hfr r2 (fun hm=>st.disjI 6 3 rfl rfl (by decide) r2 hm (by simp [cT_])) (fun hm=>st.disjI 5 3 rfl rfl (by decide) r2 hm (by simp [cT_]))];exact st.get 3 rfl
   have hle2:∀b,Heap.le H (Gw.set r2 b):=fun b v c hb=>by
    rw [Heap.set_other (fun e=>st.wkNone v c hb _ (List.mem_of_getElem? (i:=3) rfl) (by simp [cT_,e]))];exact hle v c hb
   have hdl:((ltsF a wy (S.length+L.length)).drop S.length).length≤1000000000:=by rw [List.length_drop];omega
   generalize (ltsF a wy (S.length+L.length)).drop S.length=dl at hwk hdl ⊢
   generalize ltsF a wy S.length=sl at hwk hlen2 ⊢
   have hx:=RZ.sl (st.get 6 rfl:RZ (LPl eI) 1 z1 x _ G D1)
   have hy:=RZ.sl (st.get 5 rfl:RZ (LPl eI) 1 z2 y _ G D2)
   (try simp (maxSteps:=1000000) (disch:=first | assumption | (apply ν6;assumption)) only [vz,vu,vv,eqS,eF_,↓c1_,↓c2_,tabs,reduceCtorEq,ι5,↓reduceIte,ν1,ν2,ν3,ν4,ν5,ι1,ι2,ι3,ι4,lA_ (st.get 0 rfl)])
   refine CallT.pre (Pu.use (l9Made_spec sl dl (by omega) hdl) ?_) hwk
   (try simp (maxSteps:=1000000) (disch:=first | assumption | (apply ν6;assumption)) only [vz,vu,vv,eqS,eF_,↓c1_,↓c2_,tabs,reduceCtorEq,ι5,↓reduceIte,ν1,ν2,ν3,ν4,ν5,ι1,ι2,ι3,ι4,sA_ g2])
   refine ⟨_,_,.forget (hle2 _),?_,rfl⟩
   cases goodL sl dl<;>rfl
end Go.Proofs.YtohkciilfkhomaaGreat
