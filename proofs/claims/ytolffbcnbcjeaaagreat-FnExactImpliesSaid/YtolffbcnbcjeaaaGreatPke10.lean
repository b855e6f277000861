/- Texts laid together: Mi1 Tp7 Mf1 Mf2 Mf3 Mf4 Mf5 Mf6. -/
import Derived.Test.YtolffbcnbcjeaaaGreatPke9
set_option linter.unusedVariables false
set_option linter.unusedSimpArgs false
open Go.Sep.AV renaming any → Q_
open Nat renaming reduceAdd→ν1,reduceLeDiff→ν2,reduceLT→ν3,reduceMul→ν4,reduceSub→ν5
open Int renaming reduceToNat→ι1,reduceSub→ι2,reduceAdd→ι3,reduceNeg→ι4
open Array renaming toList→ι5
open Ne renaming symm→ν6
open List renaming forall_mem_cons→ν7
namespace Go.Proofs.YtolffbcnbcjeaaaGreat
open Go Go.Sep Go.Pt
attribute [local irreducible] CallT
def boGa (a b:Au) (n:Nat):List (List Int):=(a.goals.take n).map fun g=>prs g (below b.states.toNat) b.states
def boGb (a b:Au) (n:Nat):List (List Int):=(b.goals.take n).map fun g=>prs (below a.states.toNat) g b.states
def boT (a b:Au):Au:=⟨a.states*b.states,prs a.first b.first b.states,sAll a b (a.states*b.states).toNat,boGa a b a.goals.length++boGb a b b.goals.length⟩
theorem boGa_succ (a b:Au) {n:Nat} (h:n < a.goals.length):boGa a b (n+1)=boGa a b n++[prs (a.goals.getD n default) (below b.states.toNat) b.states]:=by
 unfold boGa;rw [tS_ h,List.map_append];rfl
theorem boGb_succ (a b:Au) {n:Nat} (h:n < b.goals.length):boGb a b (n+1)=boGb a b n++[prs (below a.states.toNat) (b.goals.getD n default) b.states]:=by
 unfold boGb;rw [tS_ h,List.map_append];rfl
theorem boGa_len (a b:Au) (n:Nat):(boGa a b n).length≤n:=by unfold boGa;rw [List.length_map,List.length_take];omega
theorem boGb_len (a b:Au) (n:Nat):(boGb a b n).length≤n:=by unfold boGb;rw [List.length_map,List.length_take];omega
abbrev bTs (a b:Au) (r2 r3 r4 r5 z1 z2 z3:Nat) (x y w:AV) (l:List Int) (es:List Ed) (gs:List (List Int)) (D1 D2 D3:List Nat):List Th:=
 [cT_ r5 [I (a.states*b.states),x,y,w],cT_ r4 [I 0,.p .nil,.p .nil,.p .nil],cT_ r3 [I b.states,Is b.first,Es b.edges,Ls b.goals],cT_ r2 [I a.states,Is a.first,Es a.edges,Ls a.goals],riT z1 x l D1,reT z2 y es D2,rgT z3 w gs D3]
theorem below_take (n:Nat) {i:Nat} (h:i≤n):(below n).take i=below i:=by
 unfold below
 rw [← List.map_take,List.take_range,Nat.min_eq_left h]
theorem below_get {n i:Nat} (h:i < n):(below n).getD i default=(i:Int):=by
 unfold below;simp [List.getD,h]
theorem both_st7 {a b:Au} (fa:GoodF a) (fb:GoodF b) {r2 r3 r4 r5 z1 z2 z3:Nat} {x y w:AV} {l:List Int} {es:List Ed} {gs:List (List Int)} {D1 D2 D3:List Nat} {H G:Heap} {K:AV→Heap→Prop} (st:St H (bTs a b r2 r3 r4 r5 z1 z2 z3 x y w l es gs D1 D2 D3) G) (hgs:gs.length≤10)
  (h:∀v G D,LAu ⟨a.states*b.states,l,es,gs++boGb a b b.goals.length⟩ v G D→New H G D→K v G) :
  L61_7 (wkK K) (.ptr r2 0) (.ptr r3 0) (.ptr r4 0) (.ptr r5 0) (Ls b.goals) (I b.goals.length) (I 0) G:=by
 have hgl:=fb.gl
 have hsa:=fa.st
 have hsb:=fb.st
 refine L61_7_rule ((0:Nat),w,D3,G) (fun s=>I s.1) (fun s=>s.2.2.2) (fun s=>s.1≤b.goals.length∧St H (bTs a b r2 r3 r4 r5 z1 z2 z3 x y s.2.1 l es (gs++boGb a b s.1) D1 D2 s.2.2.1) s.2.2.2) (fun s=>b.goals.length - s.1)
  ⟨⟨by simp,by simpa [boGb] using st⟩,.refl _,Heap.le_refl _⟩ ?_
 clear st w D3
 rintro ⟨k,w,D3,G⟩ ⟨hk,st⟩
 dsimp only at hk st
 have hgb:=boGb_len a b k
 (try simp (maxSteps:=1000000) (disch:=first | assumption | (apply ν6;assumption)) only [vz,vu,vv,eqS,eF_,↓c1_,↓c2_,tabs,reduceCtorEq,ι5,↓reduceIte,ν1,ν2,ν3,ν4,ν5,ι1,ι2,ι3,ι4,B61_7])
 refine ⟨fun h1=>⟨by omega,h1,?_⟩,fun h1=>?_⟩
 ·have hltk:k < b.goals.length:=by omega
  have hgk:=getD_all (p:=fun x=>smI x∧x.length≤96) (d:=default) fb.gi hltk
  have hsucc:=boGb_succ a b hltk
  generalize b.goals.getD k default=gk at hgk hsucc ⊢
  refine lit0I fun q0 hq0=>?_
  replace st:=st.cell hq0 (cP fI [])
  generalize G.set q0 (cP fI [])=G1 at st ⊢
  (try simp (maxSteps:=1000000) (disch:=first | assumption | (apply ν6;assumption)) only [vz,vu,vv,eqS,eF_,↓c1_,↓c2_,tabs,reduceCtorEq,ι5,↓reduceIte,ν1,ν2,ν3,ν4,ν5,ι1,ι2,ι3,ι4,lA_ (st.get 4 rfl)])
  refine L61_8_rule ((0:Nat),q0,G1) (fun s=>rowP s.2.1 (prs (below s.1) gk b.states)) (fun s=>I s.1) (fun s=>s.2.2)
   (fun s=>s.1≤a.states.toNat∧St H (cT_ s.2.1 (cP fI (prs (below s.1) gk b.states))::bTs a b r2 r3 r4 r5 z1 z2 z3 x y w l es (gs++boGb a b k) D1 D2 D3) s.2.2) (fun s=>a.states.toNat - s.1)
   ⟨⟨by simp,by simpa [below,prs] using st⟩,by simp [below,prs];exact .refl _,.refl _,Heap.le_refl _⟩ ?_
  clear st
  rintro ⟨i,q,G⟩ ⟨hi,st⟩
  dsimp only at hi st
  have hpl:=prs_len (below i) gk b.states
  rw [below_len] at hpl
  have hml:i*gk.length≤96*96:=Nat.mul_le_mul (by omega) hgk.2
  (try simp (maxSteps:=1000000) (disch:=first | assumption | (apply ν6;assumption)) only [vz,vu,vv,eqS,eF_,↓c1_,↓c2_,tabs,reduceCtorEq,ι5,↓reduceIte,ν1,ν2,ν3,ν4,ν5,ι1,ι2,ι3,ι4,B61_8])
  refine ⟨fun h2=>?_,fun h2=>?_⟩
  ·have hlti:i < a.states.toNat:=by omega
   have hps:prs (below (i+1)) gk b.states=prs (below i) gk b.states++gk.map fun j=>(i:Int)*b.states+j:=by
    have:=prs_succ (below (i+1)) gk b.states (i:=i) (by rw [below_len];omega)
    rw [below_take _ (Nat.le_succ i),below_get (Nat.lt_succ_self i)] at this
    rw [← this,List.take_of_length_le (by rw [below_len];omega)]
   refine L61_9_rule ((0:Nat),q,G) (fun s=>rowP s.2.1 (prs (below i) gk b.states++(gk.take s.1).map fun j=>(i:Int)*b.states+j)) (fun s=>I s.1) (fun s=>s.2.2)
    (fun s=>s.1≤gk.length∧St H (cT_ s.2.1 (cP fI (prs (below i) gk b.states++(gk.take s.1).map fun j=>(i:Int)*b.states+j))::bTs a b r2 r3 r4 r5 z1 z2 z3 x y w l es (gs++boGb a b k) D1 D2 D3) s.2.2) (fun s=>gk.length - s.1)
    ⟨⟨by simp,by simpa using st⟩,by simp;exact .refl _,.refl _,Heap.le_refl _⟩ ?_
   clear st
   rintro ⟨j,q,G⟩ ⟨hj,st⟩
   dsimp only at hj st
   (try simp (maxSteps:=1000000) (disch:=first | assumption | (apply ν6;assumption)) only [vz,vu,vv,eqS,eF_,↓c1_,↓c2_,tabs,reduceCtorEq,ι5,↓reduceIte,ν1,ν2,ν3,ν4,ν5,ι1,ι2,ι3,ι4,B61_9,lA_ (st.get 3 rfl)])
   refine ⟨fun h3=>⟨by omega,h3,?_⟩,fun h3=>?_⟩
   ·have hltj:j < gk.length:=by omega
    have hx:=getD_all (p:=fun x=>0≤x∧x≤100000) (d:=default) hgk.1.2 hltj
    have ht:(gk.take (j+1)).map (fun j=>(i:Int)*b.states+j)=(gk.take j).map (fun j=>(i:Int)*b.states+j)++[(i:Int)*b.states+gk.getD j default]:=by
     rw [tS_ hltj,List.map_append];rfl
    have hlt:((gk.take j).map fun j=>(i:Int)*b.states+j).length≤96:=by rw [List.length_map,List.length_take];omega
    generalize gk.getD j default=e at hx ht ⊢
    have m1:=mul_bd (a:=i) (A:=96) (b:=b.states) (B:=96) (by omega) (by omega)
    have e1:IntKind.i64.wrap ((i:Int)*b.states)=(i:Int)*b.states:=i6_ (by omega) (by omega)
    have e2:IntKind.i64.wrap ((i:Int)*b.states+e)=(i:Int)*b.states+e:=i6_ (by omega) (by omega)
    have e3:IntKind.i64.wrap ((j:Int)+1)=((j+1:Nat):Int):=by rw [i6_ (by omega) (by omega)];simp
    (try simp (maxSteps:=1000000) (disch:=first | assumption | (apply ν6;assumption)) only [vz,vu,vv,eqS,eF_,↓c1_,↓c2_,tabs,reduceCtorEq,ι5,↓reduceIte,ν1,ν2,ν3,ν4,ν5,ι1,ι2,ι3,ι4,e1,e2,e3])
    refine lit1 tab_22 rfl tab_3 ⟨rfl,rfl⟩ ?_
    refine st_appI (ys:=[(i:Int)*b.states+e]) st 0 rfl (by rw [List.length_append];simp only [List.length_singleton];omega) fun q' G' hq' st=>?_
    rw [List.append_assoc,← ht] at st ⊢
    exact ⟨(j+1,q',G'),⟨by simp only;omega,st⟩,by simp only;omega,.refl _,.refl _,Heap.le_refl _⟩
   ·have:j=gk.length:=by omega
    subst this
    rw [List.take_length,← hps] at st ⊢
    have e3:IntKind.i64.wrap ((i:Int)+1)=((i+1:Nat):Int):=by rw [i6_ (by omega) (by omega)];simp
    (try simp (maxSteps:=1000000) (disch:=first | assumption | (apply ν6;assumption)) only [vz,vu,vv,eqS,eF_,↓c1_,↓c2_,tabs,reduceCtorEq,ι5,↓reduceIte,ν1,ν2,ν3,ν4,ν5,ι1,ι2,ι3,ι4,e3])
    exact ⟨(i+1,q,G),⟨by simp only;omega,st⟩,by simp only;omega,.refl _,.refl _,Heap.le_refl _⟩
  ·have:i=a.states.toNat:=by omega
   subst this
   have e3:IntKind.i64.wrap ((k:Int)+1)=((k+1:Nat):Int):=by rw [i6_ (by omega) (by omega)];simp
   (try simp (maxSteps:=1000000) (disch:=first | assumption | (apply ν6;assumption)) only [vz,vu,vv,eqS,eF_,↓c1_,↓c2_,tabs,reduceCtorEq,ι5,↓reduceIte,ν1,ν2,ν3,ν4,ν5,ι1,ι2,ι3,ι4,lA_ (st.get 1 rfl),e3])
   refine lit_live1 fun ql hql=>?_
   replace st:=st.cell hql [rowP q (prs (below a.states.toNat) gk b.states)]
   generalize G.set ql [.sl q 1 0 (prs (below a.states.toNat) gk b.states).length]=G4 at st ⊢
   (try simp (maxSteps:=1000000) (disch:=first | assumption | (apply ν6;assumption)) only [vz,vu,vv,eqS,eF_,↓c1_,↓c2_,tabs,reduceCtorEq,ι5,↓reduceIte,ν1,ν2,ν3,ν4,ν5,ι1,ι2,ι3,ι4,lA_ (st.get 2 rfl)])
   refine rz_pushL st 6 rfl (by rw [List.length_append];omega) fun q' D' G5 hq' st=>?_
   rw [List.append_assoc,← hsucc] at st
   (try simp (maxSteps:=1000000) (disch:=first | assumption | (apply ν6;assumption)) only [vz,vu,vv,eqS,eF_,↓c1_,↓c2_,tabs,reduceCtorEq,ι5,↓reduceIte,ν1,ν2,ν3,ν4,ν5,ι1,ι2,ι3,ι4,sA_ (st.get 0 rfl)])
   exact ⟨(k+1,_,D',_),⟨by simp only;omega,st.put 0 rfl [I (a.states*b.states),x,y,.sl q' 1 0 ((gs++boGb a b k).length+1)]⟩,by simp only;omega,.refl _,by first | exact Heap.le_refl _ | (rw [List.length_append];exact Heap.le_refl _)⟩
 ·have:k=b.goals.length:=by omega
  subst this
  have hx:=RZ.sl (st.get 4 rfl:RZ (LPl eI) 1 z1 x l G D1)
  have hy:=RZ.sl (st.get 5 rfl:RZ (LPl eE) 3 z2 y es G D2)
  have hw:=RZ.sl (st.get 6 rfl:RZ LIc 1 z3 w _ G D3)
  (try simp (maxSteps:=1000000) (disch:=first | assumption | (apply ν6;assumption)) only [vz,vu,vv,eqS,eF_,↓c1_,↓c2_,tabs,reduceCtorEq,ι5,↓reduceIte,ν1,ν2,ν3,ν4,ν5,ι1,ι2,ι3,ι4,lA_ (st.get 0 rfl),sA_ (st.get 1 rfl)])
  replace st:=st.put 1 rfl [I (a.states*b.states),x,y,w]
  obtain ⟨x',y',w',hw',hl,hn⟩:=rz_auto (a.states*b.states) st 4 5 6 rfl rfl rfl (by decide) (by decide) (by decide)
  refine ⟨by rcases hx with rfl | ⟨q,rfl⟩<;>rcases hy with rfl | ⟨q,rfl⟩<;>rcases hw with rfl | ⟨q,rfl⟩<;>rfl,?_⟩
  exact ⟨_,_,.val hw',h _ _ _ hl hn⟩
theorem both_st4 {a b:Au} (fa:GoodF a) (fb:GoodF b) {r2 r3 r4 r5 z1 z2 z3:Nat} {x y w:AV} {l:List Int} {es:List Ed} {D1 D2 D3:List Nat} {H G:Heap} {K:AV→Heap→Prop} (st:St H (bTs a b r2 r3 r4 r5 z1 z2 z3 x y w l es [] D1 D2 D3) G)
  (h:∀v G D,LAu ⟨a.states*b.states,l,es,boGa a b a.goals.length++boGb a b b.goals.length⟩ v G D→New H G D→K v G) :
  L61_4 (wkK K) (.ptr r2 0) (.ptr r3 0) (.ptr r4 0) (.ptr r5 0) (Ls a.goals) (I a.goals.length) (I 0) G:=by
 have hgl:=fa.gl
 have hsa:=fa.st
 have hsb:=fb.st
 refine L61_4_rule ((0:Nat),w,D3,G) (fun s=>I s.1) (fun s=>s.2.2.2) (fun s=>s.1≤a.goals.length∧St H (bTs a b r2 r3 r4 r5 z1 z2 z3 x y s.2.1 l es (boGa a b s.1) D1 D2 s.2.2.1) s.2.2.2) (fun s=>a.goals.length - s.1)
  ⟨⟨by simp,by simpa [boGa] using st⟩,.refl _,Heap.le_refl _⟩ ?_
 clear st w D3
 rintro ⟨k,w,D3,G⟩ ⟨hk,st⟩
 dsimp only at hk st
 have hgb:=boGa_len a b k
 (try simp (maxSteps:=1000000) (disch:=first | assumption | (apply ν6;assumption)) only [vz,vu,vv,eqS,eF_,↓c1_,↓c2_,tabs,reduceCtorEq,ι5,↓reduceIte,ν1,ν2,ν3,ν4,ν5,ι1,ι2,ι3,ι4,B61_4])
 refine ⟨fun h1=>⟨by omega,h1,?_⟩,fun h1=>?_⟩
 ·have hltk:k < a.goals.length:=by omega
  have hgk:=getD_all (p:=fun x=>smI x∧x.length≤96) (d:=default) fa.gi hltk
  have hsucc:=boGa_succ a b hltk
  generalize a.goals.getD k default=gk at hgk hsucc ⊢
  refine lit0I fun q0 hq0=>?_
  replace st:=st.cell hq0 (cP fI [])
  generalize G.set q0 (cP fI [])=G1 at st ⊢
  (try simp (maxSteps:=1000000) (disch:=first | assumption | (apply ν6;assumption)) only [vz,vu,vv,eqS,eF_,↓c1_,↓c2_,tabs,reduceCtorEq,ι5,↓reduceIte,ν1,ν2,ν3,ν4,ν5,ι1,ι2,ι3,ι4])
  refine L61_5_rule ((0:Nat),q0,G1) (fun s=>rowP s.2.1 (prs (gk.take s.1) (below b.states.toNat) b.states)) (fun s=>I s.1) (fun s=>s.2.2)
   (fun s=>s.1≤gk.length∧St H (cT_ s.2.1 (cP fI (prs (gk.take s.1) (below b.states.toNat) b.states))::bTs a b r2 r3 r4 r5 z1 z2 z3 x y w l es (boGa a b k) D1 D2 D3) s.2.2) (fun s=>gk.length - s.1)
   ⟨⟨by simp,by simpa [prs] using st⟩,by simp [prs];exact .refl _,.refl _,Heap.le_refl _⟩ ?_
  clear st
  rintro ⟨i,q,G⟩ ⟨hi,st⟩
  dsimp only at hi st
  have hpl:=prs_len (gk.take i) (below b.states.toNat) b.states
  rw [below_len,List.length_take,Nat.min_eq_left hi] at hpl
  have hml:i*b.states.toNat≤96*96:=Nat.mul_le_mul (by omega) (by omega)
  (try simp (maxSteps:=1000000) (disch:=first | assumption | (apply ν6;assumption)) only [vz,vu,vv,eqS,eF_,↓c1_,↓c2_,tabs,reduceCtorEq,ι5,↓reduceIte,ν1,ν2,ν3,ν4,ν5,ι1,ι2,ι3,ι4,B61_5])
  refine ⟨fun h2=>⟨by omega,h2,?_⟩,fun h2=>?_⟩
  ·have hlti:i < gk.length:=by omega
   have hps:=prs_succ gk (below b.states.toNat) b.states hlti
   have hx:=getD_all (p:=fun x=>0≤x∧x≤100000) (d:=default) hgk.1.2 hlti
   generalize gk.getD i default=e at hps hx ⊢
   (try simp (maxSteps:=1000000) (disch:=first | assumption | (apply ν6;assumption)) only [vz,vu,vv,eqS,eF_,↓c1_,↓c2_,tabs,reduceCtorEq,ι5,↓reduceIte,ν1,ν2,ν3,ν4,ν5,ι1,ι2,ι3,ι4,lA_ (st.get 3 rfl)])
   refine L61_6_rule ((0:Nat),q,G) (fun s=>rowP s.2.1 (prs (gk.take i) (below b.states.toNat) b.states++(below s.1).map fun j=>e*b.states+j)) (fun s=>I s.1) (fun s=>s.2.2)
    (fun s=>s.1≤b.states.toNat∧St H (cT_ s.2.1 (cP fI (prs (gk.take i) (below b.states.toNat) b.states++(below s.1).map fun j=>e*b.states+j))::bTs a b r2 r3 r4 r5 z1 z2 z3 x y w l es (boGa a b k) D1 D2 D3) s.2.2) (fun s=>b.states.toNat - s.1)
    ⟨⟨by simp,by simpa [below] using st⟩,by simp [below];exact .refl _,.refl _,Heap.le_refl _⟩ ?_
   clear st
   rintro ⟨j,q,G⟩ ⟨hj,st⟩
   dsimp only at hj st
   (try simp (maxSteps:=1000000) (disch:=first | assumption | (apply ν6;assumption)) only [vz,vu,vv,eqS,eF_,↓c1_,↓c2_,tabs,reduceCtorEq,ι5,↓reduceIte,ν1,ν2,ν3,ν4,ν5,ι1,ι2,ι3,ι4,B61_6,lA_ (st.get 3 rfl)])
   refine ⟨fun h3=>?_,fun h3=>?_⟩
   ·have ht:(below (j+1)).map (fun j=>e*b.states+j)=(below j).map (fun j=>e*b.states+j)++[e*b.states+j]:=by
     rw [below_succ,List.map_append];rfl
    have hlt:((below j).map fun j=>e*b.states+j).length≤96:=by rw [List.length_map,below_len];omega
    have m1:=mul_bd (a:=e) (A:=100000) (b:=b.states) (B:=96) (by omega) (by omega)
    have e1:IntKind.i64.wrap (e*b.states)=e*b.states:=i6_ (by omega) (by omega)
    have e2:IntKind.i64.wrap (e*b.states+j)=e*b.states+j:=i6_ (by omega) (by omega)
    have e3:IntKind.i64.wrap ((j:Int)+1)=((j+1:Nat):Int):=by rw [i6_ (by omega) (by omega)];simp
    (try simp (maxSteps:=1000000) (disch:=first | assumption | (apply ν6;assumption)) only [vz,vu,vv,eqS,eF_,↓c1_,↓c2_,tabs,reduceCtorEq,ι5,↓reduceIte,ν1,ν2,ν3,ν4,ν5,ι1,ι2,ι3,ι4,e1,e2,e3])
    refine lit1 tab_22 rfl tab_3 ⟨rfl,rfl⟩ ?_
    refine st_appI (ys:=[e*b.states+j]) st 0 rfl (by rw [List.length_append];simp only [List.length_singleton];omega) fun q' G' hq' st=>?_
    rw [List.append_assoc,← ht] at st ⊢
    exact ⟨(j+1,q',G'),⟨by simp only;omega,st⟩,by simp only;omega,.refl _,.refl _,Heap.le_refl _⟩
   ·have:j=b.states.toNat:=by omega
    subst this
    rw [← hps] at st ⊢
    have e3:IntKind.i64.wrap ((i:Int)+1)=((i+1:Nat):Int):=by rw [i6_ (by omega) (by omega)];simp
    (try simp (maxSteps:=1000000) (disch:=first | assumption | (apply ν6;assumption)) only [vz,vu,vv,eqS,eF_,↓c1_,↓c2_,tabs,reduceCtorEq,ι5,↓reduceIte,ν1,ν2,ν3,ν4,ν5,ι1,ι2,ι3,ι4,e3])
    exact ⟨(i+1,q,G),⟨by simp only;omega,st⟩,by simp only;omega,.refl _,.refl _,Heap.le_refl _⟩
  ·have:i=gk.length:=by omega
   subst this
   rw [List.take_length] at st hpl ⊢
   have e3:IntKind.i64.wrap ((k:Int)+1)=((k+1:Nat):Int):=by rw [i6_ (by omega) (by omega)];simp
   (try simp (maxSteps:=1000000) (disch:=first | assumption | (apply ν6;assumption)) only [vz,vu,vv,eqS,eF_,↓c1_,↓c2_,tabs,reduceCtorEq,ι5,↓reduceIte,ν1,ν2,ν3,ν4,ν5,ι1,ι2,ι3,ι4,lA_ (st.get 1 rfl),e3])
   refine lit_live1 fun ql hql=>?_
   replace st:=st.cell hql [rowP q (prs gk (below b.states.toNat) b.states)]
   generalize G.set ql [.sl q 1 0 (prs gk (below b.states.toNat) b.states).length]=G4 at st ⊢
   (try simp (maxSteps:=1000000) (disch:=first | assumption | (apply ν6;assumption)) only [vz,vu,vv,eqS,eF_,↓c1_,↓c2_,tabs,reduceCtorEq,ι5,↓reduceIte,ν1,ν2,ν3,ν4,ν5,ι1,ι2,ι3,ι4,lA_ (st.get 2 rfl)])
   refine rz_pushL st 6 rfl (by omega) fun q' D' G5 hq' st=>?_
   rw [← hsucc] at st
   (try simp (maxSteps:=1000000) (disch:=first | assumption | (apply ν6;assumption)) only [vz,vu,vv,eqS,eF_,↓c1_,↓c2_,tabs,reduceCtorEq,ι5,↓reduceIte,ν1,ν2,ν3,ν4,ν5,ι1,ι2,ι3,ι4,sA_ (st.get 0 rfl)])
   exact ⟨(k+1,_,D',_),⟨by simp only;omega,st.put 0 rfl [I (a.states*b.states),x,y,.sl q' 1 0 ((boGa a b k).length+1)]⟩,by simp only;omega,.refl _,Heap.le_refl _⟩
 ·have:k=a.goals.length:=by omega
  subst this
  (try simp (maxSteps:=1000000) (disch:=first | assumption | (apply ν6;assumption)) only [vz,vu,vv,eqS,eF_,↓c1_,↓c2_,tabs,reduceCtorEq,ι5,↓reduceIte,ν1,ν2,ν3,ν4,ν5,ι1,ι2,ι3,ι4,lA_ (st.get 2 rfl)])
  exact both_st7 fa fb st (by omega) h
theorem both_st2 {a b:Au} (ga:goodA a=true) (gb:goodA b=true) {r2 r3 r4 r5 z1 z2 z3:Nat} {x y w:AV} {l:List Int} {D1 D2 D3:List Nat} {H G:Heap} {K:AV→Heap→Prop} (st:St H (bTs a b r2 r3 r4 r5 z1 z2 z3 x y w l [] [] D1 D2 D3) G)
  (h:∀v G D,LAu ⟨a.states*b.states,l,sAll a b (a.states*b.states).toNat,boGa a b a.goals.length++boGb a b b.goals.length⟩ v G D→New H G D→K v G) :
  L61_2 (wkK K) (.ptr r2 0) (.ptr r3 0) (.ptr r4 0) (.ptr r5 0) (Es a.edges) (I a.edges.length) (I 0) G:=by
 have fa:=good_facts ga
 have fb:=good_facts gb
 have hea:=fa.ed
 have heb:=fb.ed
 have hsa:=fa.st
 have hsb:=fb.st
 have hbl:∀i j,i≤2400→(bE b.states (a.edges.take i) b.edges++bRow b.states (a.edges.getD i default) (b.edges.take j)).length+1≤1000000000:=fun i j hi=>by
  have h1:=bE_len b.states (a.edges.take i) b.edges
  have h2:=bRow_len b.states (a.edges.getD i default) (b.edges.take j)
  rw [List.length_take] at h1 h2
  have h3:min i a.edges.length*b.edges.length≤2400*2400:=Nat.mul_le_mul (by omega) heb
  rw [List.length_append]
  omega
 refine L61_2_rule ((0:Nat),y,D2,G) (fun s=>I s.1) (fun s=>s.2.2.2) (fun s=>s.1≤a.edges.length∧St H (bTs a b r2 r3 r4 r5 z1 z2 z3 x s.2.1 w l (bE b.states (a.edges.take s.1) b.edges) [] D1 s.2.2.1 D3) s.2.2.2) (fun s=>a.edges.length - s.1)
  ⟨⟨by simp,by simpa [bE] using st⟩,.refl _,Heap.le_refl _⟩ ?_
 clear st y D2
 rintro ⟨i,y,D2,G⟩ ⟨hi,st⟩
 dsimp only at hi st
 (try simp (maxSteps:=1000000) (disch:=first | assumption | (apply ν6;assumption)) only [vz,vu,vv,eqS,eF_,↓c1_,↓c2_,tabs,reduceCtorEq,ι5,↓reduceIte,ν1,ν2,ν3,ν4,ν5,ι1,ι2,ι3,ι4,B61_2])
 refine ⟨fun h1=>⟨by omega,h1,?_⟩,fun h1=>?_⟩
 ·have hlti:i < a.edges.length:=by omega
  have hsucc:=bE_succ b.states a.edges b.edges hlti
  have hie:=edIn_iff.1 (fa.ei _ (getD_all (p:=fun x=>x∈a.edges) (d:=default) (fun _ h=>h) hlti))
  have hbl:=fun j=>hbl i j (by omega)
  generalize a.edges.getD i default=e at hsucc hie hbl ⊢
  intro r11 hr11
  replace st:=st.cell hr11 [I e.src,I e.lt,I e.dst]
  generalize G.set r11 [I e.src,I e.lt,I e.dst]=G1 at st ⊢
  clear hr11
  (try simp (maxSteps:=1000000) (disch:=first | assumption | (apply ν6;assumption)) only [vz,vu,vv,eqS,eF_,↓c1_,↓c2_,tabs,reduceCtorEq,ι5,↓reduceIte,ν1,ν2,ν3,ν4,ν5,ι1,ι2,ι3,ι4,lA_ (st.get 3 rfl)])
  refine L61_3_rule ((0:Nat),y,D2,G1) (fun s=>I s.1) (fun s=>s.2.2.2) (fun s=>s.1≤b.edges.length∧St H (cT_ r11 [I e.src,I e.lt,I e.dst]::bTs a b r2 r3 r4 r5 z1 z2 z3 x s.2.1 w l (bE b.states (a.edges.take i) b.edges++bRow b.states e (b.edges.take s.1)) [] D1 s.2.2.1 D3) s.2.2.2) (fun s=>b.edges.length - s.1)
   ⟨⟨by simp,by simpa [bRow] using st⟩,.refl _,Heap.le_refl _⟩ ?_
  clear st y D2
  rintro ⟨j,y,D2,G⟩ ⟨hj,st⟩
  dsimp only at hj st
  (try simp (maxSteps:=1000000) (disch:=first | assumption | (apply ν6;assumption)) only [vz,vu,vv,eqS,eF_,↓c1_,↓c2_,tabs,reduceCtorEq,ι5,↓reduceIte,ν1,ν2,ν3,ν4,ν5,ι1,ι2,ι3,ι4,B61_3])
  refine ⟨fun h2=>⟨by omega,h2,?_⟩,fun h2=>?_⟩
  ·have hltj:j < b.edges.length:=by omega
   have hrow:=bRow_succ b.states e b.edges hltj
   have hje:=edIn_iff.1 (fb.ei _ (getD_all (p:=fun x=>x∈b.edges) (d:=default) (fun _ h=>h) hltj))
   have hbl:=hbl j
   generalize b.edges.getD j default=f at hrow hje ⊢
   intro r13 hr13
   replace st:=st.cell hr13 [I f.src,I f.lt,I f.dst]
   generalize G.set r13 [I f.src,I f.lt,I f.dst]=G2 at st ⊢
   clear hr13
   have m1:=mul_bd (a:=e.src) (A:=96) (b:=b.states) (B:=96) (by omega) (by omega)
   have m2:=mul_bd (a:=e.dst) (A:=96) (b:=b.states) (B:=96) (by omega) (by omega)
   have e1:IntKind.i64.wrap (e.src*b.states)=e.src*b.states:=i6_ (by omega) (by omega)
   have e2:IntKind.i64.wrap (e.src*b.states+f.src)=e.src*b.states+f.src:=i6_ (by omega) (by omega)
   have e3:IntKind.i64.wrap (e.dst*b.states)=e.dst*b.states:=i6_ (by omega) (by omega)
   have e4:IntKind.i64.wrap (e.dst*b.states+f.dst)=e.dst*b.states+f.dst:=i6_ (by omega) (by omega)
   have e5:IntKind.i64.wrap ((j:Int)+1)=((j+1:Nat):Int):=by rw [i6_ (by omega) (by omega)];simp
   (try simp (maxSteps:=1000000) (disch:=first | assumption | (apply ν6;assumption)) only [vz,vu,vv,eqS,eF_,↓c1_,↓c2_,tabs,reduceCtorEq,ι5,↓reduceIte,ν1,ν2,ν3,ν4,ν5,ι1,ι2,ι3,ι4,lA_ (st.get 0 rfl),lA_ (st.get 1 rfl),lA_ (st.get 2 rfl),lA_ (st.get 4 rfl),e1,e2,e3,e4,e5])
   refine ⟨fun h3=>?_,fun h3=>?_⟩
   ·rw [if_pos h3] at hrow
    refine lit_edge (x:=mkE b.states e f) ?_
    (try simp (maxSteps:=1000000) (disch:=first | assumption | (apply ν6;assumption)) only [vz,vu,vv,eqS,eF_,↓c1_,↓c2_,tabs,reduceCtorEq,ι5,↓reduceIte,ν1,ν2,ν3,ν4,ν5,ι1,ι2,ι3,ι4,lA_ (st.get 2 rfl)])
    refine rz_appE9 (ys:=[mkE b.states e f]) st 7 rfl (by simp only [List.length_singleton];omega) fun q' G' hq' st=>?_
    rw [List.append_assoc,← hrow] at st ⊢
    obtain ⟨es',hes⟩:∃es',bE b.states (a.edges.take i) b.edges++bRow b.states e (b.edges.take (j+1))=es':=⟨_,rfl⟩
    rw [hes] at st ⊢
    (try simp (maxSteps:=1000000) (disch:=first | assumption | (apply ν6;assumption)) only [vz,vu,vv,eqS,eF_,↓c1_,↓c2_,tabs,reduceCtorEq,ι5,↓reduceIte,ν1,ν2,ν3,ν4,ν5,ι1,ι2,ι3,ι4,sA_ (st.get 2 rfl),e5])
    replace st:=(st.put 2 rfl [I (a.states*b.states),x,rowE q' es',w]).drop
    rw [← hes] at st
    exact ⟨(j+1,_,[q'],_),⟨by simp only;omega,st⟩,by simp only;omega,.refl _,by rw [hes];exact Heap.le_refl _⟩
   ·rw [if_neg h3] at hrow
    exact ⟨(j+1,y,D2,G2),⟨by simp only;omega,by rw [hrow];exact st.drop⟩,by simp only;omega,.refl _,Heap.le_refl _⟩
  ·have:j=b.edges.length:=by omega
   subst this
   rw [List.take_length,← hsucc] at st
   have e5:IntKind.i64.wrap ((i:Int)+1)=((i+1:Nat):Int):=by rw [i6_ (by omega) (by omega)];simp
   (try simp (maxSteps:=1000000) (disch:=first | assumption | (apply ν6;assumption)) only [vz,vu,vv,eqS,eF_,↓c1_,↓c2_,tabs,reduceCtorEq,ι5,↓reduceIte,ν1,ν2,ν3,ν4,ν5,ι1,ι2,ι3,ι4,e5])
   exact ⟨(i+1,y,D2,G),⟨by simp only;omega,st.drop⟩,by simp only;omega,.refl _,Heap.le_refl _⟩
 ·have:i=a.edges.length:=by omega
  subst this
  rw [List.take_length] at st
  (try simp (maxSteps:=1000000) (disch:=first | assumption | (apply ν6;assumption)) only [vz,vu,vv,eqS,eF_,↓c1_,↓c2_,tabs,reduceCtorEq,ι5,↓reduceIte,ν1,ν2,ν3,ν4,ν5,ι1,ι2,ι3,ι4,lA_ (st.get 0 rfl)])
  have h1:=bE_len b.states a.edges b.edges
  have h3:a.edges.length*b.edges.length≤2400*2400:=Nat.mul_le_mul hea heb
  refine rz_sortE st 5 rfl (by omega) fun G' st=>?_
  rw [srt_bE ga gb] at st
  (try simp (maxSteps:=1000000) (disch:=first | assumption | (apply ν6;assumption)) only [vz,vu,vv,eqS,eF_,↓c1_,↓c2_,tabs,reduceCtorEq,ι5,↓reduceIte,ν1,ν2,ν3,ν4,ν5,ι1,ι2,ι3,ι4,lA_ (st.get 3 rfl)])
  exact both_st4 fa fb st h
theorem both_live {a b:Au} (ga:goodA a=true) (gb:goodA b=true) {H:Heap} {K:AV→Heap→Prop}
  (h:∀v G D,LAu (boT a b) v G D→New H G D→K v G):CallT Tryz.prog 61 [aAu a,aAu b] H K:=by
 have fa:=good_facts ga
 have fb:=good_facts gb
 have hsa:=fa.st
 have hsb:=fb.st
 have hfa:=fa.fi
 have hfb:=fb.fi
 refine CallT.fin ?_
 refine lend3 (St.nil H) W61_hb fun z1 z2 z3 G st=>?_
 have hm:=mul_bd (a:=a.states) (A:=96) (b:=b.states) (B:=96) (by omega) (by omega)
 have e0:IntKind.i64.wrap (a.states*b.states)=a.states*b.states:=i6_ (by omega) (by omega)
 refine W61_ok ?_;simp (maxSteps:=1000000) (disch:=first | assumption | (apply ν6;assumption)) only [W61,vz,vu,vv,eqS,eF_,↓c1_,↓c2_,tabs,reduceCtorEq,ι5,↓reduceIte,ν1,ν2,ν3,ν4,ν5,ι1,ι2,ι3,ι4,e0]
 intro r2 hr2 r3 n3 hr3 r4 n4 n4' hr4
 replace st:=((st.cell hr2 [I a.states,Is a.first,Es a.edges,Ls a.goals]).cell (r:=r3) (by rw [Heap.set_other n3];exact hr3) [I b.states,Is b.first,Es b.edges,Ls b.goals]).cell (r:=r4) (by rw [Heap.set_other n4,Heap.set_other n4'];exact hr4) [I 0,.p .nil,.p .nil,.p .nil]
 have fr:∀r,r≠r4→r≠r3→r≠r2→G r=none→(((G.set r2 [I a.states,Is a.first,Es a.edges,Ls a.goals]).set r3 [I b.states,Is b.first,Es b.edges,Ls b.goals]).set r4 [I 0,.p .nil,.p .nil,.p .nil]) r=none:=fun r a b c d=>by
  rw [Heap.set_other a,Heap.set_other b,Heap.set_other c];exact d
 generalize ((G.set r2 [I a.states,Is a.first,Es a.edges,Ls a.goals]).set r3 [I b.states,Is b.first,Es b.edges,Ls b.goals]).set r4 [I 0,.p .nil,.p .nil,.p .nil]=G1 at st fr ⊢
 clear hr2 hr3 n3 hr4 n4 n4'
 (try simp (maxSteps:=1000000) (disch:=first | assumption | (apply ν6;assumption)) only [vz,vu,vv,eqS,eF_,↓c1_,↓c2_,tabs,reduceCtorEq,ι5,↓reduceIte,ν1,ν2,ν3,ν4,ν5,ι1,ι2,ι3,ι4,lA_ (st.get 2 rfl),lA_ (st.get 1 rfl),e0])
 intro r5 m4 m3 m2 hr5
 replace st:=st.cell (fr _ m4 m3 m2 hr5) [I (a.states*b.states),.p .nil,.p .nil,.p .nil]
 generalize G1.set r5 [I (a.states*b.states),.p .nil,.p .nil,.p .nil]=G2 at st ⊢
 clear hr5 m4 m3 m2 fr
 (try simp (maxSteps:=1000000) (disch:=first | assumption | (apply ν6;assumption)) only [vz,vu,vv,eqS,eF_,↓c1_,↓c2_,tabs,reduceCtorEq,ι5,↓reduceIte,ν1,ν2,ν3,ν4,ν5,ι1,ι2,ι3,ι4,lA_ (st.get 3 rfl)])
 refine L61_0_rule ((0:Nat),(.p .nil:AV),[z1],G2) (fun s=>I s.1) (fun s=>s.2.2.2) (fun s=>s.1≤a.first.length∧St H (bTs a b r2 r3 r4 r5 z1 z2 z3 s.2.1 (.p .nil) (.p .nil) (prs (a.first.take s.1) b.first b.states) [] [] s.2.2.1 [z2] [z3]) s.2.2.2) (fun s=>a.first.length - s.1)
  ⟨⟨by simp,by simpa [prs] using st⟩,.refl _,Heap.le_refl _⟩ ?_
 clear st
 rintro ⟨i,x,D1,G⟩ ⟨hi,st⟩
 dsimp only at hi st
 have hpl:=prs_len (a.first.take i) b.first b.states
 rw [List.length_take,Nat.min_eq_left hi] at hpl
 have hml:i*b.first.length≤96*96:=Nat.mul_le_mul (by omega) (by omega)
 (try simp (maxSteps:=1000000) (disch:=first | assumption | (apply ν6;assumption)) only [vz,vu,vv,eqS,eF_,↓c1_,↓c2_,tabs,reduceCtorEq,ι5,↓reduceIte,ν1,ν2,ν3,ν4,ν5,ι1,ι2,ι3,ι4,B61_0])
 refine ⟨fun h1=>⟨by omega,h1,?_⟩,fun h1=>?_⟩
 ·have hlti:i < a.first.length:=by omega
  have hps:=prs_succ a.first b.first b.states hlti
  have hx:=getD_all (p:=fun x=>0≤x∧x≤100000) (d:=default) hfa.1.2 hlti
  generalize a.first.getD i default=e at hps hx ⊢
  (try simp (maxSteps:=1000000) (disch:=first | assumption | (apply ν6;assumption)) only [vz,vu,vv,eqS,eF_,↓c1_,↓c2_,tabs,reduceCtorEq,ι5,↓reduceIte,ν1,ν2,ν3,ν4,ν5,ι1,ι2,ι3,ι4,lA_ (st.get 2 rfl)])
  refine L61_1_rule ((0:Nat),x,D1,G) (fun s=>I s.1) (fun s=>s.2.2.2) (fun s=>s.1≤b.first.length∧St H (bTs a b r2 r3 r4 r5 z1 z2 z3 s.2.1 (.p .nil) (.p .nil) (prs (a.first.take i) b.first b.states++(b.first.take s.1).map fun j=>e*b.states+j) [] [] s.2.2.1 [z2] [z3]) s.2.2.2) (fun s=>b.first.length - s.1)
   ⟨⟨by simp,by simpa using st⟩,.refl _,Heap.le_refl _⟩ ?_
  clear st x D1
  rintro ⟨j,x,D1,G⟩ ⟨hj,st⟩
  dsimp only at hj st
  (try simp (maxSteps:=1000000) (disch:=first | assumption | (apply ν6;assumption)) only [vz,vu,vv,eqS,eF_,↓c1_,↓c2_,tabs,reduceCtorEq,ι5,↓reduceIte,ν1,ν2,ν3,ν4,ν5,ι1,ι2,ι3,ι4,B61_1])
  refine ⟨fun h2=>⟨by omega,h2,?_⟩,fun h2=>?_⟩
  ·have hltj:j < b.first.length:=by omega
   have hy:=getD_all (p:=fun x=>0≤x∧x≤100000) (d:=default) hfb.1.2 hltj
   have ht:(b.first.take (j+1)).map (fun j=>e*b.states+j)=(b.first.take j).map (fun j=>e*b.states+j)++[e*b.states+b.first.getD j default]:=by
    rw [tS_ hltj,List.map_append];rfl
   have hlt:((b.first.take j).map fun j=>e*b.states+j).length≤96:=by rw [List.length_map,List.length_take];omega
   generalize b.first.getD j default=f at hy ht ⊢
   have m1:=mul_bd (a:=e) (A:=100000) (b:=b.states) (B:=96) (by omega) (by omega)
   have e1:IntKind.i64.wrap (e*b.states)=e*b.states:=i6_ (by omega) (by omega)
   have e2:IntKind.i64.wrap (e*b.states+f)=e*b.states+f:=i6_ (by omega) (by omega)
   have e3:IntKind.i64.wrap ((j:Int)+1)=((j+1:Nat):Int):=by rw [i6_ (by omega) (by omega)];simp
   (try simp (maxSteps:=1000000) (disch:=first | assumption | (apply ν6;assumption)) only [vz,vu,vv,eqS,eF_,↓c1_,↓c2_,tabs,reduceCtorEq,ι5,↓reduceIte,ν1,ν2,ν3,ν4,ν5,ι1,ι2,ι3,ι4,lA_ (st.get 0 rfl),lA_ (st.get 2 rfl),e1,e2,e3])
   refine lit1 tab_22 rfl tab_3 ⟨rfl,rfl⟩ ?_
   (try simp (maxSteps:=1000000) (disch:=first | assumption | (apply ν6;assumption)) only [vz,vu,vv,eqS,eF_,↓c1_,↓c2_,tabs,reduceCtorEq,ι5,↓reduceIte,ν1,ν2,ν3,ν4,ν5,ι1,ι2,ι3,ι4,lA_ (st.get 0 rfl)])
   refine rz_appI (ys:=[e*b.states+f]) st 4 rfl (by rw [List.length_append];simp only [List.length_singleton];omega) fun q' G' hq' st=>?_
   rw [List.append_assoc,← ht] at st ⊢
   obtain ⟨l',hl'⟩:∃l',prs (a.first.take i) b.first b.states++(b.first.take (j+1)).map (fun j=>e*b.states+j)=l':=⟨_,rfl⟩
   rw [hl'] at st ⊢
   (try simp (maxSteps:=1000000) (disch:=first | assumption | (apply ν6;assumption)) only [vz,vu,vv,eqS,eF_,↓c1_,↓c2_,tabs,reduceCtorEq,ι5,↓reduceIte,ν1,ν2,ν3,ν4,ν5,ι1,ι2,ι3,ι4,sA_ (st.get 0 rfl),e3])
   replace st:=st.put 0 rfl [I (a.states*b.states),rowP q' l',.p .nil,.p .nil]
   rw [← hl'] at st
   exact ⟨(j+1,_,[q'],_),⟨by simp only;omega,st⟩,by simp only;omega,.refl _,by rw [hl'];exact Heap.le_refl _⟩
  ·have:j=b.first.length:=by omega
   subst this
   rw [List.take_length,← hps] at st
   have e3:IntKind.i64.wrap ((i:Int)+1)=((i+1:Nat):Int):=by rw [i6_ (by omega) (by omega)];simp
   (try simp (maxSteps:=1000000) (disch:=first | assumption | (apply ν6;assumption)) only [vz,vu,vv,eqS,eF_,↓c1_,↓c2_,tabs,reduceCtorEq,ι5,↓reduceIte,ν1,ν2,ν3,ν4,ν5,ι1,ι2,ι3,ι4,e3])
   exact ⟨(i+1,x,D1,G),⟨by simp only;omega,st⟩,by simp only;omega,.refl _,Heap.le_refl _⟩
 ·have:i=a.first.length:=by omega
  subst this
  rw [List.take_length] at st
  (try simp (maxSteps:=1000000) (disch:=first | assumption | (apply ν6;assumption)) only [vz,vu,vv,eqS,eF_,↓c1_,↓c2_,tabs,reduceCtorEq,ι5,↓reduceIte,ν1,ν2,ν3,ν4,ν5,ι1,ι2,ι3,ι4,lA_ (st.get 3 rfl)])
  exact both_st2 ga gb st h
end Go.Proofs.YtolffbcnbcjeaaaGreat
namespace Go.Proofs.YtolffbcnbcjeaaaGreat
open Go Go.Sep Go.Pt
attribute [local irreducible] CallT
theorem filt_sum (L:List Ed) (n:Nat):sumN (fun v=>(L.filter fun e=>decide (e.src=(v:Int))).length) n≤L.length:=by
 induction L with
 | nil=>
  have:∀n,sumN (fun _=>0) n=0:=fun n=>by
   induction n with
   | zero=>rfl
   | succ n ih=>rw [sumN_succ,ih]
  simp only [List.filter_nil,List.length_nil,this];exact Nat.le_refl _
 | cons e L ih=>
  have h1:∀n,sumN (fun v=>((e::L).filter fun e=>decide (e.src=(v:Int))).length) n=sumN (fun v=>(L.filter fun e=>decide (e.src=(v:Int))).length) n+sumN (fun v=>if e.src=(v:Int) then 1 else 0) n:=by
   intro n
   induction n with
   | zero=>rfl
   | succ n ih2=>
    rw [sumN_succ,sumN_succ,sumN_succ,ih2,List.filter_cons]
    by_cases h:e.src=(n:Int)
    ·simp only [h,decide_true,if_true,List.length_cons];omega
    ·simp only [h,decide_false,if_false,Bool.false_eq_true];omega
  have h2:∀n:Nat,sumN (fun v=>if e.src=(v:Int) then 1 else 0) n≤if e.src < (n:Int) then 1 else 0:=by
   intro n
   induction n with
   | zero=>simp [sumN]
   | succ n ih2=>
    rw [sumN_succ]
    by_cases h:e.src=(n:Int)
    ·rw [if_pos h,if_pos (by omega)];rw [if_neg (by omega)] at ih2;omega
    ·rw [if_neg h]
     by_cases h3:e.src < (n:Int)
     ·rw [if_pos h3] at ih2;rw [if_pos (by omega)];omega
     ·rw [if_neg h3] at ih2;rw [if_neg (by omega)];omega
  rw [h1,List.length_cons]
  have:=h2 n
  split at this<;>omega
def gO (a:Au):List (List Nat):=(outR a a.edges.length).map nN
theorem gO_len (a:Au):(gO a).length=a.states.toNat:=by simp [gO,outR_len]
theorem gO_row (a:Au) {s:Nat} (h:s < a.states.toNat):rwF (gO a) s=nN (outN a a.edges.length s):=by
 simp [rwF,gO,outR,List.getD,h]
theorem gA_row (a:Au) {s:Nat} (h:s < a.states.toNat):rwF (gA a) s=nN (sc (outN a a.edges.length s)):=by
 simp [rwF,gA,nextG,List.getD,h]
theorem outN_bd {a:Au} (fa:GoodX a) {s:Nat}:∀x∈outN a a.edges.length s,0≤x∧x < a.states.toNat:=by
 intro x hx
 simp only [outN,List.mem_map,List.mem_filter] at hx
 obtain ⟨e,⟨he,_⟩,rfl⟩:=hx
 have:=edIn_iff.1 (fa.ei e (List.mem_of_mem_take he))
 have:=fa.st
 omega
theorem GrB_sum {g:List (List Nat)} (h1:∀v,v < g.length→∀x∈rwF g v,x < g.length) (hn:g.length≤100000) (hs:sumN (fun v=>(rwF g v).length) g.length≤500000):GrB g:=by
 refine ⟨fun l hl x hx=>?_,hn,?_⟩
 ·obtain ⟨v,hv,rfl⟩:=List.mem_iff_getElem.1 hl
  refine h1 v hv x ?_
  simpa [rwF,List.getD,hv] using hx
 ·rw [prT_sum];exact hs
theorem sumN_mono {f g:Nat→Nat} {n:Nat} (h:∀v,v < n→f v≤g v):sumN f n≤sumN g n:=by
 induction n with
 | zero=>exact Nat.le_refl _
 | succ n ih=>rw [sumN_succ,sumN_succ];have:=ih fun v hv=>h v (by omega);have:=h n (by omega);omega
theorem gO_B {a:Au} (fa:GoodX a):GrB (gO a):=by
 have hst:=fa.st
 have hed:=fa.ed
 have hl:=gO_len a
 refine GrB_sum (fun v hv x hx=>?_) (by omega) ?_
 ·rw [hl] at hv ⊢
  rw [gO_row a hv] at hx
  exact nN_lt (outN_bd fa) x hx
 ·refine Nat.le_trans (sumN_mono (g:=fun v=>(a.edges.filter fun e=>decide (e.src=(v:Int))).length) fun v hv=>?_) (Nat.le_trans (filt_sum _ _) (by omega))
  rw [gO_row a (by omega),nN_len,outN,List.take_length,List.length_map];exact Nat.le_refl _
theorem gX_B {a:Au} (fa:GoodX a):GrB (gA a):=by
 have hst:=fa.st
 have hed:=fa.ed
 have hl:=gA_len a
 refine GrB_sum (fun v hv x hx=>?_) (by omega) ?_
 ·rw [hl] at hv ⊢
  rw [gA_row a hv] at hx
  exact nN_lt (fun x hx=>outN_bd fa x ((sc_mem _ _).1 hx)) x hx
 ·refine Nat.le_trans (sumN_mono (g:=fun v=>(a.edges.filter fun e=>decide (e.src=(v:Int))).length) fun v hv=>?_) (Nat.le_trans (filt_sum _ _) (by omega))
  rw [gA_row a (by omega),nN_len]
  refine Nat.le_trans (sc_len _) ?_
  rw [outN,List.take_length,List.length_map];exact Nat.le_refl _
theorem gO_gA {a:Au} (v w:Nat):w∈rwF (gO a) v↔w∈rwF (gA a) v:=by
 by_cases h:v < a.states.toNat
 ·rw [gO_row a h,gA_row a h]
  simp only [nN,List.mem_map,sc_mem]
 ·rw [rwF_out (by rw [gO_len];omega),rwF_out (by rw [gA_len];omega)]
end Go.Proofs.YtolffbcnbcjeaaaGreat
namespace Go.Proofs.YtolffbcnbcjeaaaGreat
open Go Go.Sep Go.Pt
attribute [local irreducible] CallT
theorem need_impl.operandsOfSaid_spec (op:Int):Pu Tryz.prog 125 [I op] (I (need op)):=by
 refine Pu.of fun H=>?_
 refine W125_ok ?_;simp (maxSteps:=1000000) (disch:=first | assumption | (apply ν6;assumption)) only [W125,vz,vu,vv,eqS,eF_,↓c1_,↓c2_,tabs,reduceCtorEq,ι5,↓reduceIte,ν1,ν2,ν3,ν4,ν5,ι1,ι2,ι3,ι4,J125_0,J125_1]
 by_cases h1:op=1
 ·subst h1;simp [need]
 by_cases h2:op=2
 ·subst h2;simp [need]
 by_cases h3:op=3
 ·subst h3;simp [need]
 by_cases h4:op=4
 ·subst h4;simp [need]
 by_cases h5:op=5
 ·subst h5;simp [need]
 by_cases h6:op=6
 ·subst h6;simp [need]
 by_cases h7:op=7
 ·subst h7;simp [need]
 by_cases h8:op=8
 ·subst h8;simp [need]
 simp [need,h1,h2,h3,h4,h5,h6,h7,h8]
theorem need_spec.l10Need_spec (op:Int):Pu Tryz.prog 122 [I op] (I (need op)):=by
 refine Pu.of fun H=>?_
 refine W122_ok ?_;simp (maxSteps:=1000000) (disch:=first | assumption | (apply ν6;assumption)) only [W122,vz,vu,vv,eqS,eF_,↓c1_,↓c2_,tabs,reduceCtorEq,ι5,↓reduceIte,ν1,ν2,ν3,ν4,ν5,ι1,ι2,ι3,ι4,J122_0,J122_1]
 by_cases h1:op=1
 ·subst h1;simp [need]
 by_cases h2:op=2
 ·subst h2;simp [need]
 by_cases h3:op=3
 ·subst h3;simp [need]
 by_cases h4:op=4
 ·subst h4;simp [need]
 by_cases h5:op=5
 ·subst h5;simp [need]
 by_cases h6:op=6
 ·subst h6;simp [need]
 by_cases h7:op=7
 ·subst h7;simp [need]
 by_cases h8:op=8
 ·subst h8;simp [need]
 simp [need,h1,h2,h3,h4,h5,h6,h7,h8]
theorem isSaid_spec (x:Sd):Pu Tryz.prog 126 [aD x] (B (sdOk x)):=by
 refine Pu.of fun H=>?_
 refine W126_ok ?_;simp (maxSteps:=1000000) (disch:=first | assumption | (apply ν6;assumption)) only [W126,vz,vu,vv,eqS,eF_,↓c1_,↓c2_,tabs,reduceCtorEq,ι5,↓reduceIte,ν1,ν2,ν3,ν4,ν5,ι1,ι2,ι3,ι4]
 intro r hr
 have hle:=Heap.le_set (b:=[I x.op,I x.n]) hr
 refine ⟨fun h1=>?_,fun h1=>⟨fun h2=>?_,fun h2=>?_⟩⟩
 ·rw [sdOk,if_pos h1]
  exact ⟨fun h3=>⟨by rw [decide_eq_true h3,Bool.true_and],hle⟩,fun h3=>⟨by rw [decide_eq_false h3,Bool.false_and],hle⟩⟩
 ·rw [sdOk,if_neg h1,if_pos h2]
  exact ⟨fun h3=>⟨by rw [decide_eq_true h3,Bool.true_or],hle⟩,fun h3=>⟨by rw [decide_eq_false h3,Bool.false_or],hle⟩⟩
 ·refine Pu.use (need_impl.operandsOfSaid_spec x.op) ?_
  rw [sdOk,if_neg h1,if_neg h2]
  (try simp (maxSteps:=1000000) (disch:=first | assumption | (apply ν6;assumption)) only [vz,vu,vv,eqS,eF_,↓c1_,↓c2_,tabs,reduceCtorEq,ι5,↓reduceIte,ν1,ν2,ν3,ν4,ν5,ι1,ι2,ι3,ι4])
  exact ⟨fun h3=>⟨by rw [decide_eq_true h3,Bool.true_and],hle⟩,fun h3=>⟨by rw [decide_eq_false h3,Bool.false_and],hle⟩⟩
theorem l10N_spec (x:Sd) (h:0≤need x.op):Pu Tryz.prog 123 [aD x] (B (sdOk x)):=by
 refine Pu.of fun H=>?_
 refine W123_ok ?_;simp (maxSteps:=1000000) (disch:=first | assumption | (apply ν6;assumption)) only [W123,vz,vu,vv,eqS,eF_,↓c1_,↓c2_,tabs,reduceCtorEq,ι5,↓reduceIte,ν1,ν2,ν3,ν4,ν5,ι1,ι2,ι3,ι4]
 intro r hr
 have hle:=Heap.le_set (b:=[I x.op,I x.n]) hr
 refine ⟨fun h1=>?_,fun h1=>⟨fun h2=>?_,fun h2=>?_⟩⟩
 ·rw [sdOk,if_pos h1]
  refine Pu.use (l1In_spec x.n 0 2) ⟨?_,hle⟩
  exact congrArg (fun b:Bool=>B b) (by rw [Bool.eq_iff_iff];simp only [Bool.and_eq_true,decide_eq_true_eq];omega)
 ·rw [sdOk,if_neg h1,if_pos h2]
  refine Pu.use (l1In_spec x.n 0 1) ⟨?_,hle⟩
  exact congrArg (fun b:Bool=>B b) (by rw [Bool.eq_iff_iff];simp only [Bool.and_eq_true,Bool.or_eq_true,decide_eq_true_eq];omega)
 ·rw [sdOk,if_neg h1,if_neg h2]
  have:0 < need x.op:=by
   rcases need_cases x.op with h3 | h3 | h3 | h3<;>omega
  exact ⟨by rw [decide_eq_true this,Bool.true_and],hle⟩
theorem goodF_false {f:List Sd} {i:Nat} (hi:i < f.length) (h:sdAt f i=false):goodF f=false:=by
 rw [goodF,Bool.and_eq_false_iff,Bool.and_eq_false_iff]
 exact .inl (.inr (range_all_false hi h))
theorem vals_bd {f:List Sd}:∀i,(∀j,j < i→sdAt f j=true)→0≤vals f i∧vals f i≤i:=by
 intro i
 induction i with
 | zero=>intro _;exact ⟨Int.le_refl _,Int.le_refl _⟩
 | succ i ih=>
  intro h
  have h1:=ih fun j hj=>h j (by omega)
  have h2:=h i (by omega)
  simp only [sdAt,Bool.and_eq_true,decide_eq_true_eq] at h2
  have h3:=sdOk_need h2.1
  have h4:=h2.2
  simp only [vals]
  omega
theorem GoodSaid_impl (f:List Sd) (hl:f.length≤1048576):Pu Tryz.prog 99 [Ds f] (B (goodF f)):=by
 refine Pu.of fun H=>?_
 refine W99_ok ?_;simp (maxSteps:=1000000) (disch:=first | assumption | (apply ν6;assumption)) only [W99,vz,vu,vv,eqS,eF_,↓c1_,↓c2_,tabs,reduceCtorEq,ι5,↓reduceIte,ν1,ν2,ν3,ν4,ν5,ι1,ι2,ι3,ι4]
 refine ⟨fun h1=>by rw [goodF,decide_eq_false (by omega)];rfl,fun h1=>⟨fun h2=>by rw [goodF,decide_eq_false (show ¬f.length≤16 by omega),Bool.and_false];rfl,fun h2=>?_⟩⟩
 refine L99_0_rule (0:Nat) (fun i=>I (vals f i)) (fun i=>I i) (fun _=>H) (fun i=>i≤f.length∧∀j,j < i→sdAt f j=true) (fun i=>f.length - i) ⟨⟨by omega,by intros;omega⟩,.refl _,.refl _,Heap.le_refl _⟩ ?_
 rintro i ⟨hi,ha⟩
 have hv:=vals_bd i ha
 (try simp (maxSteps:=1000000) (disch:=first | assumption | (apply ν6;assumption)) only [vz,vu,vv,eqS,eF_,↓c1_,↓c2_,tabs,reduceCtorEq,ι5,↓reduceIte,ν1,ν2,ν3,ν4,ν5,ι1,ι2,ι3,ι4,B99_0])
 refine ⟨fun h3=>⟨by omega,h3,?_⟩,fun h3=>?_⟩
 ·have hlt:i < f.length:=by omega
  have hat:sdAt f i=(sdOk (f.getD i default) && decide (need (f.getD i default).op≤vals f i)):=rfl
  have hvs:vals f (i+1)=vals f i+(1 - need (f.getD i default).op):=rfl
  generalize f.getD i default=x at hat hvs ⊢
  intro r hr
  have hle:=Heap.le_set (b:=[I x.op,I x.n]) hr
  refine Pu.use (need_impl.operandsOfSaid_spec x.op) ?_
  (try simp (maxSteps:=1000000) (disch:=first | assumption | (apply ν6;assumption)) only [vz,vu,vv,eqS,eF_,↓c1_,↓c2_,tabs,reduceCtorEq,ι5,↓reduceIte,ν1,ν2,ν3,ν4,ν5,ι1,ι2,ι3,ι4])
  refine Pu.use (isSaid_spec x) ?_
  cases hok:sdOk x
  ·(try simp (maxSteps:=1000000) (disch:=first | assumption | (apply ν6;assumption)) only [vz,vu,vv,eqS,eF_,↓c1_,↓c2_,tabs,reduceCtorEq,ι5,↓reduceIte,ν1,ν2,ν3,ν4,ν5,ι1,ι2,ι3,ι4])
   exact ⟨by rw [goodF_false hlt (by rw [hat,hok];rfl)],hle⟩
  ·have hnd:=sdOk_need hok
   (try simp (maxSteps:=1000000) (disch:=first | assumption | (apply ν6;assumption)) only [vz,vu,vv,eqS,eF_,↓c1_,↓c2_,tabs,reduceCtorEq,ι5,↓reduceIte,ν1,ν2,ν3,ν4,ν5,ι1,ι2,ι3,ι4])
   refine ⟨fun h4=>⟨by rw [goodF_false hlt (by rw [hat,hok,Bool.true_and,decide_eq_false (by omega)])],hle⟩,fun h4=>⟨i+1,⟨by omega,fun j hj=>?_⟩,by omega,?_,?_,hle⟩⟩
   ·rcases Nat.lt_succ_iff_lt_or_eq.1 hj with h | rfl
    ·exact ha j h
    ·rw [hat,hok,Bool.true_and,decide_eq_true (by omega)]
   ·rw [wk_int,i6_ (n:=1 - need x.op) (by omega) (by omega),i6_ (by omega) (by omega),hvs]
   ·rw [wk_int,i6_ (by omega) (by omega)];simp
 ·have:i=f.length:=by omega
  subst this
  refine congrArg (fun b:Bool=>B b) ?_
  have hall:(List.range f.length).all (sdAt f)=true:=List.all_eq_true.2 fun j hj=>ha j (List.mem_range.1 hj)
  rw [goodF,hall,decide_eq_true (show 1≤f.length by omega),decide_eq_true (show f.length≤16 by omega)];rfl
theorem GoodSaid_spec (f:List Sd) (hl:f.length≤1048576):Pu Tryz.prog 91 [Ds f] (B (goodF f)):=by
 refine Pu.of fun H=>?_
 refine W91_ok ?_;simp (maxSteps:=1000000) (disch:=first | assumption | (apply ν6;assumption)) only [W91,vz,vu,vv,eqS,eF_,↓c1_,↓c2_,tabs,reduceCtorEq,ι5,↓reduceIte,ν1,ν2,ν3,ν4,ν5,ι1,ι2,ι3,ι4]
 refine Pu.use (l1In_spec f.length 1 16) ?_
 cases hin:(decide ((1:Int)≤f.length) && decide ((f.length:Int)≤16))
 ·(try simp (maxSteps:=1000000) (disch:=first | assumption | (apply ν6;assumption)) only [vz,vu,vv,eqS,eF_,↓c1_,↓c2_,tabs,reduceCtorEq,ι5,↓reduceIte,ν1,ν2,ν3,ν4,ν5,ι1,ι2,ι3,ι4])
  rw [Bool.and_eq_false_iff,decide_eq_false_iff_not,decide_eq_false_iff_not] at hin
  rcases hin with h | h
  ·rw [goodF,decide_eq_false (by omega)];rfl
  ·rw [goodF,decide_eq_false (show ¬f.length≤16 by omega),Bool.and_false];rfl
 rw [Bool.and_eq_true,decide_eq_true_eq,decide_eq_true_eq] at hin
 (try simp (maxSteps:=1000000) (disch:=first | assumption | (apply ν6;assumption)) only [vz,vu,vv,eqS,eF_,↓c1_,↓c2_,tabs,reduceCtorEq,ι5,↓reduceIte,ν1,ν2,ν3,ν4,ν5,ι1,ι2,ι3,ι4])
 refine L91_0_rule (0:Nat) (fun i=>I (vals f i)) (fun i=>I i) (fun _=>H) (fun i=>i≤f.length∧∀j,j < i→sdAt f j=true) (fun i=>f.length - i) ⟨⟨by omega,by intros;omega⟩,.refl _,.refl _,Heap.le_refl _⟩ ?_
 rintro i ⟨hi,ha⟩
 have hv:=vals_bd i ha
 (try simp (maxSteps:=1000000) (disch:=first | assumption | (apply ν6;assumption)) only [vz,vu,vv,eqS,eF_,↓c1_,↓c2_,tabs,reduceCtorEq,ι5,↓reduceIte,ν1,ν2,ν3,ν4,ν5,ι1,ι2,ι3,ι4,B91_0])
 refine ⟨fun h3=>⟨by omega,h3,?_⟩,fun h3=>?_⟩
 ·have hlt:i < f.length:=by omega
  have hat:sdAt f i=(sdOk (f.getD i default) && decide (need (f.getD i default).op≤vals f i)):=rfl
  have hvs:vals f (i+1)=vals f i+(1 - need (f.getD i default).op):=rfl
  generalize f.getD i default=x at hat hvs ⊢
  intro r hr
  have hle:=Heap.le_set (b:=[I x.op,I x.n]) hr
  refine Pu.use (need_spec.l10Need_spec x.op) ?_
  (try simp (maxSteps:=1000000) (disch:=first | assumption | (apply ν6;assumption)) only [vz,vu,vv,eqS,eF_,↓c1_,↓c2_,tabs,reduceCtorEq,ι5,↓reduceIte,ν1,ν2,ν3,ν4,ν5,ι1,ι2,ι3,ι4])
  refine ⟨fun h0=>⟨?_,hle⟩,fun h0=>?_⟩
  ·have:sdOk x=false:=by
    cases hok:sdOk x
    ·rfl
    ·have:=sdOk_need hok;omega
   rw [goodF_false hlt (by rw [hat,this];rfl)]
  refine Pu.use (l10N_spec x (by omega)) ?_
  cases hok:sdOk x
  ·(try simp (maxSteps:=1000000) (disch:=first | assumption | (apply ν6;assumption)) only [vz,vu,vv,eqS,eF_,↓c1_,↓c2_,tabs,reduceCtorEq,ι5,↓reduceIte,ν1,ν2,ν3,ν4,ν5,ι1,ι2,ι3,ι4])
   exact ⟨by rw [goodF_false hlt (by rw [hat,hok];rfl)],hle⟩
  ·have hnd:=sdOk_need hok
   (try simp (maxSteps:=1000000) (disch:=first | assumption | (apply ν6;assumption)) only [vz,vu,vv,eqS,eF_,↓c1_,↓c2_,tabs,reduceCtorEq,ι5,↓reduceIte,ν1,ν2,ν3,ν4,ν5,ι1,ι2,ι3,ι4])
   refine ⟨fun h4=>⟨by rw [goodF_false hlt (by rw [hat,hok,Bool.true_and,decide_eq_false (by omega)])],hle⟩,fun h4=>⟨i+1,⟨by omega,fun j hj=>?_⟩,by omega,?_,?_,hle⟩⟩
   ·rcases Nat.lt_succ_iff_lt_or_eq.1 hj with h | rfl
    ·exact ha j h
    ·rw [hat,hok,Bool.true_and,decide_eq_true (by omega)]
   ·rw [wk_int,i6_ (n:=1 - need x.op) (by omega) (by omega),i6_ (by omega) (by omega),hvs]
   ·rw [wk_int,i6_ (by omega) (by omega)];simp
 ·have:i=f.length:=by omega
  subst this
  refine congrArg (fun b:Bool=>B b) ?_
  have hall:(List.range f.length).all (sdAt f)=true:=List.all_eq_true.2 fun j hj=>ha j (List.mem_range.1 hj)
  rw [goodF,hall,decide_eq_true (show 1≤f.length by omega),decide_eq_true (show f.length≤16 by omega)];rfl
end Go.Proofs.YtolffbcnbcjeaaaGreat
namespace Go.Proofs.YtolffbcnbcjeaaaGreat
open Go Go.Sep Go.Pt
attribute [local irreducible] CallT
theorem lit0G {G:Heap} {K:AV→Heap→Prop} (h:∀q,G q=none→K (.sl q 1 0 0) (G.set q [])):bS_ tab 24 0 [] G (wkK K):=by
 simp only [bS_,tab_24,tab_22]
 refine ⟨by omega,?_⟩
 simp only [fillV,zA_,List.replicate_zero,List.flatten_nil]
 exact fun r hr=>wkK.keep (h r hr)
theorem rg_new {H G:Heap} {Ts:List Th} {q:Nat} (s:St H Ts G) (hq:G q=none):St H (rnG (.sl q 1 0 0) [] [q]::Ts) (G.set q []):=
 s.push (rnG (.sl q 1 0 0) [] [q]) (New.cell hq) (.inr ⟨q,[],[],rfl,Heap.set_same _ _ _,⟨rfl,rfl⟩,rfl⟩)
theorem fin_rows {H G:Heap} {Ts:List Th} {x:AV} {gs:List (List Int)} {D:List Nat} (s:St H Ts G) (i:Nat) (hi:Ts[i]?=some (rnG x gs D)):wkK (fun r H'=>r=Ls gs∧H'=H) x G:=by
 have hr:RN LIc 1 x gs G D:=s.get i hi
 rcases hr with ⟨rfl,rfl,rfl⟩ | hr
 ·exact ⟨_,_,.trans (.val .nil) (.forget s.le),rfl,rfl⟩
 ·obtain ⟨q,rfl⟩:=LRow.sl hr
  obtain ⟨G',w,f⟩:=LRow.frzV (e:=eL) (sz:=1) (v:=.sl q 1 0 gs.length) (v':=Ls gs) (by omega) (fun _=>rfl) LIc.local LIc.frz hr (s.ndT i hi) (fun q _ hr=>hr)
  refine ⟨_,_,.trans w (.forget (H':=H) fun y b hb=>?_),rfl,rfl⟩
  rw [f y (fun hm=>by have:=s.fr _ (List.mem_of_getElem? hi) y hm;rw [this] at hb;cases hb)]
  exact s.le y b hb
def RowR (l:List Int) (r:AV) (G:Heap) (D:List Nat):Prop:=∃q,r=rowP q l∧G q=some (cP fI l)∧D=[q]
theorem RowR.res (l:List Int):ResT (RowR l):=by
 refine ⟨?_,?_,?_⟩
 ·rintro r G G' D ⟨q,rfl,hq,rfl⟩ hf
  exact ⟨q,rfl,hf q (by simp) _ hq,rfl⟩
 ·rintro r G D ⟨q,rfl,hq,rfl⟩
  refine ⟨.inr ⟨.inr ⟨.inl ⟨_,_,_,_,rfl⟩,fun _=>rfl⟩,fun _=>rfl⟩,fun y hy bs hb c hc=>?_⟩
  rw [List.mem_singleton.1 hy,hq] at hb
  cases hb
  obtain ⟨x,_,rfl⟩:=List.mem_map.1 hc
  exact .p (.int _ _)
 ·rintro r G D n G0 h0 ⟨q,rfl,hq,rfl⟩
  refine ⟨q+n,rfl,?_,rfl⟩
  have hr:=LRow.sh (LPl.sh eI) h0 (LI_mk' hq)
  obtain ⟨q',cs,D',e1,e2,e3,e4⟩:=hr
  obtain ⟨rfl,-⟩:=LL.plain' e3
  have e:q'=q+n:=by
   have h1:shC n (rowP q l)=.sl (q+n) 1 0 l.length:=rfl
   rw [h1] at e1
   injection e1 with e1;exact e1.symm
  subst e
  have e5:cells (l.map eI)=cP fI l:=cells_P fI l
  rw [← e5];exact e2
theorem Clone_part {q off n:Nat} {l:List Int} {G:Heap} (hq:G q=some (cP fI l)) (hb:off+n≤l.length) (hl:l.length≤100000) {K:AV→Heap→Prop} (h:∀qn G',RowR ((l.drop off).take n) (rowP qn ((l.drop off).take n)) G' [qn]→New G G' [qn]→K (rowP qn ((l.drop off).take n)) G'):CallT Tryz.prog 82 [.sl q 1 off n] G K:=by
 refine thawR (R:=RowR ((l.drop off).take n)) (RowR.res _) (args':=[Is ((l.drop off).take n)]) (G1:=G.del q) (fun {K} h=>CloneI_row _ (by rw [List.length_take,List.length_drop];omega) fun q hq=>h _ _ [q] ⟨q,rfl,Heap.set_same _ _ _,rfl⟩ (New.cell hq)) ?_ ?_
 ·refine Wk.frzS (es:=l.map fI) (by rw [hq,List.map_map];rfl) (.tup (.cons ?_ .nil))
  have:=FrzS.part (r:=q) (es:=l.map fI) off n (by rw [List.length_map];exact hb)
  have e:(((l.map fI).drop off).take n).map (fun v=>[v])=((l.drop off).take n).map eI:=by rw [← List.map_drop,← List.map_take,List.map_map];rfl
  rw [e] at this
  exact this
 ·rintro r G' D ⟨qn,rfl,h1,rfl⟩ hn
  exact h qn G' ⟨qn,rfl,h1,rfl⟩ hn
def opsA (f:List Sd) (i:Nat):List (List Int):=(List.range i).map (opsF f)
theorem opsA_succ (f:List Sd) (i:Nat):opsA f (i+1)=opsA f i++[opsF f i]:=by simp [opsA,List.range_succ]
theorem opsA_len (f:List Sd) (i:Nat):(opsA f i).length=i:=by simp [opsA]
theorem opsA_get (f:List Sd) {n i:Nat} (h:i < n):(opsA f n).getD i default=opsF f i:=by simp [opsA,List.getD,h]
theorem roots_len {f:List Sd} (g:GoodFm f) (i:Nat) (hi:i≤f.length):(roots f i).length=(vals f i).toNat∧vals f i≤16∧0≤vals f i:=by
 have h:=stk_len g i hi
 have h2:vals f i≤i:=(vals_bd i fun j hj=>by
  have:=g.ok j (by omega)
  rw [sdAt,this.1,decide_eq_true this.2];rfl).2
 have:=g.l1
 rw [roots,List.length_map,List.length_reverse]
 omega
theorem operandIndexes_spec (f:List Sd) (g:GoodFm f):Pu Tryz.prog 127 [Ds f] (Ls (opsA f f.length)):=by
 have hl:=g.l1
 refine ⟨fun H=>CallT.fin ?_⟩
 refine W127_ok ?_;simp (maxSteps:=1000000) (disch:=first | assumption | (apply ν6;assumption)) only [W127,vz,vu,vv,eqS,eF_,↓c1_,↓c2_,tabs,reduceCtorEq,ι5,↓reduceIte,ν1,ν2,ν3,ν4,ν5,ι1,ι2,ι3,ι4]
 refine lit0G fun q0 hq0=>?_
 have st:=rg_new (St.nil H) hq0
 generalize H.set q0 []=G at st ⊢
 refine lit0I fun q1 hq1=>?_
 replace st:=st.cell hq1 (cP fI [])
 generalize G.set q1 (cP fI [])=G1 at st ⊢
 (try simp (maxSteps:=1000000) (disch:=first | assumption | (apply ν6;assumption)) only [vz,vu,vv,eqS,eF_,↓c1_,↓c2_,tabs,reduceCtorEq,ι5,↓reduceIte,ν1,ν2,ν3,ν4,ν5,ι1,ι2,ι3,ι4])
 refine L127_0_rule ((0:Nat),(.sl q0 1 0 0:AV),[q0],q1,G1) (fun s=>s.2.1) (fun s=>rowP s.2.2.2.1 (roots f s.1)) (fun s=>I s.1) (fun s=>s.2.2.2.2)
  (fun s=>s.1≤f.length∧St H [cT_ s.2.2.2.1 (cP fI (roots f s.1)),rnG s.2.1 (opsA f s.1) s.2.2.1] s.2.2.2.2) (fun s=>f.length - s.1)
  ⟨⟨by simp,st⟩,.refl _,.refl _,.refl _,Heap.le_refl _⟩ ?_
 clear st
 rintro ⟨i,x,D,q,G⟩ ⟨hi,st⟩
 dsimp only at hi st
 (try simp (maxSteps:=1000000) (disch:=first | assumption | (apply ν6;assumption)) only [vz,vu,vv,eqS,eF_,↓c1_,↓c2_,tabs,reduceCtorEq,ι5,↓reduceIte,ν1,ν2,ν3,ν4,ν5,ι1,ι2,ι3,ι4,B127_0])
 refine ⟨fun h1=>⟨by omega,h1,?_⟩,fun h1=>?_⟩
 ·have hlt:i < f.length:=by omega
  obtain ⟨rr,e1,e2,e3⟩:=roots_succ g hlt
  have hok:=g.ok i hlt
  have hnd:=sdOk_need hok.1
  have hrl:=roots_len g i hi
  have hlen:(roots f i).length=rr.length+(opsF f i).length:=by rw [e1,List.length_append]
  have hsucc:=opsA_succ f i
  generalize f.getD i default=y at e3 hok hnd ⊢
  intro r hr
  replace st:=st.cell hr [I y.op,I y.n]
  generalize G.set r [I y.op,I y.n]=G2 at st ⊢
  (try simp (maxSteps:=1000000) (disch:=first | assumption | (apply ν6;assumption)) only [vz,vu,vv,eqS,eF_,↓c1_,↓c2_,tabs,reduceCtorEq,ι5,↓reduceIte,ν1,ν2,ν3,ν4,ν5,ι1,ι2,ι3,ι4,lA_ (st.get 0 rfl)])
  refine Pu.use (need_impl.operandsOfSaid_spec y.op) ?_
  have ew:IntKind.i64.wrap ((roots f i).length - need y.op)=(rr.length:Nat):=by rw [i6_ (by omega) (by omega)];omega
  (try simp (maxSteps:=1000000) (disch:=first | assumption | (apply ν6;assumption)) only [vz,vu,vv,eqS,eF_,↓c1_,↓c2_,tabs,reduceCtorEq,ι5,↓reduceIte,ν1,ν2,ν3,ν4,ν5,ι1,ι2,ι3,ι4,sliceV,ew])
  refine ⟨by omega,by omega,by omega,?_⟩
  have en:((roots f i).length - (rr.length:Int)).toNat=(opsF f i).length:=by omega
  have ep:((roots f i).drop (rr.length*1)).take (opsF f i).length=opsF f i:=by rw [e1,Nat.mul_one,List.drop_left,List.take_length]
  rw [en]
  refine Clone_part (st.get 1 rfl) (by omega) (by omega) fun qn G3 hrow hn=>?_
  rw [ep] at hrow ⊢
  obtain ⟨qn',e4,hqn,_⟩:=hrow
  injection e4 with e4;subst e4
  replace st:=st.push (cT_ qn (cP fI (opsF f i))) hn hqn
  refine lit_live1 fun ql hql=>?_
  replace st:=st.cell hql [rowP qn (opsF f i)]
  generalize G3.set ql [.sl qn 1 0 (opsF f i).length]=G4 at st ⊢
  refine rn_pushL st 2 rfl (by rw [opsA_len];omega) fun q' D' G5 hq' st=>?_
  rw [← hsucc] at st
  simp only [List.set_cons_succ,List.set_cons_zero] at st
  have hq5:=(st.get 1 rfl:G5 q=_)
  rw [e1,cI_app] at hq5
  refine ⟨by omega,by omega,by omega,?_⟩
  refine lit1 tab_22 rfl tab_3 ⟨rfl,rfl⟩ ?_
  refine app_intsX (xs:=rr) (ys:=[(i:Int)]) hq5 (by simp only [List.length_singleton];omega) fun q2 hq2 hne=>?_
  rw [← e2]
  refine ⟨(i+1,.sl q' 1 0 ((opsA f i).length+1),D',q2,_),⟨by simp only;omega,(st.moved 1 rfl hq2 (c:=cP fI (roots f (i+1)))).drop⟩,by simp only;omega,.refl _,.refl _,?_,Heap.le_refl _⟩
  rw [wk_int,i6_ (by omega) (by omega)];simp
 ·have:i=f.length:=by omega
  subst this
  exact fin_rows st 1 rfl
theorem lit1r {G:Heap} {K:AV→Heap→Prop} {n:Int} (h:∀q,G q=none→K (rowP q [n]) (G.set q (cP fI [n]))):bS_ tab 22 1 [(0,I n)] G (wkK K):=by
 simp only [bS_,tab_22,tab_3]
 refine ⟨by omega,?_⟩
 simp only [fillV,zA_,List.replicate_succ,List.replicate_zero,List.flatten_cons,List.flatten_nil,List.append_nil,AV.cells,splice]
 simp only [List.length_cons,List.length_nil,Nat.reduceAdd,Nat.zero_mul,Nat.zero_add,Nat.le_refl,and_self,if_true,List.take_zero,List.nil_append,List.drop_succ_cons,List.drop_zero,List.append_nil]
 exact fun r hr=>wkK.keep (h r hr)
def tr (f:List Sd):List Int:=sc (trL f f.length)
theorem tr_len (f:List Sd):(tr f).length≤2*f.length+1:=Nat.le_trans (sc_len _) (trL_len f f.length)
theorem tracked_row (f:List Sd) (g:GoodFm f) {H:Heap} {K:AV→Heap→Prop} (h:∀q G,RowR (tr f) (rowP q (tr f)) G [q]→New H G [q]→K (rowP q (tr f)) G):CallT Tryz.prog 100 [Ds f] H K:=by
 have hl:=g.l1
 have hl0:=g.l0
 refine CallT.fin ?_
 have e0:IntKind.i64.wrap ((f.length:Int) - 1)=f.length - 1:=i6_ (by omega) (by omega)
 refine W100_ok ?_;simp (maxSteps:=1000000) (disch:=first | assumption | (apply ν6;assumption)) only [W100,vz,vu,vv,eqS,eF_,↓c1_,↓c2_,tabs,reduceCtorEq,ι5,↓reduceIte,ν1,ν2,ν3,ν4,ν5,ι1,ι2,ι3,ι4,e0]
 refine lit1r (n:=(f.length:Int) - 1) fun q0 hq0=>?_
 have st:=(St.nil H).cell hq0 (cP fI (trL f 0))
 have ez:[(f.length:Int) - 1]=trL f 0:=by simp [trL]
 rw [ez]
 generalize H.set q0 (cP fI (trL f 0))=G at st ⊢
 refine Pu.use (operandIndexes_spec f g) ?_
 (try simp (maxSteps:=1000000) (disch:=first | assumption | (apply ν6;assumption)) only [vz,vu,vv,eqS,eF_,↓c1_,↓c2_,tabs,reduceCtorEq,ι5,↓reduceIte,ν1,ν2,ν3,ν4,ν5,ι1,ι2,ι3,ι4])
 refine L100_0_rule ((0:Nat),q0,G) (fun s=>rowP s.2.1 (trL f s.1)) (fun s=>I s.1) (fun s=>s.2.2)
  (fun s=>s.1≤f.length∧St H [cT_ s.2.1 (cP fI (trL f s.1))] s.2.2) (fun s=>f.length - s.1)
  ⟨⟨by simp,st⟩,.refl _,.refl _,Heap.le_refl _⟩ ?_
 clear st
 rintro ⟨i,q,G⟩ ⟨hi,st⟩
 dsimp only at hi st
 have htl:=trL_len f i
 (try simp (maxSteps:=1000000) (disch:=first | assumption | (apply ν6;assumption)) only [vz,vu,vv,eqS,eF_,↓c1_,↓c2_,tabs,reduceCtorEq,ι5,↓reduceIte,ν1,ν2,ν3,ν4,ν5,ι1,ι2,ι3,ι4,B100_0])
 refine ⟨fun h1=>⟨by omega,h1,?_⟩,fun h1=>?_⟩
 ·have hlt:i < f.length:=by omega
  have hok:=g.ok i hlt
  have hsucc:=trL_succ f i
  have e5:IntKind.i64.wrap ((i:Int)+1)=((i+1:Nat):Int):=by rw [i6_ (by omega) (by omega)];simp
  have hog:=opsA_get f hlt
  have hol:=opsA_len f f.length
  have hat:trAt f i=if (f.getD i default).op=7∨(f.getD i default).op=8 then [(i:Int),(i:Int) - 1] else if (f.getD i default).op=4 then [(i:Int) - 1] else []:=rfl
  have hop2:(f.getD i default).op=7∨(f.getD i default).op=8→opsF f i=[(tst f (i - 1):Int) - 1,(i:Int) - 1]:=fun h=>by
   have:need (f.getD i default).op=2:=by rcases h with h | h<;>rw [h]<;>rfl
   rw [opsF,if_neg (by omega),if_neg (by omega)]
  have hop1:(f.getD i default).op=4→opsF f i=[(i:Int) - 1]:=fun h=>by
   have:need (f.getD i default).op=1:=by rw [h];rfl
   rw [opsF,if_neg (by omega),if_pos this]
  generalize f.getD i default=y at hat hop1 hop2 hok ⊢
  intro r hr
  replace st:=st.cell hr [I y.op,I y.n]
  generalize G.set r [I y.op,I y.n]=G2 at st ⊢
  (try simp (maxSteps:=1000000) (disch:=first | assumption | (apply ν6;assumption)) only [vz,vu,vv,eqS,eF_,↓c1_,↓c2_,tabs,reduceCtorEq,ι5,↓reduceIte,ν1,ν2,ν3,ν4,ν5,ι1,ι2,ι3,ι4,lA_ (st.get 0 rfl)])
  have key:∀b:Bool,(b=true↔(y.op=7∨y.op=8))→∀N:AV→AV→Heap→Prop,(∀q' G',St H [cT_ q' (cP fI (trL f (i+1)))] G'→N (rowP q' (trL f (i+1))) (I ((i+1:Nat):Int)) G')→
    J100_1 (wkK K) N (rowP q (trL f i)) (Ls (opsA f f.length)) (I i) (Ds f) (I f.length) (I i) (I y.op) (B b) G2:=by
   intro b hb N hN
   (try simp (maxSteps:=1000000) (disch:=first | assumption | (apply ν6;assumption)) only [vz,vu,vv,eqS,eF_,↓c1_,↓c2_,tabs,reduceCtorEq,ι5,↓reduceIte,ν1,ν2,ν3,ν4,ν5,ι1,ι2,ι3,ι4,J100_1,e5])
   have e6:trL f i++trAt f i=trL f (i+1):=hsucc.symm
   refine ⟨fun h2=>?_,fun h2=>⟨fun h4=>?_,fun h4=>?_⟩⟩
   ·have h7:=hb.1 h2
    have ho:=hop2 h7
    rw [hat,if_pos h7] at e6
    rw [hog,ho]
    refine ⟨by omega,by rw [hol];omega,by omega,by simp,?_⟩
    refine lit2 tab_22 rfl tab_3 ⟨rfl,rfl⟩ ?_
    refine st_appI (ys:=[(i:Int),(i:Int) - 1]) st 1 rfl (by simp only [List.length_cons,List.length_nil];omega) fun q' G' hq' st=>?_
    rw [e6] at st ⊢
    exact hN _ _ st.drop
   ·have h7:¬(y.op=7∨y.op=8):=fun h=>by rw [hb.2 h] at h2;cases h2
    rw [hat,if_neg h7,if_pos h4] at e6
    rw [hog,hop1 h4]
    refine ⟨by omega,by rw [hol];omega,by omega,by simp,?_⟩
    refine lit1 tab_22 rfl tab_3 ⟨rfl,rfl⟩ ?_
    refine st_appI (ys:=[(i:Int) - 1]) st 1 rfl (by simp only [List.length_cons,List.length_nil];omega) fun q' G' hq' st=>?_
    rw [e6] at st ⊢
    exact hN _ _ st.drop
   ·have h7:¬(y.op=7∨y.op=8):=fun h=>by rw [hb.2 h] at h2;cases h2
    rw [hat,if_neg h7,if_neg h4,List.append_nil] at e6
    rw [e6] at st ⊢
    exact hN _ _ st.drop
  refine ⟨fun h7=>key (decide (y.op=7)) (by simp [h7]) _ fun q' G' st=>⟨(i+1,q',G'),⟨by simp only;omega,st⟩,by simp only;omega,.refl _,.refl _,Heap.le_refl _⟩,fun h7=>key (decide (y.op=8)) (by simp [h7]) _ fun q' G' st=>⟨(i+1,q',G'),⟨by simp only;omega,st⟩,by simp only;omega,.refl _,.refl _,Heap.le_refl _⟩⟩
 ·have:i=f.length:=by omega
  subst this
  have hq:G q=some (cP fI (trL f f.length)):=st.get 0 rfl
  have hsl:(srt (trL f f.length)).length=(trL f f.length).length:=List.length_mergeSort ..
  refine Sort_row hq (by omega) ?_
  replace st:=st.put 0 rfl (cP fI (srt (trL f f.length)))
  have hq:(G.set q (cP fI (srt (trL f f.length)))) q=some (cP fI (srt (trL f f.length))):=Heap.set_same _ _ _
  generalize G.set q (cP fI (srt (trL f f.length)))=G2 at st hq ⊢
  rw [show rowP q (trL f f.length)=rowP q (srt (trL f f.length)) by simp only [rowP,hsl]]
  refine Compact_row hq (by omega) ?_
  replace st:=st.put 0 rfl (cP fI (tr f))
  exact wkK.keep (h q _ ⟨q,rfl,st.get 0 rfl,rfl⟩ ⟨st.ndT 0 rfl,st.fr _ (List.mem_cons_self ..),st.le⟩)
end Go.Proofs.YtolffbcnbcjeaaaGreat
namespace Go.Proofs.YtolffbcnbcjeaaaGreat
open Go Go.Sep Go.Pt
attribute [local irreducible] CallT
def trQ (f:List Sd) (i:Nat):List Int:=(((List.range i).map (trAt f)).flatten).foldl put [(f.length:Int) - 1]
theorem trQ_succ (f:List Sd) (i:Nat):trQ f (i+1)=(trAt f i).foldl put (trQ f i):=by simp [trQ,List.range_succ,List.foldl_append]
theorem trQ_lt (f:List Sd) (i:Nat):(trQ f i).Pairwise (· < ·):=(foldl_put _ _ (by simp)).1
theorem foldl_putlen (xs:List Int):∀l,(xs.foldl put l).length≤l.length+xs.length:=by
 induction xs with
 | nil=>intro l;simp
 | cons a xs ih=>intro l;have:=ih (put l a);have:=put_len l a;rw [List.foldl_cons,List.length_cons];omega
theorem trQ_len (f:List Sd) (i:Nat):(trQ f i).length≤2*i+1:=by
 have h1:=foldl_putlen (((List.range i).map (trAt f)).flatten) [(f.length:Int) - 1]
 have h2:=trL_len f i
 rw [trL,List.length_cons] at h2
 rw [List.length_singleton] at h1
 unfold trQ;omega
theorem trQ_all (f:List Sd):trQ f f.length=tr f:=by
 have h:=foldl_put (((List.range f.length).map (trAt f)).flatten) [(f.length:Int) - 1] (by simp)
 refine rise_ext h.1 (sc_lt _) fun x=>?_
 unfold trQ tr
 rw [h.2,sc_mem,trL,List.mem_cons]
 simp
theorem l13Tracked_spec (f:List Sd) (g:GoodFm f):Pu Tryz.prog 92 [Ds f] (Is (tr f)):=by
 have hl:=g.l1
 have hl0:=g.l0
 refine Pu.of fun H=>?_
 have e0:IntKind.i64.wrap ((f.length:Int) - 1)=f.length - 1:=i6_ (by omega) (by omega)
 refine W92_ok ?_;simp (maxSteps:=1000000) (disch:=first | assumption | (apply ν6;assumption)) only [W92,vz,vu,vv,eqS,eF_,↓c1_,↓c2_,tabs,reduceCtorEq,ι5,↓reduceIte,ν1,ν2,ν3,ν4,ν5,ι1,ι2,ι3,ι4,e0]
 refine lit1 tab_22 rfl tab_3 ⟨rfl,rfl⟩ ?_
 (try simp (maxSteps:=1000000) (disch:=first | assumption | (apply ν6;assumption)) only [vz,vu,vv,eqS,eF_,↓c1_,↓c2_,tabs,reduceCtorEq,ι5,↓reduceIte,ν1,ν2,ν3,ν4,ν5,ι1,ι2,ι3,ι4])
 refine L92_0_rule (0:Nat) (fun i=>Is (trQ f i)) (fun i=>I i) (fun _=>H) (fun i=>i≤f.length) (fun i=>f.length - i) ⟨by omega,.refl _,.refl _,Heap.le_refl _⟩ ?_
 intro i hi
 have htl:=trQ_len f i
 have hlt:=trQ_lt f i
 (try simp (maxSteps:=1000000) (disch:=first | assumption | (apply ν6;assumption)) only [vz,vu,vv,eqS,eF_,↓c1_,↓c2_,tabs,reduceCtorEq,ι5,↓reduceIte,ν1,ν2,ν3,ν4,ν5,ι1,ι2,ι3,ι4,B92_0])
 refine ⟨fun h1=>⟨by omega,h1,?_⟩,fun h1=>?_⟩
 ·have hlt:i < f.length:=by omega
  have e5:IntKind.i64.wrap ((i:Int)+1)=((i+1:Nat):Int):=by rw [i6_ (by omega) (by omega)];simp
  have e7:IntKind.i64.wrap ((i:Int) - 1)=(i:Int) - 1:=i6_ (by omega) (by omega)
  have hsucc:=trQ_succ f i
  have hat:trAt f i=if (f.getD i default).op=7∨(f.getD i default).op=8 then [(i:Int),(i:Int) - 1] else if (f.getD i default).op=4 then [(i:Int) - 1] else []:=rfl
  generalize f.getD i default=y at hat ⊢
  intro r hr
  have hle:=Heap.le_set (b:=[I y.op,I y.n]) hr
  generalize H.set r [I y.op,I y.n]=G at hle ⊢
  have key:∀b:Bool,(b=true↔(y.op=7∨y.op=8))→∀(K N),(∀G',Heap.le G G'→N (Is (trQ f (i+1))) (I ((i+1:Nat):Int)) G')→
    J92_1 K N (Is (trQ f i)) (I i) (Ds f) (I f.length) (I i) (I y.op) (B b) G:=by
   intro b hb K N hN
   (try simp (maxSteps:=1000000) (disch:=first | assumption | (apply ν6;assumption)) only [vz,vu,vv,eqS,eF_,↓c1_,↓c2_,tabs,reduceCtorEq,ι5,↓reduceIte,ν1,ν2,ν3,ν4,ν5,ι1,ι2,ι3,ι4,J92_1,e5,e7])
   refine ⟨fun h2=>?_,fun h2=>⟨fun h4=>?_,fun h4=>?_⟩⟩
   ·rw [hat,if_pos (hb.1 h2)] at hsucc
    refine Pu.use (l1Put_spec _ (i:Int) ‹_› (by omega)) ?_
    have hpl:=put_len (trQ f i) (i:Int)
    refine Pu.use (l1Put_spec _ ((i:Int) - 1) (put_lt _ ‹_›) (by omega)) ?_
    rw [show put (put (trQ f i) i) (i - 1)=trQ f (i+1) by rw [hsucc];rfl]
    (try simp (maxSteps:=1000000) (disch:=first | assumption | (apply ν6;assumption)) only [vz,vu,vv,eqS,eF_,↓c1_,↓c2_,tabs,reduceCtorEq,ι5,↓reduceIte,ν1,ν2,ν3,ν4,ν5,ι1,ι2,ι3,ι4,e5])
    exact hN G (Heap.le_refl _)
   ·have h7:¬(y.op=7∨y.op=8):=fun h=>by rw [hb.2 h] at h2;cases h2
    rw [hat,if_neg h7,if_pos h4] at hsucc
    refine Pu.use (l1Put_spec _ ((i:Int) - 1) ‹_› (by omega)) ?_
    rw [show put (trQ f i) (i - 1)=trQ f (i+1) by rw [hsucc];rfl]
    (try simp (maxSteps:=1000000) (disch:=first | assumption | (apply ν6;assumption)) only [vz,vu,vv,eqS,eF_,↓c1_,↓c2_,tabs,reduceCtorEq,ι5,↓reduceIte,ν1,ν2,ν3,ν4,ν5,ι1,ι2,ι3,ι4,e5])
    exact hN G (Heap.le_refl _)
   ·have h7:¬(y.op=7∨y.op=8):=fun h=>by rw [hb.2 h] at h2;cases h2
    rw [hat,if_neg h7,if_neg h4] at hsucc
    rw [show trQ f i=trQ f (i+1) by rw [hsucc];rfl]
    exact hN G (Heap.le_refl _)
  refine ⟨fun h7=>key (decide (y.op=7)) (by simp [h7]) _ _ fun G' hg=>⟨i+1,by omega,by omega,.refl _,.refl _,Heap.le_trans hle hg⟩,fun h7=>key (decide (y.op=8)) (by simp [h7]) _ _ fun G' hg=>⟨i+1,by omega,by omega,.refl _,.refl _,Heap.le_trans hle hg⟩⟩
 ·have:i=f.length:=by omega
  subst this
  rw [trQ_all]
def goodT (f:List Sd):Bool:=goodF f && decide ((tr f).length≤5)
theorem isTracked_spec (f:List Sd) (hl:f.length≤1048576):Pu Tryz.prog 60 [Ds f] (B (goodT f)):=by
 refine Pu.of fun H=>?_
 refine W60_ok ?_;simp (maxSteps:=1000000) (disch:=first | assumption | (apply ν6;assumption)) only [W60,vz,vu,vv,eqS,eF_,↓c1_,↓c2_,tabs,reduceCtorEq,ι5,↓reduceIte,ν1,ν2,ν3,ν4,ν5,ι1,ι2,ι3,ι4]
 refine Pu.use (GoodSaid_impl f hl) ?_
 cases hg:goodF f
 ·(try simp (maxSteps:=1000000) (disch:=first | assumption | (apply ν6;assumption)) only [vz,vu,vv,eqS,eF_,↓c1_,↓c2_,tabs,reduceCtorEq,ι5,↓reduceIte,ν1,ν2,ν3,ν4,ν5,ι1,ι2,ι3,ι4])
  rw [goodT,hg]
  first | rfl | exact ⟨rfl,Heap.le_refl _⟩
 ·(try simp (maxSteps:=1000000) (disch:=first | assumption | (apply ν6;assumption)) only [vz,vu,vv,eqS,eF_,↓c1_,↓c2_,tabs,reduceCtorEq,ι5,↓reduceIte,ν1,ν2,ν3,ν4,ν5,ι1,ι2,ι3,ι4])
  refine tracked_row f (goodF_iff.1 hg) fun q G hr hn=>?_
  (try simp (maxSteps:=1000000) (disch:=first | assumption | (apply ν6;assumption)) only [vz,vu,vv,eqS,eF_,↓c1_,↓c2_,tabs,reduceCtorEq,ι5,↓reduceIte,ν1,ν2,ν3,ν4,ν5,ι1,ι2,ι3,ι4])
  refine ⟨?_,hn.le⟩
  refine congrArg (fun b:Bool=>B b) ?_
  rw [goodT,hg,Bool.true_and]
  rw [Bool.eq_iff_iff];simp only [decide_eq_true_eq];omega
theorem l13Good_spec (f:List Sd) (hl:f.length≤1048576):Pu Tryz.prog 51 [Ds f] (B (goodT f)):=by
 refine Pu.of fun H=>?_
 refine W51_ok ?_;simp (maxSteps:=1000000) (disch:=first | assumption | (apply ν6;assumption)) only [W51,vz,vu,vv,eqS,eF_,↓c1_,↓c2_,tabs,reduceCtorEq,ι5,↓reduceIte,ν1,ν2,ν3,ν4,ν5,ι1,ι2,ι3,ι4]
 refine Pu.use (GoodSaid_spec f hl) ?_
 cases hg:goodF f
 ·(try simp (maxSteps:=1000000) (disch:=first | assumption | (apply ν6;assumption)) only [vz,vu,vv,eqS,eF_,↓c1_,↓c2_,tabs,reduceCtorEq,ι5,↓reduceIte,ν1,ν2,ν3,ν4,ν5,ι1,ι2,ι3,ι4])
  rw [goodT,hg]
  first | rfl | exact ⟨rfl,Heap.le_refl _⟩
 ·(try simp (maxSteps:=1000000) (disch:=first | assumption | (apply ν6;assumption)) only [vz,vu,vv,eqS,eF_,↓c1_,↓c2_,tabs,reduceCtorEq,ι5,↓reduceIte,ν1,ν2,ν3,ν4,ν5,ι1,ι2,ι3,ι4])
  refine Pu.use (l13Tracked_spec f (goodF_iff.1 hg)) ?_
  (try simp (maxSteps:=1000000) (disch:=first | assumption | (apply ν6;assumption)) only [vz,vu,vv,eqS,eF_,↓c1_,↓c2_,tabs,reduceCtorEq,ι5,↓reduceIte,ν1,ν2,ν3,ν4,ν5,ι1,ι2,ι3,ι4])
  refine congrArg (fun b:Bool=>B b) ?_
  rw [goodT,hg,Bool.true_and]
  rw [Bool.eq_iff_iff];simp only [decide_eq_true_eq];omega
theorem goodT_facts {f:List Sd} (h:goodT f=true):GoodFm f∧(tr f).length≤5:=by
 rw [goodT,Bool.and_eq_true,decide_eq_true_eq] at h
 exact ⟨goodF_iff.1 h.1,h.2⟩
theorem tracked_spec (f:List Sd) (g:GoodFm f):Pu Tryz.prog 100 [Ds f] (Is (tr f)):=by
 refine ⟨fun H=>CallT.fin (tracked_row f g fun q G hr hn=>?_)⟩
 obtain ⟨q',e,hq,_⟩:=hr
 injection e with e;subst e
 have hHq:=hn.fr q (by simp)
 refine fin_int hHq fun y b hb=>?_
 by_cases e:y=q
 ·subst e;rw [Heap.set_same] at hb;rw [hq];exact hb
 ·rw [Heap.set_other e] at hb;exact hn.le y b hb
def RowB (l:List Int) (ok:Bool) (r:AV) (G:Heap) (D:List Nat):Prop:=∃q,r=.tup [rowP q l,B ok]∧G q=some (cP fI l)∧D=[q]
theorem RowB.res (l:List Int) (ok:Bool):ResT (RowB l ok):=by
 refine ⟨?_,?_,?_⟩
 ·rintro r G G' D ⟨q,rfl,hq,rfl⟩ hf
  exact ⟨q,rfl,hf q (by simp) _ hq,rfl⟩
 ·rintro r G D ⟨q,rfl,hq,rfl⟩
  refine ⟨.inl ⟨_,rfl,fun u hu=>?_⟩,fun y hy bs hb c hc=>?_⟩
  ·rcases List.mem_cons.1 hu with rfl | hu
   ·exact .inr ⟨.inl ⟨_,_,_,_,rfl⟩,fun _=>rfl⟩
   ·rw [List.mem_singleton] at hu;rw [hu];exact .inr ⟨.p (.bool ok),fun _=>rfl⟩
  ·rw [List.mem_singleton.1 hy,hq] at hb
   cases hb
   obtain ⟨x,_,rfl⟩:=List.mem_map.1 hc
   exact .p (.int _ _)
 ·rintro r G D n G0 h0 ⟨q,rfl,hq,rfl⟩
  obtain ⟨q',e,h1,_⟩:=(RowR.res l).sh h0 ⟨q,rfl,hq,rfl⟩
  have e2:q'=q+n:=by
   have h1:sh2 n (rowP q l)=.sl (q+n) 1 0 l.length:=rfl
   rw [h1] at e
   injection e with e;exact e.symm
  subst e2
  exact ⟨q+n,rfl,h1,rfl⟩
end Go.Proofs.YtolffbcnbcjeaaaGreat
namespace Go.Proofs.YtolffbcnbcjeaaaGreat
open Go Go.Sep Go.Pt
attribute [local irreducible] CallT
end Go.Proofs.YtolffbcnbcjeaaaGreat
namespace Go.Proofs.YtolffbcnbcjeaaaGreat
open Go Go.Sep Go.Pt
attribute [local irreducible] CallT
def bitF (g:Int) (i:Nat):Bool:=decide (bitsI .and .i64 (Int.fdiv g (2^(min i 64))) 1=1)
def saysF (t:List Int) (g node:Int):Bool:=if node∈t then bitF g (t.idxOf node) else false
def lft (f:List Sd) (i:Nat):Nat:=tst f (i - 1) - 1
def evV (f:List Sd) (t:List Int) (lt nx:Int) (out:List Bool) (i:Nat):Bool:=
 if (f.getD i default).op=1 then bitF lt (f.getD i default).n.toNat
 else if (f.getD i default).op=2 then decide ((f.getD i default).n=1)
 else if (f.getD i default).op=3 then !out.getD (i - 1) default
 else if (f.getD i default).op=4 then saysF t nx ((i:Int) - 1)
 else if (f.getD i default).op=5 then out.getD (lft f i) default && out.getD (i - 1) default
 else if (f.getD i default).op=6 then out.getD (lft f i) default || out.getD (i - 1) default
 else if (f.getD i default).op=7 then out.getD (i - 1) default || (out.getD (lft f i) default && saysF t nx i)
 else out.getD (i - 1) default && (out.getD (lft f i) default || saysF t nx i)
def evL (f:List Sd) (t:List Int) (lt nx:Int):Nat→List Bool
 | 0=>[]
 | i+1=>evL f t lt nx i++[evV f t lt nx (evL f t lt nx i) i]
theorem evL_len (f:List Sd) (t:List Int) (lt nx:Int) (i:Nat):(evL f t lt nx i).length=i:=by
 induction i with
 | zero=>rfl
 | succ i ih=>rw [evL,List.length_append,ih];rfl
abbrev rnB (x:AV) (l:List Bool) (D:List Nat):Th:=rnT (LPl.local eBo) (LPl.has eBo) 1 x l D
theorem rnB_cases {x:AV} {l:List Bool} {G:Heap} {D:List Nat} (h:RN (LPl eBo) 1 x l G D):(x=.p .nil∧l=[]∧D=[])∨∃q,x=rowP q l∧G q=some (cP fB l)∧D=[q]:=by
 rcases h with h | ⟨q,cs,D',rfl,hq,hll,rfl⟩
 ·exact .inl h
 ·obtain ⟨rfl,rfl⟩:=LL.plain' hll
  refine .inr ⟨q,rfl,?_,rfl⟩
  have e:cells (l.map eBo)=cP fB l:=cells_P fB l
  rw [← e];exact hq
theorem rn_appB {H G:Heap} {Ts:List Th} {x:AV} {xs ys:List Bool} {D:List Nat} (s:St H Ts G) (i:Nat) (hi:Ts[i]?=some (rnB x xs D)) (hl:xs.length+ys.length≤1000000) {K:AV→Heap→Prop}
  (h:∀q' G',G q'=none→St H (Ts.set i (rnB (rowP q' (xs++ys)) (xs++ys) [q'])) G'→K (rowP q' (xs++ys)) G'):aP_ tab 116 116 x (.p (.sl (ys.map eBo))) G (wkK K):=
 RN.app (bz:=1) tab_116 rfl tab_4 tab_116 rfl rfl rfl (fun _=>rfl) s i hi rfl (by omega) (by omega) h
theorem lit0B {G:Heap} {K:AV→Heap→Prop} (h:∀q,G q=none→K (.sl q 1 0 0) (G.set q [])):bS_ tab 116 0 [] G (wkK K):=by
 simp only [bS_,tab_116,tab_4]
 refine ⟨by omega,?_⟩
 simp only [fillV,zA_,List.replicate_zero,List.flatten_nil]
 exact fun r hr=>wkK.keep (h r hr)
theorem tr_mem0 {f:List Sd}:∀{i:Nat},i < f.length→∀x∈trAt f i,x∈tr f:=by
 intro i hi x hx
 rw [tr,sc_mem,trL,List.mem_cons,List.mem_flatten]
 exact .inr ⟨trAt f i,List.mem_map.2 ⟨i,List.mem_range.2 hi,rfl⟩,hx⟩
theorem assumes_spec (t:List Int) (g node:Int) (hl:t.length≤1000) (hm:node∈t):Pu Tryz.prog 131 [Is t,I g,I node] (B (saysF t g node)):=by
 refine Pu.of fun H=>?_
 refine W131_ok ?_;simp (maxSteps:=1000000) (disch:=first | assumption | (apply ν6;assumption)) only [W131,vz,vu,vv,eqS,eF_,↓c1_,↓c2_,tabs,reduceCtorEq,ι5,↓reduceIte,ν1,ν2,ν3,ν4,ν5,ι1,ι2,ι3,ι4]
 refine Pu.use (IndexI_spec t node (by omega)) ?_
 rw [if_pos hm]
 (try simp (maxSteps:=1000000) (disch:=first | assumption | (apply ν6;assumption)) only [vz,vu,vv,eqS,eF_,↓c1_,↓c2_,tabs,reduceCtorEq,ι5,↓reduceIte,ν1,ν2,ν3,ν4,ν5,ι1,ι2,ι3,ι4])
 refine ⟨by omega,?_⟩
 rw [saysF,if_pos hm];rfl
theorem l13Says_spec (t:List Int) (g node:Int) (hl:t.length≤1000):Pu Tryz.prog 94 [Is t,I g,I node] (B (saysF t g node)):=by
 refine Pu.of fun H=>?_
 refine W94_ok ?_;simp (maxSteps:=1000000) (disch:=first | assumption | (apply ν6;assumption)) only [W94,vz,vu,vv,eqS,eF_,↓c1_,↓c2_,tabs,reduceCtorEq,ι5,↓reduceIte,ν1,ν2,ν3,ν4,ν5,ι1,ι2,ι3,ι4]
 refine L94_0_rule (0:Nat) (fun i=>I i) (fun _=>H) (fun i=>i≤t.length∧∀j,j < i→t.getD j default≠node) (fun i=>t.length - i) ⟨⟨by omega,by intros;omega⟩,.refl _,Heap.le_refl _⟩ ?_
 rintro i ⟨hi,ha⟩
 (try simp (maxSteps:=1000000) (disch:=first | assumption | (apply ν6;assumption)) only [vz,vu,vv,eqS,eF_,↓c1_,↓c2_,tabs,reduceCtorEq,ι5,↓reduceIte,ν1,ν2,ν3,ν4,ν5,ι1,ι2,ι3,ι4,B94_0])
 refine ⟨fun h1=>⟨by omega,h1,fun h2=>?_,fun h2=>⟨i+1,⟨by omega,fun j hj=>?_⟩,by omega,?_⟩⟩,fun h1=>?_⟩
 ·have hlt:i < t.length:=by omega
  have hm:node∈t:=by rw [← h2];exact getD_all (p:=fun x=>x∈t) (fun _ h=>h) hlt
  have hix:t.idxOf node=i:=by
   rw [List.idxOf,List.findIdx_eq hlt]
   refine ⟨by rw [← getD_lt (d:=default) hlt,h2];simp,fun j hj=>?_⟩
   have:=ha j hj
   rw [getD_lt (by omega:j < t.length)] at this
   simpa using this
  have eu:IntKind.u64.wrap (i:Int)=i:=by rw [IntKind.wrap_u64];omega
  rw [eu]
  refine ⟨by omega,?_⟩
  rw [saysF,if_pos hm,hix];rfl
 ·rcases Nat.lt_succ_iff_lt_or_eq.1 hj with h | rfl
  ·exact ha j h
  ·exact h2
 ·rw [wk_int,i6_ (by omega) (by omega)];simp
 ·have hm:node∉t:=by
   intro hm
   obtain ⟨j,hj,e⟩:=List.mem_iff_getElem.1 hm
   exact ha j (by omega) (by rw [getD_lt hj];exact e)
  rw [saysF,if_neg hm]
def frJ (f:List Sd) (k j:Nat):Nat:=if j=0 then k else if j=1 then tst f (k - 1) else tst f (tst f (k - 1) - 1)
theorem l10From_spec (f:List Sd) (g:GoodFm f):∀k,k < f.length→Pu Tryz.prog 152 [Ds f,I k] (I (tst f k)):=by
 intro k
 induction k using Nat.strongRecOn with
 | ind k ih=>
  intro hk
  have hl:=g.l1
  have hok:=g.ok k hk
  have hnd:=sdOk_need hok.1
  refine Pu.of fun H=>?_
  refine W152_ok ?_;simp (maxSteps:=1000000) (disch:=first | assumption | (apply ν6;assumption)) only [W152,vz,vu,vv,eqS,eF_,↓c1_,↓c2_,tabs,reduceCtorEq,ι5,↓reduceIte,ν1,ν2,ν3,ν4,ν5,ι1,ι2,ι3,ι4]
  refine ⟨by omega,by omega,?_⟩
  refine Pu.use (need_spec.l10Need_spec (f.getD k default).op) ?_
  have t0:need (f.getD k default).op=0→tst f k=k:=fun h=>tst0 h
  have t1:need (f.getD k default).op=1→1≤k∧tst f k=tst f (k - 1):=fun h=>tst1 g hk h
  have t2:need (f.getD k default).op=2→1≤k∧1≤tst f (k - 1)∧tst f (k - 1)≤k - 1∧tst f k=tst f (tst f (k - 1) - 1):=fun h=>by
   obtain ⟨a,b,c,d,_⟩:=tst2 g hk h;exact ⟨a,b,c,d⟩
  generalize need (f.getD k default).op=m at hnd t0 t1 t2 ⊢
  refine L152_0_rule (0:Nat) (fun j=>I (frJ f k j)) (fun j=>I (m - j)) (fun _=>H) (fun j=>(j:Int)≤m) (fun j=>m.toNat - j) ⟨by omega,.refl _,by rw [wk_int];omega,Heap.le_refl _⟩ ?_
  intro j hj
  (try simp (maxSteps:=1000000) (disch:=first | assumption | (apply ν6;assumption)) only [vz,vu,vv,eqS,eF_,↓c1_,↓c2_,tabs,reduceCtorEq,ι5,↓reduceIte,ν1,ν2,ν3,ν4,ν5,ι1,ι2,ι3,ι4,B152_0])
  refine ⟨fun h1=>?_,fun h1=>?_⟩
  ·have e1:IntKind.i64.wrap ((frJ f k j:Int) - 1)=((frJ f k j - 1:Nat):Int)∧frJ f k j - 1 < k∧tst f (frJ f k j - 1)=frJ f k (j+1):=by
    rcases (by omega:(j=0∧m=1)∨(j=0∧m=2)∨(j=1∧m=2)) with ⟨rfl,hm⟩ | ⟨rfl,hm⟩ | ⟨rfl,hm⟩
    ·have:=t1 hm
     simp only [frJ,if_true]
     rw [i6_ (by omega) (by omega)]
     exact ⟨by omega,by omega,rfl⟩
    ·have:=t2 hm
     simp only [frJ,if_true]
     rw [i6_ (by omega) (by omega)]
     exact ⟨by omega,by omega,rfl⟩
    ·have:=t2 hm
     have h9:frJ f k 1=tst f (k - 1):=by simp [frJ]
     have h8:frJ f k 2=tst f (tst f (k - 1) - 1):=by simp [frJ]
     rw [h9,h8,i6_ (by omega) (by omega)]
     exact ⟨by omega,by omega,rfl⟩
   rw [e1.1]
   refine Pu.use (ih _ e1.2.1 (by omega)) ?_
   rw [e1.2.2]
   (try simp (maxSteps:=1000000) (disch:=first | assumption | (apply ν6;assumption)) only [vz,vu,vv,eqS,eF_,↓c1_,↓c2_,tabs,reduceCtorEq,ι5,↓reduceIte,ν1,ν2,ν3,ν4,ν5,ι1,ι2,ι3,ι4])
   refine ⟨j+1,by omega,by omega,.refl _,?_⟩
   rw [wk_int,i6_ (by omega) (by omega)];omega
  ·refine congrArg (fun n:Int=>I n) ?_
   rcases (by omega:(j=0∧m=0)∨(j=1∧m=1)∨(j=2∧m=2)) with ⟨rfl,hm⟩ | ⟨rfl,hm⟩ | ⟨rfl,hm⟩
   ·rw [t0 hm];simp [frJ]
   ·rw [(t1 hm).2];simp [frJ]
   ·rw [(t2 hm).2.2.2];simp [frJ]
structure Rd (f:List Sd) (out:List Bool) (i:Nat):Prop where
 i1:1≤i
 il:i - 1 < out.length
theorem evalNow_row (f:List Sd) (g:GoodFm f) (lt nx:Int) (hlt0:0≤lt) {H:Heap} {K:AV→Heap→Prop} (h:∀q G,New H G [q]→G q=some (cP fB (evL f (tr f) lt nx f.length))→K (rowP q (evL f (tr f) lt nx f.length)) G):CallT Tryz.prog 133 [Ds f,I lt,I nx] H K:=by
 have hl:=g.l1
 have htl:=tr_len f
 refine CallT.fin ?_
 refine W133_ok ?_;simp (maxSteps:=1000000) (disch:=first | assumption | (apply ν6;assumption)) only [W133,vz,vu,vv,eqS,eF_,↓c1_,↓c2_,tabs,reduceCtorEq,ι5,↓reduceIte,ν1,ν2,ν3,ν4,ν5,ι1,ι2,ι3,ι4]
 refine lit0B fun q0 hq0=>?_
 have st:=(St.nil H).push (rnB (.sl q0 1 0 0) [] [q0]) (New.cell hq0 (b:=[])) (.inr ⟨q0,[],[],rfl,Heap.set_same _ _ _,⟨rfl,rfl⟩,rfl⟩)
 generalize H.set q0 []=G at st ⊢
 refine Pu.use (operandIndexes_spec f g) ?_
 (try simp (maxSteps:=1000000) (disch:=first | assumption | (apply ν6;assumption)) only [vz,vu,vv,eqS,eF_,↓c1_,↓c2_,tabs,reduceCtorEq,ι5,↓reduceIte,ν1,ν2,ν3,ν4,ν5,ι1,ι2,ι3,ι4])
 refine Pu.use (tracked_spec f g) ?_
 (try simp (maxSteps:=1000000) (disch:=first | assumption | (apply ν6;assumption)) only [vz,vu,vv,eqS,eF_,↓c1_,↓c2_,tabs,reduceCtorEq,ι5,↓reduceIte,ν1,ν2,ν3,ν4,ν5,ι1,ι2,ι3,ι4])
 refine L133_0_rule ((0:Nat),(.sl q0 1 0 0:AV),[q0],G) (fun s=>s.2.1) (fun s=>I s.1) (fun s=>s.2.2.2)
  (fun s=>s.1≤f.length∧(s.2.1≠.p .nil)∧St H [rnB s.2.1 (evL f (tr f) lt nx s.1) s.2.2.1] s.2.2.2) (fun s=>f.length - s.1)
  ⟨⟨by simp,by simp,st⟩,.refl _,.refl _,Heap.le_refl _⟩ ?_
 clear st
 rintro ⟨i,x,D,G⟩ ⟨hi,hx,st⟩
 dsimp only at hi st hx
 obtain ⟨q,rfl,hq,rfl⟩:∃q,x=rowP q (evL f (tr f) lt nx i)∧G q=some (cP fB (evL f (tr f) lt nx i))∧D=[q]:=by
  rcases rnB_cases (st.get 0 rfl) with ⟨h,_⟩ | h
  ·exact absurd h hx
  ·exact h
 have hel:=evL_len f (tr f) lt nx i
 (try simp (maxSteps:=1000000) (disch:=first | assumption | (apply ν6;assumption)) only [vz,vu,vv,eqS,eF_,↓c1_,↓c2_,tabs,reduceCtorEq,ι5,↓reduceIte,ν1,ν2,ν3,ν4,ν5,ι1,ι2,ι3,ι4,B133_0])
 refine ⟨fun h1=>⟨by omega,h1,?_⟩,fun h1=>?_⟩
 ·have hlt:i < f.length:=by omega
  have hok:=g.ok i hlt
  have hev:evL f (tr f) lt nx (i+1)=evL f (tr f) lt nx i++[evV f (tr f) lt nx (evL f (tr f) lt nx i) i]:=rfl
  have hval:=evV.eq_1 f (tr f) lt nx (evL f (tr f) lt nx i) i
  have hog:=opsA_get f hlt
  have hol:=opsA_len f f.length
  have e5:IntKind.i64.wrap ((i:Int)+1)=((i+1:Nat):Int):=by rw [i6_ (by omega) (by omega)];simp
  have k1:(f.getD i default).op=3∨(f.getD i default).op=4→1≤i∧opsF f i=[(i:Int) - 1]:=fun h=>by
   have hn:need (f.getD i default).op=1:=by rcases h with h | h<;>rw [h]<;>rfl
   exact ⟨(tst1 g hlt hn).1,by rw [opsF,if_neg (by omega),if_pos hn]⟩
  have k2:(f.getD i default).op=5∨(f.getD i default).op=6∨(f.getD i default).op=7∨(f.getD i default).op=8→1≤i∧lft f i < i∧opsF f i=[(lft f i:Int),(i:Int) - 1]:=fun h=>by
   have hn:need (f.getD i default).op=2:=by rcases h with h | h | h | h<;>rw [h]<;>rfl
   obtain ⟨a,b,c,_⟩:=tst2 g hlt hn
   exact ⟨a,by unfold lft;omega,by rw [opsF,if_neg (by omega),if_neg (by omega),lft];congr 1;omega⟩
  have m7:(f.getD i default).op=7∨(f.getD i default).op=8→(i:Int)∈tr f:=fun h=>tr_mem0 hlt _ (by rw [trAt,if_pos h];simp)
  have m4:(f.getD i default).op=4→(i:Int) - 1∈tr f:=fun h=>tr_mem0 hlt _ (by rw [trAt,if_neg (by omega),if_pos h];simp)
  generalize hy:f.getD i default=y at hok hval k1 k2 m7 m4 ⊢
  generalize evL f (tr f) lt nx i=out at hq st hel hev hval ⊢
  generalize evV f (tr f) lt nx out i=b0 at hev hval
  intro r hr
  replace st:=st.cell hr [I y.op,I y.n]
  have hq:=Heap.le_set (b:=[I y.op,I y.n]) hr _ _ hq
  generalize G.set r [I y.op,I y.n]=G2 at st hq ⊢
  (try simp (maxSteps:=1000000) (disch:=first | assumption | (apply ν6;assumption)) only [vz,vu,vv,eqS,eF_,↓c1_,↓c2_,tabs,reduceCtorEq,ι5,↓reduceIte,ν1,ν2,ν3,ν4,ν5,ι1,ι2,ι3,ι4,lA_ (st.get 0 rfl)])
  have key:∀b,b=b0→∀N:AV→AV→Heap→Prop,(∀q' G',St H [rnB (rowP q' (evL f (tr f) lt nx (i+1))) (evL f (tr f) lt nx (i+1)) [q']] G'→N (rowP q' (evL f (tr f) lt nx (i+1))) (I ((i+1:Nat):Int)) G')→
    J133_1 (wkK K) N (I lt) (I nx) (rowP q out) (Ls (opsA f f.length)) (Is (tr f)) (B b) (Ds f) (I f.length) (I i) G2:=by
   intro b hb N hN
   rw [← hb] at hev
   (try simp (maxSteps:=1000000) (disch:=first | assumption | (apply ν6;assumption)) only [vz,vu,vv,eqS,eF_,↓c1_,↓c2_,tabs,reduceCtorEq,ι5,↓reduceIte,ν1,ν2,ν3,ν4,ν5,ι1,ι2,ι3,ι4,J133_1,e5])
   refine lit1 tab_116 rfl tab_4 ⟨rfl,rfl⟩ ?_
   refine rn_appB (ys:=[b]) st 1 rfl (by simp only [List.length_singleton];omega) fun q' G' hq' st=>?_
   rw [← hev] at st ⊢
   exact hN _ _ st.drop
  have done:∀b,b=b0→J133_1 (wkK K) (fun w7 w20 H'=>∃s':Nat×AV×List Nat×Heap,(s'.1≤f.length∧(s'.2.1≠.p .nil)∧St H [rnB s'.2.1 (evL f (tr f) lt nx s'.1) s'.2.2.1] s'.2.2.2)∧f.length - s'.1 < f.length - i∧AV.wk w7 s'.2.1∧AV.wk w20 (I s'.1)∧Heap.le s'.2.2.2 H') (I lt) (I nx) (rowP q out) (Ls (opsA f f.length)) (Is (tr f)) (B b) (Ds f) (I f.length) (I i) G2:=
   fun b hb=>key b hb _ fun q' G' st=>⟨(i+1,rowP q' (evL f (tr f) lt nx (i+1)),[q'],G'),⟨by simp only;omega,by simp,st⟩,by simp only;omega,.refl _,.refl _,Heap.le_refl _⟩
  have en:1≤i→((i:Int) - 1).toNat=i - 1:=fun _=>by omega
  have r1:1≤i→(List.take 1 (List.drop ((i - 1)*1) (cP fB out))).headD Q_=B (out.getD (i - 1) default):=fun h=>mapB_rd (by omega)
  have r2:lft f i < i→(List.take 1 (List.drop (lft f i*1) (cP fB out))).headD Q_=B (out.getD (lft f i) default):=fun h=>mapB_rd (by omega)
  have bd:∀k,k < i→k*1+1≤out.length:=fun k h=>by omega
  refine ⟨fun h1=>?_,fun h1=>⟨fun h3=>?_,fun h3=>⟨fun h4=>?_,fun h4=>⟨fun h5=>?_,fun h5=>⟨fun h6=>?_,fun h6=>⟨fun h7=>?_,fun h7=>⟨fun h8=>?_,fun h8=>?_⟩⟩⟩⟩⟩⟩⟩
  ·rw [if_pos h1] at hval
   have hn:=hok.1
   rw [sdOk,if_pos h1,Bool.and_eq_true,decide_eq_true_eq,decide_eq_true_eq] at hn
   exact ⟨hn.1,done _ hval.symm⟩
  ·obtain ⟨i1,ho⟩:=k1 (.inl h3)
   rw [if_neg h1,if_neg (by omega),if_pos h3] at hval
   have b1:=bd (i - 1) (by omega)
   (try simp (maxSteps:=1000000) (disch:=first | assumption | (apply ν6;assumption)) only [vz,vu,vv,eqS,eF_,↓c1_,↓c2_,tabs,reduceCtorEq,ι5,↓reduceIte,ν1,ν2,ν3,ν4,ν5,ι1,ι2,ι3,ι4,hog,ho,hol,List.getD_cons_zero,en i1,lA_ hq,r1 i1])
   generalize out.getD (i - 1) default=ob at hval ⊢
   repeat' (with_reducible (first | apply And.intro | intro hh))
   all_goals first | omega | (refine done _ ?_;(first | exact hval.symm | (rw [hval];(first | rfl | simp [*])));done) | (refine done false ?_;(first | exact hval.symm | (rw [hval];(first | rfl | simp [*])));done) | (refine done true ?_;(first | exact hval.symm | (rw [hval];(first | rfl | simp [*])));done)
  ·obtain ⟨i1,ho⟩:=k1 (.inr h4)
   rw [if_neg h1,if_neg (by omega),if_neg h3,if_pos h4] at hval
   (try simp (maxSteps:=1000000) (disch:=first | assumption | (apply ν6;assumption)) only [vz,vu,vv,eqS,eF_,↓c1_,↓c2_,tabs,reduceCtorEq,ι5,↓reduceIte,ν1,ν2,ν3,ν4,ν5,ι1,ι2,ι3,ι4,hog,ho,hol,List.getD_cons_zero])
   repeat' (with_reducible (first | apply And.intro | intro hh))
   all_goals first | omega | (refine Pu.use (assumes_spec (tr f) nx ((i:Int) - 1) (by omega) (m4 h4)) ?_;exact done _ hval.symm)
  ·obtain ⟨i1,i2,ho⟩:=k2 (.inl h5)
   rw [if_neg h1,if_neg (by omega),if_neg h3,if_neg h4,if_pos h5] at hval
   have b1:=bd (i - 1) (by omega)
   have b2:=bd (lft f i) i2
   (try simp (maxSteps:=1000000) (disch:=first | assumption | (apply ν6;assumption)) only [vz,vu,vv,eqS,eF_,↓c1_,↓c2_,tabs,reduceCtorEq,ι5,↓reduceIte,ν1,ν2,ν3,ν4,ν5,ι1,ι2,ι3,ι4,hog,ho,hol,List.getD_cons_zero,List.getD_cons_succ,Int.toNat_natCast,en i1,lA_ hq,r1 i1,r2 i2])
   generalize out.getD (i - 1) default=ob at hval ⊢
   generalize out.getD (lft f i) default=oa at hval ⊢
   repeat' (with_reducible (first | apply And.intro | intro hh))
   all_goals first | omega | (refine done _ ?_;(first | exact hval.symm | (rw [hval];(first | rfl | simp [*])));done) | (refine done false ?_;(first | exact hval.symm | (rw [hval];(first | rfl | simp [*])));done) | (refine done true ?_;(first | exact hval.symm | (rw [hval];(first | rfl | simp [*])));done)
  ·obtain ⟨i1,i2,ho⟩:=k2 (.inr (.inl h6))
   rw [if_neg h1,if_neg (by omega),if_neg h3,if_neg h4,if_neg h5,if_pos h6] at hval
   have b1:=bd (i - 1) (by omega)
   have b2:=bd (lft f i) i2
   (try simp (maxSteps:=1000000) (disch:=first | assumption | (apply ν6;assumption)) only [vz,vu,vv,eqS,eF_,↓c1_,↓c2_,tabs,reduceCtorEq,ι5,↓reduceIte,ν1,ν2,ν3,ν4,ν5,ι1,ι2,ι3,ι4,hog,ho,hol,List.getD_cons_zero,List.getD_cons_succ,Int.toNat_natCast,en i1,lA_ hq,r1 i1,r2 i2])
   generalize out.getD (i - 1) default=ob at hval ⊢
   generalize out.getD (lft f i) default=oa at hval ⊢
   repeat' (with_reducible (first | apply And.intro | intro hh))
   all_goals first | omega | (refine done _ ?_;(first | exact hval.symm | (rw [hval];(first | rfl | simp [*])));done) | (refine done false ?_;(first | exact hval.symm | (rw [hval];(first | rfl | simp [*])));done) | (refine done true ?_;(first | exact hval.symm | (rw [hval];(first | rfl | simp [*])));done)
  ·obtain ⟨i1,i2,ho⟩:=k2 (.inr (.inr (.inl h7)))
   rw [if_neg h1,if_neg (by omega),if_neg h3,if_neg h4,if_neg h5,if_neg h6,if_pos h7] at hval
   have b1:=bd (i - 1) (by omega)
   have b2:=bd (lft f i) i2
   (try simp (maxSteps:=1000000) (disch:=first | assumption | (apply ν6;assumption)) only [vz,vu,vv,eqS,eF_,↓c1_,↓c2_,tabs,reduceCtorEq,ι5,↓reduceIte,ν1,ν2,ν3,ν4,ν5,ι1,ι2,ι3,ι4,hog,ho,hol,List.getD_cons_zero,List.getD_cons_succ,Int.toNat_natCast,en i1,lA_ hq,r1 i1,r2 i2])
   generalize out.getD (i - 1) default=ob at hval ⊢
   generalize out.getD (lft f i) default=oa at hval ⊢
   repeat' (with_reducible (first | apply And.intro | intro hh))
   all_goals first | omega | (refine Pu.use (assumes_spec (tr f) nx i (by omega) (m7 (.inl h7))) ?_;refine done _ ?_;(first | exact hval.symm | (rw [hval];(first | rfl | simp [*])));done) | (refine done false ?_;(first | exact hval.symm | (rw [hval];(first | rfl | simp [*])));done) | (refine done true ?_;(first | exact hval.symm | (rw [hval];(first | rfl | simp [*])));done)
  ·obtain ⟨i1,i2,ho⟩:=k2 (.inr (.inr (.inr h8)))
   rw [if_neg h1,if_neg (by omega),if_neg h3,if_neg h4,if_neg h5,if_neg h6,if_neg h7] at hval
   have b1:=bd (i - 1) (by omega)
   have b2:=bd (lft f i) i2
   (try simp (maxSteps:=1000000) (disch:=first | assumption | (apply ν6;assumption)) only [vz,vu,vv,eqS,eF_,↓c1_,↓c2_,tabs,reduceCtorEq,ι5,↓reduceIte,ν1,ν2,ν3,ν4,ν5,ι1,ι2,ι3,ι4,hog,ho,hol,List.getD_cons_zero,List.getD_cons_succ,Int.toNat_natCast,en i1,lA_ hq,r1 i1,r2 i2])
   generalize out.getD (i - 1) default=ob at hval ⊢
   generalize out.getD (lft f i) default=oa at hval ⊢
   repeat' (with_reducible (first | apply And.intro | intro hh))
   all_goals first | omega | (refine Pu.use (assumes_spec (tr f) nx i (by omega) (m7 (.inr h8))) ?_;refine done _ ?_;(first | exact hval.symm | (rw [hval];(first | rfl | simp [*])));done) | (refine done false ?_;(first | exact hval.symm | (rw [hval];(first | rfl | simp [*])));done) | (refine done true ?_;(first | exact hval.symm | (rw [hval];(first | rfl | simp [*])));done)
  ·have h2:y.op=2:=by
    have hn:=sdOk_need hok.1
    rcases need_cases y.op with h | h | h | h
    ·omega
    ·omega
    ·omega
    ·omega
   rw [if_neg h1,if_pos h2] at hval
   exact done _ hval.symm
 ·have:i=f.length:=by omega
  subst this
  exact wkK.keep (h q G ⟨st.ndT 0 rfl,st.fr _ (List.mem_cons_self ..),st.le⟩ hq)
theorem l13Now_row (f:List Sd) (g:GoodFm f) (t:List Int) (lt nx:Int) (htl:t.length≤1000) (hlt0:0≤lt) {H:Heap} {K:AV→Heap→Prop} (h:∀q G,New H G [q]→G q=some (cP fB (evL f t lt nx f.length))→K (rowP q (evL f t lt nx f.length)) G):CallT Tryz.prog 124 [Ds f,Is t,I lt,I nx] H K:=by
 have hl:=g.l1
 have hl0:=g.l0
 refine CallT.fin ?_
 refine W124_ok ?_;simp (maxSteps:=1000000) (disch:=first | assumption | (apply ν6;assumption)) only [W124,vz,vu,vv,eqS,eF_,↓c1_,↓c2_,tabs,reduceCtorEq,ι5,↓reduceIte,ν1,ν2,ν3,ν4,ν5,ι1,ι2,ι3,ι4]
 have st:=(St.nil H).push (rnB (.p .nil) [] []) (⟨List.nodup_nil,fun y hy=>(by cases hy),Heap.le_refl _⟩:New H H []) (.inl ⟨rfl,rfl,rfl⟩)
 refine L124_0_rule ((0:Nat),(.p .nil:AV),([]:List Nat),H) (fun s=>s.2.1) (fun s=>I s.1) (fun s=>s.2.2.2)
  (fun s=>s.1≤f.length∧St H [rnB s.2.1 (evL f t lt nx s.1) s.2.2.1] s.2.2.2) (fun s=>f.length - s.1)
  ⟨⟨by simp,st⟩,.refl _,.refl _,Heap.le_refl _⟩ ?_
 clear st
 rintro ⟨i,x,D,G⟩ ⟨hi,st⟩
 dsimp only at hi st
 have hel:=evL_len f t lt nx i
 have hx:1≤i→∃q,x=rowP q (evL f t lt nx i)∧G q=some (cP fB (evL f t lt nx i))∧D=[q]:=fun h1=>by
  rcases rnB_cases (st.get 0 rfl) with ⟨_,h,_⟩ | h
  ·rw [h] at hel;simp at hel;omega
  ·exact h
 (try simp (maxSteps:=1000000) (disch:=first | assumption | (apply ν6;assumption)) only [vz,vu,vv,eqS,eF_,↓c1_,↓c2_,tabs,reduceCtorEq,ι5,↓reduceIte,ν1,ν2,ν3,ν4,ν5,ι1,ι2,ι3,ι4,B124_0])
 refine ⟨fun h1=>⟨by omega,h1,?_⟩,fun h1=>?_⟩
 ·have hlt:i < f.length:=by omega
  have hok:=g.ok i hlt
  have hev:evL f t lt nx (i+1)=evL f t lt nx i++[evV f t lt nx (evL f t lt nx i) i]:=rfl
  have hval:=evV.eq_1 f t lt nx (evL f t lt nx i) i
  have e5:IntKind.i64.wrap ((i:Int)+1)=((i+1:Nat):Int):=by rw [i6_ (by omega) (by omega)];simp
  have e1:IntKind.i64.wrap ((i:Int) - 1)=(i:Int) - 1:=i6_ (by omega) (by omega)
  have e2:1≤i→IntKind.i64.wrap ((i:Int) - 1)=((i - 1:Nat):Int):=fun h=>by rw [e1];omega
  have k1:(f.getD i default).op=3∨(f.getD i default).op=4→1≤i:=fun h=>by
   have hn:need (f.getD i default).op=1:=by rcases h with h | h<;>rw [h]<;>rfl
   exact (tst1 g hlt hn).1
  have k2:(f.getD i default).op=5∨(f.getD i default).op=6∨(f.getD i default).op=7∨(f.getD i default).op=8→1≤i∧lft f i < i∧IntKind.i64.wrap ((tst f (i - 1):Int) - 1)=(lft f i:Nat):=fun h=>by
   have hn:need (f.getD i default).op=2:=by rcases h with h | h | h | h<;>rw [h]<;>rfl
   obtain ⟨a,b,c,_⟩:=tst2 g hlt hn
   exact ⟨a,by unfold lft;omega,by unfold lft;rw [i6_ (by omega) (by omega)];omega⟩
  have hfr:1≤i→Pu Tryz.prog 152 [Ds f,I ((i - 1:Nat):Int)] (I (tst f (i - 1))):=fun h=>l10From_spec f g (i - 1) (by omega)
  generalize hy:f.getD i default=y at hok hval k1 k2 ⊢
  generalize evL f t lt nx i=out at st hel hev hval hx ⊢
  generalize evV f t lt nx out i=b0 at hev hval
  intro r hr
  replace st:=st.cell hr [I y.op,I y.n]
  have hx:=fun h1=>Exists.imp (fun q (h:x=rowP q out∧G q=some (cP fB out)∧D=[q])=>And.intro h.1 (Heap.le_set (b:=[I y.op,I y.n]) hr _ _ h.2.1)) (hx h1)
  generalize G.set r [I y.op,I y.n]=G2 at st hx ⊢
  (try simp (maxSteps:=1000000) (disch:=first | assumption | (apply ν6;assumption)) only [vz,vu,vv,eqS,eF_,↓c1_,↓c2_,tabs,reduceCtorEq,ι5,↓reduceIte,ν1,ν2,ν3,ν4,ν5,ι1,ι2,ι3,ι4,lA_ (st.get 0 rfl)])
  have key:∀b,b=b0→∀N:AV→AV→Heap→Prop,(∀q' G',St H [rnB (rowP q' (evL f t lt nx (i+1))) (evL f t lt nx (i+1)) [q']] G'→N (rowP q' (evL f t lt nx (i+1))) (I ((i+1:Nat):Int)) G')→
    J124_1 (wkK K) N (Ds f) (Is t) (I lt) (I nx) x (B b) (Ds f) (I f.length) (I i) G2:=by
   intro b hb N hN
   rw [← hb] at hev
   (try simp (maxSteps:=1000000) (disch:=first | assumption | (apply ν6;assumption)) only [vz,vu,vv,eqS,eF_,↓c1_,↓c2_,tabs,reduceCtorEq,ι5,↓reduceIte,ν1,ν2,ν3,ν4,ν5,ι1,ι2,ι3,ι4,J124_1,e5])
   refine lit1 tab_116 rfl tab_4 ⟨rfl,rfl⟩ ?_
   refine rn_appB (ys:=[b]) st 1 rfl (by simp only [List.length_singleton];omega) fun q' G' hq' st=>?_
   rw [← hev] at st ⊢
   exact hN _ _ st.drop
  have done:∀b,b=b0→J124_1 (wkK K) (fun w7 w20 H'=>∃s':Nat×AV×List Nat×Heap,(s'.1≤f.length∧St H [rnB s'.2.1 (evL f t lt nx s'.1) s'.2.2.1] s'.2.2.2)∧f.length - s'.1 < f.length - i∧AV.wk w7 s'.2.1∧AV.wk w20 (I s'.1)∧Heap.le s'.2.2.2 H') (Ds f) (Is t) (I lt) (I nx) x (B b) (Ds f) (I f.length) (I i) G2:=
   fun b hb=>key b hb _ fun q' G' st=>⟨(i+1,rowP q' (evL f t lt nx (i+1)),[q'],G'),⟨by simp only;omega,st⟩,by simp only;omega,.refl _,.refl _,Heap.le_refl _⟩
  have r1:1≤i→(List.take 1 (List.drop ((i - 1)*1) (cP fB out))).headD Q_=B (out.getD (i - 1) default):=fun h=>mapB_rd (by omega)
  have r2:lft f i < i→(List.take 1 (List.drop (lft f i*1) (cP fB out))).headD Q_=B (out.getD (lft f i) default):=fun h=>mapB_rd (by omega)
  have bd:∀k,k < i→k*1+1≤out.length:=fun k h=>by omega
  refine ⟨fun h1=>?_,fun h1=>⟨fun h2=>?_,fun h2=>⟨fun h3=>?_,fun h3=>⟨fun h4=>?_,fun h4=>⟨fun h5=>?_,fun h5=>⟨fun h6=>?_,fun h6=>⟨fun h7=>?_,fun h7=>⟨fun h8=>?_,fun h8=>?_⟩⟩⟩⟩⟩⟩⟩⟩
  ·rw [if_pos h1] at hval
   have hn:=hok.1
   rw [sdOk,if_pos h1,Bool.and_eq_true,decide_eq_true_eq,decide_eq_true_eq] at hn
   have eu:IntKind.u64.wrap y.n=y.n:=by rw [IntKind.wrap_u64];omega
   rw [eu]
   exact ⟨hn.1,done _ hval.symm⟩
  ·rw [if_neg h1,if_pos h2] at hval
   exact done _ hval.symm
  ·have i1:=k1 (.inl h3)
   obtain ⟨q,rfl,hq⟩:=hx i1
   rw [if_neg h1,if_neg h2,if_pos h3] at hval
   have b1:=bd (i - 1) (by omega)
   (try simp (maxSteps:=1000000) (disch:=first | assumption | (apply ν6;assumption)) only [vz,vu,vv,eqS,eF_,↓c1_,↓c2_,tabs,reduceCtorEq,ι5,↓reduceIte,ν1,ν2,ν3,ν4,ν5,ι1,ι2,ι3,ι4,e2 i1,Int.toNat_natCast,lA_ hq,r1 i1])
   generalize out.getD (i - 1) default=ob at hval ⊢
   repeat' (with_reducible (first | apply And.intro | intro hh))
   all_goals first | omega | (refine done _ ?_;(first | exact hval.symm | (rw [hval];(first | rfl | simp [*])));done) | (refine done false ?_;(first | exact hval.symm | (rw [hval];(first | rfl | simp [*])));done) | (refine done true ?_;(first | exact hval.symm | (rw [hval];(first | rfl | simp [*])));done)
  ·have i1:=k1 (.inr h4)
   obtain ⟨q,rfl,hq⟩:=hx i1
   rw [if_neg h1,if_neg h2,if_neg h3,if_pos h4] at hval
   (try simp (maxSteps:=1000000) (disch:=first | assumption | (apply ν6;assumption)) only [vz,vu,vv,eqS,eF_,↓c1_,↓c2_,tabs,reduceCtorEq,ι5,↓reduceIte,ν1,ν2,ν3,ν4,ν5,ι1,ι2,ι3,ι4,e1])
   refine Pu.use (l13Says_spec t nx ((i:Int) - 1) htl) ?_
   exact done _ hval.symm
  ·obtain ⟨i1,i2,i3⟩:=k2 (.inl h5)
   obtain ⟨q,rfl,hq⟩:=hx i1
   rw [if_neg h1,if_neg h2,if_neg h3,if_neg h4,if_pos h5] at hval
   have b1:=bd (i - 1) (by omega)
   have b2:=bd (lft f i) i2
   (try simp (maxSteps:=1000000) (disch:=first | assumption | (apply ν6;assumption)) only [vz,vu,vv,eqS,eF_,↓c1_,↓c2_,tabs,reduceCtorEq,ι5,↓reduceIte,ν1,ν2,ν3,ν4,ν5,ι1,ι2,ι3,ι4,e2 i1])
   refine Pu.use (hfr i1) ?_
   (try simp (maxSteps:=1000000) (disch:=first | assumption | (apply ν6;assumption)) only [vz,vu,vv,eqS,eF_,↓c1_,↓c2_,tabs,reduceCtorEq,ι5,↓reduceIte,ν1,ν2,ν3,ν4,ν5,ι1,ι2,ι3,ι4,e2 i1,i3,Int.toNat_natCast,lA_ hq,r1 i1,r2 i2])
   generalize out.getD (i - 1) default=ob at hval ⊢
   generalize out.getD (lft f i) default=oa at hval ⊢
   repeat' (with_reducible (first | apply And.intro | intro hh))
   all_goals first | omega | (refine done _ ?_;(first | exact hval.symm | (rw [hval];(first | rfl | simp [*])));done) | (refine done false ?_;(first | exact hval.symm | (rw [hval];(first | rfl | simp [*])));done) | (refine done true ?_;(first | exact hval.symm | (rw [hval];(first | rfl | simp [*])));done)
  ·obtain ⟨i1,i2,i3⟩:=k2 (.inr (.inl h6))
   obtain ⟨q,rfl,hq⟩:=hx i1
   rw [if_neg h1,if_neg h2,if_neg h3,if_neg h4,if_neg h5,if_pos h6] at hval
   have b1:=bd (i - 1) (by omega)
   have b2:=bd (lft f i) i2
   (try simp (maxSteps:=1000000) (disch:=first | assumption | (apply ν6;assumption)) only [vz,vu,vv,eqS,eF_,↓c1_,↓c2_,tabs,reduceCtorEq,ι5,↓reduceIte,ν1,ν2,ν3,ν4,ν5,ι1,ι2,ι3,ι4,e2 i1])
   refine Pu.use (hfr i1) ?_
   (try simp (maxSteps:=1000000) (disch:=first | assumption | (apply ν6;assumption)) only [vz,vu,vv,eqS,eF_,↓c1_,↓c2_,tabs,reduceCtorEq,ι5,↓reduceIte,ν1,ν2,ν3,ν4,ν5,ι1,ι2,ι3,ι4,e2 i1,i3,Int.toNat_natCast,lA_ hq,r1 i1,r2 i2])
   generalize out.getD (i - 1) default=ob at hval ⊢
   generalize out.getD (lft f i) default=oa at hval ⊢
   repeat' (with_reducible (first | apply And.intro | intro hh))
   all_goals first | omega | (refine done _ ?_;(first | exact hval.symm | (rw [hval];(first | rfl | simp [*])));done) | (refine done false ?_;(first | exact hval.symm | (rw [hval];(first | rfl | simp [*])));done) | (refine done true ?_;(first | exact hval.symm | (rw [hval];(first | rfl | simp [*])));done)
  ·obtain ⟨i1,i2,i3⟩:=k2 (.inr (.inr (.inl h7)))
   obtain ⟨q,rfl,hq⟩:=hx i1
   rw [if_neg h1,if_neg h2,if_neg h3,if_neg h4,if_neg h5,if_neg h6,if_pos h7] at hval
   have b1:=bd (i - 1) (by omega)
   have b2:=bd (lft f i) i2
   (try simp (maxSteps:=1000000) (disch:=first | assumption | (apply ν6;assumption)) only [vz,vu,vv,eqS,eF_,↓c1_,↓c2_,tabs,reduceCtorEq,ι5,↓reduceIte,ν1,ν2,ν3,ν4,ν5,ι1,ι2,ι3,ι4,e2 i1,Int.toNat_natCast,lA_ hq,r1 i1])
   generalize out.getD (i - 1) default=ob at hval ⊢
   repeat' (with_reducible (first | apply And.intro | intro hh))
   all_goals first | omega | (refine done false ?_;(first | exact hval.symm | (rw [hval];(first | rfl | simp [*])));done) | (refine done true ?_;(first | exact hval.symm | (rw [hval];(first | rfl | simp [*])));done) | skip
   refine Pu.use (hfr i1) ?_
   (try simp (maxSteps:=1000000) (disch:=first | assumption | (apply ν6;assumption)) only [vz,vu,vv,eqS,eF_,↓c1_,↓c2_,tabs,reduceCtorEq,ι5,↓reduceIte,ν1,ν2,ν3,ν4,ν5,ι1,ι2,ι3,ι4,i3,Int.toNat_natCast,lA_ hq,r2 i2])
   generalize out.getD (lft f i) default=oa at hval ⊢
   repeat' (with_reducible (first | apply And.intro | intro hh))
   all_goals first | omega | (refine Pu.use (l13Says_spec t nx i htl) ?_;refine done _ ?_;(first | exact hval.symm | (rw [hval];(first | rfl | simp [*])));done) | (refine done false ?_;(first | exact hval.symm | (rw [hval];(first | rfl | simp [*])));done) | (refine done true ?_;(first | exact hval.symm | (rw [hval];(first | rfl | simp [*])));done)
  ·obtain ⟨i1,i2,i3⟩:=k2 (.inr (.inr (.inr h8)))
   obtain ⟨q,rfl,hq⟩:=hx i1
   rw [if_neg h1,if_neg h2,if_neg h3,if_neg h4,if_neg h5,if_neg h6,if_neg h7] at hval
   have b1:=bd (i - 1) (by omega)
   have b2:=bd (lft f i) i2
   (try simp (maxSteps:=1000000) (disch:=first | assumption | (apply ν6;assumption)) only [vz,vu,vv,eqS,eF_,↓c1_,↓c2_,tabs,reduceCtorEq,ι5,↓reduceIte,ν1,ν2,ν3,ν4,ν5,ι1,ι2,ι3,ι4,e2 i1,Int.toNat_natCast,lA_ hq,r1 i1])
   generalize out.getD (i - 1) default=ob at hval ⊢
   repeat' (with_reducible (first | apply And.intro | intro hh))
   all_goals first | omega | (refine done false ?_;(first | exact hval.symm | (rw [hval];(first | rfl | simp [*])));done) | (refine done true ?_;(first | exact hval.symm | (rw [hval];(first | rfl | simp [*])));done) | skip
   refine Pu.use (hfr i1) ?_
   (try simp (maxSteps:=1000000) (disch:=first | assumption | (apply ν6;assumption)) only [vz,vu,vv,eqS,eF_,↓c1_,↓c2_,tabs,reduceCtorEq,ι5,↓reduceIte,ν1,ν2,ν3,ν4,ν5,ι1,ι2,ι3,ι4,i3,Int.toNat_natCast,lA_ hq,r2 i2])
   generalize out.getD (lft f i) default=oa at hval ⊢
   repeat' (with_reducible (first | apply And.intro | intro hh))
   all_goals first | omega | (refine Pu.use (l13Says_spec t nx i htl) ?_;refine done _ ?_;(first | exact hval.symm | (rw [hval];(first | rfl | simp [*])));done) | (refine done false ?_;(first | exact hval.symm | (rw [hval];(first | rfl | simp [*])));done) | (refine done true ?_;(first | exact hval.symm | (rw [hval];(first | rfl | simp [*])));done)
  ·exfalso
   have hn:=sdOk_need hok.1
   rcases need_cases y.op with h | h | h | h<;>omega
 ·have:i=f.length:=by omega
  subst this
  obtain ⟨q,rfl,hq,rfl⟩:=hx hl0
  exact wkK.keep (h q G ⟨st.ndT 0 rfl,st.fr _ (List.mem_cons_self ..),st.le⟩ hq)
end Go.Proofs.YtolffbcnbcjeaaaGreat
namespace Go.Proofs.YtolffbcnbcjeaaaGreat
open Go Go.Sep Go.Pt
attribute [local irreducible] CallT
theorem tr_bd {f:List Sd} (g:GoodFm f):∀x∈tr f,0≤x∧x < f.length:=by
 intro x hx
 have hl0:=g.l0
 rw [tr,sc_mem,trL,List.mem_cons,List.mem_flatten] at hx
 rcases hx with rfl | ⟨l,hl,hx⟩
 ·omega
 ·obtain ⟨i,hi,rfl⟩:=List.mem_map.1 hl
  rw [List.mem_range] at hi
  unfold trAt at hx
  split at hx
  ·rename_i h
   have hn:need (f.getD i default).op=2:=by rcases h with h | h<;>rw [h]<;>rfl
   have:=(tst2 g hi hn).1
   simp only [List.mem_cons,List.not_mem_nil,or_false] at hx
   omega
  ·split at hx
   ·rename_i h
    have hn:need (f.getD i default).op=1:=by rw [h];rfl
    have:=(tst1 g hi hn).1
    simp only [List.mem_cons,List.not_mem_nil,or_false] at hx
    omega
   ·cases hx
def guK (vs:List Bool) (t:List Int):Nat→Int
 | 0=>0
 | k+1=>if vs.getD (t.getD k default).toNat default=true then bitsI .or .i64 (guK vs t k) (IntKind.i64.wrap (1*2^(min k 64))) else guK vs t k
def guF (f:List Sd) (lt nx:Int):Int:=guK (evL f (tr f) lt nx f.length) (tr f) (tr f).length
theorem guessOf_spec (f:List Sd) (g:GoodFm f) (lt nx:Int) (h0:0≤lt):Pu Tryz.prog 105 [Ds f,I lt,I nx] (I (guF f lt nx)):=by
 have hl:=g.l1
 have htl:=tr_len f
 refine Pu.of fun H=>?_
 refine W105_ok ?_;simp (maxSteps:=1000000) (disch:=first | assumption | (apply ν6;assumption)) only [W105,vz,vu,vv,eqS,eF_,↓c1_,↓c2_,tabs,reduceCtorEq,ι5,↓reduceIte,ν1,ν2,ν3,ν4,ν5,ι1,ι2,ι3,ι4]
 refine evalNow_row f g lt nx h0 fun q G hn hq=>?_
 (try simp (maxSteps:=1000000) (disch:=first | assumption | (apply ν6;assumption)) only [vz,vu,vv,eqS,eF_,↓c1_,↓c2_,tabs,reduceCtorEq,ι5,↓reduceIte,ν1,ν2,ν3,ν4,ν5,ι1,ι2,ι3,ι4])
 refine Pu.use (tracked_spec f g) ?_
 (try simp (maxSteps:=1000000) (disch:=first | assumption | (apply ν6;assumption)) only [vz,vu,vv,eqS,eF_,↓c1_,↓c2_,tabs,reduceCtorEq,ι5,↓reduceIte,ν1,ν2,ν3,ν4,ν5,ι1,ι2,ι3,ι4])
 have hel:=evL_len f (tr f) lt nx f.length
 unfold guF
 have hbd:=tr_bd g
 generalize evL f (tr f) lt nx f.length=vs at hq hel ⊢
 generalize tr f=t at htl hbd ⊢
 refine L105_0_rule (0:Nat) (fun i=>I (guK vs t i)) (fun i=>I i) (fun _=>G) (fun i=>i≤t.length) (fun i=>t.length - i) ⟨by omega,.refl _,.refl _,Heap.le_refl _⟩ ?_
 intro i hi
 (try simp (maxSteps:=1000000) (disch:=first | assumption | (apply ν6;assumption)) only [vz,vu,vv,eqS,eF_,↓c1_,↓c2_,tabs,reduceCtorEq,ι5,↓reduceIte,ν1,ν2,ν3,ν4,ν5,ι1,ι2,ι3,ι4,B105_0])
 refine ⟨fun h1=>⟨by omega,h1,?_⟩,fun h1=>?_⟩
 ·have hlt:i < t.length:=by omega
  have hb:=getD_all (p:=fun x=>0≤x∧x < (f.length:Int)) (d:=default) hbd hlt
  have hsucc:guK vs t (i+1)=if vs.getD (t.getD i default).toNat default=true then bitsI .or .i64 (guK vs t i) (IntKind.i64.wrap (1*2^(min i 64))) else guK vs t i:=rfl
  generalize t.getD i default=n at hb hsucc ⊢
  have hrd:=mapB_rd (l:=vs) (i:=n.toNat) (by omega)
  have hb2:n.toNat*1+1≤vs.length:=by omega
  have e5:IntKind.i64.wrap ((i:Int)+1)=((i+1:Nat):Int):=by rw [i6_ (by omega) (by omega)];simp
  (try simp (maxSteps:=1000000) (disch:=first | assumption | (apply ν6;assumption)) only [vz,vu,vv,eqS,eF_,↓c1_,↓c2_,tabs,reduceCtorEq,ι5,↓reduceIte,ν1,ν2,ν3,ν4,ν5,ι1,ι2,ι3,ι4,lA_ hq,hrd,e5])
  refine ⟨hb.1,by omega,hb2,fun h2=>⟨by omega,?_⟩,fun h2=>?_⟩
  ·rw [if_pos h2] at hsucc
   refine ⟨i+1,by omega,by omega,?_,.refl _⟩
   rw [hsucc];exact .refl _
  ·rw [if_neg (by rw [h2];simp)] at hsucc
   refine ⟨i+1,by omega,by omega,?_,.refl _⟩
   rw [hsucc];exact .refl _
 ·have:i=t.length:=by omega
  subst this
  exact ⟨rfl,hn.le⟩
theorem l13Guess_spec (f:List Sd) (g:GoodFm f) (lt nx:Int) (h0:0≤lt):Pu Tryz.prog 95 [Ds f,Is (tr f),I lt,I nx] (I (guF f lt nx)):=by
 have hl:=g.l1
 have htl:=tr_len f
 refine Pu.of fun H=>?_
 refine W95_ok ?_;simp (maxSteps:=1000000) (disch:=first | assumption | (apply ν6;assumption)) only [W95,vz,vu,vv,eqS,eF_,↓c1_,↓c2_,tabs,reduceCtorEq,ι5,↓reduceIte,ν1,ν2,ν3,ν4,ν5,ι1,ι2,ι3,ι4]
 refine l13Now_row f g (tr f) lt nx (by omega) h0 fun q G hn hq=>?_
 (try simp (maxSteps:=1000000) (disch:=first | assumption | (apply ν6;assumption)) only [vz,vu,vv,eqS,eF_,↓c1_,↓c2_,tabs,reduceCtorEq,ι5,↓reduceIte,ν1,ν2,ν3,ν4,ν5,ι1,ι2,ι3,ι4])
 have hel:=evL_len f (tr f) lt nx f.length
 unfold guF
 have hbd:=tr_bd g
 generalize evL f (tr f) lt nx f.length=vs at hq hel ⊢
 generalize tr f=t at htl hbd ⊢
 refine L95_0_rule (0:Nat) (fun i=>I (guK vs t i)) (fun i=>I i) (fun _=>G) (fun i=>i≤t.length) (fun i=>t.length - i) ⟨by omega,.refl _,.refl _,Heap.le_refl _⟩ ?_
 intro i hi
 (try simp (maxSteps:=1000000) (disch:=first | assumption | (apply ν6;assumption)) only [vz,vu,vv,eqS,eF_,↓c1_,↓c2_,tabs,reduceCtorEq,ι5,↓reduceIte,ν1,ν2,ν3,ν4,ν5,ι1,ι2,ι3,ι4,B95_0])
 refine ⟨fun h1=>⟨by omega,h1,?_⟩,fun h1=>?_⟩
 ·have hlt:i < t.length:=by omega
  have hb:=getD_all (p:=fun x=>0≤x∧x < (f.length:Int)) (d:=default) hbd hlt
  have hsucc:guK vs t (i+1)=if vs.getD (t.getD i default).toNat default=true then bitsI .or .i64 (guK vs t i) (IntKind.i64.wrap (1*2^(min i 64))) else guK vs t i:=rfl
  generalize t.getD i default=n at hb hsucc ⊢
  have hrd:=mapB_rd (l:=vs) (i:=n.toNat) (by omega)
  have hb2:n.toNat*1+1≤vs.length:=by omega
  have e5:IntKind.i64.wrap ((i:Int)+1)=((i+1:Nat):Int):=by rw [i6_ (by omega) (by omega)];simp
  have eu:IntKind.u64.wrap (i:Int)=i:=by rw [IntKind.wrap_u64];omega
  (try simp (maxSteps:=1000000) (disch:=first | assumption | (apply ν6;assumption)) only [vz,vu,vv,eqS,eF_,↓c1_,↓c2_,tabs,reduceCtorEq,ι5,↓reduceIte,ν1,ν2,ν3,ν4,ν5,ι1,ι2,ι3,ι4,lA_ hq,hrd,e5,eu])
  refine ⟨hb.1,by omega,hb2,fun h2=>⟨by omega,?_⟩,fun h2=>?_⟩
  ·rw [if_pos h2] at hsucc
   refine ⟨i+1,by omega,by omega,?_,.refl _⟩
   rw [hsucc];exact .refl _
  ·rw [if_neg (by rw [h2];simp)] at hsucc
   refine ⟨i+1,by omega,by omega,?_,.refl _⟩
   rw [hsucc];exact .refl _
 ·have:i=t.length:=by omega
  subst this
  exact ⟨rfl,hn.le⟩
theorem pow_small {k:Nat} (h:k≤5):(1:Int)≤2^k∧(2:Int)^k≤32:=by
 rcases (by omega:k=0∨k=1∨k=2∨k=3∨k=4∨k=5) with rfl | rfl | rfl | rfl | rfl | rfl<;>decide
theorem guesses_spec (f:List Sd) (g:GoodFm f) (ht:(tr f).length≤5):Pu Tryz.prog 102 [Ds f] (I (2^(tr f).length)):=by
 refine Pu.of fun H=>?_
 refine W102_ok ?_;simp (maxSteps:=1000000) (disch:=first | assumption | (apply ν6;assumption)) only [W102,vz,vu,vv,eqS,eF_,↓c1_,↓c2_,tabs,reduceCtorEq,ι5,↓reduceIte,ν1,ν2,ν3,ν4,ν5,ι1,ι2,ι3,ι4]
 refine Pu.use (tracked_spec f g) ?_
 (try simp (maxSteps:=1000000) (disch:=first | assumption | (apply ν6;assumption)) only [vz,vu,vv,eqS,eF_,↓c1_,↓c2_,tabs,reduceCtorEq,ι5,↓reduceIte,ν1,ν2,ν3,ν4,ν5,ι1,ι2,ι3,ι4])
 have hp:=pow_small ht
 refine ⟨by omega,?_⟩
 refine congrArg (fun n:Int=>I n) ?_
 rw [Nat.min_eq_left (by show (tr f).length≤64;omega),Int.one_mul,i6_ (by omega) (by omega)]
end Go.Proofs.YtolffbcnbcjeaaaGreat
