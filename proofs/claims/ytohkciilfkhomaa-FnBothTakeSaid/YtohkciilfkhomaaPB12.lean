/- The row of the law FnBothTake: whatever the arguments, it answers true, and what it is told reads as it did. -/
import Derived.Test.YtohkciilfkhomaaPB11
import Derived.Test.YtohkciilfkhomaaRows
import Derived.WalkKit
import Derived.ProofKit
import Derived.OpenShut
set_option linter.unusedVariables false
set_option linter.unusedSimpArgs false
open Go.Sep.AV renaming any → Q_
open Nat renaming reduceAdd→ν1,reduceLeDiff→ν2,reduceLT→ν3,reduceMul→ν4,reduceSub→ν5
open Int renaming reduceToNat→ι1,reduceSub→ι2,reduceAdd→ι3,reduceNeg→ι4
open Array renaming toList→ι5
open Ne renaming symm→ν6
open List renaming forall_mem_cons→ν7
namespace Go.Proofs.Ytohkciilfkhomaa
open Go Go.Sep Go.Pt
attribute [local irreducible] CallT
def boGa (a b:Au) (n:Nat):List (List Int):=(a.goals.take n).map fun g=>prs g (below b.states.toNat) b.states
def boGb (a b:Au) (n:Nat):List (List Int):=(b.goals.take n).map fun g=>prs (below a.states.toNat) g b.states
def boT (a b:Au):Au:=⟨a.states*b.states,prs a.first b.first b.states,sAll a b (a.states*b.states).toNat,boGa a b a.goals.length++boGb a b b.goals.length⟩
theorem boGa_succ (a b:Au) {n:Nat} (h:n < a.goals.length):boGa a b (n+1)=boGa a b n++[prs (a.goals.getD n default) (below b.states.toNat) b.states]:=by
 unfold boGa;rw [tS_ h,List.map_append];rfl
theorem boGb_succ (a b:Au) {n:Nat} (h:n < b.goals.length):boGb a b (n+1)=boGb a b n++[prs (below a.states.toNat) (b.goals.getD n default) b.states]:=by
 unfold boGb;rw [tS_ h,List.map_append];rfl
theorem boGa_len (a b:Au) (n:Nat):(boGa a b n).length≤n:=by unfold boGa;rw [List.length_map,List.length_take];omega
theorem boGb_len (a b:Au) (n:Nat):(boGb a b n).length≤n:=by unfold boGb;rw [List.length_map,List.length_take];omega
abbrev bTs (a b:Au) (r2 r3 r4 r5 z1 z2 z3:Nat) (x y w:AV) (l:List Int) (es:List Ed) (gs:List (List Int)) (D1 D2 D3:List Nat):List Th:=
 [cT_ r5 [I (a.states*b.states),x,y,w],cT_ r4 [I 0,.p .nil,.p .nil,.p .nil],cT_ r3 [I b.states,Is b.first,Es b.edges,Ls b.goals],cT_ r2 [I a.states,Is a.first,Es a.edges,Ls a.goals],riT z1 x l D1,reT z2 y es D2,rgT z3 w gs D3]
theorem below_take (n:Nat) {i:Nat} (h:i≤n):(below n).take i=below i:=by
 unfold below
 rw [← List.map_take,List.take_range,Nat.min_eq_left h]
theorem below_get {n i:Nat} (h:i < n):(below n).getD i default=(i:Int):=by
 unfold below;simp [List.getD,h]
theorem both_st7 {a b:Au} (fa:GoodF a) (fb:GoodF b) {r2 r3 r4 r5 z1 z2 z3:Nat} {x y w:AV} {l:List Int} {es:List Ed} {gs:List (List Int)} {D1 D2 D3:List Nat} {H G:Heap} {K:AV→Heap→Prop} (st:St H (bTs a b r2 r3 r4 r5 z1 z2 z3 x y w l es gs D1 D2 D3) G) (hgs:gs.length≤10)
  (h:∀v G D,LAu ⟨a.states*b.states,l,es,gs++boGb a b b.goals.length⟩ v G D→New H G D→K v G) :
  L38_7 (wkK K) (.ptr r2 0) (.ptr r3 0) (.ptr r4 0) (.ptr r5 0) (Ls b.goals) (I b.goals.length) (I 0) G:=by
 have hgl:=fb.gl
 have hsa:=fa.st
 have hsb:=fb.st
 refine L38_7_rule ((0:Nat),w,D3,G) (fun s=>I s.1) (fun s=>s.2.2.2) (fun s=>s.1≤b.goals.length∧St H (bTs a b r2 r3 r4 r5 z1 z2 z3 x y s.2.1 l es (gs++boGb a b s.1) D1 D2 s.2.2.1) s.2.2.2) (fun s=>b.goals.length - s.1)
  ⟨⟨by simp,by simpa [boGb] using st⟩,.refl _,Heap.le_refl _⟩ ?_
 clear st w D3
 rintro ⟨k,w,D3,G⟩ ⟨hk,st⟩
 dsimp only at hk st
 have hgb:=boGb_len a b k
 (try simp (maxSteps:=1000000) (disch:=first | assumption | (apply ν6;assumption)) only [vz,vu,vv,eqS,eF_,↓c1_,↓c2_,tabs,reduceCtorEq,ι5,↓reduceIte,ν1,ν2,ν3,ν4,ν5,ι1,ι2,ι3,ι4,B38_7])
 refine ⟨fun h1=>⟨by omega,h1,?_⟩,fun h1=>?_⟩
 ·have hltk:k < b.goals.length:=by omega
  have hgk:=getD_all (p:=fun x=>smI x∧x.length≤96) (d:=default) fb.gi hltk
  have hsucc:=boGb_succ a b hltk
  generalize b.goals.getD k default=gk at hgk hsucc ⊢
  refine lit0I fun q0 hq0=>?_
  replace st:=st.cell hq0 (cP fI [])
  generalize G.set q0 (cP fI [])=G1 at st ⊢
  (try simp (maxSteps:=1000000) (disch:=first | assumption | (apply ν6;assumption)) only [vz,vu,vv,eqS,eF_,↓c1_,↓c2_,tabs,reduceCtorEq,ι5,↓reduceIte,ν1,ν2,ν3,ν4,ν5,ι1,ι2,ι3,ι4,lA_ (st.get 4 rfl)])
  refine L38_8_rule ((0:Nat),q0,G1) (fun s=>rowP s.2.1 (prs (below s.1) gk b.states)) (fun s=>I s.1) (fun s=>s.2.2)
   (fun s=>s.1≤a.states.toNat∧St H (cT_ s.2.1 (cP fI (prs (below s.1) gk b.states))::bTs a b r2 r3 r4 r5 z1 z2 z3 x y w l es (gs++boGb a b k) D1 D2 D3) s.2.2) (fun s=>a.states.toNat - s.1)
   ⟨⟨by simp,by simpa [below,prs] using st⟩,by simp [below,prs];exact .refl _,.refl _,Heap.le_refl _⟩ ?_
  clear st
  rintro ⟨i,q,G⟩ ⟨hi,st⟩
  dsimp only at hi st
  have hpl:=prs_len (below i) gk b.states
  rw [below_len] at hpl
  have hml:i*gk.length≤96*96:=Nat.mul_le_mul (by omega) hgk.2
  (try simp (maxSteps:=1000000) (disch:=first | assumption | (apply ν6;assumption)) only [vz,vu,vv,eqS,eF_,↓c1_,↓c2_,tabs,reduceCtorEq,ι5,↓reduceIte,ν1,ν2,ν3,ν4,ν5,ι1,ι2,ι3,ι4,B38_8])
  refine ⟨fun h2=>?_,fun h2=>?_⟩
  ·have hlti:i < a.states.toNat:=by omega
   have hps:prs (below (i+1)) gk b.states=prs (below i) gk b.states++gk.map fun j=>(i:Int)*b.states+j:=by
    have:=prs_succ (below (i+1)) gk b.states (i:=i) (by rw [below_len];omega)
    rw [below_take _ (Nat.le_succ i),below_get (Nat.lt_succ_self i)] at this
    rw [← this,List.take_of_length_le (by rw [below_len];omega)]
   refine L38_9_rule ((0:Nat),q,G) (fun s=>rowP s.2.1 (prs (below i) gk b.states++(gk.take s.1).map fun j=>(i:Int)*b.states+j)) (fun s=>I s.1) (fun s=>s.2.2)
    (fun s=>s.1≤gk.length∧St H (cT_ s.2.1 (cP fI (prs (below i) gk b.states++(gk.take s.1).map fun j=>(i:Int)*b.states+j))::bTs a b r2 r3 r4 r5 z1 z2 z3 x y w l es (gs++boGb a b k) D1 D2 D3) s.2.2) (fun s=>gk.length - s.1)
    ⟨⟨by simp,by simpa using st⟩,by simp;exact .refl _,.refl _,Heap.le_refl _⟩ ?_
   clear st
   rintro ⟨j,q,G⟩ ⟨hj,st⟩
   dsimp only at hj st
   (try simp (maxSteps:=1000000) (disch:=first | assumption | (apply ν6;assumption)) only [vz,vu,vv,eqS,eF_,↓c1_,↓c2_,tabs,reduceCtorEq,ι5,↓reduceIte,ν1,ν2,ν3,ν4,ν5,ι1,ι2,ι3,ι4,B38_9,lA_ (st.get 3 rfl)])
   refine ⟨fun h3=>⟨by omega,h3,?_⟩,fun h3=>?_⟩
   ·have hltj:j < gk.length:=by omega
    have hx:=getD_all (p:=fun x=>0≤x∧x≤100000) (d:=default) hgk.1.2 hltj
    have ht:(gk.take (j+1)).map (fun j=>(i:Int)*b.states+j)=(gk.take j).map (fun j=>(i:Int)*b.states+j)++[(i:Int)*b.states+gk.getD j default]:=by
     rw [tS_ hltj,List.map_append];rfl
    have hlt:((gk.take j).map fun j=>(i:Int)*b.states+j).length≤96:=by rw [List.length_map,List.length_take];omega
    generalize gk.getD j default=e at hx ht ⊢
    have m1:=mul_bd (a:=i) (A:=96) (b:=b.states) (B:=96) (by omega) (by omega)
    have e1:IntKind.i64.wrap ((i:Int)*b.states)=(i:Int)*b.states:=i6_ (by omega) (by omega)
    have e2:IntKind.i64.wrap ((i:Int)*b.states+e)=(i:Int)*b.states+e:=i6_ (by omega) (by omega)
    have e3:IntKind.i64.wrap ((j:Int)+1)=((j+1:Nat):Int):=by rw [i6_ (by omega) (by omega)];simp
    (try simp (maxSteps:=1000000) (disch:=first | assumption | (apply ν6;assumption)) only [vz,vu,vv,eqS,eF_,↓c1_,↓c2_,tabs,reduceCtorEq,ι5,↓reduceIte,ν1,ν2,ν3,ν4,ν5,ι1,ι2,ι3,ι4,e1,e2,e3])
    refine lit1 tab_24 rfl tab_3 ⟨rfl,rfl⟩ ?_
    refine st_appI (ys:=[(i:Int)*b.states+e]) st 0 rfl (by rw [List.length_append];simp only [List.length_singleton];omega) fun q' G' hq' st=>?_
    rw [List.append_assoc,← ht] at st ⊢
    exact ⟨(j+1,q',G'),⟨by simp only;omega,st⟩,by simp only;omega,.refl _,.refl _,Heap.le_refl _⟩
   ·have:j=gk.length:=by omega
    subst this
    rw [List.take_length,← hps] at st ⊢
    have e3:IntKind.i64.wrap ((i:Int)+1)=((i+1:Nat):Int):=by rw [i6_ (by omega) (by omega)];simp
    (try simp (maxSteps:=1000000) (disch:=first | assumption | (apply ν6;assumption)) only [vz,vu,vv,eqS,eF_,↓c1_,↓c2_,tabs,reduceCtorEq,ι5,↓reduceIte,ν1,ν2,ν3,ν4,ν5,ι1,ι2,ι3,ι4,e3])
    exact ⟨(i+1,q,G),⟨by simp only;omega,st⟩,by simp only;omega,.refl _,.refl _,Heap.le_refl _⟩
  ·have:i=a.states.toNat:=by omega
   subst this
   have e3:IntKind.i64.wrap ((k:Int)+1)=((k+1:Nat):Int):=by rw [i6_ (by omega) (by omega)];simp
   (try simp (maxSteps:=1000000) (disch:=first | assumption | (apply ν6;assumption)) only [vz,vu,vv,eqS,eF_,↓c1_,↓c2_,tabs,reduceCtorEq,ι5,↓reduceIte,ν1,ν2,ν3,ν4,ν5,ι1,ι2,ι3,ι4,lA_ (st.get 1 rfl),e3])
   refine lit_live1 fun ql hql=>?_
   replace st:=st.cell hql [rowP q (prs (below a.states.toNat) gk b.states)]
   generalize G.set ql [.sl q 1 0 (prs (below a.states.toNat) gk b.states).length]=G4 at st ⊢
   (try simp (maxSteps:=1000000) (disch:=first | assumption | (apply ν6;assumption)) only [vz,vu,vv,eqS,eF_,↓c1_,↓c2_,tabs,reduceCtorEq,ι5,↓reduceIte,ν1,ν2,ν3,ν4,ν5,ι1,ι2,ι3,ι4,lA_ (st.get 2 rfl)])
   refine rz_pushL st 6 rfl (by rw [List.length_append];omega) fun q' D' G5 hq' st=>?_
   rw [List.append_assoc,← hsucc] at st
   (try simp (maxSteps:=1000000) (disch:=first | assumption | (apply ν6;assumption)) only [vz,vu,vv,eqS,eF_,↓c1_,↓c2_,tabs,reduceCtorEq,ι5,↓reduceIte,ν1,ν2,ν3,ν4,ν5,ι1,ι2,ι3,ι4,sA_ (st.get 0 rfl)])
   exact ⟨(k+1,_,D',_),⟨by simp only;omega,st.put 0 rfl [I (a.states*b.states),x,y,.sl q' 1 0 ((gs++boGb a b k).length+1)]⟩,by simp only;omega,.refl _,by first | exact Heap.le_refl _ | (rw [List.length_append];exact Heap.le_refl _)⟩
 ·have:k=b.goals.length:=by omega
  subst this
  have hx:=RZ.sl (st.get 4 rfl:RZ (LPl eI) 1 z1 x l G D1)
  have hy:=RZ.sl (st.get 5 rfl:RZ (LPl eE) 3 z2 y es G D2)
  have hw:=RZ.sl (st.get 6 rfl:RZ LIc 1 z3 w _ G D3)
  (try simp (maxSteps:=1000000) (disch:=first | assumption | (apply ν6;assumption)) only [vz,vu,vv,eqS,eF_,↓c1_,↓c2_,tabs,reduceCtorEq,ι5,↓reduceIte,ν1,ν2,ν3,ν4,ν5,ι1,ι2,ι3,ι4,lA_ (st.get 0 rfl),sA_ (st.get 1 rfl)])
  replace st:=st.put 1 rfl [I (a.states*b.states),x,y,w]
  obtain ⟨x',y',w',hw',hl,hn⟩:=rz_auto (a.states*b.states) st 4 5 6 rfl rfl rfl (by decide) (by decide) (by decide)
  refine ⟨by rcases hx with rfl | ⟨q,rfl⟩<;>rcases hy with rfl | ⟨q,rfl⟩<;>rcases hw with rfl | ⟨q,rfl⟩<;>rfl,?_⟩
  exact ⟨_,_,.val hw',h _ _ _ hl hn⟩
theorem both_st4 {a b:Au} (fa:GoodF a) (fb:GoodF b) {r2 r3 r4 r5 z1 z2 z3:Nat} {x y w:AV} {l:List Int} {es:List Ed} {D1 D2 D3:List Nat} {H G:Heap} {K:AV→Heap→Prop} (st:St H (bTs a b r2 r3 r4 r5 z1 z2 z3 x y w l es [] D1 D2 D3) G)
  (h:∀v G D,LAu ⟨a.states*b.states,l,es,boGa a b a.goals.length++boGb a b b.goals.length⟩ v G D→New H G D→K v G) :
  L38_4 (wkK K) (.ptr r2 0) (.ptr r3 0) (.ptr r4 0) (.ptr r5 0) (Ls a.goals) (I a.goals.length) (I 0) G:=by
 have hgl:=fa.gl
 have hsa:=fa.st
 have hsb:=fb.st
 refine L38_4_rule ((0:Nat),w,D3,G) (fun s=>I s.1) (fun s=>s.2.2.2) (fun s=>s.1≤a.goals.length∧St H (bTs a b r2 r3 r4 r5 z1 z2 z3 x y s.2.1 l es (boGa a b s.1) D1 D2 s.2.2.1) s.2.2.2) (fun s=>a.goals.length - s.1)
  ⟨⟨by simp,by simpa [boGa] using st⟩,.refl _,Heap.le_refl _⟩ ?_
 clear st w D3
 rintro ⟨k,w,D3,G⟩ ⟨hk,st⟩
 dsimp only at hk st
 have hgb:=boGa_len a b k
 (try simp (maxSteps:=1000000) (disch:=first | assumption | (apply ν6;assumption)) only [vz,vu,vv,eqS,eF_,↓c1_,↓c2_,tabs,reduceCtorEq,ι5,↓reduceIte,ν1,ν2,ν3,ν4,ν5,ι1,ι2,ι3,ι4,B38_4])
 refine ⟨fun h1=>⟨by omega,h1,?_⟩,fun h1=>?_⟩
 ·have hltk:k < a.goals.length:=by omega
  have hgk:=getD_all (p:=fun x=>smI x∧x.length≤96) (d:=default) fa.gi hltk
  have hsucc:=boGa_succ a b hltk
  generalize a.goals.getD k default=gk at hgk hsucc ⊢
  refine lit0I fun q0 hq0=>?_
  replace st:=st.cell hq0 (cP fI [])
  generalize G.set q0 (cP fI [])=G1 at st ⊢
  (try simp (maxSteps:=1000000) (disch:=first | assumption | (apply ν6;assumption)) only [vz,vu,vv,eqS,eF_,↓c1_,↓c2_,tabs,reduceCtorEq,ι5,↓reduceIte,ν1,ν2,ν3,ν4,ν5,ι1,ι2,ι3,ι4])
  refine L38_5_rule ((0:Nat),q0,G1) (fun s=>rowP s.2.1 (prs (gk.take s.1) (below b.states.toNat) b.states)) (fun s=>I s.1) (fun s=>s.2.2)
   (fun s=>s.1≤gk.length∧St H (cT_ s.2.1 (cP fI (prs (gk.take s.1) (below b.states.toNat) b.states))::bTs a b r2 r3 r4 r5 z1 z2 z3 x y w l es (boGa a b k) D1 D2 D3) s.2.2) (fun s=>gk.length - s.1)
   ⟨⟨by simp,by simpa [prs] using st⟩,by simp [prs];exact .refl _,.refl _,Heap.le_refl _⟩ ?_
  clear st
  rintro ⟨i,q,G⟩ ⟨hi,st⟩
  dsimp only at hi st
  have hpl:=prs_len (gk.take i) (below b.states.toNat) b.states
  rw [below_len,List.length_take,Nat.min_eq_left hi] at hpl
  have hml:i*b.states.toNat≤96*96:=Nat.mul_le_mul (by omega) (by omega)
  (try simp (maxSteps:=1000000) (disch:=first | assumption | (apply ν6;assumption)) only [vz,vu,vv,eqS,eF_,↓c1_,↓c2_,tabs,reduceCtorEq,ι5,↓reduceIte,ν1,ν2,ν3,ν4,ν5,ι1,ι2,ι3,ι4,B38_5])
  refine ⟨fun h2=>⟨by omega,h2,?_⟩,fun h2=>?_⟩
  ·have hlti:i < gk.length:=by omega
   have hps:=prs_succ gk (below b.states.toNat) b.states hlti
   have hx:=getD_all (p:=fun x=>0≤x∧x≤100000) (d:=default) hgk.1.2 hlti
   generalize gk.getD i default=e at hps hx ⊢
   (try simp (maxSteps:=1000000) (disch:=first | assumption | (apply ν6;assumption)) only [vz,vu,vv,eqS,eF_,↓c1_,↓c2_,tabs,reduceCtorEq,ι5,↓reduceIte,ν1,ν2,ν3,ν4,ν5,ι1,ι2,ι3,ι4,lA_ (st.get 3 rfl)])
   refine L38_6_rule ((0:Nat),q,G) (fun s=>rowP s.2.1 (prs (gk.take i) (below b.states.toNat) b.states++(below s.1).map fun j=>e*b.states+j)) (fun s=>I s.1) (fun s=>s.2.2)
    (fun s=>s.1≤b.states.toNat∧St H (cT_ s.2.1 (cP fI (prs (gk.take i) (below b.states.toNat) b.states++(below s.1).map fun j=>e*b.states+j))::bTs a b r2 r3 r4 r5 z1 z2 z3 x y w l es (boGa a b k) D1 D2 D3) s.2.2) (fun s=>b.states.toNat - s.1)
    ⟨⟨by simp,by simpa [below] using st⟩,by simp [below];exact .refl _,.refl _,Heap.le_refl _⟩ ?_
   clear st
   rintro ⟨j,q,G⟩ ⟨hj,st⟩
   dsimp only at hj st
   (try simp (maxSteps:=1000000) (disch:=first | assumption | (apply ν6;assumption)) only [vz,vu,vv,eqS,eF_,↓c1_,↓c2_,tabs,reduceCtorEq,ι5,↓reduceIte,ν1,ν2,ν3,ν4,ν5,ι1,ι2,ι3,ι4,B38_6,lA_ (st.get 3 rfl)])
   refine ⟨fun h3=>?_,fun h3=>?_⟩
   ·have ht:(below (j+1)).map (fun j=>e*b.states+j)=(below j).map (fun j=>e*b.states+j)++[e*b.states+j]:=by
     rw [below_succ,List.map_append];rfl
    have hlt:((below j).map fun j=>e*b.states+j).length≤96:=by rw [List.length_map,below_len];omega
    have m1:=mul_bd (a:=e) (A:=100000) (b:=b.states) (B:=96) (by omega) (by omega)
    have e1:IntKind.i64.wrap (e*b.states)=e*b.states:=i6_ (by omega) (by omega)
    have e2:IntKind.i64.wrap (e*b.states+j)=e*b.states+j:=i6_ (by omega) (by omega)
    have e3:IntKind.i64.wrap ((j:Int)+1)=((j+1:Nat):Int):=by rw [i6_ (by omega) (by omega)];simp
    (try simp (maxSteps:=1000000) (disch:=first | assumption | (apply ν6;assumption)) only [vz,vu,vv,eqS,eF_,↓c1_,↓c2_,tabs,reduceCtorEq,ι5,↓reduceIte,ν1,ν2,ν3,ν4,ν5,ι1,ι2,ι3,ι4,e1,e2,e3])
    refine lit1 tab_24 rfl tab_3 ⟨rfl,rfl⟩ ?_
    refine st_appI (ys:=[e*b.states+j]) st 0 rfl (by rw [List.length_append];simp only [List.length_singleton];omega) fun q' G' hq' st=>?_
    rw [List.append_assoc,← ht] at st ⊢
    exact ⟨(j+1,q',G'),⟨by simp only;omega,st⟩,by simp only;omega,.refl _,.refl _,Heap.le_refl _⟩
   ·have:j=b.states.toNat:=by omega
    subst this
    rw [← hps] at st ⊢
    have e3:IntKind.i64.wrap ((i:Int)+1)=((i+1:Nat):Int):=by rw [i6_ (by omega) (by omega)];simp
    (try simp (maxSteps:=1000000) (disch:=first | assumption | (apply ν6;assumption)) only [vz,vu,vv,eqS,eF_,↓c1_,↓c2_,tabs,reduceCtorEq,ι5,↓reduceIte,ν1,ν2,ν3,ν4,ν5,ι1,ι2,ι3,ι4,e3])
    exact ⟨(i+1,q,G),⟨by simp only;omega,st⟩,by simp only;omega,.refl _,.refl _,Heap.le_refl _⟩
  ·have:i=gk.length:=by omega
   subst this
   rw [List.take_length] at st hpl ⊢
   have e3:IntKind.i64.wrap ((k:Int)+1)=((k+1:Nat):Int):=by rw [i6_ (by omega) (by omega)];simp
   (try simp (maxSteps:=1000000) (disch:=first | assumption | (apply ν6;assumption)) only [vz,vu,vv,eqS,eF_,↓c1_,↓c2_,tabs,reduceCtorEq,ι5,↓reduceIte,ν1,ν2,ν3,ν4,ν5,ι1,ι2,ι3,ι4,lA_ (st.get 1 rfl),e3])
   refine lit_live1 fun ql hql=>?_
   replace st:=st.cell hql [rowP q (prs gk (below b.states.toNat) b.states)]
   generalize G.set ql [.sl q 1 0 (prs gk (below b.states.toNat) b.states).length]=G4 at st ⊢
   (try simp (maxSteps:=1000000) (disch:=first | assumption | (apply ν6;assumption)) only [vz,vu,vv,eqS,eF_,↓c1_,↓c2_,tabs,reduceCtorEq,ι5,↓reduceIte,ν1,ν2,ν3,ν4,ν5,ι1,ι2,ι3,ι4,lA_ (st.get 2 rfl)])
   refine rz_pushL st 6 rfl (by omega) fun q' D' G5 hq' st=>?_
   rw [← hsucc] at st
   (try simp (maxSteps:=1000000) (disch:=first | assumption | (apply ν6;assumption)) only [vz,vu,vv,eqS,eF_,↓c1_,↓c2_,tabs,reduceCtorEq,ι5,↓reduceIte,ν1,ν2,ν3,ν4,ν5,ι1,ι2,ι3,ι4,sA_ (st.get 0 rfl)])
   exact ⟨(k+1,_,D',_),⟨by simp only;omega,st.put 0 rfl [I (a.states*b.states),x,y,.sl q' 1 0 ((boGa a b k).length+1)]⟩,by simp only;omega,.refl _,Heap.le_refl _⟩
 ·have:k=a.goals.length:=by omega
  subst this
  (try simp (maxSteps:=1000000) (disch:=first | assumption | (apply ν6;assumption)) only [vz,vu,vv,eqS,eF_,↓c1_,↓c2_,tabs,reduceCtorEq,ι5,↓reduceIte,ν1,ν2,ν3,ν4,ν5,ι1,ι2,ι3,ι4,lA_ (st.get 2 rfl)])
  exact both_st7 fa fb st (by omega) h
theorem both_st2 {a b:Au} (ga:goodA a=true) (gb:goodA b=true) {r2 r3 r4 r5 z1 z2 z3:Nat} {x y w:AV} {l:List Int} {D1 D2 D3:List Nat} {H G:Heap} {K:AV→Heap→Prop} (st:St H (bTs a b r2 r3 r4 r5 z1 z2 z3 x y w l [] [] D1 D2 D3) G)
  (h:∀v G D,LAu ⟨a.states*b.states,l,sAll a b (a.states*b.states).toNat,boGa a b a.goals.length++boGb a b b.goals.length⟩ v G D→New H G D→K v G) :
  L38_2 (wkK K) (.ptr r2 0) (.ptr r3 0) (.ptr r4 0) (.ptr r5 0) (Es a.edges) (I a.edges.length) (I 0) G:=by
 have fa:=good_facts ga
 have fb:=good_facts gb
 have hea:=fa.ed
 have heb:=fb.ed
 have hsa:=fa.st
 have hsb:=fb.st
 have hbl:∀i j,i≤2400→(bE b.states (a.edges.take i) b.edges++bRow b.states (a.edges.getD i default) (b.edges.take j)).length+1≤1000000000:=fun i j hi=>by
  have h1:=bE_len b.states (a.edges.take i) b.edges
  have h2:=bRow_len b.states (a.edges.getD i default) (b.edges.take j)
  rw [List.length_take] at h1 h2
  have h3:min i a.edges.length*b.edges.length≤2400*2400:=Nat.mul_le_mul (by omega) heb
  rw [List.length_append]
  omega
 refine L38_2_rule ((0:Nat),y,D2,G) (fun s=>I s.1) (fun s=>s.2.2.2) (fun s=>s.1≤a.edges.length∧St H (bTs a b r2 r3 r4 r5 z1 z2 z3 x s.2.1 w l (bE b.states (a.edges.take s.1) b.edges) [] D1 s.2.2.1 D3) s.2.2.2) (fun s=>a.edges.length - s.1)
  ⟨⟨by simp,by simpa [bE] using st⟩,.refl _,Heap.le_refl _⟩ ?_
 clear st y D2
 rintro ⟨i,y,D2,G⟩ ⟨hi,st⟩
 dsimp only at hi st
 (try simp (maxSteps:=1000000) (disch:=first | assumption | (apply ν6;assumption)) only [vz,vu,vv,eqS,eF_,↓c1_,↓c2_,tabs,reduceCtorEq,ι5,↓reduceIte,ν1,ν2,ν3,ν4,ν5,ι1,ι2,ι3,ι4,B38_2])
 refine ⟨fun h1=>⟨by omega,h1,?_⟩,fun h1=>?_⟩
 ·have hlti:i < a.edges.length:=by omega
  have hsucc:=bE_succ b.states a.edges b.edges hlti
  have hie:=edIn_iff.1 (fa.ei _ (getD_all (p:=fun x=>x∈a.edges) (d:=default) (fun _ h=>h) hlti))
  have hbl:=fun j=>hbl i j (by omega)
  generalize a.edges.getD i default=e at hsucc hie hbl ⊢
  intro r11 hr11
  replace st:=st.cell hr11 [I e.src,I e.lt,I e.dst]
  generalize G.set r11 [I e.src,I e.lt,I e.dst]=G1 at st ⊢
  clear hr11
  (try simp (maxSteps:=1000000) (disch:=first | assumption | (apply ν6;assumption)) only [vz,vu,vv,eqS,eF_,↓c1_,↓c2_,tabs,reduceCtorEq,ι5,↓reduceIte,ν1,ν2,ν3,ν4,ν5,ι1,ι2,ι3,ι4,lA_ (st.get 3 rfl)])
  refine L38_3_rule ((0:Nat),y,D2,G1) (fun s=>I s.1) (fun s=>s.2.2.2) (fun s=>s.1≤b.edges.length∧St H (cT_ r11 [I e.src,I e.lt,I e.dst]::bTs a b r2 r3 r4 r5 z1 z2 z3 x s.2.1 w l (bE b.states (a.edges.take i) b.edges++bRow b.states e (b.edges.take s.1)) [] D1 s.2.2.1 D3) s.2.2.2) (fun s=>b.edges.length - s.1)
   ⟨⟨by simp,by simpa [bRow] using st⟩,.refl _,Heap.le_refl _⟩ ?_
  clear st y D2
  rintro ⟨j,y,D2,G⟩ ⟨hj,st⟩
  dsimp only at hj st
  (try simp (maxSteps:=1000000) (disch:=first | assumption | (apply ν6;assumption)) only [vz,vu,vv,eqS,eF_,↓c1_,↓c2_,tabs,reduceCtorEq,ι5,↓reduceIte,ν1,ν2,ν3,ν4,ν5,ι1,ι2,ι3,ι4,B38_3])
  refine ⟨fun h2=>⟨by omega,h2,?_⟩,fun h2=>?_⟩
  ·have hltj:j < b.edges.length:=by omega
   have hrow:=bRow_succ b.states e b.edges hltj
   have hje:=edIn_iff.1 (fb.ei _ (getD_all (p:=fun x=>x∈b.edges) (d:=default) (fun _ h=>h) hltj))
   have hbl:=hbl j
   generalize b.edges.getD j default=f at hrow hje ⊢
   intro r13 hr13
   replace st:=st.cell hr13 [I f.src,I f.lt,I f.dst]
   generalize G.set r13 [I f.src,I f.lt,I f.dst]=G2 at st ⊢
   clear hr13
   have m1:=mul_bd (a:=e.src) (A:=96) (b:=b.states) (B:=96) (by omega) (by omega)
   have m2:=mul_bd (a:=e.dst) (A:=96) (b:=b.states) (B:=96) (by omega) (by omega)
   have e1:IntKind.i64.wrap (e.src*b.states)=e.src*b.states:=i6_ (by omega) (by omega)
   have e2:IntKind.i64.wrap (e.src*b.states+f.src)=e.src*b.states+f.src:=i6_ (by omega) (by omega)
   have e3:IntKind.i64.wrap (e.dst*b.states)=e.dst*b.states:=i6_ (by omega) (by omega)
   have e4:IntKind.i64.wrap (e.dst*b.states+f.dst)=e.dst*b.states+f.dst:=i6_ (by omega) (by omega)
   have e5:IntKind.i64.wrap ((j:Int)+1)=((j+1:Nat):Int):=by rw [i6_ (by omega) (by omega)];simp
   (try simp (maxSteps:=1000000) (disch:=first | assumption | (apply ν6;assumption)) only [vz,vu,vv,eqS,eF_,↓c1_,↓c2_,tabs,reduceCtorEq,ι5,↓reduceIte,ν1,ν2,ν3,ν4,ν5,ι1,ι2,ι3,ι4,lA_ (st.get 0 rfl),lA_ (st.get 1 rfl),lA_ (st.get 2 rfl),lA_ (st.get 4 rfl),e1,e2,e3,e4,e5])
   refine ⟨fun h3=>?_,fun h3=>?_⟩
   ·rw [if_pos h3] at hrow
    refine lit_edge (x:=mkE b.states e f) ?_
    (try simp (maxSteps:=1000000) (disch:=first | assumption | (apply ν6;assumption)) only [vz,vu,vv,eqS,eF_,↓c1_,↓c2_,tabs,reduceCtorEq,ι5,↓reduceIte,ν1,ν2,ν3,ν4,ν5,ι1,ι2,ι3,ι4,lA_ (st.get 2 rfl)])
    refine rz_appE9 (ys:=[mkE b.states e f]) st 7 rfl (by simp only [List.length_singleton];omega) fun q' G' hq' st=>?_
    rw [List.append_assoc,← hrow] at st ⊢
    obtain ⟨es',hes⟩:∃es',bE b.states (a.edges.take i) b.edges++bRow b.states e (b.edges.take (j+1))=es':=⟨_,rfl⟩
    rw [hes] at st ⊢
    (try simp (maxSteps:=1000000) (disch:=first | assumption | (apply ν6;assumption)) only [vz,vu,vv,eqS,eF_,↓c1_,↓c2_,tabs,reduceCtorEq,ι5,↓reduceIte,ν1,ν2,ν3,ν4,ν5,ι1,ι2,ι3,ι4,sA_ (st.get 2 rfl),e5])
    replace st:=(st.put 2 rfl [I (a.states*b.states),x,rowE q' es',w]).drop
    rw [← hes] at st
    exact ⟨(j+1,_,[q'],_),⟨by simp only;omega,st⟩,by simp only;omega,.refl _,by rw [hes];exact Heap.le_refl _⟩
   ·rw [if_neg h3] at hrow
    exact ⟨(j+1,y,D2,G2),⟨by simp only;omega,by rw [hrow];exact st.drop⟩,by simp only;omega,.refl _,Heap.le_refl _⟩
  ·have:j=b.edges.length:=by omega
   subst this
   rw [List.take_length,← hsucc] at st
   have e5:IntKind.i64.wrap ((i:Int)+1)=((i+1:Nat):Int):=by rw [i6_ (by omega) (by omega)];simp
   (try simp (maxSteps:=1000000) (disch:=first | assumption | (apply ν6;assumption)) only [vz,vu,vv,eqS,eF_,↓c1_,↓c2_,tabs,reduceCtorEq,ι5,↓reduceIte,ν1,ν2,ν3,ν4,ν5,ι1,ι2,ι3,ι4,e5])
   exact ⟨(i+1,y,D2,G),⟨by simp only;omega,st.drop⟩,by simp only;omega,.refl _,Heap.le_refl _⟩
 ·have:i=a.edges.length:=by omega
  subst this
  rw [List.take_length] at st
  (try simp (maxSteps:=1000000) (disch:=first | assumption | (apply ν6;assumption)) only [vz,vu,vv,eqS,eF_,↓c1_,↓c2_,tabs,reduceCtorEq,ι5,↓reduceIte,ν1,ν2,ν3,ν4,ν5,ι1,ι2,ι3,ι4,lA_ (st.get 0 rfl)])
  have h1:=bE_len b.states a.edges b.edges
  have h3:a.edges.length*b.edges.length≤2400*2400:=Nat.mul_le_mul hea heb
  refine rz_sortE st 5 rfl (by omega) fun G' st=>?_
  rw [srt_bE ga gb] at st
  (try simp (maxSteps:=1000000) (disch:=first | assumption | (apply ν6;assumption)) only [vz,vu,vv,eqS,eF_,↓c1_,↓c2_,tabs,reduceCtorEq,ι5,↓reduceIte,ν1,ν2,ν3,ν4,ν5,ι1,ι2,ι3,ι4,lA_ (st.get 3 rfl)])
  exact both_st4 fa fb st h
theorem both_live {a b:Au} (ga:goodA a=true) (gb:goodA b=true) {H:Heap} {K:AV→Heap→Prop}
  (h:∀v G D,LAu (boT a b) v G D→New H G D→K v G):CallT Try.prog 38 [aAu a,aAu b] H K:=by
 have fa:=good_facts ga
 have fb:=good_facts gb
 have hsa:=fa.st
 have hsb:=fb.st
 have hfa:=fa.fi
 have hfb:=fb.fi
 refine CallT.fin ?_
 refine lend3 (St.nil H) W38_hb fun z1 z2 z3 G st=>?_
 have hm:=mul_bd (a:=a.states) (A:=96) (b:=b.states) (B:=96) (by omega) (by omega)
 have e0:IntKind.i64.wrap (a.states*b.states)=a.states*b.states:=i6_ (by omega) (by omega)
 refine W38_ok ?_;simp (maxSteps:=1000000) (disch:=first | assumption | (apply ν6;assumption)) only [W38,vz,vu,vv,eqS,eF_,↓c1_,↓c2_,tabs,reduceCtorEq,ι5,↓reduceIte,ν1,ν2,ν3,ν4,ν5,ι1,ι2,ι3,ι4,e0]
 intro r2 hr2 r3 n3 hr3 r4 n4 n4' hr4
 replace st:=((st.cell hr2 [I a.states,Is a.first,Es a.edges,Ls a.goals]).cell (r:=r3) (by rw [Heap.set_other n3];exact hr3) [I b.states,Is b.first,Es b.edges,Ls b.goals]).cell (r:=r4) (by rw [Heap.set_other n4,Heap.set_other n4'];exact hr4) [I 0,.p .nil,.p .nil,.p .nil]
 have fr:∀r,r≠r4→r≠r3→r≠r2→G r=none→(((G.set r2 [I a.states,Is a.first,Es a.edges,Ls a.goals]).set r3 [I b.states,Is b.first,Es b.edges,Ls b.goals]).set r4 [I 0,.p .nil,.p .nil,.p .nil]) r=none:=fun r a b c d=>by
  rw [Heap.set_other a,Heap.set_other b,Heap.set_other c];exact d
 generalize ((G.set r2 [I a.states,Is a.first,Es a.edges,Ls a.goals]).set r3 [I b.states,Is b.first,Es b.edges,Ls b.goals]).set r4 [I 0,.p .nil,.p .nil,.p .nil]=G1 at st fr ⊢
 clear hr2 hr3 n3 hr4 n4 n4'
 (try simp (maxSteps:=1000000) (disch:=first | assumption | (apply ν6;assumption)) only [vz,vu,vv,eqS,eF_,↓c1_,↓c2_,tabs,reduceCtorEq,ι5,↓reduceIte,ν1,ν2,ν3,ν4,ν5,ι1,ι2,ι3,ι4,lA_ (st.get 2 rfl),lA_ (st.get 1 rfl),e0])
 intro r5 m4 m3 m2 hr5
 replace st:=st.cell (fr _ m4 m3 m2 hr5) [I (a.states*b.states),.p .nil,.p .nil,.p .nil]
 generalize G1.set r5 [I (a.states*b.states),.p .nil,.p .nil,.p .nil]=G2 at st ⊢
 clear hr5 m4 m3 m2 fr
 (try simp (maxSteps:=1000000) (disch:=first | assumption | (apply ν6;assumption)) only [vz,vu,vv,eqS,eF_,↓c1_,↓c2_,tabs,reduceCtorEq,ι5,↓reduceIte,ν1,ν2,ν3,ν4,ν5,ι1,ι2,ι3,ι4,lA_ (st.get 3 rfl)])
 refine L38_0_rule ((0:Nat),(.p .nil:AV),[z1],G2) (fun s=>I s.1) (fun s=>s.2.2.2) (fun s=>s.1≤a.first.length∧St H (bTs a b r2 r3 r4 r5 z1 z2 z3 s.2.1 (.p .nil) (.p .nil) (prs (a.first.take s.1) b.first b.states) [] [] s.2.2.1 [z2] [z3]) s.2.2.2) (fun s=>a.first.length - s.1)
  ⟨⟨by simp,by simpa [prs] using st⟩,.refl _,Heap.le_refl _⟩ ?_
 clear st
 rintro ⟨i,x,D1,G⟩ ⟨hi,st⟩
 dsimp only at hi st
 have hpl:=prs_len (a.first.take i) b.first b.states
 rw [List.length_take,Nat.min_eq_left hi] at hpl
 have hml:i*b.first.length≤96*96:=Nat.mul_le_mul (by omega) (by omega)
 (try simp (maxSteps:=1000000) (disch:=first | assumption | (apply ν6;assumption)) only [vz,vu,vv,eqS,eF_,↓c1_,↓c2_,tabs,reduceCtorEq,ι5,↓reduceIte,ν1,ν2,ν3,ν4,ν5,ι1,ι2,ι3,ι4,B38_0])
 refine ⟨fun h1=>⟨by omega,h1,?_⟩,fun h1=>?_⟩
 ·have hlti:i < a.first.length:=by omega
  have hps:=prs_succ a.first b.first b.states hlti
  have hx:=getD_all (p:=fun x=>0≤x∧x≤100000) (d:=default) hfa.1.2 hlti
  generalize a.first.getD i default=e at hps hx ⊢
  (try simp (maxSteps:=1000000) (disch:=first | assumption | (apply ν6;assumption)) only [vz,vu,vv,eqS,eF_,↓c1_,↓c2_,tabs,reduceCtorEq,ι5,↓reduceIte,ν1,ν2,ν3,ν4,ν5,ι1,ι2,ι3,ι4,lA_ (st.get 2 rfl)])
  refine L38_1_rule ((0:Nat),x,D1,G) (fun s=>I s.1) (fun s=>s.2.2.2) (fun s=>s.1≤b.first.length∧St H (bTs a b r2 r3 r4 r5 z1 z2 z3 s.2.1 (.p .nil) (.p .nil) (prs (a.first.take i) b.first b.states++(b.first.take s.1).map fun j=>e*b.states+j) [] [] s.2.2.1 [z2] [z3]) s.2.2.2) (fun s=>b.first.length - s.1)
   ⟨⟨by simp,by simpa using st⟩,.refl _,Heap.le_refl _⟩ ?_
  clear st x D1
  rintro ⟨j,x,D1,G⟩ ⟨hj,st⟩
  dsimp only at hj st
  (try simp (maxSteps:=1000000) (disch:=first | assumption | (apply ν6;assumption)) only [vz,vu,vv,eqS,eF_,↓c1_,↓c2_,tabs,reduceCtorEq,ι5,↓reduceIte,ν1,ν2,ν3,ν4,ν5,ι1,ι2,ι3,ι4,B38_1])
  refine ⟨fun h2=>⟨by omega,h2,?_⟩,fun h2=>?_⟩
  ·have hltj:j < b.first.length:=by omega
   have hy:=getD_all (p:=fun x=>0≤x∧x≤100000) (d:=default) hfb.1.2 hltj
   have ht:(b.first.take (j+1)).map (fun j=>e*b.states+j)=(b.first.take j).map (fun j=>e*b.states+j)++[e*b.states+b.first.getD j default]:=by
    rw [tS_ hltj,List.map_append];rfl
   have hlt:((b.first.take j).map fun j=>e*b.states+j).length≤96:=by rw [List.length_map,List.length_take];omega
   generalize b.first.getD j default=f at hy ht ⊢
   have m1:=mul_bd (a:=e) (A:=100000) (b:=b.states) (B:=96) (by omega) (by omega)
   have e1:IntKind.i64.wrap (e*b.states)=e*b.states:=i6_ (by omega) (by omega)
   have e2:IntKind.i64.wrap (e*b.states+f)=e*b.states+f:=i6_ (by omega) (by omega)
   have e3:IntKind.i64.wrap ((j:Int)+1)=((j+1:Nat):Int):=by rw [i6_ (by omega) (by omega)];simp
   (try simp (maxSteps:=1000000) (disch:=first | assumption | (apply ν6;assumption)) only [vz,vu,vv,eqS,eF_,↓c1_,↓c2_,tabs,reduceCtorEq,ι5,↓reduceIte,ν1,ν2,ν3,ν4,ν5,ι1,ι2,ι3,ι4,lA_ (st.get 0 rfl),lA_ (st.get 2 rfl),e1,e2,e3])
   refine lit1 tab_24 rfl tab_3 ⟨rfl,rfl⟩ ?_
   (try simp (maxSteps:=1000000) (disch:=first | assumption | (apply ν6;assumption)) only [vz,vu,vv,eqS,eF_,↓c1_,↓c2_,tabs,reduceCtorEq,ι5,↓reduceIte,ν1,ν2,ν3,ν4,ν5,ι1,ι2,ι3,ι4,lA_ (st.get 0 rfl)])
   refine rz_appI (ys:=[e*b.states+f]) st 4 rfl (by rw [List.length_append];simp only [List.length_singleton];omega) fun q' G' hq' st=>?_
   rw [List.append_assoc,← ht] at st ⊢
   obtain ⟨l',hl'⟩:∃l',prs (a.first.take i) b.first b.states++(b.first.take (j+1)).map (fun j=>e*b.states+j)=l':=⟨_,rfl⟩
   rw [hl'] at st ⊢
   (try simp (maxSteps:=1000000) (disch:=first | assumption | (apply ν6;assumption)) only [vz,vu,vv,eqS,eF_,↓c1_,↓c2_,tabs,reduceCtorEq,ι5,↓reduceIte,ν1,ν2,ν3,ν4,ν5,ι1,ι2,ι3,ι4,sA_ (st.get 0 rfl),e3])
   replace st:=st.put 0 rfl [I (a.states*b.states),rowP q' l',.p .nil,.p .nil]
   rw [← hl'] at st
   exact ⟨(j+1,_,[q'],_),⟨by simp only;omega,st⟩,by simp only;omega,.refl _,by rw [hl'];exact Heap.le_refl _⟩
  ·have:j=b.first.length:=by omega
   subst this
   rw [List.take_length,← hps] at st
   have e3:IntKind.i64.wrap ((i:Int)+1)=((i+1:Nat):Int):=by rw [i6_ (by omega) (by omega)];simp
   (try simp (maxSteps:=1000000) (disch:=first | assumption | (apply ν6;assumption)) only [vz,vu,vv,eqS,eF_,↓c1_,↓c2_,tabs,reduceCtorEq,ι5,↓reduceIte,ν1,ν2,ν3,ν4,ν5,ι1,ι2,ι3,ι4,e3])
   exact ⟨(i+1,x,D1,G),⟨by simp only;omega,st⟩,by simp only;omega,.refl _,Heap.le_refl _⟩
 ·have:i=a.first.length:=by omega
  subst this
  rw [List.take_length] at st
  (try simp (maxSteps:=1000000) (disch:=first | assumption | (apply ν6;assumption)) only [vz,vu,vv,eqS,eF_,↓c1_,↓c2_,tabs,reduceCtorEq,ι5,↓reduceIte,ν1,ν2,ν3,ν4,ν5,ι1,ι2,ι3,ι4,lA_ (st.get 3 rfl)])
  exact both_st2 ga gb st h
def boR (a b:Au):Au×Bool:=if goodA a && (goodA b && (decide (a.states*b.states≤96) && goodA (boT a b))) then (boT a b,true) else (zeroA,false)
theorem boT_sm {a b:Au} (ga:goodA a=true) (gb:goodA b=true) (hN:a.states*b.states≤96):smAu (boT a b):=by
 have fa:=good_facts ga
 have fb:=good_facts gb
 have hsa:=fa.st
 have hsb:=fb.st
 have hm:a.states.toNat*b.states.toNat≤96:=by
  have:((a.states.toNat*b.states.toNat:Nat):Int)=a.states*b.states:=by rw [Int.natCast_mul,Int.toNat_of_nonneg (by omega),Int.toNat_of_nonneg (by omega)]
  omega
 refine ⟨?_,?_,?_,fun c hc=>?_⟩
 ·show (prs a.first b.first b.states).length≤_
  rw [prs_len]
  have:a.first.length*b.first.length≤96*96:=Nat.mul_le_mul fa.fi.2 fb.fi.2
  omega
 ·show (sAll a b (a.states*b.states).toNat).length≤_
  have h1:=sAll_len a b (a.states*b.states).toNat
  have:(a.states*b.states).toNat*(8*(a.states.toNat*b.states.toNat))≤96*(8*96):=Nat.mul_le_mul (by omega) (by omega)
  omega
 ·show (boGa a b a.goals.length++boGb a b b.goals.length).length≤_
  have h1:=boGa_len a b a.goals.length
  have h2:=boGb_len a b b.goals.length
  have:=fa.gl
  have:=fb.gl
  rw [List.length_append];omega
 ·change c∈boGa a b a.goals.length++boGb a b b.goals.length at hc
  rcases List.mem_append.1 hc with hc | hc
  ·obtain ⟨g,hg,rfl⟩:=List.mem_map.1 hc
   rw [prs_len,below_len]
   have:=Nat.mul_le_mul (fa.gi g (List.mem_of_mem_take hg)).2 (show b.states.toNat≤96 by omega)
   omega
  ·obtain ⟨g,hg,rfl⟩:=List.mem_map.1 hc
   rw [prs_len,below_len]
   have:=Nat.mul_le_mul (show a.states.toNat≤96 by omega) (fb.gi g (List.mem_of_mem_take hg)).2
   omega
end Go.Proofs.Ytohkciilfkhomaa
namespace Go.Proofs.Ytohkciilfkhomaa
open Go Go.Sep Go.Pt
theorem natdiv (q m:Nat):((q / m:Nat):Int)=(q:Int) / (m:Int):=Int.natCast_ediv q m
theorem natmod (q m:Nat):((q % m:Nat):Int)=(q:Int) % (m:Int):=Int.natCast_emod q m
theorem stepA_bo1 {a b:Au} (fa:GoodF a) (fb:GoodF b) {c:Int} {q q':Nat} (h:StepA (boT a b) c q q'):StepA a c (q / b.states.toNat) (q' / b.states.toNat)∧StepA b c (q % b.states.toNat) (q' % b.states.toNat):=by
 have sb:=fb.st
 have hm:((b.states.toNat:Nat):Int)=b.states:=Int.toNat_of_nonneg (by omega)
 obtain ⟨e,he,h1,h2,h3⟩:=h
 obtain ⟨k,l,hk,hl,t,ht,rfl⟩:=(sAll_mem e).1 he
 simp only at h1 h2 h3
 obtain ⟨i,hi,j,hj,rfl⟩:=prs_mem.1 ht
 obtain ⟨i0,ea,hea,a1,a2,a3⟩:=stp_mem.1 hi
 obtain ⟨j0,eb,heb,b1,b2,b3⟩:=stp_mem.1 hj
 have hq:k=q:=by omega
 subst hq
 have hd:=lex_div (m:=b.states) (i:=i) (j:=j) j0
 have d1:((q' / b.states.toNat:Nat):Int)=i:=by rw [natdiv,hm,← h3,hd.1]
 have d2:((q' % b.states.toNat:Nat):Int)=j:=by rw [natmod,hm,← h3,hd.2]
 refine ⟨⟨ea,hea,by rw [a1,h1],by rw [natdiv,hm];exact a2,by rw [d1];exact a3⟩,⟨eb,heb,by rw [b1,h1],by rw [natmod,hm];exact b2,by rw [d2];exact b3⟩⟩
theorem stepA_bo2 {a b:Au} (fa:GoodF a) (fb:GoodF b) {c:Int} {p p' r r':Nat} (h:StepA a c p p') (k:StepA b c r r'):StepA (boT a b) c (p*b.states.toNat+r) (p'*b.states.toNat+r'):=by
 have sa:=fa.st
 have sb:=fb.st
 have hm:((b.states.toNat:Nat):Int)=b.states:=Int.toNat_of_nonneg (by omega)
 obtain ⟨ea,hea,a1,a2,a3⟩:=h
 obtain ⟨eb,heb,b1,b2,b3⟩:=k
 have ia:=edIn_iff.1 (fa.ei ea hea)
 have ib:=edIn_iff.1 (fb.ei eb heb)
 have ec:((c.toNat:Nat):Int)=c:=Int.toNat_of_nonneg (by omega)
 have hd:=lex_div (m:=b.states) (i:=(p:Int)) (j:=(r:Int)) (by omega)
 have e1:((p*b.states.toNat+r:Nat):Int)=(p:Int)*b.states+r:=by rw [Int.natCast_add,Int.natCast_mul,hm]
 have e2:((p'*b.states.toNat+r':Nat):Int)=(p':Int)*b.states+r':=by rw [Int.natCast_add,Int.natCast_mul,hm]
 refine ⟨⟨((p*b.states.toNat+r:Nat):Int),((c.toNat:Nat):Int),(p':Int)*b.states+r'⟩,(sAll_mem _).2 ⟨p*b.states.toNat+r,c.toNat,?_,by omega,(p':Int)*b.states+r',prs_mem.2 ⟨p',stp_mem.2 ⟨by omega,ea,hea,by rw [ec,a1],by rw [e1,hd.1];exact a2,a3⟩,r',stp_mem.2 ⟨by omega,eb,heb,by rw [ec,b1],by rw [e1,hd.2];exact b2,b3⟩,rfl⟩,rfl⟩,ec,rfl,e2.symm⟩
 have hp:p+1≤a.states.toNat:=by omega
 have hr:r+1≤b.states.toNat:=by omega
 have h3:=Nat.mul_le_mul_right b.states.toNat hp
 rw [Nat.add_mul] at h3
 have e3:(a.states*b.states).toNat=a.states.toNat*b.states.toNat:=by
  rw [← Int.ofNat_inj,Int.natCast_mul,hm,Int.toNat_of_nonneg (Int.mul_nonneg (by omega) (by omega)),Int.toNat_of_nonneg (by omega)]
 omega
theorem accR_bo {a b:Au} (ga:goodA a=true) (gb:goodA b=true) (w:Nat→Int):AccR (boT a b) w↔AccR a w∧AccR b w:=by
 have na:=autoN ga
 have nb:=autoN gb
 have fa:=na.f
 have fb:=nb.f
 have sa:=fa.st
 have sb:=fb.st
 have hm:((b.states.toNat:Nat):Int)=b.states:=Int.toNat_of_nonneg (by omega)
 have hget:∀{us vs:List Int} {q:Nat},(∀x∈vs,0≤x∧x < b.states)→(q:Int)∈prs us vs b.states→((q / b.states.toNat:Nat):Int)∈us∧((q % b.states.toNat:Nat):Int)∈vs:=by
  intro us vs q hv hq
  obtain ⟨i,hi,j,hj,e⟩:=prs_mem.1 hq
  have hd:=lex_div (m:=b.states) (i:=i) (j:=j) (hv j hj)
  rw [natdiv,natmod,hm,← e,hd.1,hd.2]
  exact ⟨hi,hj⟩
 have hput:∀{us vs:List Int} {p r:Nat},(p:Int)∈us→(r:Int)∈vs→((p*b.states.toNat+r:Nat):Int)∈prs us vs b.states:=by
  intro us vs p r hp hr
  exact prs_mem.2 ⟨p,hp,r,hr,by rw [Int.natCast_add,Int.natCast_mul,hm]⟩
 have bel:∀x∈below b.states.toNat,0≤x∧x < b.states:=fun x hx=>by have:=below_mem'.1 hx;omega
 have hgb:∀g∈b.goals,∀x∈g,0≤x∧x < b.states:=fun g hg x hx=>by have:=nb.go g hg x hx;omega
 constructor
 ·rintro ⟨q,q0,q1,q2⟩
  have h0:=hget (us:=a.first) (vs:=b.first) (fun x hx=>by have:=nb.fr x hx;omega) q0
  refine ⟨⟨fun i=>q i / b.states.toNat,h0.1,fun i=>(stepA_bo1 fa fb (q1 i)).1,fun g hg n=>?_⟩,⟨fun i=>q i % b.states.toNat,h0.2,fun i=>(stepA_bo1 fa fb (q1 i)).2,fun g hg n=>?_⟩⟩
  ·obtain ⟨i,hi,h⟩:=q2 (prs g (below b.states.toNat) b.states) (List.mem_append_left _ (by rw [boGa,List.take_length];exact List.mem_map.2 ⟨g,hg,rfl⟩)) n
   exact ⟨i,hi,(hget bel h).1⟩
  ·obtain ⟨i,hi,h⟩:=q2 (prs (below a.states.toNat) g b.states) (List.mem_append_right _ (by rw [boGb,List.take_length];exact List.mem_map.2 ⟨g,hg,rfl⟩)) n
   exact ⟨i,hi,(hget (hgb g hg) h).2⟩
 ·rintro ⟨⟨q,q0,q1,q2⟩,⟨r,r0,r1,r2⟩⟩
  refine ⟨fun i=>q i*b.states.toNat+r i,hput q0 r0,fun i=>stepA_bo2 fa fb (q1 i) (r1 i),fun g hg n=>?_⟩
  rcases List.mem_append.1 (show g∈boGa a b a.goals.length++boGb a b b.goals.length from hg) with h | h
  ·rw [boGa,List.take_length] at h
   obtain ⟨g,hg0,rfl⟩:=List.mem_map.1 h
   obtain ⟨i,hi,hm⟩:=q2 g hg0 n
   exact ⟨i,hi,hput hm (below_mem'.2 ⟨by omega,by have:=(stepA_lt fb (r1 i)).1;omega⟩)⟩
  ·rw [boGb,List.take_length] at h
   obtain ⟨g,hg0,rfl⟩:=List.mem_map.1 h
   obtain ⟨i,hi,hm⟩:=r2 g hg0 n
   exact ⟨i,hi,hput (below_mem'.2 ⟨by omega,by have:=(stepA_lt fa (q1 i)).1;omega⟩) hm⟩
theorem takes_bo {a b:Au} (ga:goodA a=true) (gb:goodA b=true) (gm:goodA (boT a b)=true) {s l:List Int} (hs:s.length≤24) (hl:1≤l.length∧l.length≤24):twF (wpA (boT a b) s l)=(twF (wpA a s l) && twF (wpA b s l)):=by
 rw [Bool.eq_iff_iff,Bool.and_eq_true,accR_iff gm hs hl,accR_iff ga hs hl,accR_iff gb hs hl]
 exact accR_bo ga gb _
end Go.Proofs.Ytohkciilfkhomaa
namespace Go.Proofs.Ytohkciilfkhomaa
open Go Go.Sep Go.Pt
attribute [local irreducible] CallT
theorem Both_impl (a b:Au) (sa:smAu a) (sb:smAu b) {H:Heap} {K:AV→Heap→Prop} (h:∀v G D,LAu (boR a b).1 v G D→New H G D→K (.tup [v,B (boR a b).2]) G):CallT Try.prog 14 [aAu a,aAu b] H K:=by
 refine CallT.fin ?_
 refine lend3 (St.nil H) W14_hb fun z1 z2 z3 G st=>?_
 refine W14_ok ?_;simp (maxSteps:=1000000) (disch:=first | assumption | (apply ν6;assumption)) only [W14,vz,vu,vv,eqS,eF_,↓c1_,↓c2_,tabs,reduceCtorEq,ι5,↓reduceIte,ν1,ν2,ν3,ν4,ν5,ι1,ι2,ι3,ι4]
 intro r2 hr2 r3 n3 hr3 r4 n4 n4' hr4
 replace st:=((st.cell hr2 [I a.states,Is a.first,Es a.edges,Ls a.goals]).cell (r:=r3) (by rw [Heap.set_other n3];exact hr3) [I b.states,Is b.first,Es b.edges,Ls b.goals]).cell (r:=r4) (by rw [Heap.set_other n4,Heap.set_other n4'];exact hr4) [I 0,.p .nil,.p .nil,.p .nil]
 generalize ((G.set r2 [I a.states,Is a.first,Es a.edges,Ls a.goals]).set r3 [I b.states,Is b.first,Es b.edges,Ls b.goals]).set r4 [I 0,.p .nil,.p .nil,.p .nil]=G1 at st ⊢
 clear hr2 hr3 n3 hr4 n4 n4'
 have bad:boR a b=(zeroA,false)→wkK K (.tup [zA,B false]) (G1.set r4 [I 0,.p .nil,.p .nil,.p .nil]):=fun er=>by
  rw [er] at h
  exact zero_st (st.put 0 rfl [I 0,.p .nil,.p .nil,.p .nil]) 3 4 5 rfl rfl rfl (by decide) (by decide) (by decide) h
 (try simp (maxSteps:=1000000) (disch:=first | assumption | (apply ν6;assumption)) only [vz,vu,vv,eqS,eF_,↓c1_,↓c2_,tabs,reduceCtorEq,ι5,↓reduceIte,ν1,ν2,ν3,ν4,ν5,ι1,ι2,ι3,ι4,lA_ (st.get 2 rfl)])
 refine Pu.use (GoodAuto_impl a sa) ?_
 cases ga:goodA a
 ·(try simp (maxSteps:=1000000) (disch:=first | assumption | (apply ν6;assumption)) only [vz,vu,vv,eqS,eF_,↓c1_,↓c2_,tabs,reduceCtorEq,ι5,↓reduceIte,ν1,ν2,ν3,ν4,ν5,ι1,ι2,ι3,ι4,sA_ (st.get 0 rfl)])
  exact bad (by simp [boR,ga])
 (try simp (maxSteps:=1000000) (disch:=first | assumption | (apply ν6;assumption)) only [vz,vu,vv,eqS,eF_,↓c1_,↓c2_,tabs,reduceCtorEq,ι5,↓reduceIte,ν1,ν2,ν3,ν4,ν5,ι1,ι2,ι3,ι4,lA_ (st.get 1 rfl)])
 refine Pu.use (GoodAuto_impl b sb) ?_
 cases gb:goodA b
 ·(try simp (maxSteps:=1000000) (disch:=first | assumption | (apply ν6;assumption)) only [vz,vu,vv,eqS,eF_,↓c1_,↓c2_,tabs,reduceCtorEq,ι5,↓reduceIte,ν1,ν2,ν3,ν4,ν5,ι1,ι2,ι3,ι4,sA_ (st.get 0 rfl)])
  exact bad (by simp [boR,ga,gb])
 have fa:=good_facts ga
 have fb:=good_facts gb
 have hsa:=fa.st
 have hsb:=fb.st
 have hm:=mul_bd (a:=a.states) (A:=96) (b:=b.states) (B:=96) (by omega) (by omega)
 have e0:IntKind.i64.wrap (a.states*b.states)=a.states*b.states:=i6_ (by omega) (by omega)
 (try simp (maxSteps:=1000000) (disch:=first | assumption | (apply ν6;assumption)) only [vz,vu,vv,eqS,eF_,↓c1_,↓c2_,tabs,reduceCtorEq,ι5,↓reduceIte,ν1,ν2,ν3,ν4,ν5,ι1,ι2,ι3,ι4,lA_ (st.get 2 rfl),lA_ (st.get 1 rfl),e0,sA_ (st.get 0 rfl)])
 refine ⟨fun h1=>bad (by simp [boR,ga,gb];omega),fun h1=>?_⟩
 have hN:a.states*b.states≤96:=by omega
 have hsm:=boT_sm ga gb hN
 have er:boR a b=if goodA (boT a b) then (boT a b,true) else (zeroA,false):=by simp [boR,ga,gb,hN]
 refine both_live ga gb fun v G2 D lv nv=>?_
 rw [er] at bad h
 generalize boT a b=o at h bad lv hsm
 replace st:=st.push (auT o v D) nv lv
 refine checkedAuto_live (o:=o) (st.get 0 rfl) (st.ndT 0 rfl) hsm (fun hg=>?_) (fun hg=>?_)
 ·obtain ⟨o1,o2,o3,rfl⟩:=aAu_cells lv
  simp only [hg,if_true] at h
  (try simp (maxSteps:=1000000) (disch:=first | assumption | (apply ν6;assumption)) only [vz,vu,vv,eqS,eF_,↓c1_,↓c2_,tabs,reduceCtorEq,ι5,↓reduceIte,ν1,ν2,ν3,ν4,ν5,ι1,ι2,ι3,ι4,sA_ (st.get 1 rfl)])
  obtain ⟨hl,hn⟩:=au_new (st.put 1 rfl [I o.states,.sl o1 1 0 o.first.length,.sl o2 3 0 o.edges.length,.sl o3 1 0 o.goals.length]) 0 rfl
  exact wkK.keep (h _ _ _ hl hn)
 ·simp only [hg,Bool.false_eq_true,if_false] at h
  (try simp (maxSteps:=1000000) (disch:=first | assumption | (apply ν6;assumption)) only [vz,vu,vv,eqS,eF_,↓c1_,↓c2_,tabs,reduceCtorEq,ι5,↓reduceIte,ν1,ν2,ν3,ν4,ν5,ι1,ι2,ι3,ι4,sA_ (st.get 1 rfl)])
  exact zero_st (st.put 1 rfl [I 0,.p .nil,.p .nil,.p .nil]) 4 5 6 rfl rfl rfl (by decide) (by decide) (by decide) h
theorem l11List_spec (bs:List Bool) (hl:bs.length≤100000):Pu Try.prog 64 [Bls bs] (Is (gw bs.length fun k=>bs.getD k default)):=by
 refine ⟨fun H=>CallT.fin ?_⟩
 refine CallT.ghost W64_hb fun q0 hq0=>?_
 refine W64_ok ?_;simp (maxSteps:=1000000) (disch:=first | assumption | (apply ν6;assumption)) only [W64,vz,vu,vv,eqS,eF_,↓c1_,↓c2_,tabs,reduceCtorEq,ι5,↓reduceIte,ν1,ν2,ν3,ν4,ν5,ι1,ι2,ι3,ι4]
 refine L64_0_rule ((0:Nat),q0) (fun s=>rowP s.2 (gw s.1 fun k=>bs.getD k default)) (fun s=>I s.1) (fun s=>H.set s.2 (cP fI (gw s.1 fun k=>bs.getD k default))) (fun s=>s.1≤bs.length∧H s.2=none) (fun s=>bs.length - s.1) ⟨⟨by simp,hq0⟩,.nilo _ _ _,.refl _,Heap.le_refl _⟩ ?_
 rintro ⟨i,q⟩ ⟨hi,hq⟩
 dsimp only at hi hq
 have hml:=gw_len i fun k=>bs.getD k default
 have hsucc:=gw_succ i fun k=>bs.getD k default
 (try simp (maxSteps:=1000000) (disch:=first | assumption | (apply ν6;assumption)) only [vz,vu,vv,eqS,eF_,↓c1_,↓c2_,tabs,reduceCtorEq,ι5,↓reduceIte,ν1,ν2,ν3,ν4,ν5,ι1,ι2,ι3,ι4,B64_0])
 refine ⟨fun h1=>⟨by omega,h1,?_⟩,fun h1=>?_⟩
 ·have e5:IntKind.i64.wrap ((i:Int)+1)=((i+1:Nat):Int):=by rw [i6_ (by omega) (by omega)];simp
  generalize bs.getD i default=c at hsucc ⊢
  (try simp (maxSteps:=1000000) (disch:=first | assumption | (apply ν6;assumption)) only [vz,vu,vv,eqS,eF_,↓c1_,↓c2_,tabs,reduceCtorEq,ι5,↓reduceIte,ν1,ν2,ν3,ν4,ν5,ι1,ι2,ι3,ι4,e5])
  cases c
  ·rw [if_neg (by decide)] at hsucc
   (try simp (maxSteps:=1000000) (disch:=first | assumption | (apply ν6;assumption)) only [vz,vu,vv,eqS,eF_,↓c1_,↓c2_,tabs,reduceCtorEq,ι5,↓reduceIte,ν1,ν2,ν3,ν4,ν5,ι1,ι2,ι3,ι4,e5])
   exact ⟨(i+1,q),⟨by simp only;omega,hq⟩,by simp only;omega,by rw [hsucc];exact .refl _,.refl _,by rw [hsucc];exact Heap.le_refl _⟩
  ·rw [if_pos rfl] at hsucc
   (try simp (maxSteps:=1000000) (disch:=first | assumption | (apply ν6;assumption)) only [vz,vu,vv,eqS,eF_,↓c1_,↓c2_,tabs,reduceCtorEq,ι5,↓reduceIte,ν1,ν2,ν3,ν4,ν5,ι1,ι2,ι3,ι4,e5])
   refine push_topI hq (by omega) fun q' hq'=>?_
   rw [← hsucc]
   (try simp (maxSteps:=1000000) (disch:=first | assumption | (apply ν6;assumption)) only [vz,vu,vv,eqS,eF_,↓c1_,↓c2_,tabs,reduceCtorEq,ι5,↓reduceIte,ν1,ν2,ν3,ν4,ν5,ι1,ι2,ι3,ι4,e5])
   exact ⟨(i+1,q'),⟨by simp only;omega,hq'⟩,by simp only;omega,.refl _,.refl _,Heap.le_refl _⟩
 ·have:i=bs.length:=by omega
  subst this
  exact fin_int hq (Heap.le_refl _)
theorem l12Pairs_row (us vs:List Int) (m:Int) (hu:smI us) (hv:smI vs) (hul:us.length≤96) (hvl:vs.length≤96) (hm:0≤m∧m≤96) {H:Heap} {K:AV→Heap→Prop} (h:∀q,H q=none→K (rowP q (prs us vs m)) (H.set q (cP fI (prs us vs m)))):CallT Try.prog 39 [Is us,Is vs,I m] H K:=by
 refine CallT.fin ?_
 refine CallT.ghost W39_hb fun q0 hq0=>?_
 refine W39_ok ?_;simp (maxSteps:=1000000) (disch:=first | assumption | (apply ν6;assumption)) only [W39,vz,vu,vv,eqS,eF_,↓c1_,↓c2_,tabs,reduceCtorEq,ι5,↓reduceIte,ν1,ν2,ν3,ν4,ν5,ι1,ι2,ι3,ι4]
 refine L39_0_rule ((0:Nat),q0) (fun s=>rowP s.2 (prs (us.take s.1) vs m)) (fun s=>I s.1) (fun s=>H.set s.2 (cP fI (prs (us.take s.1) vs m))) (fun s=>s.1≤us.length∧H s.2=none) (fun s=>us.length - s.1) ⟨⟨by simp,hq0⟩,.nilo _ _ _,.refl _,by simpa [prs,cP] using Heap.le_refl _⟩ ?_
 rintro ⟨i,q⟩ ⟨hi,hq⟩
 dsimp only at hi hq
 have hpl:=prs_len (us.take i) vs m
 rw [List.length_take,Nat.min_eq_left hi] at hpl
 have hml:i*vs.length≤96*96:=Nat.mul_le_mul (by omega) (by omega)
 (try simp (maxSteps:=1000000) (disch:=first | assumption | (apply ν6;assumption)) only [vz,vu,vv,eqS,eF_,↓c1_,↓c2_,tabs,reduceCtorEq,ι5,↓reduceIte,ν1,ν2,ν3,ν4,ν5,ι1,ι2,ι3,ι4,B39_0])
 refine ⟨fun h1=>⟨by omega,h1,?_⟩,fun h1=>?_⟩
 ·have hlti:i < us.length:=by omega
  have hps:=prs_succ us vs m hlti
  have hx:=getD_all (p:=fun x=>0≤x∧x≤100000) (d:=default) hu.2 hlti
  generalize us.getD i default=e at hps hx ⊢
  refine L39_1_rule ((0:Nat),q) (fun s=>rowP s.2 (prs (us.take i) vs m++(vs.take s.1).map fun j=>e*m+j)) (fun s=>I s.1) (fun s=>H.set s.2 (cP fI (prs (us.take i) vs m++(vs.take s.1).map fun j=>e*m+j))) (fun s=>s.1≤vs.length∧H s.2=none) (fun s=>vs.length - s.1) ⟨⟨by simp,hq⟩,by simp;exact .refl _,.refl _,by simpa using Heap.le_refl _⟩ ?_
  clear hq
  rintro ⟨j,q⟩ ⟨hj,hq⟩
  dsimp only at hj hq
  (try simp (maxSteps:=1000000) (disch:=first | assumption | (apply ν6;assumption)) only [vz,vu,vv,eqS,eF_,↓c1_,↓c2_,tabs,reduceCtorEq,ι5,↓reduceIte,ν1,ν2,ν3,ν4,ν5,ι1,ι2,ι3,ι4,B39_1])
  refine ⟨fun h2=>⟨by omega,h2,?_⟩,fun h2=>?_⟩
  ·have hltj:j < vs.length:=by omega
   have hy:=getD_all (p:=fun x=>0≤x∧x≤100000) (d:=default) hv.2 hltj
   have ht:(vs.take (j+1)).map (fun j=>e*m+j)=(vs.take j).map (fun j=>e*m+j)++[e*m+vs.getD j default]:=by
    rw [tS_ hltj,List.map_append];rfl
   have hlt:((vs.take j).map fun j=>e*m+j).length≤96:=by rw [List.length_map,List.length_take];omega
   generalize vs.getD j default=f at hy ht ⊢
   have m1:=mul_bd (a:=e) (A:=100000) (b:=m) (B:=96) (by omega) (by omega)
   have e1:IntKind.i64.wrap (e*m)=e*m:=i6_ (by omega) (by omega)
   have e2:IntKind.i64.wrap (e*m+f)=e*m+f:=i6_ (by omega) (by omega)
   have e3:IntKind.i64.wrap ((j:Int)+1)=((j+1:Nat):Int):=by rw [i6_ (by omega) (by omega)];simp
   (try simp (maxSteps:=1000000) (disch:=first | assumption | (apply ν6;assumption)) only [vz,vu,vv,eqS,eF_,↓c1_,↓c2_,tabs,reduceCtorEq,ι5,↓reduceIte,ν1,ν2,ν3,ν4,ν5,ι1,ι2,ι3,ι4,e1,e2,e3])
   refine push_topI hq (by rw [List.length_append];omega) fun q' hq'=>?_
   rw [List.append_assoc,← ht]
   exact ⟨(j+1,q'),⟨by simp only;omega,hq'⟩,by simp only;omega,.refl _,.refl _,Heap.le_refl _⟩
  ·have:j=vs.length:=by omega
   subst this
   rw [List.take_length,← hps]
   have e3:IntKind.i64.wrap ((i:Int)+1)=((i+1:Nat):Int):=by rw [i6_ (by omega) (by omega)];simp
   (try simp (maxSteps:=1000000) (disch:=first | assumption | (apply ν6;assumption)) only [vz,vu,vv,eqS,eF_,↓c1_,↓c2_,tabs,reduceCtorEq,ι5,↓reduceIte,ν1,ν2,ν3,ν4,ν5,ι1,ι2,ι3,ι4,e3])
   exact ⟨(i+1,q),⟨by simp only;omega,hq⟩,by simp only;omega,.refl _,.refl _,Heap.le_refl _⟩
 ·have:i=us.length:=by omega
  subst this
  rw [List.take_length]
  exact wkK.keep (h q hq)
theorem l12Pairs_spec (us vs:List Int) (m:Int) (hu:smI us) (hv:smI vs) (hul:us.length≤96) (hvl:vs.length≤96) (hm:0≤m∧m≤96):Pu Try.prog 39 [Is us,Is vs,I m] (Is (prs us vs m)):=
 ⟨fun H=>CallT.fin (l12Pairs_row us vs m hu hv hul hvl hm fun q hq=>fin_int hq (Heap.le_refl _))⟩
theorem l12Step_spec (a:Au) (sa:smAu a) (fa:GoodF a) (s l:Int) (hs:0≤s∧s < a.states):Pu Try.prog 40 [aAu a,Is [s],I l] (Is (stp a.states a.edges s l)):=by
 refine ⟨fun H=>CallT.fin ?_⟩
 have hst:=fa.st
 have hed:=fa.ed
 refine W40_ok ?_;simp (maxSteps:=1000000) (disch:=first | assumption | (apply ν6;assumption)) only [W40,vz,vu,vv,eqS,eF_,↓c1_,↓c2_,tabs,reduceCtorEq,ι5,↓reduceIte,ν1,ν2,ν3,ν4,ν5,ι1,ι2,ι3,ι4]
 intro r hr
 have st:=(St.nil H).cell hr [I a.states,Is a.first,Es a.edges,Ls a.goals]
 generalize H.set r [I a.states,Is a.first,Es a.edges,Ls a.goals]=G at st ⊢
 (try simp (maxSteps:=1000000) (disch:=first | assumption | (apply ν6;assumption)) only [vz,vu,vv,eqS,eF_,↓c1_,↓c2_,tabs,reduceCtorEq,ι5,↓reduceIte,ν1,ν2,ν3,ν4,ν5,ι1,ι2,ι3,ι4,lA_ (st.get 0 rfl),mS_])
 refine ⟨by omega,by omega,by omega,by omega,fun q hq=>?_⟩
 replace st:=st.cell hq (zA_ a.states.toNat [B false])
 generalize G.set q (zA_ a.states.toNat [B false])=G1 at st ⊢
 rw [cB_zero] at st
 (try simp (maxSteps:=1000000) (disch:=first | assumption | (apply ν6;assumption)) only [vz,vu,vv,eqS,eF_,↓c1_,↓c2_,tabs,reduceCtorEq,ι5,↓reduceIte,ν1,ν2,ν3,ν4,ν5,ι1,ι2,ι3,ι4,lA_ (st.get 1 rfl)])
 obtain ⟨n,hn⟩:∃n:Nat,a.states=n:=⟨a.states.toNat,by omega⟩
 rw [show (I a.states:AV)=I (n:Int) from congrArg (fun x:Int=>I x) hn]
 refine l11Marks_row n [s] (by omega) (by simp) (fun x hx=>by rw [List.mem_singleton] at hx;omega) fun qf G2 nf hf=>?_
 replace st:=st.push (cT_ qf _) nf hf
 (try simp (maxSteps:=1000000) (disch:=first | assumption | (apply ν6;assumption)) only [vz,vu,vv,eqS,eF_,↓c1_,↓c2_,tabs,reduceCtorEq,ι5,↓reduceIte,ν1,ν2,ν3,ν4,ν5,ι1,ι2,ι3,ι4,lA_ (st.get 2 rfl)])
 obtain ⟨p,hp⟩:∃p:Ed→Nat→Bool,p=fun (e:Ed) (t:Nat)=>decide (e.lt=l) && (decide (e.src=s) && decide (e.dst=(t:Int))):=⟨_,rfl⟩
 obtain ⟨fr,hfr⟩:∃fr,fr=anyP [s] (fun x t=>decide (x=(t:Int))) [s].length n:=⟨_,rfl⟩
 rw [← hfr] at st
 have hn':a.states.toNat=n:=by omega
 rw [hn'] at st ⊢
 refine L40_0_rule ((0:Nat),G2) (fun s=>I s.1) (fun s=>s.2) (fun s=>s.1≤a.edges.length∧St H [cT_ qf (cP fB fr),cT_ q (cP fB (anyP a.edges p s.1 n)),cT_ r [I a.states,Is a.first,Es a.edges,Ls a.goals]] s.2) (fun s=>a.edges.length - s.1) ⟨⟨by simp,by simpa [anyP] using st⟩,.refl _,Heap.le_refl _⟩ ?_
 clear st hf nf
 rintro ⟨i,G⟩ ⟨hi,st⟩
 dsimp only at hi st
 (try simp (maxSteps:=1000000) (disch:=first | assumption | (apply ν6;assumption)) only [vz,vu,vv,eqS,eF_,↓c1_,↓c2_,tabs,reduceCtorEq,ι5,↓reduceIte,ν1,ν2,ν3,ν4,ν5,ι1,ι2,ι3,ι4,B40_0])
 refine ⟨fun h1=>⟨by omega,h1,?_⟩,fun h1=>?_⟩
 ·have hlti:i < a.edges.length:=by omega
  have hei:=edIn_iff.1 (fa.ei _ (getD_all (p:=fun x=>x∈a.edges) (d:=default) (fun _ h=>h) hlti))
  have hsucc:=anyP_succ a.edges p (n:=n) hlti
  generalize a.edges.getD i default=e at hei hsucc ⊢
  intro r10 hr10
  replace st:=st.cell hr10 [I e.src,I e.lt,I e.dst]
  generalize G.set r10 [I e.src,I e.lt,I e.dst]=G3 at st ⊢
  clear hr10
  have hfl:fr.length=n:=by rw [hfr];exact anyP_len ..
  have hrd:=mapB_rd (l:=fr) (i:=e.src.toNat) (by omega)
  have hfg:fr.getD e.src.toNat default=decide (s=e.src):=by
   rw [hfr,anyP_get _ _ _ (by omega)]
   have:((e.src.toNat:Nat):Int)=e.src:=by omega
   simp [this]
  rw [hfg] at hrd
  have hlen:=anyP_len a.edges p i n
  have hset:=cB_set (l:=anyP a.edges p i n) (t:=e.dst.toNat) (by omega) true
  have hms:e.lt=l→s=e.src→(anyP a.edges p i n).set e.dst.toNat true=anyP a.edges p (i+1) n:=fun c1 c2=>by
   rw [hsucc]
   unfold anyP
   rw [mapB_set]
   congr 1
   funext t
   congr 1
   rw [hp]
   simp only [c1,c2,decide_true,Bool.true_and]
   rw [decide_eq_decide]
   omega
  have hno:¬(e.lt=l∧s=e.src)→anyP a.edges p (i+1) n=anyP a.edges p i n:=fun c=>by
   rw [hsucc]
   unfold anyP
   congr 1
   funext t
   have:p e t=false:=by
    rw [hp]
    by_cases c1:e.lt=l
    ·have:¬e.src=s:=fun h=>c ⟨c1,h.symm⟩
     simp [this]
    ·simp [c1]
   rw [this,Bool.false_or]
  have e3:IntKind.i64.wrap ((i:Int)+1)=((i+1:Nat):Int):=by rw [i6_ (by omega) (by omega)];simp
  (try simp (maxSteps:=1000000) (disch:=first | assumption | (apply ν6;assumption)) only [vz,vu,vv,eqS,eF_,↓c1_,↓c2_,tabs,reduceCtorEq,ι5,↓reduceIte,ν1,ν2,ν3,ν4,ν5,ι1,ι2,ι3,ι4,lA_ (st.get 0 rfl),lA_ (st.get 1 rfl),sA_ (st.get 2 rfl),hrd,hset,e3])
  have keep:¬(e.lt=l∧s=e.src)→∃s':Nat×Heap,(s'.1≤a.edges.length∧St H [cT_ qf (cP fB fr),cT_ q (cP fB (anyP a.edges p s'.1 n)),cT_ r [I a.states,Is a.first,Es a.edges,Ls a.goals]] s'.2)∧a.edges.length - s'.1 < a.edges.length - i∧AV.wk (I ((i+1:Nat):Int)) (I s'.1)∧Heap.le s'.2 G3:=fun c=>
   ⟨(i+1,G3),⟨by simp only;omega,by rw [hno c];exact st.drop⟩,by simp only;omega,.refl _,Heap.le_refl _⟩
  refine ⟨fun c1=>⟨hei.1.1,by omega,by omega,fun c2=>⟨by omega,by omega,by omega,?_⟩,fun c2=>keep fun c=>c2 c.2⟩,fun c1=>keep fun c=>c1 c.1⟩
  rw [hms c1 c2]
  exact ⟨(i+1,G3.set q (cP fB (anyP a.edges p (i+1) n))),⟨by simp only;omega,(st.put 2 rfl (cP fB (anyP a.edges p (i+1) n))).drop⟩,by simp only;omega,.refl _,Heap.le_refl _⟩
 ·have:i=a.edges.length:=by omega
  subst this
  have w:Wk (.tup [rowP q (anyP a.edges p a.edges.length n)]) G (.tup [Bls (anyP a.edges p a.edges.length n)]) (G.del q):=wkB (st.get 1 rfl) (fun v=>.tup [v]) (fun h=>.tup (.cons h .nil))
  rw [show (AV.tup [rowP q (anyP a.edges p a.edges.length n)])=.tup [.sl q 1 0 n] from by rw [rowP,anyP_len]] at w
  refine CallT.pre ?_ w
  refine Pu.use (l11List_spec _ (by rw [anyP_len];omega)) ?_
  have e9:gw (anyP a.edges p a.edges.length n).length (fun k=>(anyP a.edges p a.edges.length n).getD k default)=stp a.states a.edges s l:=by
   rw [anyP_len]
   unfold gw stp below
   rw [List.filter_map,hn']
   congr 1
   apply List.filter_congr
   intro k hk
   rw [List.mem_range] at hk
   rw [anyP_get _ _ _ hk,List.take_length,hp]
   rfl
  rw [e9]
  refine ⟨_,_,.forget (H':=H) fun y b hb=>?_,rfl,rfl⟩
  have:y≠q:=fun e=>by
   have:=st.fr _ (List.mem_of_getElem? (i:=1) rfl) q (by simp [cT_])
   rw [← e,hb] at this;cases this
  rw [Heap.del_other this]
  exact st.le y b hb
end Go.Proofs.Ytohkciilfkhomaa
namespace Go.Proofs.Ytohkciilfkhomaa
open Go Go.Sep Go.Pt
attribute [local irreducible] CallT
theorem below_sm {n:Nat} (h:n≤96):smI (below n)∧(below n).length≤96:=by
 refine ⟨⟨by rw [below_len];omega,fun x hx=>?_⟩,by rw [below_len];exact h⟩
 have:=below_mem.1 hx
 omega
theorem stp_sm {n:Int} (es:List Ed) (s l:Int) (h:1≤n∧n≤96):smI (stp n es s l)∧(stp n es s l).length≤96:=by
 have h1:=stp_len n es s l
 refine ⟨⟨by omega,fun x hx=>?_⟩,by omega⟩
 have:=(stp_mem.1 hx).1
 omega
abbrev uTs (u1 u2 u3:Nat):List Th:=[riT u1 (.p .nil) [] [u1],reT u2 (.p .nil) [] [u2],rgT u3 (.p .nil) [] [u3]]
section
variable {a b:Au} {r2 r3 r4 r6 z1 z2 z3 u1 u2 u3:Nat} {H:Heap} {K:AV→Heap→Prop} {l:List Int}
theorem ref_st4 (fa:GoodF a) (fb:GoodF b) {x y w:AV} {es:List Ed} {D1 D2 D3:List Nat} {G:Heap} (o:Au) (ho:o=⟨a.states*b.states,l,es,boGa a b a.goals.length++boGb a b b.goals.length⟩) (st:St H (bTs a b r2 r3 r4 r6 z1 z2 z3 x y w l es (boGa a b a.goals.length) D1 D2 D3++uTs u1 u2 u3) G)
  (hsm:smAu o) (h:∀v G D,LAu (if goodA o then o else zeroA) v G D→New H G D→K (.tup [v,B (goodA o)]) G) :
  L15_4 (wkK K) (.ptr r2 0) (.ptr r3 0) (.ptr r4 0) (.ptr r6 0) (Ls b.goals) (I b.goals.length) (I 0) G:=by
 have hgl:=fb.gl
 have hsa:=fa.st
 have hsb:=fb.st
 have hga:=boGa_len a b a.goals.length
 have hgla:=fa.gl
 refine L15_4_rule ((0:Nat),w,D3,G) (fun s=>I s.1) (fun s=>s.2.2.2) (fun s=>s.1≤b.goals.length∧St H (bTs a b r2 r3 r4 r6 z1 z2 z3 x y s.2.1 l es (boGa a b a.goals.length++boGb a b s.1) D1 D2 s.2.2.1++uTs u1 u2 u3) s.2.2.2) (fun s=>b.goals.length - s.1)
  ⟨⟨by simp,by simpa [boGb] using st⟩,.refl _,Heap.le_refl _⟩ ?_
 clear st w D3
 rintro ⟨k,w,D3,G⟩ ⟨hk,st⟩
 dsimp only at hk st
 have hgb:=boGb_len a b k
 (try simp (maxSteps:=1000000) (disch:=first | assumption | (apply ν6;assumption)) only [vz,vu,vv,eqS,eF_,↓c1_,↓c2_,tabs,reduceCtorEq,ι5,↓reduceIte,ν1,ν2,ν3,ν4,ν5,ι1,ι2,ι3,ι4,B15_4])
 refine ⟨fun h1=>⟨by omega,h1,?_⟩,fun h1=>?_⟩
 ·have hltk:k < b.goals.length:=by omega
  have hgk:=getD_all (p:=fun x=>smI x∧x.length≤96) (d:=default) fb.gi hltk
  have hsucc:=boGb_succ a b hltk
  generalize b.goals.getD k default=gk at hgk hsucc ⊢
  obtain ⟨n,hn⟩:∃n:Nat,a.states=n:=⟨a.states.toNat,by omega⟩
  have hn':a.states.toNat=n:=by omega
  have hbs:=below_sm (n:=n) (by omega)
  have e3:IntKind.i64.wrap ((k:Int)+1)=((k+1:Nat):Int):=by rw [i6_ (by omega) (by omega)];simp
  have hall:=l12All_spec n (by omega)
  rw [← hn] at hall
  (try simp (maxSteps:=1000000) (disch:=first | assumption | (apply ν6;assumption)) only [vz,vu,vv,eqS,eF_,↓c1_,↓c2_,tabs,reduceCtorEq,ι5,↓reduceIte,ν1,ν2,ν3,ν4,ν5,ι1,ι2,ι3,ι4,lA_ (st.get 0 rfl),lA_ (st.get 2 rfl),lA_ (st.get 3 rfl),e3])
  refine Pu.use hall ?_
  (try simp (maxSteps:=1000000) (disch:=first | assumption | (apply ν6;assumption)) only [vz,vu,vv,eqS,eF_,↓c1_,↓c2_,tabs,reduceCtorEq,ι5,↓reduceIte,ν1,ν2,ν3,ν4,ν5,ι1,ι2,ι3,ι4,lA_ (st.get 0 rfl),lA_ (st.get 2 rfl),lA_ (st.get 3 rfl),e3])
  refine l12Pairs_row (below n) gk b.states hbs.1 hgk.1 hbs.2 hgk.2 (by omega) fun qn hqn=>?_
  rw [hn'] at hsucc
  replace st:=st.cell hqn (cP fI (prs (below n) gk b.states))
  generalize G.set qn (cP fI (prs (below n) gk b.states))=G2 at st ⊢
  (try simp (maxSteps:=1000000) (disch:=first | assumption | (apply ν6;assumption)) only [vz,vu,vv,eqS,eF_,↓c1_,↓c2_,tabs,reduceCtorEq,ι5,↓reduceIte,ν1,ν2,ν3,ν4,ν5,ι1,ι2,ι3,ι4,lA_ (st.get 1 rfl)])
  refine lit_live1 fun ql hql=>?_
  replace st:=st.cell hql [rowP qn (prs (below n) gk b.states)]
  generalize G2.set ql [.sl qn 1 0 (prs (below n) gk b.states).length]=G4 at st ⊢
  (try simp (maxSteps:=1000000) (disch:=first | assumption | (apply ν6;assumption)) only [vz,vu,vv,eqS,eF_,↓c1_,↓c2_,tabs,reduceCtorEq,ι5,↓reduceIte,ν1,ν2,ν3,ν4,ν5,ι1,ι2,ι3,ι4,lA_ (st.get 2 rfl)])
  refine rz_pushL st 6 rfl (by rw [List.length_append];omega) fun q' D' G5 hq' st=>?_
  rw [List.append_assoc,← hsucc] at st
  (try simp (maxSteps:=1000000) (disch:=first | assumption | (apply ν6;assumption)) only [vz,vu,vv,eqS,eF_,↓c1_,↓c2_,tabs,reduceCtorEq,ι5,↓reduceIte,ν1,ν2,ν3,ν4,ν5,ι1,ι2,ι3,ι4,sA_ (st.get 0 rfl)])
  exact ⟨(k+1,_,D',_),⟨by simp only;omega,st.put 0 rfl [I (a.states*b.states),x,y,.sl q' 1 0 ((boGa a b a.goals.length++boGb a b k).length+1)]⟩,by simp only;omega,.refl _,by first | exact Heap.le_refl _ | (rw [List.length_append];exact Heap.le_refl _)⟩
 ·have:k=b.goals.length:=by omega
  subst this
  obtain ⟨v1,v2,v3,hw,st⟩:=rz_au (a.states*b.states) (((st.pick 4 rfl).pick 5 rfl).pick 6 rfl)
  (try simp (maxSteps:=1000000) (disch:=first | assumption | (apply ν6;assumption)) only [vz,vu,vv,eqS,eF_,↓c1_,↓c2_,tabs,reduceCtorEq,ι5,↓reduceIte,ν1,ν2,ν3,ν4,ν5,ι1,ι2,ι3,ι4,lA_ (st.get 1 rfl)])
  rw [← ho] at st
  refine CallT.args (args':=[.agg [I (a.states*b.states),.sl v1 1 0 l.length,.sl v2 3 0 es.length,.sl v3 1 0 (boGa a b a.goals.length++boGb a b b.goals.length).length]]) ?_ ⟨hw,trivial⟩
  refine l12Made_live (o:=o) (st.get 0 rfl) (st.ndT 0 rfl) hsm (fun hgo=>?_) (fun hgo=>?_)
  ·rw [if_pos hgo,hgo] at h
   (try simp (maxSteps:=1000000) (disch:=first | assumption | (apply ν6;assumption)) only [vz,vu,vv,eqS,eF_,↓c1_,↓c2_,tabs,reduceCtorEq,ι5,↓reduceIte,ν1,ν2,ν3,ν4,ν5,ι1,ι2,ι3,ι4,sA_ (st.get 2 rfl)])
   obtain ⟨hl,hn⟩:=au_new (st.put 2 rfl [I (a.states*b.states),.sl v1 1 0 l.length,.sl v2 3 0 es.length,.sl v3 1 0 (boGa a b a.goals.length++boGb a b b.goals.length).length]) 0 rfl
   have:=h _ _ _ hl hn
   simp only [List.length_append] at this ⊢
   exact wkK.keep this
  ·rw [if_neg (by rw [hgo];decide),hgo] at h
   (try simp (maxSteps:=1000000) (disch:=first | assumption | (apply ν6;assumption)) only [vz,vu,vv,eqS,eF_,↓c1_,↓c2_,tabs,reduceCtorEq,ι5,↓reduceIte,ν1,ν2,ν3,ν4,ν5,ι1,ι2,ι3,ι4,sA_ (st.get 2 rfl)])
   exact zero_st (st.put 2 rfl [I 0,.p .nil,.p .nil,.p .nil]) 5 6 7 rfl rfl rfl (by decide) (by decide) (by decide) h
theorem ref_st3 (fa:GoodF a) (fb:GoodF b) {x y w:AV} {es:List Ed} {D1 D2 D3:List Nat} {G:Heap} (o:Au) (ho:o=⟨a.states*b.states,l,es,boGa a b a.goals.length++boGb a b b.goals.length⟩) (st:St H (bTs a b r2 r3 r4 r6 z1 z2 z3 x y w l es [] D1 D2 D3++uTs u1 u2 u3) G)
  (hsm:smAu o) (h:∀v G D,LAu (if goodA o then o else zeroA) v G D→New H G D→K (.tup [v,B (goodA o)]) G) :
  L15_3 (wkK K) (.ptr r2 0) (.ptr r3 0) (.ptr r4 0) (.ptr r6 0) (Ls a.goals) (I a.goals.length) (I 0) G:=by
 have hgl:=fa.gl
 have hsa:=fa.st
 have hsb:=fb.st
 refine L15_3_rule ((0:Nat),w,D3,G) (fun s=>I s.1) (fun s=>s.2.2.2) (fun s=>s.1≤a.goals.length∧St H (bTs a b r2 r3 r4 r6 z1 z2 z3 x y s.2.1 l es (boGa a b s.1) D1 D2 s.2.2.1++uTs u1 u2 u3) s.2.2.2) (fun s=>a.goals.length - s.1)
  ⟨⟨by simp,by simpa [boGa] using st⟩,.refl _,Heap.le_refl _⟩ ?_
 clear st w D3
 rintro ⟨k,w,D3,G⟩ ⟨hk,st⟩
 dsimp only at hk st
 have hgb:=boGa_len a b k
 (try simp (maxSteps:=1000000) (disch:=first | assumption | (apply ν6;assumption)) only [vz,vu,vv,eqS,eF_,↓c1_,↓c2_,tabs,reduceCtorEq,ι5,↓reduceIte,ν1,ν2,ν3,ν4,ν5,ι1,ι2,ι3,ι4,B15_3])
 refine ⟨fun h1=>⟨by omega,h1,?_⟩,fun h1=>?_⟩
 ·have hltk:k < a.goals.length:=by omega
  have hgk:=getD_all (p:=fun x=>smI x∧x.length≤96) (d:=default) fa.gi hltk
  have hsucc:=boGa_succ a b hltk
  generalize a.goals.getD k default=gk at hgk hsucc ⊢
  obtain ⟨n,hn⟩:∃n:Nat,b.states=n:=⟨b.states.toNat,by omega⟩
  have hn':b.states.toNat=n:=by omega
  have hbs:=below_sm (n:=n) (by omega)
  have e3:IntKind.i64.wrap ((k:Int)+1)=((k+1:Nat):Int):=by rw [i6_ (by omega) (by omega)];simp
  have hall:=l12All_spec n (by omega)
  rw [← hn] at hall
  (try simp (maxSteps:=1000000) (disch:=first | assumption | (apply ν6;assumption)) only [vz,vu,vv,eqS,eF_,↓c1_,↓c2_,tabs,reduceCtorEq,ι5,↓reduceIte,ν1,ν2,ν3,ν4,ν5,ι1,ι2,ι3,ι4,lA_ (st.get 0 rfl),lA_ (st.get 2 rfl),lA_ (st.get 3 rfl),e3])
  refine Pu.use hall ?_
  (try simp (maxSteps:=1000000) (disch:=first | assumption | (apply ν6;assumption)) only [vz,vu,vv,eqS,eF_,↓c1_,↓c2_,tabs,reduceCtorEq,ι5,↓reduceIte,ν1,ν2,ν3,ν4,ν5,ι1,ι2,ι3,ι4,lA_ (st.get 0 rfl),lA_ (st.get 2 rfl),lA_ (st.get 3 rfl),e3])
  refine l12Pairs_row gk (below n) b.states hgk.1 hbs.1 hgk.2 hbs.2 (by omega) fun qn hqn=>?_
  rw [hn'] at hsucc
  replace st:=st.cell hqn (cP fI (prs gk (below n) b.states))
  generalize G.set qn (cP fI (prs gk (below n) b.states))=G2 at st ⊢
  (try simp (maxSteps:=1000000) (disch:=first | assumption | (apply ν6;assumption)) only [vz,vu,vv,eqS,eF_,↓c1_,↓c2_,tabs,reduceCtorEq,ι5,↓reduceIte,ν1,ν2,ν3,ν4,ν5,ι1,ι2,ι3,ι4,lA_ (st.get 1 rfl)])
  refine lit_live1 fun ql hql=>?_
  replace st:=st.cell hql [rowP qn (prs gk (below n) b.states)]
  generalize G2.set ql [.sl qn 1 0 (prs gk (below n) b.states).length]=G4 at st ⊢
  (try simp (maxSteps:=1000000) (disch:=first | assumption | (apply ν6;assumption)) only [vz,vu,vv,eqS,eF_,↓c1_,↓c2_,tabs,reduceCtorEq,ι5,↓reduceIte,ν1,ν2,ν3,ν4,ν5,ι1,ι2,ι3,ι4,lA_ (st.get 2 rfl)])
  refine rz_pushL st 6 rfl (by omega) fun q' D' G5 hq' st=>?_
  rw [← hsucc] at st
  (try simp (maxSteps:=1000000) (disch:=first | assumption | (apply ν6;assumption)) only [vz,vu,vv,eqS,eF_,↓c1_,↓c2_,tabs,reduceCtorEq,ι5,↓reduceIte,ν1,ν2,ν3,ν4,ν5,ι1,ι2,ι3,ι4,sA_ (st.get 0 rfl)])
  exact ⟨(k+1,_,D',_),⟨by simp only;omega,st.put 0 rfl [I (a.states*b.states),x,y,.sl q' 1 0 ((boGa a b k).length+1)]⟩,by simp only;omega,.refl _,Heap.le_refl _⟩
 ·have:k=a.goals.length:=by omega
  subst this
  (try simp (maxSteps:=1000000) (disch:=first | assumption | (apply ν6;assumption)) only [vz,vu,vv,eqS,eF_,↓c1_,↓c2_,tabs,reduceCtorEq,ι5,↓reduceIte,ν1,ν2,ν3,ν4,ν5,ι1,ι2,ι3,ι4,lA_ (st.get 2 rfl)])
  exact ref_st4 fa fb o ho st hsm h
theorem ref_st0 (sa:smAu a) (sb:smAu b) (fa:GoodF a) (fb:GoodF b) (hN:a.states*b.states≤96) {x y w:AV} {D1 D2 D3:List Nat} {G:Heap} (o:Au) (ho:o=⟨a.states*b.states,l,sAll a b (a.states*b.states).toNat,boGa a b a.goals.length++boGb a b b.goals.length⟩) (st:St H (bTs a b r2 r3 r4 r6 z1 z2 z3 x y w l [] [] D1 D2 D3++uTs u1 u2 u3) G)
  (hsm:smAu o) (h:∀v G D,LAu (if goodA o then o else zeroA) v G D→New H G D→K (.tup [v,B (goodA o)]) G) :
  L15_0 (wkK K) (.ptr r2 0) (.ptr r3 0) (.ptr r4 0) (.ptr r6 0) (I 0) G:=by
 have hsa:=fa.st
 have hsb:=fb.st
 have hm0:=mul_bd (a:=a.states) (A:=96) (b:=b.states) (B:=96) (by omega) (by omega)
 have hm:a.states.toNat*b.states.toNat≤96:=by
  have:((a.states.toNat*b.states.toNat:Nat):Int)=a.states*b.states:=by rw [Int.natCast_mul,Int.toNat_of_nonneg (by omega),Int.toNat_of_nonneg (by omega)]
  omega
 refine L15_0_rule ((0:Nat),y,D2,G) (fun s=>I s.1) (fun s=>s.2.2.2) (fun s=>s.1≤(a.states*b.states).toNat∧St H (bTs a b r2 r3 r4 r6 z1 z2 z3 x s.2.1 w l (sAll a b s.1) [] D1 s.2.2.1 D3++uTs u1 u2 u3) s.2.2.2) (fun s=>(a.states*b.states).toNat - s.1)
  ⟨⟨by simp,by simpa [sAll] using st⟩,.refl _,Heap.le_refl _⟩ ?_
 clear st y D2
 rintro ⟨k,y,D2,G⟩ ⟨hk,st⟩
 dsimp only at hk st
 (try simp (maxSteps:=1000000) (disch:=first | assumption | (apply ν6;assumption)) only [vz,vu,vv,eqS,eF_,↓c1_,↓c2_,tabs,reduceCtorEq,ι5,↓reduceIte,ν1,ν2,ν3,ν4,ν5,ι1,ι2,ι3,ι4,B15_0,lA_ (st.get 0 rfl)])
 refine ⟨fun h1=>?_,fun h1=>?_⟩
 ·have hltk:k < (a.states*b.states).toNat:=by omega
  have hkd:0≤(k:Int) / b.states∧(k:Int) / b.states < a.states:=⟨Int.ediv_nonneg (by omega) (by omega),Int.ediv_lt_of_lt_mul (by omega) (by omega)⟩
  have hkm:0≤(k:Int) % b.states∧(k:Int) % b.states < b.states:=⟨Int.emod_nonneg _ (by omega),Int.emod_lt_of_pos _ (by omega)⟩
  have hal:=sAll_len a b k
  have hal2:k*(8*(a.states.toNat*b.states.toNat))≤96*(8*96):=Nat.mul_le_mul (by omega) (by omega)
  refine L15_1_rule ((0:Nat),y,D2,G) (fun s=>I s.1) (fun s=>s.2.2.2) (fun s=>s.1≤8∧St H (bTs a b r2 r3 r4 r6 z1 z2 z3 x s.2.1 w l (sAll a b k++sRow a b k s.1) [] D1 s.2.2.1 D3++uTs u1 u2 u3) s.2.2.2) (fun s=>8 - s.1)
   ⟨⟨by simp,by simpa [sRow] using st⟩,.refl _,Heap.le_refl _⟩ ?_
  clear st y D2
  rintro ⟨c,y,D2,G⟩ ⟨hc,st⟩
  dsimp only at hc st
  have hrl:=sRow_len a b k c
  have hrl2:c*(a.states.toNat*b.states.toNat)≤8*96:=Nat.mul_le_mul hc hm
  have hcl:=sCell_len a b k c
  have e5:IntKind.i64.wrap ((c:Int)+1)=((c+1:Nat):Int):=by rw [i6_ (by omega) (by omega)];simp
  have e6:IntKind.i64.wrap ((k:Int)+1)=((k+1:Nat):Int):=by rw [i6_ (by omega) (by omega)];simp
  have eq1:Int.tdiv (k:Int) b.states=(k:Int) / b.states:=Int.tdiv_eq_ediv_of_nonneg (by omega)
  have eq2:Int.tmod (k:Int) b.states=(k:Int) % b.states:=Int.tmod_eq_emod_of_nonneg (by omega)
  have ew:IntKind.i64.wrap ((k:Int) / b.states)=(k:Int) / b.states:=i6_ (by omega) (by omega)
  have ew2:IntKind.i64.wrap ((k:Int) % b.states)=(k:Int) % b.states:=i6_ (by omega) (by omega)
  (try simp (maxSteps:=1000000) (disch:=first | assumption | (apply ν6;assumption)) only [vz,vu,vv,eqS,eF_,↓c1_,↓c2_,tabs,reduceCtorEq,ι5,↓reduceIte,ν1,ν2,ν3,ν4,ν5,ι1,ι2,ι3,ι4,B15_1,lA_ (st.get 2 rfl),lA_ (st.get 3 rfl),eq1,eq2,ew,ew2])
  refine ⟨fun h2=>?_,fun h2=>?_⟩
  ·refine ⟨by omega,?_⟩
   refine lit1 tab_24 rfl tab_3 ⟨rfl,rfl⟩ ?_
   (try simp (maxSteps:=1000000) (disch:=first | assumption | (apply ν6;assumption)) only [vz,vu,vv,eqS,eF_,↓c1_,↓c2_,tabs,reduceCtorEq,ι5,↓reduceIte,ν1,ν2,ν3,ν4,ν5,ι1,ι2,ι3,ι4,lA_ (st.get 3 rfl)])
   refine Pu.use (l12Step_spec a sa fa ((k:Int) / b.states) c hkd) ?_
   (try simp (maxSteps:=1000000) (disch:=first | assumption | (apply ν6;assumption)) only [vz,vu,vv,eqS,eF_,↓c1_,↓c2_,tabs,reduceCtorEq,ι5,↓reduceIte,ν1,ν2,ν3,ν4,ν5,ι1,ι2,ι3,ι4,lA_ (st.get 2 rfl),eq2,ew2])
   refine ⟨by omega,?_⟩
   refine lit1 tab_24 rfl tab_3 ⟨rfl,rfl⟩ ?_
   (try simp (maxSteps:=1000000) (disch:=first | assumption | (apply ν6;assumption)) only [vz,vu,vv,eqS,eF_,↓c1_,↓c2_,tabs,reduceCtorEq,ι5,↓reduceIte,ν1,ν2,ν3,ν4,ν5,ι1,ι2,ι3,ι4,lA_ (st.get 2 rfl)])
   refine Pu.use (l12Step_spec b sb fb ((k:Int) % b.states) c hkm) ?_
   (try simp (maxSteps:=1000000) (disch:=first | assumption | (apply ν6;assumption)) only [vz,vu,vv,eqS,eF_,↓c1_,↓c2_,tabs,reduceCtorEq,ι5,↓reduceIte,ν1,ν2,ν3,ν4,ν5,ι1,ι2,ι3,ι4,lA_ (st.get 2 rfl)])
   refine Pu.use (l12Pairs_spec _ _ b.states (stp_sm _ _ _ hsa).1 (stp_sm _ _ _ hsb).1 (stp_sm _ _ _ hsa).2 (stp_sm _ _ _ hsb).2 (by omega)) ?_
   have hs:=sRow_succ a b k c
   obtain ⟨cl,hcl2⟩:∃cl,cl=sCell a b k c:=⟨_,rfl⟩
   rw [show prs (stp a.states a.edges ((k:Int) / b.states) c) (stp b.states b.edges ((k:Int) % b.states) c) b.states=cl from hcl2.symm]
   rw [← hcl2] at hcl hs
   (try simp (maxSteps:=1000000) (disch:=first | assumption | (apply ν6;assumption)) only [vz,vu,vv,eqS,eF_,↓c1_,↓c2_,tabs,reduceCtorEq,ι5,↓reduceIte,ν1,ν2,ν3,ν4,ν5,ι1,ι2,ι3,ι4])
   refine L15_2_rule ((0:Nat),y,D2,G) (fun s=>I s.1) (fun s=>s.2.2.2) (fun s=>s.1≤cl.length∧St H (bTs a b r2 r3 r4 r6 z1 z2 z3 x s.2.1 w l (sAll a b k++(sRow a b k c++(cl.take s.1).map fun t=>⟨k,c,t⟩)) [] D1 s.2.2.1 D3++uTs u1 u2 u3) s.2.2.2) (fun s=>cl.length - s.1)
    ⟨⟨by simp,by simpa using st⟩,.refl _,Heap.le_refl _⟩ ?_
   clear st y D2
   rintro ⟨j,y,D2,G⟩ ⟨hj,st⟩
   dsimp only at hj st
   (try simp (maxSteps:=1000000) (disch:=first | assumption | (apply ν6;assumption)) only [vz,vu,vv,eqS,eF_,↓c1_,↓c2_,tabs,reduceCtorEq,ι5,↓reduceIte,ν1,ν2,ν3,ν4,ν5,ι1,ι2,ι3,ι4,B15_2,lA_ (st.get 0 rfl)])
   refine ⟨fun h3=>⟨by omega,h3,?_⟩,fun h3=>?_⟩
   ·have hltj:j < cl.length:=by omega
    have ht:(cl.take (j+1)).map (fun t=>(⟨k,c,t⟩:Ed))=(cl.take j).map (fun t=>(⟨k,c,t⟩:Ed))++[⟨k,c,cl.getD j default⟩]:=by
     rw [tS_ hltj,List.map_append];rfl
    have hlt:((cl.take j).map fun t=>(⟨k,c,t⟩:Ed)).length≤96:=by rw [List.length_map,List.length_take];omega
    generalize cl.getD j default=t at ht ⊢
    have e7:IntKind.i64.wrap ((j:Int)+1)=((j+1:Nat):Int):=by rw [i6_ (by omega) (by omega)];simp
    refine lit_edge (x:=⟨k,c,t⟩) ?_
    (try simp (maxSteps:=1000000) (disch:=first | assumption | (apply ν6;assumption)) only [vz,vu,vv,eqS,eF_,↓c1_,↓c2_,tabs,reduceCtorEq,ι5,↓reduceIte,ν1,ν2,ν3,ν4,ν5,ι1,ι2,ι3,ι4,lA_ (st.get 0 rfl)])
    refine rz_appE9 (ys:=[⟨k,c,t⟩]) st 5 rfl (by simp only [List.length_append,List.length_cons,List.length_nil];omega) fun q' G' hq' st=>?_
    rw [List.append_assoc,List.append_assoc,← ht] at st ⊢
    obtain ⟨es',hes⟩:∃es',sAll a b k++(sRow a b k c++(cl.take (j+1)).map fun t=>(⟨k,c,t⟩:Ed))=es':=⟨_,rfl⟩
    rw [hes] at st ⊢
    (try simp (maxSteps:=1000000) (disch:=first | assumption | (apply ν6;assumption)) only [vz,vu,vv,eqS,eF_,↓c1_,↓c2_,tabs,reduceCtorEq,ι5,↓reduceIte,ν1,ν2,ν3,ν4,ν5,ι1,ι2,ι3,ι4,sA_ (st.get 0 rfl),e7])
    replace st:=st.put 0 rfl [I (a.states*b.states),x,rowE q' es',w]
    rw [← hes] at st
    exact ⟨(j+1,_,[q'],_),⟨by simp only;omega,st⟩,by simp only;omega,.refl _,by rw [hes];exact Heap.le_refl _⟩
   ·have:j=cl.length:=by omega
    subst this
    rw [List.take_length,← hs] at st
    (try simp (maxSteps:=1000000) (disch:=first | assumption | (apply ν6;assumption)) only [vz,vu,vv,eqS,eF_,↓c1_,↓c2_,tabs,reduceCtorEq,ι5,↓reduceIte,ν1,ν2,ν3,ν4,ν5,ι1,ι2,ι3,ι4,e5])
    exact ⟨(c+1,y,D2,G),⟨by simp only;omega,st⟩,by simp only;omega,.refl _,Heap.le_refl _⟩
  ·have:c=8:=by omega
   subst this
   rw [← sAll_succ] at st
   (try simp (maxSteps:=1000000) (disch:=first | assumption | (apply ν6;assumption)) only [vz,vu,vv,eqS,eF_,↓c1_,↓c2_,tabs,reduceCtorEq,ι5,↓reduceIte,ν1,ν2,ν3,ν4,ν5,ι1,ι2,ι3,ι4,e6])
   exact ⟨(k+1,y,D2,G),⟨by simp only;omega,st⟩,by simp only;omega,.refl _,Heap.le_refl _⟩
 ·have:k=(a.states*b.states).toNat:=by omega
  subst this
  (try simp (maxSteps:=1000000) (disch:=first | assumption | (apply ν6;assumption)) only [vz,vu,vv,eqS,eF_,↓c1_,↓c2_,tabs,reduceCtorEq,ι5,↓reduceIte,ν1,ν2,ν3,ν4,ν5,ι1,ι2,ι3,ι4,lA_ (st.get 3 rfl)])
  exact ref_st3 fa fb o ho st hsm h
end
theorem Both_ref (a b:Au) (sa:smAu a) (sb:smAu b) {H:Heap} {K:AV→Heap→Prop} (h:∀v G D,LAu (boR a b).1 v G D→New H G D→K (.tup [v,B (boR a b).2]) G):CallT Try.prog 15 [aAu a,aAu b] H K:=by
 refine CallT.fin ?_
 refine lend3 (St.nil H) W15_hb fun u1 u2 u3 G st=>?_
 refine lend3 st W15_hb fun z1 z2 z3 G st=>?_
 refine W15_ok ?_;simp (maxSteps:=1000000) (disch:=first | assumption | (apply ν6;assumption)) only [W15,vz,vu,vv,eqS,eF_,↓c1_,↓c2_,tabs,reduceCtorEq,ι5,↓reduceIte,ν1,ν2,ν3,ν4,ν5,ι1,ι2,ι3,ι4]
 intro r2 hr2 r3 n3 hr3 r4 n4 n4' hr4
 replace st:=((st.cell hr2 [I a.states,Is a.first,Es a.edges,Ls a.goals]).cell (r:=r3) (by rw [Heap.set_other n3];exact hr3) [I b.states,Is b.first,Es b.edges,Ls b.goals]).cell (r:=r4) (by rw [Heap.set_other n4,Heap.set_other n4'];exact hr4) [I 0,.p .nil,.p .nil,.p .nil]
 generalize ((G.set r2 [I a.states,Is a.first,Es a.edges,Ls a.goals]).set r3 [I b.states,Is b.first,Es b.edges,Ls b.goals]).set r4 [I 0,.p .nil,.p .nil,.p .nil]=G1 at st ⊢
 clear hr2 hr3 n3 hr4 n4 n4'
 have bad:boR a b=(zeroA,false)→wkK K (.tup [zA,B false]) (G1.set r4 [I 0,.p .nil,.p .nil,.p .nil]):=fun er=>by
  rw [er] at h
  exact zero_st (st.put 0 rfl [I 0,.p .nil,.p .nil,.p .nil]) 3 4 5 rfl rfl rfl (by decide) (by decide) (by decide) h
 (try simp (maxSteps:=1000000) (disch:=first | assumption | (apply ν6;assumption)) only [vz,vu,vv,eqS,eF_,↓c1_,↓c2_,tabs,reduceCtorEq,ι5,↓reduceIte,ν1,ν2,ν3,ν4,ν5,ι1,ι2,ι3,ι4,lA_ (st.get 2 rfl)])
 refine Pu.use (GoodAuto_spec a sa) ?_
 cases ga:goodA a
 ·(try simp (maxSteps:=1000000) (disch:=first | assumption | (apply ν6;assumption)) only [vz,vu,vv,eqS,eF_,↓c1_,↓c2_,tabs,reduceCtorEq,ι5,↓reduceIte,ν1,ν2,ν3,ν4,ν5,ι1,ι2,ι3,ι4,sA_ (st.get 0 rfl)])
  exact bad (by simp [boR,ga])
 (try simp (maxSteps:=1000000) (disch:=first | assumption | (apply ν6;assumption)) only [vz,vu,vv,eqS,eF_,↓c1_,↓c2_,tabs,reduceCtorEq,ι5,↓reduceIte,ν1,ν2,ν3,ν4,ν5,ι1,ι2,ι3,ι4,lA_ (st.get 1 rfl)])
 refine Pu.use (GoodAuto_spec b sb) ?_
 cases gb:goodA b
 ·(try simp (maxSteps:=1000000) (disch:=first | assumption | (apply ν6;assumption)) only [vz,vu,vv,eqS,eF_,↓c1_,↓c2_,tabs,reduceCtorEq,ι5,↓reduceIte,ν1,ν2,ν3,ν4,ν5,ι1,ι2,ι3,ι4,sA_ (st.get 0 rfl)])
  exact bad (by simp [boR,ga,gb])
 have fa:=good_facts ga
 have fb:=good_facts gb
 have hsa:=fa.st
 have hsb:=fb.st
 have hm:=mul_bd (a:=a.states) (A:=96) (b:=b.states) (B:=96) (by omega) (by omega)
 have e0:IntKind.i64.wrap (a.states*b.states)=a.states*b.states:=i6_ (by omega) (by omega)
 (try simp (maxSteps:=1000000) (disch:=first | assumption | (apply ν6;assumption)) only [vz,vu,vv,eqS,eF_,↓c1_,↓c2_,tabs,reduceCtorEq,ι5,↓reduceIte,ν1,ν2,ν3,ν4,ν5,ι1,ι2,ι3,ι4,lA_ (st.get 2 rfl),lA_ (st.get 1 rfl),e0,sA_ (st.get 0 rfl)])
 refine ⟨fun h1=>bad (by simp [boR,ga,gb];omega),fun h1=>?_⟩
 have hN:a.states*b.states≤96:=by omega
 have hsm:=boT_sm ga gb hN
 have er:boR a b=if goodA (boT a b) then (boT a b,true) else (zeroA,false):=by simp [boR,ga,gb,hN]
 refine l12Pairs_row a.first b.first b.states fa.fi.1 fb.fi.1 fa.fi.2 fb.fi.2 (by omega) fun q1 hq1=>?_
 replace st:=st.cell hq1 (cP fI (prs a.first b.first b.states))
 generalize G1.set q1 (cP fI (prs a.first b.first b.states))=G2 at st ⊢
 (try simp (maxSteps:=1000000) (disch:=first | assumption | (apply ν6;assumption)) only [vz,vu,vv,eqS,eF_,↓c1_,↓c2_,tabs,reduceCtorEq,ι5,↓reduceIte,ν1,ν2,ν3,ν4,ν5,ι1,ι2,ι3,ι4,lA_ (st.get 3 rfl),lA_ (st.get 2 rfl),e0])
 intro r6 hr6
 replace st:=st.cell hr6 [I (a.states*b.states),rowP q1 (prs a.first b.first b.states),.p .nil,.p .nil]
 generalize G2.set r6 _=G3 at st ⊢
 clear hr6
 have h':∀v G D,LAu (if goodA (boT a b) then boT a b else zeroA) v G D→New H G D→K (.tup [v,B (goodA (boT a b))]) G:=by
  rw [er] at h
  cases hgo:goodA (boT a b)<;>simp only [hgo,if_true,Bool.false_eq_true,if_false] at h ⊢<;>exact h
 have st:=((owned_i st 1 rfl).erase 5).perm (Us:=bTs a b r2 r3 r4 r6 0 z2 z3 (rowP q1 (prs a.first b.first b.states)) (.p .nil) (.p .nil) (prs a.first b.first b.states) [] [] [q1] [z2] [z3]++uTs u1 u2 u3)
  (((List.perm_append_comm (l₁:=[riT 0 (rowP q1 (prs a.first b.first b.states)) (prs a.first b.first b.states) [q1]]) (l₂:=[cT_ r4 [I 0,.p .nil,.p .nil,.p .nil],cT_ r3 [I b.states,Is b.first,Es b.edges,Ls b.goals],cT_ r2 [I a.states,Is a.first,Es a.edges,Ls a.goals]])).append_right _).cons _)
 exact ref_st0 sa sb fa fb hN (boT a b) rfl st hsm h'
end Go.Proofs.Ytohkciilfkhomaa
namespace Go.Proofs.Ytohkciilfkhomaa
open Go Go.Sep Go.Pt
attribute [local irreducible] CallT
theorem sm_bo (a b:Au):smAu (boR a b).1:=by
 unfold boR
 split
 ·rename_i h
  rw [Bool.and_eq_true,Bool.and_eq_true,Bool.and_eq_true] at h
  exact sm_good h.2.2.2
 ·exact sm_zero
theorem FnBothTake_true {code more:List Int} (hb:∀b∈code,0≤b∧b < 256) (hb2:∀b∈more,0≤b∧b < 256):Pu Try.prog 4 [.p (.sl (code.map e8)),.p (.sl (more.map e8))] (B true):=by
 refine Pu.of fun H=>?_
 refine W4_ok ?_;simp (maxSteps:=1000000) (disch:=first | assumption | (apply ν6;assumption)) only [W4,vz,vu,vv,eqS,eF_,↓c1_,↓c2_,tabs,reduceCtorEq,ι5,↓reduceIte,ν1,ν2,ν3,ν4,ν5,ι1,ι2,ι3,ι4]
 refine Pu.use (bigC code more) ?_
 (try simp (maxSteps:=1000000) (disch:=first | assumption | (apply ν6;assumption)) only [vz,vu,vv,eqS,eF_,↓c1_,↓c2_,tabs,reduceCtorEq,ι5,↓reduceIte,ν1,ν2,ν3,ν4,ν5,ι1,ι2,ι3,ι4])
 intro hsz
 have hc:CodeC code:=⟨hb,by omega⟩
 have hc2:CodeC more:=⟨hb2,by omega⟩
 refine DrawBoth_spec hc fun a b sa sb=>?_
 (try simp (maxSteps:=1000000) (disch:=first | assumption | (apply ν6;assumption)) only [vz,vu,vv,eqS,eF_,↓c1_,↓c2_,tabs,reduceCtorEq,ι5,↓reduceIte,ν1,ν2,ν3,ν4,ν5,ι1,ι2,ι3,ι4])
 intro r5 hr5 r6 n6 hr6
 have st:=((St.nil H).cell hr5 [I 0,.p .nil,.p .nil,.p .nil]).cell (r:=r6) (by rw [Heap.set_other n6];exact hr6) [I 0,.p .nil,.p .nil,.p .nil]
 have ec:(H.set r5 [AV.p (PV.int IntKind.i64 0),AV.p PV.nil,AV.p PV.nil,AV.p PV.nil]).set r6 [AV.p (PV.int IntKind.i64 0),AV.p PV.nil,AV.p PV.nil,AV.p PV.nil]=(H.set r5 [I 0,.p .nil,.p .nil,.p .nil]).set r6 [I 0,.p .nil,.p .nil,.p .nil]:=rfl
 rw [ec]
 generalize (H.set r5 [I 0,.p .nil,.p .nil,.p .nil]).set r6 [I 0,.p .nil,.p .nil,.p .nil]=G at st ⊢
 clear ec hr5 n6 hr6
 (try simp (maxSteps:=1000000) (disch:=first | assumption | (apply ν6;assumption)) only [vz,vu,vv,eqS,eF_,↓c1_,↓c2_,tabs,reduceCtorEq,ι5,↓reduceIte,ν1,ν2,ν3,ν4,ν5,ι1,ι2,ι3,ι4,sA_ (st.get 1 rfl)])
 replace st:=st.put 1 rfl [I a.states,Is a.first,Es a.edges,Ls a.goals]
 generalize G.set r5 [I a.states,Is a.first,Es a.edges,Ls a.goals]=G3 at st ⊢
 (try simp (maxSteps:=1000000) (disch:=first | assumption | (apply ν6;assumption)) only [vz,vu,vv,eqS,eF_,↓c1_,↓c2_,tabs,reduceCtorEq,ι5,↓reduceIte,ν1,ν2,ν3,ν4,ν5,ι1,ι2,ι3,ι4,sA_ (st.get 0 rfl)])
 replace st:=st.put 0 rfl [I b.states,Is b.first,Es b.edges,Ls b.goals]
 generalize G3.set r6 [I b.states,Is b.first,Es b.edges,Ls b.goals]=G4 at st ⊢
 (try simp (maxSteps:=1000000) (disch:=first | assumption | (apply ν6;assumption)) only [vz,vu,vv,eqS,eF_,↓c1_,↓c2_,tabs,reduceCtorEq,ι5,↓reduceIte,ν1,ν2,ν3,ν4,ν5,ι1,ι2,ι3,ι4,lA_ (st.get 1 rfl),lA_ (st.get 0 rfl)])
 refine Pu.use (aus_val (Both_impl a b sa sb)) ?_
 obtain ⟨m,hm⟩:∃m,(boR a b).1=m:=⟨_,rfl⟩
 obtain ⟨ok,hok⟩:∃ok,(boR a b).2=ok:=⟨_,rfl⟩
 have sm:=sm_bo a b
 have href:=aus_val (Both_ref a b sa sb)
 rw [hm] at sm href ⊢
 rw [hok] at href ⊢
 (try simp (maxSteps:=1000000) (disch:=first | assumption | (apply ν6;assumption)) only [vz,vu,vv,eqS,eF_,↓c1_,↓c2_,tabs,reduceCtorEq,ι5,↓reduceIte,ν1,ν2,ν3,ν4,ν5,ι1,ι2,ι3,ι4])
 intro r7 hr7
 replace st:=st.cell hr7 [I m.states,Is m.first,Es m.edges,Ls m.goals]
 generalize G4.set r7 [I m.states,Is m.first,Es m.edges,Ls m.goals]=G5 at st ⊢
 clear hr7
 (try simp (maxSteps:=1000000) (disch:=first | assumption | (apply ν6;assumption)) only [vz,vu,vv,eqS,eF_,↓c1_,↓c2_,tabs,reduceCtorEq,ι5,↓reduceIte,ν1,ν2,ν3,ν4,ν5,ι1,ι2,ι3,ι4,lA_ (st.get 2 rfl),lA_ (st.get 1 rfl)])
 refine Pu.use href ?_
 (try simp (maxSteps:=1000000) (disch:=first | assumption | (apply ν6;assumption)) only [vz,vu,vv,eqS,eF_,↓c1_,↓c2_,tabs,reduceCtorEq,ι5,↓reduceIte,ν1,ν2,ν3,ν4,ν5,ι1,ι2,ι3,ι4])
 intro r9 hr9
 replace st:=st.cell hr9 [I m.states,Is m.first,Es m.edges,Ls m.goals]
 generalize G5.set r9 [I m.states,Is m.first,Es m.edges,Ls m.goals]=G6 at st ⊢
 clear hr9
 (try simp (maxSteps:=1000000) (disch:=first | assumption | (apply ν6;assumption)) only [vz,vu,vv,eqS,eF_,↓c1_,↓c2_,tabs,reduceCtorEq,ι5,↓reduceIte,ν1,ν2,ν3,ν4,ν5,ι1,ι2,ι3,ι4,lA_ (st.get 1 rfl),lA_ (st.get 0 rfl)])
 refine Pu.use (sameAuto_self m sm) ?_
 (try simp (maxSteps:=1000000) (disch:=first | assumption | (apply ν6;assumption)) only [vz,vu,vv,eqS,eF_,↓c1_,↓c2_,tabs,reduceCtorEq,ι5,↓reduceIte,ν1,ν2,ν3,ν4,ν5,ι1,ι2,ι3,ι4,lA_ (st.get 3 rfl)])
 refine Pu.use (GoodAuto_impl a sa) ?_
 (try simp (maxSteps:=1000000) (disch:=first | assumption | (apply ν6;assumption)) only [vz,vu,vv,eqS,eF_,↓c1_,↓c2_,tabs,reduceCtorEq,ι5,↓reduceIte,ν1,ν2,ν3,ν4,ν5,ι1,ι2,ι3,ι4,lA_ (st.get 3 rfl)])
 refine Pu.use (GoodAuto_spec a sa) ?_
 (try simp (maxSteps:=1000000) (disch:=first | assumption | (apply ν6;assumption)) only [vz,vu,vv,eqS,eF_,↓c1_,↓c2_,tabs,reduceCtorEq,ι5,↓reduceIte,ν1,ν2,ν3,ν4,ν5,ι1,ι2,ι3,ι4])
 refine DrawTakes_spec hc2 fun c s l sc hs hl=>?_
 (try simp (maxSteps:=1000000) (disch:=first | assumption | (apply ν6;assumption)) only [vz,vu,vv,eqS,eF_,↓c1_,↓c2_,tabs,reduceCtorEq,ι5,↓reduceIte,ν1,ν2,ν3,ν4,ν5,ι1,ι2,ι3,ι4])
 intro r11 hr11 r12 n12 hr12
 replace st:=(st.cell hr11 [I 0,.p .nil,.p .nil,.p .nil]).cell (r:=r12) (by rw [Heap.set_other n12];exact hr12) [.p .nil,.p .nil]
 have ec:(G6.set r11 [AV.p (PV.int IntKind.i64 0),AV.p PV.nil,AV.p PV.nil,AV.p PV.nil]).set r12 [AV.p PV.nil,AV.p PV.nil]=(G6.set r11 [I 0,.p .nil,.p .nil,.p .nil]).set r12 [.p .nil,.p .nil]:=rfl
 rw [ec]
 generalize (G6.set r11 [I 0,.p .nil,.p .nil,.p .nil]).set r12 [.p .nil,.p .nil]=G7 at st ⊢
 clear ec hr11 n12 hr12
 (try simp (maxSteps:=1000000) (disch:=first | assumption | (apply ν6;assumption)) only [vz,vu,vv,eqS,eF_,↓c1_,↓c2_,tabs,reduceCtorEq,ι5,↓reduceIte,ν1,ν2,ν3,ν4,ν5,ι1,ι2,ι3,ι4,sA_ (st.get 1 rfl)])
 replace st:=st.put 1 rfl [I c.states,Is c.first,Es c.edges,Ls c.goals]
 generalize G7.set r11 [I c.states,Is c.first,Es c.edges,Ls c.goals]=G8 at st ⊢
 (try simp (maxSteps:=1000000) (disch:=first | assumption | (apply ν6;assumption)) only [vz,vu,vv,eqS,eF_,↓c1_,↓c2_,tabs,reduceCtorEq,ι5,↓reduceIte,ν1,ν2,ν3,ν4,ν5,ι1,ι2,ι3,ι4,sA_ (st.get 0 rfl)])
 replace st:=st.put 0 rfl [Is s,Is l]
 generalize G8.set r12 [Is s,Is l]=G9 at st ⊢
 have hle:=st.le
 cases ok
 ·(try simp (maxSteps:=1000000) (disch:=first | assumption | (apply ν6;assumption)) only [vz,vu,vv,eqS,eF_,↓c1_,↓c2_,tabs,reduceCtorEq,ι5,↓reduceIte,ν1,ν2,ν3,ν4,ν5,ι1,ι2,ι3,ι4])
  exact hle
 (try simp (maxSteps:=1000000) (disch:=first | assumption | (apply ν6;assumption)) only [vz,vu,vv,eqS,eF_,↓c1_,↓c2_,tabs,reduceCtorEq,ι5,↓reduceIte,ν1,ν2,ν3,ν4,ν5,ι1,ι2,ι3,ι4,lA_ (st.get 0 rfl)])
 refine Pu.use (GoodLasso_any s l (by omega) (by omega)) ?_
 cases gl:goodL s l
 ·(try simp (maxSteps:=1000000) (disch:=first | assumption | (apply ν6;assumption)) only [vz,vu,vv,eqS,eF_,↓c1_,↓c2_,tabs,reduceCtorEq,ι5,↓reduceIte,ν1,ν2,ν3,ν4,ν5,ι1,ι2,ι3,ι4])
  exact hle
 have hg:(goodA a=true∧goodA b=true)∧goodA (boT a b)=true∧m=boT a b:=by
  unfold boR at hok hm
  split at hok
  ·rename_i h
   rw [if_pos h] at hm
   rw [Bool.and_eq_true,Bool.and_eq_true,Bool.and_eq_true] at h
   exact ⟨⟨h.1,h.2.1⟩,h.2.2.2,hm.symm⟩
  ·cases hok
 obtain ⟨⟨ga,gb⟩,gm,rfl⟩:=hg
 obtain ⟨b1,b2⟩:=goodL_f gl
 have t1:=TakesWord_impl a sa s l (by omega) (by omega)
 have t2:=TakesWord_impl b sb s l (by omega) (by omega)
 have t3:=TakesWord_impl (boT a b) sm s l (by omega) (by omega)
 have k1:twR a s l=(twF (wpA a s l),true):=by simp [twR,ga,gl]
 have k2:twR b s l=(twF (wpA b s l),true):=by simp [twR,gb,gl]
 have k3:twR (boT a b) s l=(twF (wpA a s l) && twF (wpA b s l),true):=by
  rw [← takes_bo ga gb gm b1 b2];simp [twR,gm,gl]
 rw [k1] at t1
 rw [k2] at t2
 rw [k3] at t3
 (try simp (maxSteps:=1000000) (disch:=first | assumption | (apply ν6;assumption)) only [vz,vu,vv,eqS,eF_,↓c1_,↓c2_,tabs,reduceCtorEq,ι5,↓reduceIte,ν1,ν2,ν3,ν4,ν5,ι1,ι2,ι3,ι4,lA_ (st.get 0 rfl),lA_ (st.get 5 rfl)])
 refine Pu.use t1 ?_
 (try simp (maxSteps:=1000000) (disch:=first | assumption | (apply ν6;assumption)) only [vz,vu,vv,eqS,eF_,↓c1_,↓c2_,tabs,reduceCtorEq,ι5,↓reduceIte,ν1,ν2,ν3,ν4,ν5,ι1,ι2,ι3,ι4,lA_ (st.get 0 rfl),lA_ (st.get 4 rfl)])
 refine Pu.use t2 ?_
 (try simp (maxSteps:=1000000) (disch:=first | assumption | (apply ν6;assumption)) only [vz,vu,vv,eqS,eF_,↓c1_,↓c2_,tabs,reduceCtorEq,ι5,↓reduceIte,ν1,ν2,ν3,ν4,ν5,ι1,ι2,ι3,ι4,lA_ (st.get 0 rfl),lA_ (st.get 3 rfl)])
 refine Pu.use t3 ?_
 (try simp (maxSteps:=1000000) (disch:=first | assumption | (apply ν6;assumption)) only [vz,vu,vv,eqS,eF_,↓c1_,↓c2_,tabs,reduceCtorEq,ι5,↓reduceIte,ν1,ν2,ν3,ν4,ν5,ι1,ι2,ι3,ι4])
 exact ⟨fun h=>⟨by simp [h],hle⟩,fun h=>⟨by simp [h],hle⟩⟩
end Go.Proofs.Ytohkciilfkhomaa
namespace Go.Proofs.Ytohkciilfkhomaa.fnBothTake
open Go Go.Sep Go.ChangeShapes Go.WideShapes Go.ChangeAt Go.RowKit
theorem own:ownKnob Try.prog.godebug=none:=by kernel_rfl
theorem told (avs:List AV) (h:ArgsT Try.prog [22,22] avs):CallT Try.prog 4 avs (fun _=>none) (fun v _=>v=.p (.bool true)):=by
 obtain ⟨a,b,rfl,h1,h⟩:=args_cons h
 obtain ⟨b,c,rfl,h2,h⟩:=args_cons h
 cases args_nil h
 obtain ⟨x1,hx1,rfl⟩:=arg_bytes h1
 obtain ⟨x2,hx2,rfl⟩:=arg_bytes h2
 exact (FnBothTake_true hx1 hx2).use rfl
set_option maxRecDepth 100000 in
theorem lifted (os:Os) (started:os.Started) (H:Type) (enc:TypeId×Value→H) :
  ReturnsInHanded {} Try.checked os 4 .any (Rows.fnBothTakeSpec.pre6 enc Try.prog Try.f4 Rows.fnBothTakeRow.domain false) (Rows.fnBothTakeSpec.post enc Try.prog Try.f4 false true false false):=by
 refine returnsInHanded_of_change (C:=Try.checked) own started (by kernel_rfl) Try.func4
  (ChangeSpec.witness6 (enc:=enc) (C:=Try.checked) false ⟨#[],#[.slice none 0 0,.slice none 0 0],[]⟩ 12 (by kernel_rfl) (by kernel_rfl) (by kernel_rfl) (by kernel_rfl)) ?_
 intro W base args ds gs before hval hW _ _
 refine row_of_true (n:=12) (tb:=4) (by kernel_rfl) rfl (by kernel_rfl) (by kernel_rfl) ?_ ?_ ?_ hval hW
 ·have:(Try.f4.params.toList.all fun t=>Try.prog.readableRec t && decide (t < Try.prog.types.size) && plainB Try.prog 12 t)=true:=by kernel_rfl
  intro t ht
  have:=List.all_eq_true.1 this t ht
  rw [Bool.and_eq_true,Bool.and_eq_true,decide_eq_true_eq] at this
  exact ⟨this.1.1,this.1.2,this.2⟩
 ·intro ds hd
  rw [Try.params4] at hd
  match ds,hd with
  | [a,b],_=>rfl
 ·rw [Try.params4]
  exact told
theorem over:Rows.fnBothTakeRow.holds Try.pinned (OpenSpec.ofChange Rows.fnBothTakeSpec):=
 OpenClaim.holds_of_wide 4 Try.f4 rfl rfl rfl rfl rfl rfl rfl ⟨rfl,rfl,rfl,rfl,rfl⟩ rfl rfl rfl rfl rfl (by kernel_rfl) Try.func4 (by kernel_rfl)
  (of_decide_eq_true (by kernel_rfl)) (by unfold Func.isWrapper;first | (rw [if_pos (by decide +kernel)];kernel_rfl) | (rw [if_neg (by decide +kernel)];exact ⟨rfl,rfl⟩))
  (fun os started H enc _=>lifted os started H enc)
theorem proved:Rows.FnBothTakeSaid:=
 over
#print axioms proved
end Go.Proofs.Ytohkciilfkhomaa.fnBothTake
