/- The row of the law FnWord: whatever the arguments, it answers true, and what it is told reads as it did. -/
import Derived.Test.YtohkciilfkhomaaGreatPW11
import Derived.Test.YtohkciilfkhomaaGreatRows
import Derived.WalkKit
import Derived.ProofKit
import Derived.OpenShut
set_option linter.unusedVariables false
set_option linter.unusedSimpArgs false
open Go.Sep.AV renaming any → Q_
open Nat renaming reduceAdd→ν1,reduceLeDiff→ν2,reduceLT→ν3,reduceMul→ν4,reduceSub→ν5
open Int renaming reduceToNat→ι1,reduceSub→ι2,reduceAdd→ι3,reduceNeg→ι4
open Array renaming toList→ι5
open Ne renaming symm→ν6
open List renaming forall_mem_cons→ν7
namespace Go.Proofs.YtohkciilfkhomaaGreat
open Go Go.Sep Go.Pt
attribute [local irreducible] CallT
theorem bigC (a b:List Int):Pu Tryz.prog 5 [.p (.sl (a.map e8)),.p (.sl (b.map e8))] (B (decide (1048576 < a.length+b.length))):=by
 refine Pu.of fun H=>?_
 refine W5_ok ?_;simp (maxSteps:=1000000) (disch:=first | assumption | (apply ν6;assumption)) only [W5,vz,vu,vv,eqS,eF_,↓c1_,↓c2_,tabs,reduceCtorEq,ι5,↓reduceIte,ν1,ν2,ν3,ν4,ν5,ι1,ι2,ι3,ι4]
 refine ⟨fun h=>?_,fun h=>?_⟩
 ·have:1048576 < a.length+b.length:=by omega
  simp [this]
 ·have hw:IntKind.i64.wrap (1048576 - ↑a.length)=1048576 - ↑a.length:=i6_ (by omega) (by omega)
  rw [hw]
  congr 2
  apply decide_eq_decide.2
  omega
theorem sameInts_self (xs:List Int) (hl:xs.length≤1000000000):Pu Tryz.prog 26 [Is xs,Is xs] (B true):=by
 refine Pu.of fun H=>?_
 refine W26_ok ?_;simp (maxSteps:=1000000) (disch:=first | assumption | (apply ν6;assumption)) only [W26,vz,vu,vv,eqS,eF_,↓c1_,↓c2_,tabs,reduceCtorEq,ι5,↓reduceIte,ν1,ν2,ν3,ν4,ν5,ι1,ι2,ι3,ι4]
 refine L26_0_rule (0:Nat) (fun i=>I i) (fun _=>H) (fun i=>i≤xs.length) (fun i=>xs.length - i) ⟨by omega,.refl _,Heap.le_refl _⟩ ?_
 rintro i hi
 have e5:IntKind.i64.wrap ((i:Int)+1)=((i+1:Nat):Int):=by rw [i6_ (by omega) (by omega)];simp
 (try simp (maxSteps:=1000000) (disch:=first | assumption | (apply ν6;assumption)) only [vz,vu,vv,eqS,eF_,↓c1_,↓c2_,tabs,reduceCtorEq,ι5,↓reduceIte,ν1,ν2,ν3,ν4,ν5,ι1,ι2,ι3,ι4,B26_0,e5])
 intro h
 exact ⟨by omega,by omega,by omega,by omega,i+1,by omega,by omega,.refl _⟩
theorem wo_len (a:Au):(woS a).length≤24∧(woL a).length≤24:=by
 unfold woS woL
 cases hb:woB a
 ·simp
 ·have hb2:=hb
  rw [woB,Bool.and_eq_true,Bool.and_eq_true] at hb2
  have:=goodL_f hb2.2.2
  simp only [if_true]
  omega
theorem DrawTakes_spec {code:List Int} (hc:CodeC code) {H:Heap} {K:AV→Heap→Prop} (h:∀a s l,smAu a→s.length≤1000→l.length≤1000→K (.tup [aAu a,aL2 s l]) H):CallT Tryz.prog 13 [.p (.sl (code.map e8))] H K:=by
 refine CallT.fin ?_
 refine W13_ok ?_;simp (maxSteps:=1000000) (disch:=first | assumption | (apply ν6;assumption)) only [W13,vz,vu,vv,eqS,eF_,↓c1_,↓c2_,tabs,reduceCtorEq,ι5,↓reduceIte,ν1,ν2,ν3,ν4,ν5,ι1,ι2,ι3,ι4]
 intro r2 hr2 r3 n3 hr3 r7 n73 n72 hr7
 have st:=((((St.nil H).cell hr2 [I 0,.p .nil,.p .nil,.p .nil]).cell (r:=r3) (by rw [Heap.set_other n3];exact hr3) [.p .nil,.p .nil]).cell (r:=r7) (by rw [Heap.set_other n73,Heap.set_other n72];exact hr7) (cur code 0 0))
 have ec:((H.set r2 [AV.p (PV.int IntKind.i64 0),AV.p PV.nil,AV.p PV.nil,AV.p PV.nil]).set r3 [AV.p PV.nil,AV.p PV.nil]).set r7 [AV.p (PV.sl (List.map e8 code)),AV.p (PV.int IntKind.i64 0),AV.p (PV.int IntKind.u64 0)]=((H.set r2 [I 0,.p .nil,.p .nil,.p .nil]).set r3 [.p .nil,.p .nil]).set r7 (cur code 0 0):=rfl
 rw [ec]
 generalize ((H.set r2 [I 0,.p .nil,.p .nil,.p .nil]).set r3 [.p .nil,.p .nil]).set r7 (cur code 0 0)=G at st ⊢
 clear ec hr2 n3 hr3 n73 n72 hr7
 refine auto_spec hc (st.get 0 rfl) (by omega) 5 (by omega) fun a k1 s1 sa _ hk1 hk2=>?_
 replace st:=st.put 0 rfl (cur code k1 s1)
 generalize G.set r7 (cur code k1 s1)=G1 at st ⊢
 (try simp (maxSteps:=1000000) (disch:=first | assumption | (apply ν6;assumption)) only [vz,vu,vv,eqS,eF_,↓c1_,↓c2_,tabs,reduceCtorEq,ι5,↓reduceIte,ν1,ν2,ν3,ν4,ν5,ι1,ι2,ι3,ι4])
 intro r5 hr5
 replace st:=st.cell hr5 [I a.states,Is a.first,Es a.edges,Ls a.goals]
 generalize G1.set r5 [I a.states,Is a.first,Es a.edges,Ls a.goals]=G2 at st ⊢
 clear hr5
 refine lasso_spec hc (st.get 1 rfl) (by omega) fun s l k2 s2 hs hl hk3 hk4=>?_
 replace st:=st.put 1 rfl (cur code k2 s2)
 generalize G2.set r7 (cur code k2 s2)=G3 at st ⊢
 (try simp (maxSteps:=1000000) (disch:=first | assumption | (apply ν6;assumption)) only [vz,vu,vv,eqS,eF_,↓c1_,↓c2_,tabs,reduceCtorEq,ι5,↓reduceIte,ν1,ν2,ν3,ν4,ν5,ι1,ι2,ι3,ι4])
 intro r6 hr6
 replace st:=st.cell hr6 [Is s,Is l]
 generalize G3.set r6 [Is s,Is l]=G4 at st ⊢
 clear hr6
 (try simp (maxSteps:=1000000) (disch:=first | assumption | (apply ν6;assumption)) only [vz,vu,vv,eqS,eF_,↓c1_,↓c2_,tabs,reduceCtorEq,ι5,↓reduceIte,ν1,ν2,ν3,ν4,ν5,ι1,ι2,ι3,ι4,lA_ (st.get 1 rfl)])
 refine Pu.use (WordOf_ref a sa) ?_
 obtain ⟨w1,w2⟩:=wo_len a
 generalize woS a=ws at w1 ⊢
 generalize woL a=wl at w2 ⊢
 (try simp (maxSteps:=1000000) (disch:=first | assumption | (apply ν6;assumption)) only [vz,vu,vv,eqS,eF_,↓c1_,↓c2_,tabs,reduceCtorEq,ι5,↓reduceIte,ν1,ν2,ν3,ν4,ν5,ι1,ι2,ι3,ι4])
 intro r4 hr4
 replace st:=st.cell hr4 [Is ws,Is wl]
 generalize G4.set r4 [Is ws,Is wl]=G5 at st ⊢
 clear hr4
 have fin:∀(k:Nat) (s:Int) (G:Heap) (s' l':List Int) (c:List AV),s'.length≤1000→l'.length≤1000→St H [cT_ r4 [Is ws,Is wl],cT_ r6 [Is s',Is l'],cT_ r5 [I a.states,Is a.first,Es a.edges,Ls a.goals],cT_ r7 c,cT_ r3 [.p .nil,.p .nil],cT_ r2 [I 0,.p .nil,.p .nil,.p .nil]] G→J13_0 (wkK K) (.ptr r2 0) (.ptr r3 0) (.ptr r5 0) (.ptr r6 0) G:=by
  intro k s G s' l' c h1 h2 st
  (try simp (maxSteps:=1000000) (disch:=first | assumption | (apply ν6;assumption)) only [vz,vu,vv,eqS,eF_,↓c1_,↓c2_,tabs,reduceCtorEq,ι5,↓reduceIte,ν1,ν2,ν3,ν4,ν5,ι1,ι2,ι3,ι4,J13_0,lA_ (st.get 2 rfl),lA_ (st.get 1 rfl),sA_ (st.get 5 rfl)])
  replace st:=st.put 5 rfl [I a.states,Is a.first,Es a.edges,Ls a.goals]
  generalize G.set r2 [I a.states,Is a.first,Es a.edges,Ls a.goals]=G1 at st ⊢
  (try simp (maxSteps:=1000000) (disch:=first | assumption | (apply ν6;assumption)) only [vz,vu,vv,eqS,eF_,↓c1_,↓c2_,tabs,reduceCtorEq,ι5,↓reduceIte,ν1,ν2,ν3,ν4,ν5,ι1,ι2,ι3,ι4,lA_ (st.get 1 rfl),sA_ (st.get 4 rfl)])
  replace st:=st.put 4 rfl [Is s',Is l']
  generalize G1.set r3 [Is s',Is l']=G2 at st ⊢
  (try simp (maxSteps:=1000000) (disch:=first | assumption | (apply ν6;assumption)) only [vz,vu,vv,eqS,eF_,↓c1_,↓c2_,tabs,reduceCtorEq,ι5,↓reduceIte,ν1,ν2,ν3,ν4,ν5,ι1,ι2,ι3,ι4,lA_ (st.get 5 rfl),lA_ (st.get 4 rfl)])
  exact ⟨_,H,.forget st.le,h a s' l' sa h1 h2⟩
 refine ⟨fun hb=>?_,fun hb=>?_⟩
 ·refine one_spec hc 2 (by omega) (k:=k2) (by omega) (st.get 3 rfl) fun x k3 s3 hk5 hk6=>?_
  replace st:=st.put 3 rfl (cur code k3 s3)
  generalize G5.set r7 (cur code k3 s3)=G6 at st ⊢
  (try simp (maxSteps:=1000000) (disch:=first | assumption | (apply ν6;assumption)) only [vz,vu,vv,eqS,eF_,↓c1_,↓c2_,tabs,reduceCtorEq,ι5,↓reduceIte,ν1,ν2,ν3,ν4,ν5,ι1,ι2,ι3,ι4])
  refine ⟨fun hx=>?_,fun hx=>fin k3 s3 G6 s l _ (by omega) (by omega) st⟩
  clear fin
  (try simp (maxSteps:=1000000) (disch:=first | assumption | (apply ν6;assumption)) only [vz,vu,vv,eqS,eF_,↓c1_,↓c2_,tabs,reduceCtorEq,ι5,↓reduceIte,ν1,ν2,ν3,ν4,ν5,ι1,ι2,ι3,ι4,lA_ (st.get 2 rfl),lA_ (st.get 0 rfl),sA_ (st.get 5 rfl)])
  replace st:=st.put 5 rfl [I a.states,Is a.first,Es a.edges,Ls a.goals]
  generalize G6.set r2 [I a.states,Is a.first,Es a.edges,Ls a.goals]=G1 at st ⊢
  (try simp (maxSteps:=1000000) (disch:=first | assumption | (apply ν6;assumption)) only [vz,vu,vv,eqS,eF_,↓c1_,↓c2_,tabs,reduceCtorEq,ι5,↓reduceIte,ν1,ν2,ν3,ν4,ν5,ι1,ι2,ι3,ι4,lA_ (st.get 0 rfl),sA_ (st.get 4 rfl)])
  replace st:=st.put 4 rfl [Is ws,Is wl]
  generalize G1.set r3 [Is ws,Is wl]=G2 at st ⊢
  (try simp (maxSteps:=1000000) (disch:=first | assumption | (apply ν6;assumption)) only [vz,vu,vv,eqS,eF_,↓c1_,↓c2_,tabs,reduceCtorEq,ι5,↓reduceIte,ν1,ν2,ν3,ν4,ν5,ι1,ι2,ι3,ι4,lA_ (st.get 5 rfl),lA_ (st.get 4 rfl)])
  exact ⟨_,H,.forget st.le,h a ws wl sa (by omega) (by omega)⟩
 ·exact fin k2 s2 G5 s l _ (by omega) (by omega) st
end Go.Proofs.YtohkciilfkhomaaGreat
namespace Go.Proofs.YtohkciilfkhomaaGreat
open Go Go.Sep Go.Pt
def ArcE (es:List Ed) (v w:Nat):Prop:=∃e∈es,e.src=(v:Int)∧e.dst=(w:Int)
def FairE (es:List Ed) (goals:List (List Nat)) (v:Nat):Prop:=(∃a b,Con (ArcE es) v a∧Con (ArcE es) v b∧ArcE es a b)∧∀g∈goals,∃x∈g,Con (ArcE es) v x
def AccE (p:Au):Prop:=∃u∈nN p.first,∃v,Rch (ArcE p.edges) u v∧FairE p.edges (goN p.goals) v
theorem arcE_eq {p:Au} (h:GoodX p):aO_ (rwF (gO p))=ArcE p.edges:=by
 funext v w
 exact propext ((gO_gA v w).trans (arc_iff h))
theorem acc_iff {p:Au} (h:PrB p):twF p=true↔AccE p:=by
 have hl:=gO_len p
 have ha:=arcE_eq h.x
 have hb:∀a b,b∈rwF (gO p) a↔ArcE p.edges a b:=fun a b=>by rw [← ha]
 rw [twF,decide_eq_true_eq,meetF_iff (goals:=goN p.goals) (gO_B h.x).gr (some:=nN p.first) (by rw [hl];exact nN_lt h.fr)]
 unfold AccE FairP FairE
 simp only [ha,hb]
theorem acc_lasso {p:Au} (h:PrB p) (ht:twF p=true):∃stem loop,FairL (rwF (gO p)) (nN p.first) (goN p.goals) stem loop:=by
 have hl:=gO_len p
 obtain ⟨h1,h2,_⟩:=h.gob hl
 have hm:¬meetF (rwF (gO p)) (gO p).length (nN p.first) (goN p.goals) < 0:=by
  rw [twF,decide_eq_true_eq] at ht;omega
 obtain ⟨m,em,hml,hfair,hreach⟩:=meetF_pos (gO_B h.x).gr (by rw [hl];exact nN_lt h.fr) hm
 obtain ⟨FL,_⟩:=fair_lasso (b:=9216) (gO_B h.x).gr hml hfair (fun l hl=>⟨h1.lt l hl,h2 l hl⟩) hreach
 exact ⟨_,_,FL⟩
end Go.Proofs.YtohkciilfkhomaaGreat
namespace Go.Proofs.YtohkciilfkhomaaGreat
open Go Go.Sep Go.Pt
def StepA (a:Au) (c:Int) (q q':Nat):Prop:=∃e∈a.edges,e.lt=c∧e.src=(q:Int)∧e.dst=(q':Int)
def ArcW (a:Au) (s l:List Int) (x y:Nat×Nat):Prop:=x.1 < s.length+l.length∧y.1=nxW s l x.1∧StepA a (letW s l x.1) x.2 y.2
def enc (n:Nat) (x:Nat×Nat):Nat:=x.1*n+x.2
theorem stepA_lt {a:Au} (fa:GoodF a) {c:Int} {q q':Nat} (h:StepA a c q q'):q < a.states.toNat∧q' < a.states.toNat:=by
 obtain ⟨e,he,_,h1,h2⟩:=h
 have:=edIn_iff.1 (fa.ei e he)
 omega
theorem arcW_iff {a:Au} (fa:GoodF a) {s l:List Int} {v w:Nat}:ArcE (wpE a s l (s.length+l.length)) v w↔∃x y,ArcW a s l x y∧v=enc a.states.toNat x∧w=enc a.states.toNat y:=by
 have hst:=fa.st
 have key:∀(t q:Nat),((enc a.states.toNat (t,q):Nat):Int)=(t:Int)*a.states+q:=fun t q=>by
  unfold enc
  rw [Int.natCast_add,Int.natCast_mul,Int.toNat_of_nonneg (by omega)]
 constructor
 ·rintro ⟨e,he,h1,h2⟩
  simp only [wpE,wpR,List.mem_flatMap,List.mem_map,List.mem_filter,List.mem_range,decide_eq_true_eq] at he
  obtain ⟨t,ht,e0,⟨h3,h4⟩,rfl⟩:=he
  have hi:=edIn_iff.1 (fa.ei e0 h3)
  refine ⟨(t,e0.src.toNat),(nxW s l t,e0.dst.toNat),⟨ht,rfl,e0,h3,h4,by simp only;omega,by simp only;omega⟩,?_,?_⟩
  ·have:=key t e0.src.toNat
   simp only [wpS] at h1
   rw [← Int.ofNat_inj,this];omega
  ·have:=key (nxW s l t) e0.dst.toNat
   simp only [wpS] at h2
   rw [← Int.ofNat_inj,this];omega
 ·rintro ⟨⟨t,q⟩,⟨t',q'⟩,⟨h1,h2,e,he,h3,h4,h5⟩,rfl,rfl⟩
  simp only at h1 h2 h3 h4 h5
  subst h2
  refine ⟨wpS a.states s l t e,?_,?_,?_⟩
  ·simp only [wpE,wpR,List.mem_flatMap,List.mem_map,List.mem_filter,List.mem_range,decide_eq_true_eq]
   exact ⟨t,h1,e,⟨he,h3⟩,rfl⟩
  ·rw [key];simp only [wpS];omega
  ·rw [key];simp only [wpS];omega
end Go.Proofs.YtohkciilfkhomaaGreat
namespace Go.Proofs.YtohkciilfkhomaaGreat
open Go Go.Sep Go.Pt
theorem often {f:Nat→Nat} {M:Nat} (hM:∀i,f i < M):∃v,∀n,∃i,n≤i∧f i=v:=by
 have key:∀M,(∀v,v < M→∃n,∀i,n≤i→f i≠v)→∃n,∀i,n≤i→M≤f i:=by
  intro M
  induction M with
  | zero=>exact fun _=>⟨0,fun _ _=>Nat.zero_le _⟩
  | succ M ih=>
   intro h
   obtain ⟨n,hn⟩:=ih fun v hv=>h v (by omega)
   obtain ⟨m,hm⟩:=h M (by omega)
   refine ⟨max n m,fun i hi=>?_⟩
   have h1:=hn i (by omega)
   have h2:=hm i (by omega)
   omega
 apply Classical.byContradiction
 intro hc
 obtain ⟨n,hn⟩:=key M fun v _=>by
  apply Classical.byContradiction
  intro h2
  exact hc ⟨v,fun n=>by
   apply Classical.byContradiction
   intro h3
   exact h2 ⟨n,fun i hi e=>h3 ⟨i,hi,e⟩⟩⟩
 have h1:=hn n (Nat.le_refl _)
 have h2:=hM n
 omega
theorem rch_seq {E:Nat→Nat→Prop} {f:Nat→Nat} (hE:∀i,E (f i) (f (i+1))) (i k:Nat):Rch E (f i) (f (i+k)):=by
 induction k with
 | zero=>exact .refl _
 | succ k ih=>exact ih.snoc (hE (i+k))
theorem run_part {E:Nat→Nat→Prop} {f:Nat→Nat} {M:Nat} (hE:∀i,E (f i) (f (i+1))) (hM:∀i,f i < M):∃N,∀i,N≤i→Con E (f N) (f i):=by
 obtain ⟨v,hv⟩:=often hM
 obtain ⟨N,_,hN⟩:=hv 0
 refine ⟨N,fun i hi=>⟨?_,?_⟩⟩
 ·have:=rch_seq hE N (i - N)
  rwa [show N+(i - N)=i by omega] at this
 ·obtain ⟨j,hj,e⟩:=hv i
  have:=rch_seq hE i (j - i)
  rw [show i+(j - i)=j by omega,e,← hN] at this
  exact this
def FairX (E:Nat→Nat→Prop) (goals:List (List Nat)) (v:Nat):Prop:=(∃a b,Con E v a∧Con E v b∧E a b)∧∀g∈goals,∃x∈g,Con E v x
theorem run_fair {E:Nat→Nat→Prop} {f:Nat→Nat} {M:Nat} {goals:List (List Nat)} (hE:∀i,E (f i) (f (i+1))) (hM:∀i,f i < M) (hg:∀g∈goals,∀n,∃i,n≤i∧f i∈g):∃N,FairX E goals (f N):=by
 obtain ⟨N,hN⟩:=run_part hE hM
 refine ⟨N,⟨f N,f (N+1),hN _ (Nat.le_refl _),hN _ (by omega),hE N⟩,fun g h=>?_⟩
 obtain ⟨i,hi,h2⟩:=hg g h N
 exact ⟨f i,h2,hN i hi⟩
def posW (S L i:Nat):Nat:=if i < S then i else S+(i - S) % L
theorem posW_zero (S L:Nat):posW S L 0=0:=by
 unfold posW
 split
 ·rfl
 ·rename_i h
  have:S=0:=by omega
  subst this;simp
theorem posW_lt (S:Nat) {L:Nat} (h:1≤L) (i:Nat):posW S L i < S+L:=by
 unfold posW
 split
 ·omega
 ·have:=Nat.mod_lt (i - S) h;omega
theorem posW_succ (S:Nat) {L:Nat} (h:1≤L) (i:Nat):posW S L (i+1)=if posW S L i+1 < S+L then posW S L i+1 else S:=by
 unfold posW
 by_cases h1:i+1 < S
 ·rw [if_pos h1,if_pos (show i < S by omega),if_pos (by omega)]
 ·rw [if_neg h1]
  by_cases h2:i < S
  ·have e:i+1=S:=by omega
   rw [if_pos h2,if_pos (by omega),e];simp
  ·rw [if_neg h2]
   have e1:i+1 - S=(i - S)+1:=by omega
   have e2:=Nat.div_add_mod (i - S) L
   have hr:=Nat.mod_lt (i - S) h
   rw [e1]
   generalize (i - S) % L=r at e2 hr ⊢
   have e3:(i - S+1) % L=(r+1) % L:=by
    conv=>lhs;rw [← e2,Nat.add_assoc,Nat.mul_add_mod]
   rw [e3]
   by_cases h4:r+1 < L
   ·rw [Nat.mod_eq_of_lt h4,if_pos (by omega)];omega
   ·have h5:r+1=L:=by omega
    rw [h5,Nat.mod_self,if_neg (by omega)];omega
theorem posW_often {S L j:Nat} (h1:S≤j) (h2:j < S+L) (n:Nat):∃i,n≤i∧posW S L i=j:=by
 refine ⟨S+n*L+(j - S),?_,?_⟩
 ·have:=Nat.le_mul_of_pos_right n (show 0 < L by omega)
  omega
 ·unfold posW
  rw [if_neg (by omega)]
  have e:S+n*L+(j - S) - S=(j - S)+n*L:=by omega
  rw [e,Nat.add_mul_mod_self_right,Nat.mod_eq_of_lt (by omega)];omega
theorem lasso_run {row:Nat→List Nat} {some:List Nat} {goals:List (List Nat)} {stem loop:List Nat} (h:FairL row some goals stem loop):∃f:Nat→Nat,(∀i,f i=(stem++loop).getD (posW stem.length loop.length i) 0)∧f 0∈some∧(∀i,f (i+1)∈row (f i))∧∀g∈goals,∀n,∃i,n≤i∧f i∈g:=by
 obtain ⟨f,hf⟩:∃f:Nat→Nat,∀i,f i=(stem++loop).getD (posW stem.length loop.length i) 0:=⟨_,fun i=>rfl⟩
 have hne:=h.ne
 refine ⟨f,hf,by rw [hf,posW_zero];exact h.fst,fun i=>?_,fun g hg n=>?_⟩
 ·have hp:=posW_lt stem.length hne i
  have hs:=posW_succ stem.length hne i
  rw [hf,hf,hs]
  generalize posW stem.length loop.length i=p at hp ⊢
  have hw:=h.way p (by simp only [List.length_append,List.length_cons,List.length_nil];omega)
  have e1:(stem++loop++[loop.getD 0 0]).getD p 0=(stem++loop).getD p 0:=by
   simp only [List.getD]
   rw [List.getElem?_append_left (by simpa using hp)]
  rw [e1] at hw
  by_cases h1:p+1 < stem.length+loop.length
  ·rw [if_pos h1]
   have e2:(stem++loop++[loop.getD 0 0]).getD (p+1) 0=(stem++loop).getD (p+1) 0:=by
    simp only [List.getD]
    rw [List.getElem?_append_left (by simpa using h1)]
   rwa [e2] at hw
  ·rw [if_neg h1]
   have e2:(stem++loop++[loop.getD 0 0]).getD (p+1) 0=loop.getD 0 0:=by
    have:p+1=(stem++loop).length:=by simp;omega
    rw [this];simp [List.getD]
   have e3:(stem++loop).getD stem.length 0=loop.getD 0 0:=by
    simp [List.getD,List.getElem?_append_right]
   rw [e2] at hw
   rw [e3];exact hw
 ·obtain ⟨x,hx,hxg⟩:=h.met g hg
  obtain ⟨k,hk,rfl⟩:=List.mem_iff_getElem.1 hx
  obtain ⟨i,hi,e⟩:=posW_often (S:=stem.length) (L:=loop.length) (j:=stem.length+k) (by omega) (by omega) n
  refine ⟨i,hi,?_⟩
  rw [hf,e]
  have:(stem++loop).getD (stem.length+k) 0=loop[k]:=by
   simp [List.getD,hk]
  rw [this];exact hxg
def wdW (s l:List Int) (i:Nat):Int:=letW s l (posW s.length l.length i)
def AccR (a:Au) (w:Nat→Int):Prop:=∃q:Nat→Nat,((q 0:Nat):Int)∈a.first∧(∀i,StepA a (w i) (q i) (q (i+1)))∧∀g∈a.goals,∀n,∃i,n≤i∧((q i:Nat):Int)∈g
theorem enc_div {n p q:Nat} (h:q < n):enc n (p,q) / n=p:=by
 unfold enc
 simp only
 rw [Nat.add_comm,Nat.add_mul_div_right _ _ (by omega),Nat.div_eq_of_lt h,Nat.zero_add]
theorem enc_mod {n p q:Nat} (h:q < n):enc n (p,q) % n=q:=by
 unfold enc
 simp only
 rw [Nat.add_comm,Nat.add_mul_mod_self_right,Nat.mod_eq_of_lt h]
theorem encI {n:Int} (h:0≤n) (p q:Nat):((enc n.toNat (p,q):Nat):Int)=(p:Int)*n+q:=by
 unfold enc
 rw [Int.natCast_add,Int.natCast_mul,Int.toNat_of_nonneg h]
theorem accR_iff {a:Au} (ga:goodA a=true) {s l:List Int} (hs:s.length≤24) (hl:1≤l.length∧l.length≤24):twF (wpA a s l)=true↔AccR a (wdW s l):=by
 have fa:=good_facts ga
 have hN:=autoN ga
 have sta:=fa.st
 have hpr:=wpA_pr ga hs hl
 have hg1:goN (wpA a s l).goals=a.goals.map fun g=>nN (prs (below (s.length+l.length)) g a.states):=by
  show (wpG a (s.length+l.length) a.goals.length).map nN=_
  rw [wpG,List.take_length,List.map_map];rfl
 constructor
 ·intro ht
  obtain ⟨stem,loop,hL⟩:=acc_lasso hpr ht
  have ha:=arcE_eq hpr.x
  obtain ⟨f,_,h0,h1,h2⟩:=lasso_run hL
  have hE:∀i,∃x y,ArcW a s l x y∧f i=enc a.states.toNat x∧f (i+1)=enc a.states.toNat y:=fun i=>(arcW_iff fa).1 (by
   have:aO_ (rwF (gO (wpA a s l))) (f i) (f (i+1)):=h1 i
   rw [ha] at this;exact this)
  have h0':((f 0:Nat):Int)∈a.first∧f 0 < a.states.toNat:=by
   obtain ⟨x,hx,e⟩:=List.mem_map.1 h0
   have hx2:x∈a.first:=hx
   have:=hN.fr x hx2
   rw [← e,Int.toNat_of_nonneg (by omega)]
   exact ⟨hx2,by omega⟩
  have hp:∀i,f i / a.states.toNat=posW s.length l.length i:=by
   intro i
   induction i with
   | zero=>rw [posW_zero,Nat.div_eq_of_lt h0'.2]
   | succ i ih=>
    obtain ⟨⟨p,q⟩,⟨p',q'⟩,⟨k1,k2,k3⟩,e1,e2⟩:=hE i
    have hq:=stepA_lt fa k3
    simp only at k1 k2 hq
    rw [e1,enc_div hq.1] at ih
    rw [e2,enc_div hq.2,posW_succ _ hl.1,← ih,k2];rfl
  have hm:∀i,f i % a.states.toNat < a.states.toNat:=fun i=>Nat.mod_lt _ (by omega)
  refine ⟨fun i=>f i % a.states.toNat,by simp only;rw [Nat.mod_eq_of_lt h0'.2];exact h0'.1,fun i=>?_,fun g hg n=>?_⟩
  ·obtain ⟨⟨p,q⟩,⟨p',q'⟩,⟨k1,k2,k3⟩,e1,e2⟩:=hE i
   have hq:=stepA_lt fa k3
   simp only at k1 k2 hq k3
   have hp1:=hp i
   rw [e1,enc_div hq.1] at hp1
   show StepA a (letW s l (posW s.length l.length i)) _ _
   simp only
   rw [e1,e2,enc_mod hq.1,enc_mod hq.2,← hp1];exact k3
  ·obtain ⟨i,hi,hm⟩:=h2 _ (by rw [hg1];exact List.mem_map.2 ⟨g,hg,rfl⟩) n
   refine ⟨i,hi,?_⟩
   obtain ⟨z,hz,e⟩:=List.mem_map.1 hm
   obtain ⟨t,ht,j,hj,rfl⟩:=prs_mem.1 hz
   have ht2:=below_mem'.1 ht
   have hj2:=hN.go g hg j hj
   have e2:=encI (n:=a.states) (by omega) t.toNat j.toNat
   rw [Int.toNat_of_nonneg ht2.1,Int.toNat_of_nonneg hj2.1] at e2
   rw [← e2,Int.toNat_natCast] at e
   simp only
   rw [← e,enc_mod (by omega),Int.toNat_of_nonneg hj2.1];exact hj
 ·rintro ⟨q,q0,q1,q2⟩
  have hlt:∀i,q i < a.states.toNat:=fun i=>(stepA_lt fa (q1 i)).1
  have hE:∀i,ArcE (wpA a s l).edges (enc a.states.toNat (posW s.length l.length i,q i)) (enc a.states.toNat (posW s.length l.length (i+1),q (i+1))):=fun i=>
   (arcW_iff fa).2 ⟨(posW s.length l.length i,q i),(posW s.length l.length (i+1),q (i+1)),⟨posW_lt _ hl.1 i,by simp only;rw [posW_succ _ hl.1];rfl,q1 i⟩,rfl,rfl⟩
  rw [acc_iff hpr]
  have hb:∀i,enc a.states.toNat (posW s.length l.length i,q i) < (s.length+l.length)*a.states.toNat:=fun i=>by
   have h1:=posW_lt s.length hl.1 i
   have h2:=hlt i
   have h3:(posW s.length l.length i+1)*a.states.toNat≤(s.length+l.length)*a.states.toNat:=Nat.mul_le_mul_right _ h1
   unfold enc
   simp only
   rw [Nat.add_mul] at h3
   omega
  obtain ⟨N,hf⟩:=run_fair (E:=ArcE (wpA a s l).edges) (f:=fun i=>enc a.states.toNat (posW s.length l.length i,q i)) (goals:=goN (wpA a s l).goals) hE hb (fun g' hg' n=>by
   rw [hg1] at hg'
   obtain ⟨g,hg,rfl⟩:=List.mem_map.1 hg'
   obtain ⟨i,hi,hm⟩:=q2 g hg n
   refine ⟨i,hi,List.mem_map.2 ⟨(posW s.length l.length i:Int)*a.states+q i,prs_mem.2 ⟨_,below_mem'.2 ⟨by omega,by have:=posW_lt s.length hl.1 i;omega⟩,_,hm,rfl⟩,?_⟩⟩
   rw [← encI (by omega)];simp)
  refine ⟨q 0,?_,_,?_,hf⟩
  ·show q 0∈nN a.first
   exact List.mem_map.2 ⟨_,q0,by simp⟩
  ·have:=rch_seq (E:=ArcE (wpA a s l).edges) (f:=fun i=>enc a.states.toNat (posW s.length l.length i,q i)) hE 0 N
   simp only [Nat.zero_add,posW_zero] at this
   have e:enc a.states.toNat (0,q 0)=q 0:=by simp [enc]
   rw [e] at this;exact this
end Go.Proofs.YtohkciilfkhomaaGreat
namespace Go.Proofs.YtohkciilfkhomaaGreat
open Go Go.Sep Go.Pt
end Go.Proofs.YtohkciilfkhomaaGreat
namespace Go.Proofs.YtohkciilfkhomaaGreat
open Go Go.Sep Go.Pt
attribute [local irreducible] CallT
def keptF (f:Nat→Int) (l:List Nat):List Int:=(l.filter fun v=>decide (0≤f v)).map f
noncomputable def fpF (g:List (List Nat)) (goals:List (List Nat)):List Nat:=gwB g.length fun v=>decide (0≤farF (rwF (turnG g)) g.length (gwB g.length (fairF (rwF g) goals)) v)
end Go.Proofs.YtohkciilfkhomaaGreat
namespace Go.Proofs.YtohkciilfkhomaaGreat
open Go Go.Sep Go.Pt
attribute [local irreducible] CallT
def nmF (L:List Nat) (v:Nat):Int:=if v∈L then (L.idxOf v:Int) else -1
noncomputable def kp1 (a:Au) (v:Nat):Bool:=decide (0≤farF (rwF (turnG (gA a))) (gA a).length (gwB (gA a).length (fairF (rwF (gA a)) (goN a.goals))) v)
noncomputable def kp2 (a:Au) (v:Nat):Bool:=decide (0≤farF (rwF (gA a)) (gA a).length (nN a.first) v)
noncomputable def kpL (a:Au) (k:Nat):List Nat:=gwB k fun v=>kp1 a v && kp2 a v
def keE (f:Nat→Int) (es:List Ed):List Ed:=(es.filter fun e=>decide (0≤f e.src.toNat) && decide (0≤f e.dst.toNat)).map fun e=>⟨f e.src.toNat,e.lt,f e.dst.toNat⟩
def keG (f:Nat→Int) (gs:List (List Int)):List (List Int):=gs.map fun l=>keptF f (nN l)
noncomputable def trT (a:Au):Au:=⟨if (kpL a (gA a).length).length=0 then 1 else ((kpL a (gA a).length).length:Int),keptF (nmF (kpL a (gA a).length)) (nN a.first),keE (nmF (kpL a (gA a).length)) a.edges,keG (nmF (kpL a (gA a).length)) a.goals⟩
noncomputable def trR (a:Au):Au×Bool:=if goodA a then (trT a,true) else (zeroA,false)
end Go.Proofs.YtohkciilfkhomaaGreat
namespace Go.Proofs.YtohkciilfkhomaaGreat
open Go Go.Sep Go.Pt
theorem stepA_arc {a:Au} (fa:GoodF a) {c:Int} {q q':Nat} (h:StepA a c q q'):q'∈rwF (gA a) q:=by
 obtain ⟨e,he,_,h1,h2⟩:=h
 exact (arc_iff fa.x).2 ⟨e,he,h1,h2⟩
theorem run_fairP {a:Au} (na:AutoN a) {w:Nat→Int} {q:Nat→Nat} (q1:∀i,StepA a (w i) (q i) (q (i+1))) (q2:∀g∈a.goals,∀n,∃i,n≤i∧((q i:Nat):Int)∈g):∃N,FairP (rwF (gA a)) (goN a.goals) (q N):=by
 obtain ⟨N,h⟩:=run_fair (E:=aO_ (rwF (gA a))) (f:=q) (M:=a.states.toNat) (goals:=goN a.goals) (fun i=>stepA_arc na.f (q1 i)) (fun i=>(stepA_lt na.f (q1 i)).1) (fun g' hg' n=>by
  obtain ⟨g,hg,rfl⟩:=List.mem_map.1 hg'
  obtain ⟨i,hi,hm⟩:=q2 g hg n
  exact ⟨i,hi,List.mem_map.2 ⟨_,hm,by simp⟩⟩)
 exact ⟨N,h⟩
end Go.Proofs.YtohkciilfkhomaaGreat
namespace Go.Proofs.YtohkciilfkhomaaGreat
open Go Go.Sep Go.Pt
theorem way_lasso {a:Au} (h:AutoN a) (hf:fairA a=true):FairL (rwF (gA a)) (nN a.first) (goN a.goals) (wS a) (wL a):=by
 obtain ⟨h1,h2,h3⟩:=h.gob
 have hl:=gA_len a
 have hg:=gA_B h.f
 have hm:¬meetF (rwF (gA a)) (gA a).length (nN a.first) (goN a.goals) < 0:=by
  simpa [fairA,laB] using hf
 have hfi:∀v∈nN a.first,v < (gA a).length:=by rw [hl];exact nN_lt h.fr
 obtain ⟨m,em,hml,hfair,hreach⟩:=meetF_pos hg.gr hfi hm
 obtain ⟨FL,_⟩:=fair_lasso (b:=96) hg.gr hml hfair (fun l hl=>⟨h1.lt l hl,h2 l hl⟩) hreach
 have eS:wS a=stemF (rwF (gA a)) (gA a).length m (nN a.first):=by rw [wS,laS,if_neg hm,em];rfl
 have eL:wL a=ringF (rwF (gA a)) (gA a).length m (goN a.goals):=by rw [wL,laL,if_neg hm,em];rfl
 rw [eS,eL];exact FL
theorem wy_here {S L:List Nat} {p:Nat} (h:p < S.length+L.length):(wyF S L).getD p 0=(S++L).getD p 0:=by
 unfold wyF
 simp only [List.getD]
 rw [List.getElem?_append_left (by simpa using h)]
theorem wy_next {S L:List Nat} {p:Nat} (h:p < S.length+L.length):(wyF S L).getD (p+1) 0=(S++L).getD (if p+1 < S.length+L.length then p+1 else S.length) 0:=by
 by_cases h1:p+1 < S.length+L.length
 ·rw [if_pos h1,wy_here h1]
 ·rw [if_neg h1]
  have:p+1=(S++L).length:=by simp;omega
  unfold wyF
  rw [this]
  simp [List.getD,List.getElem?_append_right]
theorem lt_step {a:Au} (fa:GoodF a) {u v:Nat} (h:v∈rwF (gA a) u):StepA a (ltF a u v) u v:=by
 have h1:=List.any_eq_true.1 (arc_edge fa h)
 obtain ⟨e,he,h2⟩:=h1
 cases hf:a.edges.find? (ltP u v) with
 | none=>exact absurd h2 (by have:=List.find?_eq_none.1 hf e he;simpa using this)
 | some x=>
  have h3:=List.find?_some hf
  simp only [ltP,Bool.and_eq_true,decide_eq_true_eq] at h3
  exact ⟨x,List.mem_of_find?_eq_some hf,by rw [ltF,hf];rfl,h3.1,h3.2⟩
theorem ltsF_get (a:Au) (wy:List Nat) {n i:Nat} (h:i < n):(ltsF a wy n).getD i default=ltF a (wy.getD i 0) (wy.getD (i+1) 0):=by
 simp [ltsF,List.getD,h]
theorem word_taken {a:Au} (ga:goodA a=true) (hb:woB a=true):twF (wpA a (woS a) (woL a))=true:=by
 have na:=autoN ga
 have fa:=na.f
 have hb2:=hb
 rw [woB,Bool.and_eq_true,Bool.and_eq_true] at hb2
 obtain ⟨_,hf,hgl⟩:=hb2
 obtain ⟨g1,g2,g3⟩:=goodL_f hgl
 have FL:=way_lasso na hf
 have eS:woS a=ltsF a (wyF (wS a) (wL a)) (wS a).length:=by rw [woS,hb];rfl
 have eL:woL a=(ltsF a (wyF (wS a) (wL a)) ((wS a).length+(wL a).length)).drop (wS a).length:=by rw [woL,hb];rfl
 rw [← eS] at g1
 rw [← eL] at g2 g3
 rw [accR_iff ga g1 ⟨g2,g3⟩]
 have ls:(woS a).length=(wS a).length:=by rw [eS,ltsF_len]
 have ll:(woL a).length=(wL a).length:=by rw [eL,List.length_drop,ltsF_len];omega
 have happ:woS a++woL a=ltsF a (wyF (wS a) (wL a)) ((wS a).length+(wL a).length):=by
  rw [eS,eL]
  conv=>rhs;rw [← List.take_append_drop (wS a).length (ltsF a (wyF (wS a) (wL a)) ((wS a).length+(wL a).length))]
  rw [ltsF_take a _ (by omega)]
 obtain ⟨f,hf,f0,f1,f2⟩:=lasso_run FL
 refine ⟨f,?_,fun i=>?_,fun g hg n=>?_⟩
 ·obtain ⟨x,hx,e⟩:=List.mem_map.1 f0
  have:=na.fr x hx
  rw [← e,Int.toNat_of_nonneg this.1];exact hx
 ·have h1:=f1 i
  have hp:=posW_lt (wS a).length FL.ne i
  have hs:=posW_succ (wS a).length FL.ne i
  have e1:wdW (woS a) (woL a) i=ltF a ((wyF (wS a) (wL a)).getD (posW (wS a).length (wL a).length i) 0:Nat) ((wyF (wS a) (wL a)).getD (posW (wS a).length (wL a).length i+1) 0:Nat):=by
   rw [wdW,letW,happ,ls,ll,ltsF_get a _ hp]
  have n1:=wy_here hp
  have n2:=wy_next hp
  rw [← hs,← hf] at n2
  rw [← hf] at n1
  rw [e1,n1,n2]
  exact lt_step fa h1
 ·obtain ⟨i,hi,hm⟩:=f2 _ (List.mem_map.2 ⟨g,hg,rfl⟩) n
  obtain ⟨x,hx,e⟩:=List.mem_map.1 hm
  have:=na.go g hg x hx
  refine ⟨i,hi,?_⟩
  rw [← e,Int.toNat_of_nonneg this.1];exact hx
theorem empty_none {a:Au} (ga:goodA a=true) (he:fairA a=false) {s l:List Int} (hs:s.length≤24) (hl:1≤l.length∧l.length≤24):twF (wpA a s l)=false:=by
 have na:=autoN ga
 have hg:=gA_B na.f
 rw [Bool.eq_false_iff]
 intro h
 obtain ⟨q,q0,q1,q2⟩:=(accR_iff ga hs hl).1 h
 obtain ⟨N,hN⟩:=run_fairP na q1 q2
 have hE:∀i,aO_ (rwF (gA a)) (q i) (q (i+1)):=fun i=>stepA_arc na.f (q1 i)
 have hr:=rch_seq hE 0 N
 rw [Nat.zero_add] at hr
 have hm:=(meetF_iff (goals:=goN a.goals) hg.gr (some:=nN a.first) (by rw [gA_len];exact nN_lt na.fr)).2 ⟨q 0,List.mem_map.2 ⟨_,q0,by simp⟩,q N,hr,hN⟩
 have:fairA a=true:=by
  rw [fairA,laB,Bool.not_eq_true',decide_eq_false_iff_not];omega
 rw [he] at this;cases this
end Go.Proofs.YtohkciilfkhomaaGreat
namespace Go.Proofs.YtohkciilfkhomaaGreat
open Go Go.Sep Go.Pt
attribute [local irreducible] CallT
abbrev aS2 (q:Nat) (s l:List Int):AV:=.agg [.sl q 1 0 s.length,.sl q 1 s.length l.length]
def RS (s l:List Int) (v:AV) (G:Heap) (D:List Nat):Prop:=(s=[]∧l=[]∧v=.agg [.p .nil,.p .nil]∧D=[])∨∃q,v=aS2 q s l∧G q=some (cP fI (s++l))∧D=[q]
theorem RS.local {s l:List Int} {v:AV} {G G':Heap} {D:List Nat} (h:RS s l v G D) (hf:∀y∈D,∀b,G y=some b→G' y=some b):RS s l v G' D:=by
 rcases h with h | ⟨q,rfl,h1,rfl⟩
 ·exact .inl h
 ·exact .inr ⟨q,rfl,hf q (by simp) _ h1,rfl⟩
theorem RS.has {s l:List Int} {v:AV} {G:Heap} {D:List Nat} (h:RS s l v G D):∀y∈D,G y≠none:=by
 rcases h with ⟨_,_,_,rfl⟩ | ⟨q,rfl,h1,rfl⟩
 ·intro y hy;cases hy
 ·intro y hy
  rw [List.mem_singleton.1 hy,h1];simp
def RSt (s l:List Int) (ok:Bool) (r:AV) (G:Heap) (D:List Nat):Prop:=∃v,r=.tup [v,B ok]∧RS s l v G D
theorem RSt.res (s l:List Int) (ok:Bool):ResU (RSt s l ok):=by
 refine ⟨?_,?_,?_⟩
 ·rintro r G G' D ⟨v,rfl,h⟩ hf
  exact ⟨v,rfl,h.local hf⟩
 ·rintro r G D ⟨v,rfl,h⟩
  have gb:Gd1 (B ok):=.inr ⟨.p (.bool ok),fun _=>rfl⟩
  have gv:Gd1 v∧∀y∈D,∀bs,G y=some bs→∀c∈bs,GdC c:=by
   rcases h with ⟨_,_,rfl,rfl⟩ | ⟨q,rfl,h1,rfl⟩
   ·exact ⟨.inl ⟨_,rfl,fun c hc=>by
     simp only [List.mem_cons,List.not_mem_nil,or_false] at hc
     rcases hc with rfl | rfl<;>exact .p .nil⟩,fun y hy=>by cases hy⟩
   ·refine ⟨.inl ⟨_,rfl,fun c hc=>by
     simp only [List.mem_cons,List.not_mem_nil,or_false] at hc
     rcases hc with rfl | rfl<;>exact .inl ⟨_,_,_,_,rfl⟩⟩,fun y hy bs hb c hc=>?_⟩
    rw [List.mem_singleton.1 hy,h1] at hb;cases hb
    obtain ⟨x,_,rfl⟩:=List.mem_map.1 hc
    exact .p (.int _ _)
  refine ⟨.inl ⟨_,rfl,fun u hu=>?_⟩,gv.2⟩
  rcases List.mem_cons.1 hu with rfl | hu
  ·exact gv.1
  ·rw [List.mem_singleton] at hu;rw [hu];exact gb
 ·rintro r G D n G0 h0 ⟨v,rfl,h⟩
  have e:∀xs:List Int,(cP fI xs).map (shC n)=cP fI xs:=fun xs=>by
   simp only [cP,List.map_map];rfl
  rcases h with ⟨rfl,rfl,rfl,rfl⟩ | ⟨q,rfl,h1,rfl⟩
  ·exact ⟨_,rfl,.inl ⟨rfl,rfl,rfl,rfl⟩⟩
  ·refine ⟨_,rfl,.inr ⟨q+n,rfl,?_,rfl⟩⟩
   simp only [Heap.or,h0 (q+n) (by omega),shH,Nat.le_add_left,if_true,Nat.add_sub_cancel,h1,Option.map_some,e]
theorem wkS2 {s l:List Int} {q:Nat} {G:Heap} (hq:G q=some (cP fI (s++l))) (C:AV→AV) (hC:∀{es a a'},FrzS q es a a'→FrzS q es (C a) (C a')):Wk (C (aS2 q s l)) G (C (aL2 s l)) (G.del q):=by
 refine Wk.frzS (r:=q) (es:=(s++l).map fI) (by rw [hq,List.map_map];rfl) (hC (.agg (.cons ?_ (.cons ?_ .nil))))
 ·have:=FrzS.part (r:=q) (es:=(s++l).map fI) 0 s.length (by rw [List.length_map,List.length_append];omega)
  have e:((((s++l).map fI).drop 0).take s.length).map (fun v=>[v])=s.map eI:=by
   rw [List.drop_zero,← List.map_take,List.take_left' rfl,List.map_map];rfl
  rwa [e] at this
 ·have:=FrzS.part (r:=q) (es:=(s++l).map fI) s.length l.length (by rw [List.length_map,List.length_append];omega)
  have e:((((s++l).map fI).drop s.length).take l.length).map (fun v=>[v])=l.map eI:=by
   rw [← List.map_drop,← List.map_take,List.drop_left' rfl,List.take_length,List.map_map];rfl
  rwa [e] at this
theorem checkedLasso_part (s l:List Int) (h1:s.length≤1000000000) (h2:l.length≤1000000000) {q:Nat} {G:Heap} (hq:G q=some (cP fI (s++l))) {K:AV→Heap→Prop}
  (h0:goodL s l=false→K (.tup [.agg [.p .nil,.p .nil],B false]) G) (h:goodL s l=true→K (.tup [aS2 q s l,B true]) G):CallT Tryz.prog 34 [aS2 q s l] G K:=by
 refine CallT.fin ?_
 refine W34_ok ?_;simp (maxSteps:=1000000) (disch:=first | assumption | (apply ν6;assumption)) only [W34,vz,vu,vv,eqS,eF_,↓c1_,↓c2_,tabs,reduceCtorEq,ι5,↓reduceIte,ν1,ν2,ν3,ν4,ν5,ι1,ι2,ι3,ι4]
 intro r1 hr1 r2 n21 hr2
 have n12:=Ne.symm n21
 have hle:∀z,Heap.le G ((G.set r1 [.sl q 1 0 s.length,.sl q 1 s.length l.length]).set r2 z):=fun z=>Heap.le_setN (Heap.le_set hr1) hr2
 (try simp (maxSteps:=1000000) (disch:=first | assumption | (apply ν6;assumption)) only [vz,vu,vv,eqS,eF_,↓c1_,↓c2_,tabs,reduceCtorEq,ι5,↓reduceIte,ν1,ν2,ν3,ν4,ν5,ι1,ι2,ι3,ι4])
 have g1:=hle [.p .nil,.p .nil] _ _ hq
 refine Pu.thaw (GoodLassoI s l h1 h2) (.bool _) (wkS2 g1 (fun v=>.tup [v]) (fun h=>.tup (.cons h .nil))) ?_
 cases hg:goodL s l
 ·(try simp (maxSteps:=1000000) (disch:=first | assumption | (apply ν6;assumption)) only [vz,vu,vv,eqS,eF_,↓c1_,↓c2_,tabs,reduceCtorEq,ι5,↓reduceIte,ν1,ν2,ν3,ν4,ν5,ι1,ι2,ι3,ι4])
  exact fin_le (hle _) (h0 hg)
 ·(try simp (maxSteps:=1000000) (disch:=first | assumption | (apply ν6;assumption)) only [vz,vu,vv,eqS,eF_,↓c1_,↓c2_,tabs,reduceCtorEq,ι5,↓reduceIte,ν1,ν2,ν3,ν4,ν5,ι1,ι2,ι3,ι4])
  exact fin_le (hle _) (h hg)
end Go.Proofs.YtohkciilfkhomaaGreat
namespace Go.Proofs.YtohkciilfkhomaaGreat
open Go Go.Sep Go.Pt
attribute [local irreducible] CallT
theorem fairLasso_A {a:Au} (h:AutoN a):Pu Tryz.prog 30 [Ls (nextG a),Is a.first,Ls a.goals] (lassoV (rwF (gA a)) (gA a).length (nN a.first) (goN a.goals)):=by
 obtain ⟨h1,h2,h3⟩:=h.gob
 have hl:=gA_len a
 have hf:=h.f.fi
 have:=fairLasso_spec (gA a) (gA_B h.f) (nN a.first) (by rw [hl];exact nN_lt h.fr) (by rw [nN_len];omega) (goN a.goals) 96 h1 h2 h3
 rwa [gA_I h.f,nI_of h.fr,goN,gI_of h.go] at this
theorem WordOf_impl (a:Au) (sa:smAu a) {H:Heap} {K:AV→Heap→Prop} (hK:∀v G D,RS (woS a) (woL a) v G D→New H G D→K (.tup [v,B (woB a)]) G):CallT Tryz.prog 7 [aAu a] H K:=by
 refine CallT.fin ?_
 refine W7_ok ?_;simp (maxSteps:=1000000) (disch:=first | assumption | (apply ν6;assumption)) only [W7,vz,vu,vv,eqS,eF_,↓c1_,↓c2_,tabs,reduceCtorEq,ι5,↓reduceIte,ν1,ν2,ν3,ν4,ν5,ι1,ι2,ι3,ι4]
 intro r hr r2 n2r hr2
 have st:=((St.nil H).cell hr [I a.states,Is a.first,Es a.edges,Ls a.goals]).cell (r:=r2) (by rw [Heap.set_other n2r];exact hr2) [.p .nil,.p .nil]
 generalize (H.set r [I a.states,Is a.first,Es a.edges,Ls a.goals]).set r2 [.p .nil,.p .nil]=G at st ⊢
 clear hr hr2 n2r
 have no:∀G',Heap.le H G'→woB a=false→wkK K (.tup [.agg [.p .nil,.p .nil],.p (.bool false)]) G':=fun G' hle hb=>by
  have:=hK (.agg [.p .nil,.p .nil]) H [] (.inl ⟨by rw [woS,hb];rfl,by rw [woL,hb];rfl,rfl,rfl⟩) ⟨List.nodup_nil,fun y hy=>(by cases hy),Heap.le_refl _⟩
  rw [hb] at this
  exact fin_le hle this
 (try simp (maxSteps:=1000000) (disch:=first | assumption | (apply ν6;assumption)) only [vz,vu,vv,eqS,eF_,↓c1_,↓c2_,tabs,reduceCtorEq,ι5,↓reduceIte,ν1,ν2,ν3,ν4,ν5,ι1,ι2,ι3,ι4,lA_ (st.get 1 rfl)])
 refine Pu.use (GoodAuto_impl a sa) ?_
 cases ga:goodA a
 ·(try simp (maxSteps:=1000000) (disch:=first | assumption | (apply ν6;assumption)) only [vz,vu,vv,eqS,eF_,↓c1_,↓c2_,tabs,reduceCtorEq,ι5,↓reduceIte,ν1,ν2,ν3,ν4,ν5,ι1,ι2,ι3,ι4,sA_ (st.get 0 rfl)])
  exact no _ (st.put 0 rfl _).le (by rw [woB,ga];rfl)
 ·have hN:=autoN ga
  (try simp (maxSteps:=1000000) (disch:=first | assumption | (apply ν6;assumption)) only [vz,vu,vv,eqS,eF_,↓c1_,↓c2_,tabs,reduceCtorEq,ι5,↓reduceIte,ν1,ν2,ν3,ν4,ν5,ι1,ι2,ι3,ι4,lA_ (st.get 1 rfl)])
  refine Pu.use (next_spec a hN.f) ?_
  (try simp (maxSteps:=1000000) (disch:=first | assumption | (apply ν6;assumption)) only [vz,vu,vv,eqS,eF_,↓c1_,↓c2_,tabs,reduceCtorEq,ι5,↓reduceIte,ν1,ν2,ν3,ν4,ν5,ι1,ι2,ι3,ι4,lA_ (st.get 1 rfl)])
  refine Pu.use (fairLasso_A hN) ?_
  have ev:lassoV (rwF (gA a)) (gA a).length (nN a.first) (goN a.goals)=.tup [Is (nI (wS a)),Is (nI (wL a)),B (fairA a)]:=rfl
  rw [ev]
  cases hf:fairA a
  ·(try simp (maxSteps:=1000000) (disch:=first | assumption | (apply ν6;assumption)) only [vz,vu,vv,eqS,eF_,↓c1_,↓c2_,tabs,reduceCtorEq,ι5,↓reduceIte,ν1,ν2,ν3,ν4,ν5,ι1,ι2,ι3,ι4,sA_ (st.get 0 rfl)])
   exact no _ (st.put 0 rfl _).le (by rw [woB,hf,ga];rfl)
  have hw:=wayA_of hN hf
  have hb:woB a=goodL (ltsF a (wyF (wS a) (wL a)) (wS a).length) ((ltsF a (wyF (wS a) (wL a)) ((wS a).length+(wL a).length)).drop (wS a).length):=by rw [woB,ga,hf];rfl
  rw [woS,woL,hb] at hK
  clear no hb
  generalize wS a=S at hw hK ⊢
  generalize wL a=L at hw hK ⊢
  have hS:=nL_ S
  have hL:=nL_ L
  have hne:=hw.ne
  obtain ⟨hs1,hs2⟩:=hw.sz
  have hL1:(nI L).take 1=nI [L.getD 0 0]:=by
   rw [nI_take]
   cases L with
   | nil=>simp at hne
   | cons x L=>simp [List.getD]
  (try simp (maxSteps:=1000000) (disch:=first | assumption | (apply ν6;assumption)) only [vz,vu,vv,eqS,eF_,↓c1_,↓c2_,tabs,reduceCtorEq,ι5,↓reduceIte,ν1,ν2,ν3,ν4,ν5,ι1,ι2,ι3,ι4,hL])
  refine ⟨by omega,by omega,by omega,fun e he=>by obtain ⟨x,_,rfl⟩:=List.mem_map.1 he;rfl,?_⟩
  rw [hL1]
  refine lit3 tab_26 rfl tab_24 ⟨rfl,rfl⟩ ?_
  have hfl:[nI S,nI L,nI [L.getD 0 0]].flatten=nI (wyF S L):=by simp [wyF,nI]
  have hwl:=wyF_len S L
  have hwI:=nL_ (wyF S L)
  refine ConcatI_spec [nI S,nI L,nI [L.getD 0 0]] (by rw [hfl];omega) (by simp) fun q hq=>?_
  rw [hfl]
  replace st:=st.cell hq (cP fI (nI (wyF S L)))
  generalize G.set q (cP fI (nI (wyF S L)))=G1 at st ⊢
  clear hq hfl
  refine lit0I fun q8 hq8=>?_
  replace st:=st.cell hq8 (cP fI [])
  generalize G1.set q8 (cP fI [])=G2 at st ⊢
  clear hq8
  have hway:=hw.way
  clear hL1 hw hL
  generalize wyF S L=wy at st hwl hwI hway hK ⊢
  refine L7_0_rule ((0:Nat),q8,G2) (fun z=>rowP z.2.1 (ltsF a wy z.1)) (fun z=>I ((z.1:Int)+1)) (fun z=>z.2.2)
   (fun z=>z.1≤S.length+L.length∧St H [cT_ z.2.1 (cP fI (ltsF a wy z.1)),cT_ q (cP fI (nI wy)),cT_ r2 [.p .nil,.p .nil],cT_ r [I a.states,Is a.first,Es a.edges,Ls a.goals]] z.2.2) (fun z=>S.length+L.length - z.1)
   ⟨⟨by simp,st⟩,.refl _,.refl _,Heap.le_refl _⟩ ?_
  clear st G2 G1 G q8
  rintro ⟨i,q8,G⟩ ⟨hi,st⟩
  dsimp only at hi st
  have e5:IntKind.i64.wrap ((i:Int)+1+1)=((i+1:Nat):Int)+1:=by rw [i6_ (by omega) (by omega)];simp
  have e6:IntKind.i64.wrap ((i:Int)+1 - 1)=(i:Int):=by rw [i6_ (by omega) (by omega)];omega
  have e7:((i:Int)+1).toNat=i+1:=by omega
  (try simp (maxSteps:=1000000) (disch:=first | assumption | (apply ν6;assumption)) only [vz,vu,vv,eqS,eF_,↓c1_,↓c2_,tabs,reduceCtorEq,ι5,↓reduceIte,ν1,ν2,ν3,ν4,ν5,ι1,ι2,ι3,ι4,B7_0,hwI,e5,e6,hS])
  refine ⟨fun h1=>?_,fun h1=>?_⟩
  ·have hlt:i < S.length+L.length:=by omega
   have g1:=cI_rd (l:=nI wy) (i:=i) (by omega)
   have g2:=cI_rd (l:=nI wy) (i:=i+1) (by omega)
   rw [nI_get (by omega)] at g1 g2
   have hcl:(cP fI (nI wy)).length=wy.length:=by simp [cP,hwI]
   (try simp (maxSteps:=1000000) (disch:=first | assumption | (apply ν6;assumption)) only [vz,vu,vv,eqS,eF_,↓c1_,↓c2_,tabs,reduceCtorEq,ι5,↓reduceIte,ν1,ν2,ν3,ν4,ν5,ι1,ι2,ι3,ι4,lA_ (st.get 3 rfl),lA_ (st.get 1 rfl),hcl,g1,g2,Int.toNat_natCast,e7])
   repeat refine ⟨by omega,?_⟩
   refine Pu.use (letterOf_spec a ga (hway i hlt)) ?_
   have hsu:=ltsF_succ a wy i
   have hlen:=ltsF_len a wy i
   generalize ltF a (wy.getD i 0:Nat) (wy.getD (i+1) 0:Nat)=c at hsu ⊢
   refine lit1 tab_24 rfl tab_3 ⟨rfl,rfl⟩ ?_
   refine st_appI (ys:=[c]) st 0 rfl (by simp only [List.length_cons,List.length_nil];omega) fun q' G' hq' st=>?_
   rw [← hsu] at st ⊢
   (try simp (maxSteps:=1000000) (disch:=first | assumption | (apply ν6;assumption)) only [vz,vu,vv,eqS,eF_,↓c1_,↓c2_,tabs,reduceCtorEq,ι5,↓reduceIte,ν1,ν2,ν3,ν4,ν5,ι1,ι2,ι3,ι4,e5])
   exact ⟨(i+1,q',G'),⟨by simp only;omega,st⟩,by simp only;omega,.refl _,.refl _,Heap.le_refl _⟩
  ·have:i=S.length+L.length:=by omega
   subst this
   have hlen:=ltsF_len a wy (S.length+L.length)
   have et:=ltsF_take a wy (n:=S.length+L.length) (k:=S.length) (by omega)
   have hlen2:=ltsF_len a wy S.length
   have eall:ltsF a wy S.length++(ltsF a wy (S.length+L.length)).drop S.length=ltsF a wy (S.length+L.length):=by rw [← et,List.take_append_drop]
   have hdl:((ltsF a wy (S.length+L.length)).drop S.length).length=L.length:=by rw [List.length_drop];omega
   rw [← eall] at st
   have em:((S.length+L.length:Nat):Int) - (S.length:Int)=(L.length:Int):=by omega
   have fin:CallT Tryz.prog 34 [aS2 q8 (ltsF a wy S.length) ((ltsF a wy (S.length+L.length)).drop S.length)] G fun v66 H14=>
     xV_ v66 0 fun v67=>xV_ v66 1 fun v68=>sV_ tab 31 (.ptr r2 0) v67 H14 fun H15=>lV_ tab 31 (.ptr r2 0) H15 fun r0=>wkK K (.tup [r0,v68]) H15:=by
    refine checkedLasso_part _ _ (by omega) (by omega) (st.get 0 rfl) (fun hb=>?_) (fun hb=>?_)
    ·rw [hb] at hK
     (try simp (maxSteps:=1000000) (disch:=first | assumption | (apply ν6;assumption)) only [vz,vu,vv,eqS,eF_,↓c1_,↓c2_,tabs,reduceCtorEq,ι5,↓reduceIte,ν1,ν2,ν3,ν4,ν5,ι1,ι2,ι3,ι4,sA_ (st.get 2 rfl)])
     exact fin_le (st.put 2 rfl _).le (hK (.agg [.p .nil,.p .nil]) H [] (.inl ⟨rfl,rfl,rfl,rfl⟩) ⟨List.nodup_nil,fun y hy=>(by cases hy),Heap.le_refl _⟩)
    ·rw [hb] at hK
     (try simp (maxSteps:=1000000) (disch:=first | assumption | (apply ν6;assumption)) only [vz,vu,vv,eqS,eF_,↓c1_,↓c2_,tabs,reduceCtorEq,ι5,↓reduceIte,ν1,ν2,ν3,ν4,ν5,ι1,ι2,ι3,ι4,sA_ (st.get 2 rfl)])
     replace st:=st.put 2 rfl [.sl q8 1 0 (ltsF a wy S.length).length,.sl q8 1 (ltsF a wy S.length).length ((ltsF a wy (S.length+L.length)).drop S.length).length]
     refine ⟨_,_,.forget (H':=H.set q8 (cP fI (ltsF a wy S.length++(ltsF a wy (S.length+L.length)).drop S.length))) ?_,hK _ _ [q8] (.inr ⟨q8,rfl,Heap.set_same _ _ _,rfl⟩) (New.cell (st.fr _ (List.mem_of_getElem? (i:=0) rfl) q8 (by simp [cT_])))⟩
     intro y b hb2
     by_cases e:y=q8
     ·subst e;rw [Heap.set_same] at hb2;rw [← hb2];exact st.get 0 rfl
     ·rw [Heap.set_other e] at hb2;exact st.le y b hb2
   rw [aS2,hlen2,hdl] at fin
   rcases Nat.eq_zero_or_pos S.length with hz | hz
   ·have hz':(S.length:Int)=0:=by omega
    (try simp (maxSteps:=1000000) (disch:=first | assumption | (apply ν6;assumption)) only [vz,vu,vv,eqS,eF_,↓c1_,↓c2_,tabs,reduceCtorEq,ι5,↓reduceIte,ν1,ν2,ν3,ν4,ν5,ι1,ι2,ι3,ι4,hlen,hS,sliceV,hz'])
    repeat refine ⟨by omega,?_⟩
    have e9:S.length+L.length=L.length:=by omega
    rw [Nat.mul_one,e9]
    exact CallT.args (args':=[.agg [.sl q8 1 0 S.length,.sl q8 1 S.length L.length]]) fin ⟨wk_agg ⟨by rw [hz];exact .eslo _ _ _,.refl _,trivial⟩,trivial⟩
   ·have hz':¬(S.length:Int)=0:=by omega
    (try simp (maxSteps:=1000000) (disch:=first | assumption | (apply ν6;assumption)) only [vz,vu,vv,eqS,eF_,↓c1_,↓c2_,tabs,reduceCtorEq,ι5,↓reduceIte,ν1,ν2,ν3,ν4,ν5,ι1,ι2,ι3,ι4,hlen,hS,sliceV,hz',em,Int.toNat_natCast])
    repeat refine ⟨by omega,?_⟩
    rw [Nat.mul_one]
    exact fin
end Go.Proofs.YtohkciilfkhomaaGreat
namespace Go.Proofs.YtohkciilfkhomaaGreat
open Go Go.Sep Go.Pt
attribute [local irreducible] CallT
theorem las_val {f:Nat} {args:List AV} {s l:List Int} {ok:Bool} (h:∀{H:Heap} {K:AV→Heap→Prop},(∀v G D,RS s l v G D→New H G D→K (.tup [v,B ok]) G)→CallT Tryz.prog f args H K):Pu Tryz.prog f args (.tup [aL2 s l,B ok]):=by
 refine ⟨fun H=>CallT.fin (h fun v G D hv hn=>?_)⟩
 rcases hv with ⟨rfl,rfl,rfl,rfl⟩ | ⟨q,rfl,hq,rfl⟩
 ·exact ⟨_,H,.trans (.val (v':=.tup [aL2 [] [],B ok]) (wk_tup ⟨wk_agg ⟨.nil,.nil,trivial⟩,.refl _,trivial⟩)) (.forget hn.le),rfl,rfl⟩
 ·refine ⟨_,H,.trans (wkS2 hq (fun v=>.tup [v,B ok]) (fun h=>.tup (.cons h (.cons (.same _) .nil)))) (.forget fun y b hb=>?_),rfl,rfl⟩
  have:y≠q:=fun e=>by have:=hn.fr q (by simp);rw [← e,hb] at this;cases this
  rw [Heap.del_other this];exact hn.le y b hb
theorem sameLasso_self (s l:List Int) (h1:s.length≤1000000000) (h2:l.length≤1000000000):Pu Tryz.prog 11 [aL2 s l,aL2 s l] (B true):=by
 refine Pu.of fun H=>?_
 refine W11_ok ?_;simp (maxSteps:=1000000) (disch:=first | assumption | (apply ν6;assumption)) only [W11,vz,vu,vv,eqS,eF_,↓c1_,↓c2_,tabs,reduceCtorEq,ι5,↓reduceIte,ν1,ν2,ν3,ν4,ν5,ι1,ι2,ι3,ι4]
 intro r hr r3 n3 hr3
 have st:=((St.nil H).cell hr [Is s,Is l]).cell (r:=r3) (by rw [Heap.set_other n3];exact hr3) [Is s,Is l]
 generalize (H.set r [Is s,Is l]).set r3 [Is s,Is l]=G at st ⊢
 clear hr hr3 n3
 (try simp (maxSteps:=1000000) (disch:=first | assumption | (apply ν6;assumption)) only [vz,vu,vv,eqS,eF_,↓c1_,↓c2_,tabs,reduceCtorEq,ι5,↓reduceIte,ν1,ν2,ν3,ν4,ν5,ι1,ι2,ι3,ι4,lA_ (st.get 1 rfl),lA_ (st.get 0 rfl)])
 refine Pu.use (sameInts_self s h1) ?_
 (try simp (maxSteps:=1000000) (disch:=first | assumption | (apply ν6;assumption)) only [vz,vu,vv,eqS,eF_,↓c1_,↓c2_,tabs,reduceCtorEq,ι5,↓reduceIte,ν1,ν2,ν3,ν4,ν5,ι1,ι2,ι3,ι4,lA_ (st.get 1 rfl),lA_ (st.get 0 rfl)])
 refine Pu.use (sameInts_self l h2) ?_
 (try simp (maxSteps:=1000000) (disch:=first | assumption | (apply ν6;assumption)) only [vz,vu,vv,eqS,eF_,↓c1_,↓c2_,tabs,reduceCtorEq,ι5,↓reduceIte,ν1,ν2,ν3,ν4,ν5,ι1,ι2,ι3,ι4])
 exact st.le
theorem DrawGood_spec {code:List Int} (hc:CodeC code) {H:Heap} {K:AV→Heap→Prop} (h:∀a,smAu a→K (aAu a) H):CallT Tryz.prog 28 [.p (.sl (code.map e8))] H K:=by
 refine CallT.fin ?_
 refine W28_ok ?_;simp (maxSteps:=1000000) (disch:=first | assumption | (apply ν6;assumption)) only [W28,vz,vu,vv,eqS,eF_,↓c1_,↓c2_,tabs,reduceCtorEq,ι5,↓reduceIte,ν1,ν2,ν3,ν4,ν5,ι1,ι2,ι3,ι4]
 intro r2 hr2 r7 n72 hr7
 have st:=((St.nil H).cell hr2 [I 0,.p .nil,.p .nil,.p .nil]).cell (r:=r7) (by rw [Heap.set_other n72];exact hr7) (cur code 0 0)
 have ec:(H.set r2 [AV.p (PV.int IntKind.i64 0),AV.p PV.nil,AV.p PV.nil,AV.p PV.nil]).set r7 [AV.p (PV.sl (List.map e8 code)),AV.p (PV.int IntKind.i64 0),AV.p (PV.int IntKind.u64 0)]=(H.set r2 [I 0,.p .nil,.p .nil,.p .nil]).set r7 (cur code 0 0):=rfl
 rw [ec]
 generalize (H.set r2 [I 0,.p .nil,.p .nil,.p .nil]).set r7 (cur code 0 0)=G at st ⊢
 clear ec hr2 n72 hr7
 refine auto_spec hc (st.get 0 rfl) (by omega) 6 (by omega) fun a k1 s1 sa _ hk1 hk2=>?_
 replace st:=st.put 0 rfl (cur code k1 s1)
 generalize G.set r7 (cur code k1 s1)=G1 at st ⊢
 (try simp (maxSteps:=1000000) (disch:=first | assumption | (apply ν6;assumption)) only [vz,vu,vv,eqS,eF_,↓c1_,↓c2_,tabs,reduceCtorEq,ι5,↓reduceIte,ν1,ν2,ν3,ν4,ν5,ι1,ι2,ι3,ι4,sA_ (st.get 1 rfl)])
 replace st:=st.put 1 rfl [I a.states,Is a.first,Es a.edges,Ls a.goals]
 generalize G1.set r2 [I a.states,Is a.first,Es a.edges,Ls a.goals]=G3 at st ⊢
 (try simp (maxSteps:=1000000) (disch:=first | assumption | (apply ν6;assumption)) only [vz,vu,vv,eqS,eF_,↓c1_,↓c2_,tabs,reduceCtorEq,ι5,↓reduceIte,ν1,ν2,ν3,ν4,ν5,ι1,ι2,ι3,ι4,lA_ (st.get 1 rfl)])
 exact ⟨_,H,.forget st.le,h a sa⟩
theorem DrawWord_spec {code:List Int} (hc:CodeC code) {H:Heap} {K:AV→Heap→Prop} (h:∀a,smAu a→K (aAu a) H):CallT Tryz.prog 6 [.p (.sl (code.map e8))] H K:=by
 refine CallT.fin ?_
 refine W6_ok ?_;simp (maxSteps:=1000000) (disch:=first | assumption | (apply ν6;assumption)) only [W6,vz,vu,vv,eqS,eF_,↓c1_,↓c2_,tabs,reduceCtorEq,ι5,↓reduceIte,ν1,ν2,ν3,ν4,ν5,ι1,ι2,ι3,ι4]
 intro r2 hr2
 have st:=(St.nil H).cell hr2 [I 0,.p .nil,.p .nil,.p .nil]
 have ec:H.set r2 [AV.p (PV.int IntKind.i64 0),AV.p PV.nil,AV.p PV.nil,AV.p PV.nil]=H.set r2 [I 0,.p .nil,.p .nil,.p .nil]:=rfl
 rw [ec]
 generalize H.set r2 [I 0,.p .nil,.p .nil,.p .nil]=G at st ⊢
 clear ec hr2
 refine DrawGood_spec hc fun a sa=>?_
 (try simp (maxSteps:=1000000) (disch:=first | assumption | (apply ν6;assumption)) only [vz,vu,vv,eqS,eF_,↓c1_,↓c2_,tabs,reduceCtorEq,ι5,↓reduceIte,ν1,ν2,ν3,ν4,ν5,ι1,ι2,ι3,ι4,sA_ (st.get 0 rfl)])
 replace st:=st.put 0 rfl [I a.states,Is a.first,Es a.edges,Ls a.goals]
 generalize G.set r2 [I a.states,Is a.first,Es a.edges,Ls a.goals]=G3 at st ⊢
 (try simp (maxSteps:=1000000) (disch:=first | assumption | (apply ν6;assumption)) only [vz,vu,vv,eqS,eF_,↓c1_,↓c2_,tabs,reduceCtorEq,ι5,↓reduceIte,ν1,ν2,ν3,ν4,ν5,ι1,ι2,ι3,ι4,lA_ (st.get 0 rfl)])
 exact ⟨_,H,.forget st.le,h a sa⟩
theorem FnWord_true {code more:List Int} (hb:∀b∈code,0≤b∧b < 256) (hb2:∀b∈more,0≤b∧b < 256):Pu Tryz.prog 3 [.p (.sl (code.map e8)),.p (.sl (more.map e8))] (B true):=by
 refine Pu.of fun H=>?_
 refine W3_ok ?_;simp (maxSteps:=1000000) (disch:=first | assumption | (apply ν6;assumption)) only [W3,vz,vu,vv,eqS,eF_,↓c1_,↓c2_,tabs,reduceCtorEq,ι5,↓reduceIte,ν1,ν2,ν3,ν4,ν5,ι1,ι2,ι3,ι4]
 refine Pu.use (bigC code more) ?_
 (try simp (maxSteps:=1000000) (disch:=first | assumption | (apply ν6;assumption)) only [vz,vu,vv,eqS,eF_,↓c1_,↓c2_,tabs,reduceCtorEq,ι5,↓reduceIte,ν1,ν2,ν3,ν4,ν5,ι1,ι2,ι3,ι4])
 intro hsz
 have hc:CodeC code:=⟨hb,by omega⟩
 have hc2:CodeC more:=⟨hb2,by omega⟩
 refine DrawWord_spec hc fun a sa=>?_
 (try simp (maxSteps:=1000000) (disch:=first | assumption | (apply ν6;assumption)) only [vz,vu,vv,eqS,eF_,↓c1_,↓c2_,tabs,reduceCtorEq,ι5,↓reduceIte,ν1,ν2,ν3,ν4,ν5,ι1,ι2,ι3,ι4])
 intro r5 hr5
 have st:=(St.nil H).cell hr5 [I a.states,Is a.first,Es a.edges,Ls a.goals]
 generalize H.set r5 [I a.states,Is a.first,Es a.edges,Ls a.goals]=G at st ⊢
 clear hr5
 (try simp (maxSteps:=1000000) (disch:=first | assumption | (apply ν6;assumption)) only [vz,vu,vv,eqS,eF_,↓c1_,↓c2_,tabs,reduceCtorEq,ι5,↓reduceIte,ν1,ν2,ν3,ν4,ν5,ι1,ι2,ι3,ι4,lA_ (st.get 0 rfl)])
 refine Pu.use (las_val (WordOf_impl a sa)) ?_
 have href:=WordOf_ref a sa
 obtain ⟨l1,l2⟩:=wo_len a
 obtain ⟨ws,hws⟩:∃x,woS a=x:=⟨_,rfl⟩
 obtain ⟨wl,hwl⟩:∃x,woL a=x:=⟨_,rfl⟩
 obtain ⟨ok,hok⟩:∃x,woB a=x:=⟨_,rfl⟩
 rw [hws,hwl,hok] at href
 rw [hws] at l1
 rw [hwl] at l2
 rw [hws,hwl,hok]
 (try simp (maxSteps:=1000000) (disch:=first | assumption | (apply ν6;assumption)) only [vz,vu,vv,eqS,eF_,↓c1_,↓c2_,tabs,reduceCtorEq,ι5,↓reduceIte,ν1,ν2,ν3,ν4,ν5,ι1,ι2,ι3,ι4])
 intro r6 hr6
 replace st:=st.cell hr6 [Is ws,Is wl]
 generalize G.set r6 [Is ws,Is wl]=G1 at st ⊢
 clear hr6
 (try simp (maxSteps:=1000000) (disch:=first | assumption | (apply ν6;assumption)) only [vz,vu,vv,eqS,eF_,↓c1_,↓c2_,tabs,reduceCtorEq,ι5,↓reduceIte,ν1,ν2,ν3,ν4,ν5,ι1,ι2,ι3,ι4,lA_ (st.get 1 rfl)])
 refine Pu.use href ?_
 (try simp (maxSteps:=1000000) (disch:=first | assumption | (apply ν6;assumption)) only [vz,vu,vv,eqS,eF_,↓c1_,↓c2_,tabs,reduceCtorEq,ι5,↓reduceIte,ν1,ν2,ν3,ν4,ν5,ι1,ι2,ι3,ι4])
 intro r8 hr8
 replace st:=st.cell hr8 [Is ws,Is wl]
 generalize G1.set r8 [Is ws,Is wl]=G2 at st ⊢
 clear hr8
 (try simp (maxSteps:=1000000) (disch:=first | assumption | (apply ν6;assumption)) only [vz,vu,vv,eqS,eF_,↓c1_,↓c2_,tabs,reduceCtorEq,ι5,↓reduceIte,ν1,ν2,ν3,ν4,ν5,ι1,ι2,ι3,ι4,lA_ (st.get 2 rfl)])
 refine Pu.use (IsEmpty_impl a sa) ?_
 have he2:=IsEmpty_ref a sa
 obtain ⟨e,he⟩:∃x,(ieR a).1=x:=⟨_,rfl⟩
 obtain ⟨one,hone⟩:∃x,(ieR a).2=x:=⟨_,rfl⟩
 rw [he,hone] at he2
 rw [he,hone]
 (try simp (maxSteps:=1000000) (disch:=first | assumption | (apply ν6;assumption)) only [vz,vu,vv,eqS,eF_,↓c1_,↓c2_,tabs,reduceCtorEq,ι5,↓reduceIte,ν1,ν2,ν3,ν4,ν5,ι1,ι2,ι3,ι4,lA_ (st.get 2 rfl)])
 refine Pu.use he2 ?_
 (try simp (maxSteps:=1000000) (disch:=first | assumption | (apply ν6;assumption)) only [vz,vu,vv,eqS,eF_,↓c1_,↓c2_,tabs,reduceCtorEq,ι5,↓reduceIte,ν1,ν2,ν3,ν4,ν5,ι1,ι2,ι3,ι4,lA_ (st.get 1 rfl),lA_ (st.get 0 rfl)])
 refine Pu.use (sameLasso_self ws wl (by omega) (by omega)) ?_
 (try simp (maxSteps:=1000000) (disch:=first | assumption | (apply ν6;assumption)) only [vz,vu,vv,eqS,eF_,↓c1_,↓c2_,tabs,reduceCtorEq,ι5,↓reduceIte,ν1,ν2,ν3,ν4,ν5,ι1,ι2,ι3,ι4])
 refine ⟨fun h1=>?_,fun h1=>?_⟩
 ·subst h1
  have hb:=hok
  have hb2:=hok
  rw [woB,Bool.and_eq_true,Bool.and_eq_true] at hb2
  obtain ⟨ga,hf,hgl⟩:=hb2
  have eS:woS a=ltsF a (wyF (wS a) (wL a)) (wS a).length:=by rw [woS,hb];rfl
  have eL:woL a=(ltsF a (wyF (wS a) (wL a)) ((wS a).length+(wL a).length)).drop (wS a).length:=by rw [woL,hb];rfl
  rw [← eS,← eL,hws,hwl] at hgl
  have htk:=word_taken ga hb
  rw [hws,hwl] at htk
  have k1:twR a ws wl=(true,true):=by simp [twR,ga,hgl,htk]
  have t1:=TakesWord_impl a sa ws wl (by omega) (by omega)
  rw [k1] at t1
  have k2:ieR a=(false,true):=by simp [ieR,ga,hf]
  rw [k2] at he hone
  subst he;subst hone
  (try simp (maxSteps:=1000000) (disch:=first | assumption | (apply ν6;assumption)) only [vz,vu,vv,eqS,eF_,↓c1_,↓c2_,tabs,reduceCtorEq,ι5,↓reduceIte,ν1,ν2,ν3,ν4,ν5,ι1,ι2,ι3,ι4,lA_ (st.get 2 rfl),lA_ (st.get 1 rfl)])
  refine Pu.use t1 ?_
  (try simp (maxSteps:=1000000) (disch:=first | assumption | (apply ν6;assumption)) only [vz,vu,vv,eqS,eF_,↓c1_,↓c2_,tabs,reduceCtorEq,ι5,↓reduceIte,ν1,ν2,ν3,ν4,ν5,ι1,ι2,ι3,ι4])
  exact st.le
 ·refine DrawTakes_spec hc2 fun c s l sc hs hl=>?_
  (try simp (maxSteps:=1000000) (disch:=first | assumption | (apply ν6;assumption)) only [vz,vu,vv,eqS,eF_,↓c1_,↓c2_,tabs,reduceCtorEq,ι5,↓reduceIte,ν1,ν2,ν3,ν4,ν5,ι1,ι2,ι3,ι4])
  intro r11 hr11 r12 n12 hr12
  replace st:=(st.cell hr11 [I 0,.p .nil,.p .nil,.p .nil]).cell (r:=r12) (by rw [Heap.set_other n12];exact hr12) [.p .nil,.p .nil]
  have ec:(G2.set r11 [AV.p (PV.int IntKind.i64 0),AV.p PV.nil,AV.p PV.nil,AV.p PV.nil]).set r12 [AV.p PV.nil,AV.p PV.nil]=(G2.set r11 [I 0,.p .nil,.p .nil,.p .nil]).set r12 [.p .nil,.p .nil]:=rfl
  rw [ec]
  generalize (G2.set r11 [I 0,.p .nil,.p .nil,.p .nil]).set r12 [.p .nil,.p .nil]=G7 at st ⊢
  clear ec hr11 n12 hr12
  (try simp (maxSteps:=1000000) (disch:=first | assumption | (apply ν6;assumption)) only [vz,vu,vv,eqS,eF_,↓c1_,↓c2_,tabs,reduceCtorEq,ι5,↓reduceIte,ν1,ν2,ν3,ν4,ν5,ι1,ι2,ι3,ι4,sA_ (st.get 1 rfl)])
  replace st:=st.put 1 rfl [I c.states,Is c.first,Es c.edges,Ls c.goals]
  generalize G7.set r11 [I c.states,Is c.first,Es c.edges,Ls c.goals]=G8 at st ⊢
  (try simp (maxSteps:=1000000) (disch:=first | assumption | (apply ν6;assumption)) only [vz,vu,vv,eqS,eF_,↓c1_,↓c2_,tabs,reduceCtorEq,ι5,↓reduceIte,ν1,ν2,ν3,ν4,ν5,ι1,ι2,ι3,ι4,sA_ (st.get 0 rfl)])
  replace st:=st.put 0 rfl [Is s,Is l]
  generalize G8.set r12 [Is s,Is l]=G9 at st ⊢
  have hle:=st.le
  refine ⟨fun h2=>⟨fun h3=>?_,fun h3=>hle⟩,fun h2=>hle⟩
  (try simp (maxSteps:=1000000) (disch:=first | assumption | (apply ν6;assumption)) only [vz,vu,vv,eqS,eF_,↓c1_,↓c2_,tabs,reduceCtorEq,ι5,↓reduceIte,ν1,ν2,ν3,ν4,ν5,ι1,ι2,ι3,ι4,lA_ (st.get 0 rfl)])
  refine Pu.use (GoodLasso_any s l (by omega) (by omega)) ?_
  cases gl:goodL s l
  ·(try simp (maxSteps:=1000000) (disch:=first | assumption | (apply ν6;assumption)) only [vz,vu,vv,eqS,eF_,↓c1_,↓c2_,tabs,reduceCtorEq,ι5,↓reduceIte,ν1,ν2,ν3,ν4,ν5,ι1,ι2,ι3,ι4])
   exact hle
  obtain ⟨b1,b2⟩:=goodL_f gl
  subst h2;subst h3
  have hf:goodA a=true∧fairA a=false:=by
   cases ga:goodA a
   ·rw [ieR,if_neg (by rw [ga];simp)] at hone;cases hone
   ·rw [ieR,if_pos ga] at he
    simpa using he
  have k1:twR a s l=(false,true):=by simp [twR,hf.1,gl,empty_none hf.1 hf.2 b1 b2]
  have t1:=TakesWord_impl a sa s l (by omega) (by omega)
  rw [k1] at t1
  (try simp (maxSteps:=1000000) (disch:=first | assumption | (apply ν6;assumption)) only [vz,vu,vv,eqS,eF_,↓c1_,↓c2_,tabs,reduceCtorEq,ι5,↓reduceIte,ν1,ν2,ν3,ν4,ν5,ι1,ι2,ι3,ι4,lA_ (st.get 0 rfl),lA_ (st.get 4 rfl)])
  refine Pu.use t1 ?_
  (try simp (maxSteps:=1000000) (disch:=first | assumption | (apply ν6;assumption)) only [vz,vu,vv,eqS,eF_,↓c1_,↓c2_,tabs,reduceCtorEq,ι5,↓reduceIte,ν1,ν2,ν3,ν4,ν5,ι1,ι2,ι3,ι4])
  exact hle
end Go.Proofs.YtohkciilfkhomaaGreat
namespace Go.Proofs.YtohkciilfkhomaaGreat.fnWord
open Go Go.Sep Go.ChangeShapes Go.WideShapes Go.ChangeAt Go.RowKit
theorem own:ownKnob Tryz.prog.godebug=none:=by kernel_rfl
theorem told (avs:List AV) (h:ArgsT Tryz.prog [22,22] avs):CallT Tryz.prog 3 avs (fun _=>none) (fun v _=>v=.p (.bool true)):=by
 obtain ⟨a,b,rfl,h1,h⟩:=args_cons h
 obtain ⟨b,c,rfl,h2,h⟩:=args_cons h
 cases args_nil h
 obtain ⟨x1,hx1,rfl⟩:=arg_bytes h1
 obtain ⟨x2,hx2,rfl⟩:=arg_bytes h2
 exact (FnWord_true hx1 hx2).use rfl
set_option maxRecDepth 100000 in
theorem lifted (os:Os) (started:os.Started) (H:Type) (enc:TypeId×Value→H) :
  ReturnsInHanded {} Tryz.checked os 3 .any (Rows.fnWordSpec.pre6 enc Tryz.prog Tryz.f3 Rows.fnWordRow.domain false) (Rows.fnWordSpec.post enc Tryz.prog Tryz.f3 false true false false):=by
 refine returnsInHanded_of_change (C:=Tryz.checked) own started (by kernel_rfl) Tryz.func3
  (ChangeSpec.witness6 (enc:=enc) (C:=Tryz.checked) false ⟨#[],#[.slice none 0 0,.slice none 0 0],[]⟩ 12 (by kernel_rfl) (by kernel_rfl) (by kernel_rfl) (by kernel_rfl)) ?_
 intro W base args ds gs before hval hW _ _
 refine row_of_true (n:=12) (tb:=4) (by kernel_rfl) rfl (by kernel_rfl) (by kernel_rfl) ?_ ?_ ?_ hval hW
 ·have:(Tryz.f3.params.toList.all fun t=>Tryz.prog.readableRec t && decide (t < Tryz.prog.types.size) && plainB Tryz.prog 12 t)=true:=by kernel_rfl
  intro t ht
  have:=List.all_eq_true.1 this t ht
  rw [Bool.and_eq_true,Bool.and_eq_true,decide_eq_true_eq] at this
  exact ⟨this.1.1,this.1.2,this.2⟩
 ·intro ds hd
  rw [Tryz.params3] at hd
  match ds,hd with
  | [a,b],_=>rfl
 ·rw [Tryz.params3]
  exact told
theorem over:Rows.fnWordRow.holds Tryz.pinned (OpenSpec.ofChange Rows.fnWordSpec):=
 OpenClaim.holds_of_wide 3 Tryz.f3 rfl rfl rfl rfl rfl rfl rfl ⟨rfl,rfl,rfl,rfl,rfl⟩ rfl rfl rfl rfl rfl (by kernel_rfl) Tryz.func3 (by kernel_rfl)
  (of_decide_eq_true (by kernel_rfl)) (by unfold Func.isWrapper;first | (rw [if_pos (by decide +kernel)];kernel_rfl) | (rw [if_neg (by decide +kernel)];exact ⟨rfl,rfl⟩))
  (fun os started H enc _=>lifted os started H enc)
theorem proved:Rows.FnWordSaid:=
 over
#print axioms proved
end Go.Proofs.YtohkciilfkhomaaGreat.fnWord
