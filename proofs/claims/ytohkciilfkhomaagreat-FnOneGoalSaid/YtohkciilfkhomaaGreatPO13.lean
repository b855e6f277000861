/- Texts laid together: Ph0 Ph1 Ph4 Ph5 Tz2 Ph8 Ph9 Ql3 Tp4 Fe3 Ph7 Mb2 Mb3 Mg3 Tz3. -/
import Derived.Test.YtohkciilfkhomaaGreatPO12
set_option linter.unusedVariables false
set_option linter.unusedSimpArgs false
open Go.Sep.AV renaming any → Q_
open Nat renaming reduceAdd→Y1,reduceLeDiff→Y2,reduceLT→Y3,reduceMul→Y4,reduceSub→Y5
open Int renaming reduceToNat→X1,reduceSub→X2,reduceAdd→X3,reduceNeg→X4
open Array renaming toList→X5
open Ne renaming symm→Y6
open List renaming forall_mem_cons→Y7
namespace Go.Proofs.YtohkciilfkhomaaGreat
open Go Go.Sep Go.Pt
def ArcE (es:List Ed) (v w:Nat):Prop:=∃e∈es,e.src=(v:Int)∧e.dst=(w:Int)
def FairE (es:List Ed) (goals:List (List Nat)) (v:Nat):Prop:=(∃a b,Con (ArcE es) v a∧Con (ArcE es) v b∧ArcE es a b)∧∀g∈goals,∃x∈g,Con (ArcE es) v x
def AccE (p:Au):Prop:=∃u∈nN p.first,∃v,Rch (ArcE p.edges) u v∧FairE p.edges (goN p.goals) v
theorem arcE_eq {p:Au} (h:GoodX p):aO_ (rwF (gO p))=ArcE p.edges:=by
 funext v w
 exact propext ((gO_gA v w).trans (arc_iff h))
theorem acc_iff {p:Au} (h:PrB p):twF p=true↔AccE p:=by
 have hl:=c_B p
 have ha:=arcE_eq h.x
 have hb:∀a b,b∈rwF (gO p) a↔ArcE p.edges a b:=fun a b=>by rw [← ha]
 rw [twF,decide_eq_true_eq,meetF_iff (goals:=goN p.goals) (gO_B h.x).gr (some:=nN p.first) (by rw [hl];exact c_v h.fr)]
 unfold AccE FairP FairE
 simp only [ha,hb]
theorem acc_lasso {p:Au} (h:PrB p) (ht:twF p=true):∃stem loop,FairL (rwF (gO p)) (nN p.first) (goN p.goals) stem loop:=by
 have hl:=c_B p
 obtain ⟨h1,h2,_⟩:=h.gob hl
 have hm:¬b_S (rwF (gO p)) (gO p).length (nN p.first) (goN p.goals) < 0:=by
  rw [twF,decide_eq_true_eq] at ht;omega
 obtain ⟨m,em,hml,hfair,hreach⟩:=e_f (gO_B h.x).gr (by rw [hl];exact c_v h.fr) hm
 obtain ⟨FL,_⟩:=d_q (b:=9216) (gO_B h.x).gr hml hfair (fun l hl=>⟨h1.lt l hl,h2 l hl⟩) hreach
 exact ⟨_,_,FL⟩
end Go.Proofs.YtohkciilfkhomaaGreat
namespace Go.Proofs.YtohkciilfkhomaaGreat
open Go Go.Sep Go.Pt
def d_H (a:Au) (c:Int) (q q':Nat):Prop:=∃e∈a.edges,e.lt=c∧e.src=(q:Int)∧e.dst=(q':Int)
def ArcW (a:Au) (s l:List Int) (x y:Nat×Nat):Prop:=x.1 < s.length+l.length∧y.1=nxW s l x.1∧d_H a (letW s l x.1) x.2 y.2
def enc (n:Nat) (x:Nat×Nat):Nat:=x.1*n+x.2
theorem b_W {a:Au} (fa:GoodF a) {c:Int} {q q':Nat} (h:d_H a c q q'):q < a.states.toNat∧q' < a.states.toNat:=by
 obtain ⟨e,he,_,h1,h2⟩:=h
 have:=a_h.1 (fa.ei e he)
 omega
theorem arcW_iff {a:Au} (fa:GoodF a) {s l:List Int} {v w:Nat}:ArcE (wpE a s l (s.length+l.length)) v w↔∃x y,ArcW a s l x y∧v=enc a.states.toNat x∧w=enc a.states.toNat y:=by
 have hst:=fa.st
 have key:∀(t q:Nat),((enc a.states.toNat (t,q):Nat):Int)=(t:Int)*a.states+q:=fun t q=>by
  unfold enc
  rw [Int.natCast_add,Int.natCast_mul,Int.toNat_of_nonneg (by omega)]
 constructor
 ·rintro ⟨e,he,h1,h2⟩
  simp only [wpE,wpR,List.mem_flatMap,List.mem_map,List.mem_filter,List.mem_range,decide_eq_true_eq] at he
  obtain ⟨t,ht,e0,⟨h3,h4⟩,rfl⟩:=he
  have hi:=a_h.1 (fa.ei e0 h3)
  refine ⟨(t,e0.src.toNat),(nxW s l t,e0.dst.toNat),⟨ht,rfl,e0,h3,h4,by simp only;omega,by simp only;omega⟩,?_,?_⟩
  ·have:=key t e0.src.toNat
   simp only [wpS] at h1
   rw [← Int.ofNat_inj,this];omega
  ·have:=key (nxW s l t) e0.dst.toNat
   simp only [wpS] at h2
   rw [← Int.ofNat_inj,this];omega
 ·rintro ⟨⟨t,q⟩,⟨t',q'⟩,⟨h1,h2,e,he,h3,h4,h5⟩,rfl,rfl⟩
  simp only at h1 h2 h3 h4 h5
  subst h2
  refine ⟨wpS a.states s l t e,?_,?_,?_⟩
  ·simp only [wpE,wpR,List.mem_flatMap,List.mem_map,List.mem_filter,List.mem_range,decide_eq_true_eq]
   exact ⟨t,h1,e,⟨he,h3⟩,rfl⟩
  ·rw [key];simp only [wpS];omega
  ·rw [key];simp only [wpS];omega
end Go.Proofs.YtohkciilfkhomaaGreat
namespace Go.Proofs.YtohkciilfkhomaaGreat
open Go Go.Sep Go.Pt
theorem often {f:Nat→Nat} {M:Nat} (hM:∀i,f i < M):∃v,∀n,∃i,n≤i∧f i=v:=by
 have key:∀M,(∀v,v < M→∃n,∀i,n≤i→f i≠v)→∃n,∀i,n≤i→M≤f i:=by
  intro M
  induction M with
  | zero=>exact fun _=>⟨0,fun _ _=>Nat.zero_le _⟩
  | succ M ih=>
   intro h
   obtain ⟨n,hn⟩:=ih fun v hv=>h v (by omega)
   obtain ⟨m,hm⟩:=h M (by omega)
   refine ⟨max n m,fun i hi=>?_⟩
   have h1:=hn i (by omega)
   have h2:=hm i (by omega)
   omega
 apply Classical.byContradiction
 intro hc
 obtain ⟨n,hn⟩:=key M fun v _=>by
  apply Classical.byContradiction
  intro h2
  exact hc ⟨v,fun n=>by
   apply Classical.byContradiction
   intro h3
   exact h2 ⟨n,fun i hi e=>h3 ⟨i,hi,e⟩⟩⟩
 have h1:=hn n (Nat.le_refl _)
 have h2:=hM n
 omega
theorem e_v {E:Nat→Nat→Prop} {f:Nat→Nat} (hE:∀i,E (f i) (f (i+1))) (i k:Nat):Rch E (f i) (f (i+k)):=by
 induction k with
 | zero=>exact .refl _
 | succ k ih=>exact ih.snoc (hE (i+k))
theorem run_part {E:Nat→Nat→Prop} {f:Nat→Nat} {M:Nat} (hE:∀i,E (f i) (f (i+1))) (hM:∀i,f i < M):∃N,∀i,N≤i→Con E (f N) (f i):=by
 obtain ⟨v,hv⟩:=often hM
 obtain ⟨N,_,hN⟩:=hv 0
 refine ⟨N,fun i hi=>⟨?_,?_⟩⟩
 ·have:=e_v hE N (i - N)
  rwa [show N+(i - N)=i by omega] at this
 ·obtain ⟨j,hj,e⟩:=hv i
  have:=e_v hE i (j - i)
  rw [show i+(j - i)=j by omega,e,← hN] at this
  exact this
def FairX (E:Nat→Nat→Prop) (goals:List (List Nat)) (v:Nat):Prop:=(∃a b,Con E v a∧Con E v b∧E a b)∧∀g∈goals,∃x∈g,Con E v x
theorem run_fair {E:Nat→Nat→Prop} {f:Nat→Nat} {M:Nat} {goals:List (List Nat)} (hE:∀i,E (f i) (f (i+1))) (hM:∀i,f i < M) (hg:∀g∈goals,∀n,∃i,n≤i∧f i∈g):∃N,FairX E goals (f N):=by
 obtain ⟨N,hN⟩:=run_part hE hM
 refine ⟨N,⟨f N,f (N+1),hN _ (Nat.le_refl _),hN _ (by omega),hE N⟩,fun g h=>?_⟩
 obtain ⟨i,hi,h2⟩:=hg g h N
 exact ⟨f i,h2,hN i hi⟩
def posW (S L i:Nat):Nat:=if i < S then i else S+(i - S) % L
theorem e_w (S L:Nat):posW S L 0=0:=by
 unfold posW
 split
 ·rfl
 ·rename_i h
  have:S=0:=by omega
  subst this;simp
theorem f_7 (S:Nat) {L:Nat} (h:1≤L) (i:Nat):posW S L i < S+L:=by
 unfold posW
 split
 ·omega
 ·have:=Nat.mod_lt (i - S) h;omega
theorem e_x (S:Nat) {L:Nat} (h:1≤L) (i:Nat):posW S L (i+1)=if posW S L i+1 < S+L then posW S L i+1 else S:=by
 unfold posW
 by_cases h1:i+1 < S
 ·rw [if_pos h1,if_pos (show i < S by omega),if_pos (by omega)]
 ·rw [if_neg h1]
  by_cases h2:i < S
  ·have e:i+1=S:=by omega
   rw [if_pos h2,if_pos (by omega),e];simp
  ·rw [if_neg h2]
   have e1:i+1 - S=(i - S)+1:=by omega
   have e2:=Nat.div_add_mod (i - S) L
   have hr:=Nat.mod_lt (i - S) h
   rw [e1]
   generalize (i - S) % L=r at e2 hr ⊢
   have e3:(i - S+1) % L=(r+1) % L:=by
    conv=>lhs;rw [← e2,Nat.add_assoc,Nat.mul_add_mod]
   rw [e3]
   by_cases h4:r+1 < L
   ·rw [Nat.mod_eq_of_lt h4,if_pos (by omega)];omega
   ·have h5:r+1=L:=by omega
    rw [h5,Nat.mod_self,if_neg (by omega)];omega
theorem posW_often {S L j:Nat} (h1:S≤j) (h2:j < S+L) (n:Nat):∃i,n≤i∧posW S L i=j:=by
 refine ⟨S+n*L+(j - S),?_,?_⟩
 ·have:=Nat.le_mul_of_pos_right n (show 0 < L by omega)
  omega
 ·unfold posW
  rw [if_neg (by omega)]
  have e:S+n*L+(j - S) - S=(j - S)+n*L:=by omega
  rw [e,Nat.add_mul_mod_self_right,Nat.mod_eq_of_lt (by omega)];omega
theorem lasso_run {row:Nat→List Nat} {some:List Nat} {goals:List (List Nat)} {stem loop:List Nat} (h:FairL row some goals stem loop):∃f:Nat→Nat,(∀i,f i=(stem++loop).getD (posW stem.length loop.length i) 0)∧f 0∈some∧(∀i,f (i+1)∈row (f i))∧∀g∈goals,∀n,∃i,n≤i∧f i∈g:=by
 obtain ⟨f,hf⟩:∃f:Nat→Nat,∀i,f i=(stem++loop).getD (posW stem.length loop.length i) 0:=⟨_,fun i=>rfl⟩
 have hne:=h.ne
 refine ⟨f,hf,by rw [hf,e_w];exact h.fst,fun i=>?_,fun g hg n=>?_⟩
 ·have hp:=f_7 stem.length hne i
  have hs:=e_x stem.length hne i
  rw [hf,hf,hs]
  generalize posW stem.length loop.length i=p at hp ⊢
  have hw:=h.way p (by simp only [List.length_append,List.length_cons,List.length_nil];omega)
  have e1:(stem++loop++[loop.getD 0 0]).getD p 0=(stem++loop).getD p 0:=by
   simp only [List.getD]
   rw [List.getElem?_append_left (by simpa using hp)]
  rw [e1] at hw
  by_cases h1:p+1 < stem.length+loop.length
  ·rw [if_pos h1]
   have e2:(stem++loop++[loop.getD 0 0]).getD (p+1) 0=(stem++loop).getD (p+1) 0:=by
    simp only [List.getD]
    rw [List.getElem?_append_left (by simpa using h1)]
   rwa [e2] at hw
  ·rw [if_neg h1]
   have e2:(stem++loop++[loop.getD 0 0]).getD (p+1) 0=loop.getD 0 0:=by
    have:p+1=(stem++loop).length:=by simp;omega
    rw [this];simp [List.getD]
   have e3:(stem++loop).getD stem.length 0=loop.getD 0 0:=by
    simp [List.getD,List.getElem?_append_right]
   rw [e2] at hw
   rw [e3];exact hw
 ·obtain ⟨x,hx,hxg⟩:=h.met g hg
  obtain ⟨k,hk,rfl⟩:=List.mem_iff_getElem.1 hx
  obtain ⟨i,hi,e⟩:=posW_often (S:=stem.length) (L:=loop.length) (j:=stem.length+k) (by omega) (by omega) n
  refine ⟨i,hi,?_⟩
  rw [hf,e]
  have:(stem++loop).getD (stem.length+k) 0=loop[k]:=by
   simp [List.getD,hk]
  rw [this];exact hxg
def wdW (s l:List Int) (i:Nat):Int:=letW s l (posW s.length l.length i)
def AccR (a:Au) (w:Nat→Int):Prop:=∃q:Nat→Nat,((q 0:Nat):Int)∈a.first∧(∀i,d_H a (w i) (q i) (q (i+1)))∧∀g∈a.goals,∀n,∃i,n≤i∧((q i:Nat):Int)∈g
theorem enc_div {n p q:Nat} (h:q < n):enc n (p,q) / n=p:=by
 unfold enc
 simp only
 rw [Nat.add_comm,Nat.add_mul_div_right _ _ (by omega),Nat.div_eq_of_lt h,Nat.zero_add]
theorem enc_mod {n p q:Nat} (h:q < n):enc n (p,q) % n=q:=by
 unfold enc
 simp only
 rw [Nat.add_comm,Nat.add_mul_mod_self_right,Nat.mod_eq_of_lt h]
theorem encI {n:Int} (h:0≤n) (p q:Nat):((enc n.toNat (p,q):Nat):Int)=(p:Int)*n+q:=by
 unfold enc
 rw [Int.natCast_add,Int.natCast_mul,Int.toNat_of_nonneg h]
theorem c_r {a:Au} (ga:a_l a=true) {s l:List Int} (hs:s.length≤24) (hl:1≤l.length∧l.length≤24):twF (wpA a s l)=true↔AccR a (wdW s l):=by
 have fa:=a_B ga
 have hN:=d_u ga
 have sta:=fa.st
 have hpr:=wpA_pr ga hs hl
 have hg1:goN (wpA a s l).goals=a.goals.map fun g=>nN (prs (below (s.length+l.length)) g a.states):=by
  show (wpG a (s.length+l.length) a.goals.length).map nN=_
  rw [wpG,List.take_length,List.map_map];rfl
 constructor
 ·intro ht
  obtain ⟨stem,loop,hL⟩:=acc_lasso hpr ht
  have ha:=arcE_eq hpr.x
  obtain ⟨f,_,h0,h1,h2⟩:=lasso_run hL
  have hE:∀i,∃x y,ArcW a s l x y∧f i=enc a.states.toNat x∧f (i+1)=enc a.states.toNat y:=fun i=>(arcW_iff fa).1 (by
   have:aO_ (rwF (gO (wpA a s l))) (f i) (f (i+1)):=h1 i
   rw [ha] at this;exact this)
  have h0':((f 0:Nat):Int)∈a.first∧f 0 < a.states.toNat:=by
   obtain ⟨x,hx,e⟩:=List.mem_map.1 h0
   have hx2:x∈a.first:=hx
   have:=hN.fr x hx2
   rw [← e,Int.toNat_of_nonneg (by omega)]
   exact ⟨hx2,by omega⟩
  have hp:∀i,f i / a.states.toNat=posW s.length l.length i:=by
   intro i
   induction i with
   | zero=>rw [e_w,Nat.div_eq_of_lt h0'.2]
   | succ i ih=>
    obtain ⟨⟨p,q⟩,⟨p',q'⟩,⟨k1,k2,k3⟩,e1,e2⟩:=hE i
    have hq:=b_W fa k3
    simp only at k1 k2 hq
    rw [e1,enc_div hq.1] at ih
    rw [e2,enc_div hq.2,e_x _ hl.1,← ih,k2];rfl
  have hm:∀i,f i % a.states.toNat < a.states.toNat:=fun i=>Nat.mod_lt _ (by omega)
  refine ⟨fun i=>f i % a.states.toNat,by simp only;rw [Nat.mod_eq_of_lt h0'.2];exact h0'.1,fun i=>?_,fun g hg n=>?_⟩
  ·obtain ⟨⟨p,q⟩,⟨p',q'⟩,⟨k1,k2,k3⟩,e1,e2⟩:=hE i
   have hq:=b_W fa k3
   simp only at k1 k2 hq k3
   have hp1:=hp i
   rw [e1,enc_div hq.1] at hp1
   show d_H a (letW s l (posW s.length l.length i)) _ _
   simp only
   rw [e1,e2,enc_mod hq.1,enc_mod hq.2,← hp1];exact k3
  ·obtain ⟨i,hi,hm⟩:=h2 _ (by rw [hg1];exact List.mem_map.2 ⟨g,hg,rfl⟩) n
   refine ⟨i,hi,?_⟩
   obtain ⟨z,hz,e⟩:=List.mem_map.1 hm
   obtain ⟨t,ht,j,hj,rfl⟩:=prs_mem.1 hz
   have ht2:=b_O.1 ht
   have hj2:=hN.go g hg j hj
   have e2:=encI (n:=a.states) (by omega) t.toNat j.toNat
   rw [Int.toNat_of_nonneg ht2.1,Int.toNat_of_nonneg hj2.1] at e2
   rw [← e2,Int.toNat_natCast] at e
   simp only
   rw [← e,enc_mod (by omega),Int.toNat_of_nonneg hj2.1];exact hj
 ·rintro ⟨q,q0,q1,q2⟩
  have hlt:∀i,q i < a.states.toNat:=fun i=>(b_W fa (q1 i)).1
  have hE:∀i,ArcE (wpA a s l).edges (enc a.states.toNat (posW s.length l.length i,q i)) (enc a.states.toNat (posW s.length l.length (i+1),q (i+1))):=fun i=>
   (arcW_iff fa).2 ⟨(posW s.length l.length i,q i),(posW s.length l.length (i+1),q (i+1)),⟨f_7 _ hl.1 i,by simp only;rw [e_x _ hl.1];rfl,q1 i⟩,rfl,rfl⟩
  rw [acc_iff hpr]
  have hb:∀i,enc a.states.toNat (posW s.length l.length i,q i) < (s.length+l.length)*a.states.toNat:=fun i=>by
   have h1:=f_7 s.length hl.1 i
   have h2:=hlt i
   have h3:(posW s.length l.length i+1)*a.states.toNat≤(s.length+l.length)*a.states.toNat:=Nat.mul_le_mul_right _ h1
   unfold enc
   simp only
   rw [Nat.add_mul] at h3
   omega
  obtain ⟨N,hf⟩:=run_fair (E:=ArcE (wpA a s l).edges) (f:=fun i=>enc a.states.toNat (posW s.length l.length i,q i)) (goals:=goN (wpA a s l).goals) hE hb (fun g' hg' n=>by
   rw [hg1] at hg'
   obtain ⟨g,hg,rfl⟩:=List.mem_map.1 hg'
   obtain ⟨i,hi,hm⟩:=q2 g hg n
   refine ⟨i,hi,List.mem_map.2 ⟨(posW s.length l.length i:Int)*a.states+q i,prs_mem.2 ⟨_,b_O.2 ⟨by omega,by have:=f_7 s.length hl.1 i;omega⟩,_,hm,rfl⟩,?_⟩⟩
   rw [← encI (by omega)];simp)
  refine ⟨q 0,?_,_,?_,hf⟩
  ·show q 0∈nN a.first
   exact List.mem_map.2 ⟨_,q0,by simp⟩
  ·have:=e_v (E:=ArcE (wpA a s l).edges) (f:=fun i=>enc a.states.toNat (posW s.length l.length i,q i)) hE 0 N
   simp only [Nat.zero_add,e_w] at this
   have e:enc a.states.toNat (0,q 0)=q 0:=by simp [enc]
   rw [e] at this;exact this
end Go.Proofs.YtohkciilfkhomaaGreat
namespace Go.Proofs.YtohkciilfkhomaaGreat
open Go Go.Sep Go.Pt
theorem goalAt_of {a:Au} {q:Nat→Nat} (hq:∀i,(q i:Int) < a.states) (h:∀g∈a.goals,∀n,∃i,n≤i∧((q i:Nat):Int)∈g) (k n:Nat):∃i,n≤i∧((q i:Nat):Int)∈a_o a k:=by
 unfold a_o
 split
 ·rename_i hk
  have hk2:k < a.goals.length:=by omega
  exact h _ (by rw [Int.toNat_natCast,a_k hk2];exact List.getElem_mem _) n
 ·exact ⟨n,Nat.le_refl _,b_O.2 ⟨by omega,by have:=hq n;omega⟩⟩
theorem goalAt_get {a:Au} {k:Nat} (h:k < a.goals.length):a_o a k=a.goals[k]:=by
 unfold a_o
 rw [if_pos (by omega),Int.toNat_natCast,a_k h]
end Go.Proofs.YtohkciilfkhomaaGreat
namespace Go.Proofs.YtohkciilfkhomaaGreat
open Go Go.Sep Go.Pt
attribute [local irreducible] a_a
theorem reach_gen (g:List (List Nat)) (hg:GrB g) (some:List Nat) (hsm:∀v∈some,v < g.length) (hsl:some.length≤100000):Pu Tryz.prog 64 [Ls (gI g),Is (nI some)] (Is (nI (gwB g.length fun v=>decide (0≤farF (rwF g) g.length some v)))):=by
 refine ⟨fun H=>a_a.fin ?_⟩
 have hn:=hg.n
 refine a_a.ghost W64_hb fun z hz=>?_
 have st:=lent (LPl.local eI) (LPl.has eI) 1 ((St.nil H).cell hz []) 0 rfl
 generalize H.set z []=G at st ⊢
 clear hz
 refine W64_ok ?_;simp (maxSteps:=1000000) (disch:=first|assumption|apply Y6;assumption) only [W64,vz,vu,vv,eqS,eF_,↓c1_,↓c2_,tabs,reduceCtorEq,X5,↓reduceIte,Y1,Y2,Y3,Y4,Y5,X1,X2,X3,X4]
 refine Pu.use (d_a g hg some hsm hsl) ?_
 generalize farF (rwF g) g.length some=F
 generalize g.length=n at hn ⊢
 have hml:=a_f F n
 (try simp (disch:=first|assumption|apply Y6;assumption) only [vz,vu,vv,eqS,eF_,↓c1_,↓c2_,tabs,reduceCtorEq,X5,↓reduceIte,Y1,Y2,Y3,Y4,Y5,X1,X2,X3,X4,hml])
 refine e_5 ((0:Nat),(.p .nil:AV),[z],G) (fun s=>s.2.1) (fun s=>I s.1) (fun s=>s.2.2.2)
  (fun s=>s.1≤n∧St H [riT z s.2.1 (nI (gwB s.1 fun v=>decide (0≤F v))) s.2.2.1] s.2.2.2) (fun s=>n - s.1)
  ⟨⟨by simp,st⟩,.refl _,.refl _,Heap.le_refl _⟩ ?_
 clear st G
 rintro ⟨i,x,D,G⟩ ⟨hi,st⟩
 dsimp only at hi st
 have e5:IntKind.i64.wrap ((i:Int)+1)=((i+1:Nat):Int):=by rw [i6_ (by omega) (by omega)];simp
 have hs:=d_b i fun v=>decide (0≤F v)
 have hgl:=a_3 i fun v=>decide (0≤F v)
 have hnl:=nL_ (gwB i fun v=>decide (0≤F v))
 (try simp (disch:=first|assumption|apply Y6;assumption) only [vz,vu,vv,eqS,eF_,↓c1_,↓c2_,tabs,reduceCtorEq,X5,↓reduceIte,Y1,Y2,Y3,Y4,Y5,X1,X2,X3,X4,B64_0,hml,e5])
 refine ⟨fun h1=>⟨by omega,h1,?_⟩,fun h1=>?_⟩
 ·have hg:=a_P F (n:=n) (v:=i) (by omega)
  rw [hg]
  refine ⟨fun h2=>?_,fun h2=>?_⟩
  ·simp only [h2,decide_true,if_true] at hs
   refine lit1 a_g rfl a_u ⟨rfl,rfl⟩ ?_
   refine c_I (ys:=[(i:Int)]) st 0 rfl (by simp only [List.length_singleton];omega) fun q' G' hq' st=>?_
   have e:nI (gwB i fun v=>decide (0≤F v))++[(i:Int)]=nI (gwB (i+1) fun v=>decide (0≤F v)):=by rw [hs,a_X];rfl
   rw [e] at st ⊢
   (try simp (disch:=first|assumption|apply Y6;assumption) only [vz,vu,vv,eqS,eF_,↓c1_,↓c2_,tabs,reduceCtorEq,X5,↓reduceIte,Y1,Y2,Y3,Y4,Y5,X1,X2,X3,X4,e5])
   exact ⟨(i+1,_,[q'],_),⟨by simp only;omega,st⟩,by simp only;omega,.refl _,.refl _,Heap.le_refl _⟩
  ·simp only [h2,decide_false,Bool.false_eq_true,if_false] at hs
   exact ⟨(i+1,x,D,G),⟨by simp only;omega,by rw [hs];exact st⟩,by simp only;omega,.refl _,.refl _,Heap.le_refl _⟩
 ·have:i=n:=by omega
  subst this
  exact rz_val st 0 rfl
def nmF (L:List Nat) (v:Nat):Int:=if v∈L then (L.idxOf v:Int) else -1
theorem nmF_nil:nmF []=fun _=>-1:=by funext v;simp [nmF]
theorem nmF_snoc {L:List Nat} {w:Nat} (h:w∉L):nmF (L++[w])=updI (nmF L) w L.length:=by
 funext v
 unfold nmF updI
 by_cases e:v=w
 ·subst e
  simp [List.idxOf_append,h]
 ·by_cases hv:v∈L
  ·simp [e,hv,List.idxOf_append]
  ·simp [e,hv]
theorem e_y {f g:Nat→Int} {n:Nat} (h:∀v,v < n→f v=g v):mpI f n=mpI g n:=by
 unfold mpI
 exact List.map_congr_left fun v hv=>h v (List.mem_range.1 hv)
noncomputable def kp1 (a:Au) (v:Nat):Bool:=decide (0≤farF (rwF (a_G (gA a))) (gA a).length (gwB (gA a).length (a_s (rwF (gA a)) (goN a.goals))) v)
noncomputable def kp2 (a:Au) (v:Nat):Bool:=decide (0≤farF (rwF (gA a)) (gA a).length (nN a.first) v)
noncomputable def kpL (a:Au) (k:Nat):List Nat:=gwB k fun v=>kp1 a v && kp2 a v
theorem gwB_lt {n:Nat} {p:Nat→Bool} {v:Nat} (h:v∈gwB n p):v < n:=List.mem_range.1 (List.mem_filter.1 h).1
theorem gwB_mem {n:Nat} {p:Nat→Bool} {v:Nat} (h:v < n):decide (v∈gwB n p)=p v:=by
 cases hp:p v<;>simp [gwB,h,hp]
def keE (f:Nat→Int) (es:List Ed):List Ed:=(es.filter fun e=>decide (0≤f e.src.toNat) && decide (0≤f e.dst.toNat)).map fun e=>⟨f e.src.toNat,e.lt,f e.dst.toNat⟩
theorem keE_succ (f:Nat→Int) {es:List Ed} {k:Nat} (h:k < es.length):keE f (es.take (k+1))=if 0≤f (es.getD k default).src.toNat∧0≤f (es.getD k default).dst.toNat then keE f (es.take k)++[⟨f (es.getD k default).src.toNat,(es.getD k default).lt,f (es.getD k default).dst.toNat⟩] else keE f (es.take k):=by
 unfold keE
 rw [tS_ h,List.filter_append,List.map_append]
 generalize es.getD k default=e
 by_cases hc:0≤f e.src.toNat∧0≤f e.dst.toNat
 ·rw [if_pos hc];simp [hc.1,hc.2]
 ·rw [if_neg hc]
  have:(decide (0≤f e.src.toNat) && decide (0≤f e.dst.toNat))=false:=by
   rw [Bool.eq_false_iff];intro h2;simp only [Bool.and_eq_true,decide_eq_true_eq] at h2;exact hc h2
  simp [this]
theorem keE_len (f:Nat→Int) (es:List Ed):(keE f es).length≤es.length:=by
 rw [keE,List.length_map];exact List.length_filter_le ..
def keG (f:Nat→Int) (gs:List (List Int)):List (List Int):=gs.map fun l=>a_S f (nN l)
noncomputable def trT (a:Au):Au:=⟨if (kpL a (gA a).length).length=0 then 1 else ((kpL a (gA a).length).length:Int),a_S (nmF (kpL a (gA a).length)) (nN a.first),keE (nmF (kpL a (gA a).length)) a.edges,keG (nmF (kpL a (gA a).length)) a.goals⟩
noncomputable def trR (a:Au):Au×Bool:=if a_l a then (trT a,true) else (c_t,false)
end Go.Proofs.YtohkciilfkhomaaGreat
namespace Go.Proofs.YtohkciilfkhomaaGreat
open Go Go.Sep Go.Pt
theorem rising_pw {l:List Int} {n:Int} (h:a_x l n=true):l.Pairwise (· < ·):=by
 have key:∀d i,i+d+1 < l.length→l.getD i default < l.getD (i+d+1) default:=by
  intro d
  induction d with
  | zero=>
   intro i hi
   have:=a_N.1 (List.all_eq_true.1 h (i+1) (List.mem_range.2 (by omega)))
   simp only [Nat.add_sub_cancel] at this
   simp only [Nat.add_zero];omega
  | succ d ih=>
   intro i hi
   have h1:=ih i (by omega)
   have:=a_N.1 (List.all_eq_true.1 h (i+d+1+1) (List.mem_range.2 (by omega)))
   simp only [Nat.add_sub_cancel] at this
   have e:i+(d+1)+1=i+d+1+1:=by omega
   rw [e];omega
 rw [List.pairwise_iff_getElem]
 intro i j hi hj hij
 have:=key (j - i - 1) i (by omega)
 rw [show i+(j - i - 1)+1=j by omega,a_k hi,a_k hj] at this
 exact this
theorem nmF_in {L:List Nat} {v:Nat}:0≤nmF L v↔v∈L:=by
 unfold nmF
 split
 ·rename_i h;exact ⟨fun _=>h,fun _=>by omega⟩
 ·rename_i h;exact ⟨fun k=>by omega,fun k=>absurd k h⟩
theorem b_X {L:List Nat} {v:Nat} (h:v∈L):nmF L v=(L.idxOf v:Int):=by rw [nmF,if_pos h]
theorem idx_get {L:List Nat} {v:Nat} (h:v∈L):L.getD (L.idxOf v) 0=v:=by
 have hl:=List.idxOf_lt_length_of_mem h
 simp [List.getD,hl]
theorem nmF_lt {L:List Nat} (hs:L.Pairwise (· < ·)) {v w:Nat} (hv:v∈L) (hw:w∈L) (h:v < w):nmF L v < nmF L w:=by
 rw [b_X hv,b_X hw]
 have h1:=List.idxOf_lt_length_of_mem hv
 have h2:=List.idxOf_lt_length_of_mem hw
 have e1:=idx_get hv
 have e2:=idx_get hw
 simp only [List.getD,List.getElem?_eq_getElem h1,List.getElem?_eq_getElem h2,Option.getD_some] at e1 e2
 rcases Nat.lt_trichotomy (L.idxOf v) (L.idxOf w) with h3 | h3 | h3
 ·omega
 ·have:v=w:=by rw [← e1,← e2];congr 1
  omega
 ·have:=List.pairwise_iff_getElem.1 hs _ _ h2 h1 h3
  omega
theorem gwB_pw (n:Nat) (p:Nat→Bool):(gwB n p).Pairwise (· < ·):=List.Pairwise.filter _ List.pairwise_lt_range
theorem f_8 {L:List Nat} {l:List Nat} {x:Int}:x∈a_S (nmF L) l↔∃v∈l,v∈L∧nmF L v=x:=by
 simp only [a_S,List.mem_map,List.mem_filter,decide_eq_true_eq,nmF_in]
 exact ⟨fun ⟨v,⟨h1,h2⟩,h3⟩=>⟨v,h1,h2,h3⟩,fun ⟨v,h1,h2,h3⟩=>⟨v,⟨h1,h2⟩,h3⟩⟩
theorem kept_pw {L:List Nat} (hs:L.Pairwise (· < ·)) {l:List Nat} (hl:l.Pairwise (· < ·)):(a_S (nmF L) l).Pairwise (· < ·):=by
 unfold a_S
 rw [List.pairwise_map]
 refine List.Pairwise.imp_of_mem (fun {x y} hx hy h=>?_) (hl.filter _)
 simp only [List.mem_filter,decide_eq_true_eq,nmF_in] at hx hy
 exact nmF_lt hs hx.2 hy.2 h
theorem e_z {L:List Nat} (hs:L.Pairwise (· < ·)) {l:List Int} {n m:Int} (hl:a_x l n=true) (hm:(L.length:Int)≤m):a_x (a_S (nmF L) (nN l)) m=true:=by
 refine rising_of (kept_pw hs ?_) fun x hx=>?_
 ·unfold nN
  rw [List.pairwise_map]
  refine List.Pairwise.imp_of_mem (fun {x y} hx hy h=>?_) (rising_pw hl)
  obtain ⟨i,hi,rfl⟩:=List.mem_iff_getElem.1 hx
  have:=c_f hl i hi
  rw [a_k hi] at this
  omega
 ·obtain ⟨v,_,hv,rfl⟩:=f_8.1 hx
  rw [b_X hv]
  have:=List.idxOf_lt_length_of_mem hv
  omega
theorem ke_mem {L:List Nat} {es:List Ed} {x:Ed}:x∈keE (nmF L) es↔∃e∈es,e.src.toNat∈L∧e.dst.toNat∈L∧x=⟨nmF L e.src.toNat,e.lt,nmF L e.dst.toNat⟩:=by
 simp only [keE,List.mem_map,List.mem_filter,Bool.and_eq_true,decide_eq_true_eq,nmF_in]
 exact ⟨fun ⟨v,⟨h1,h2,h3⟩,h4⟩=>⟨v,h1,h2,h3,h4.symm⟩,fun ⟨v,h1,h2,h3,h4⟩=>⟨v,⟨h1,h2,h3⟩,h4.symm⟩⟩
theorem ke_pw {L:List Nat} (hs:L.Pairwise (· < ·)) {es:List Ed} (hb:∀e∈es,0≤e.src∧0≤e.dst) (hl:es.Pairwise (fun a b=>edLt a b=true)):(keE (nmF L) es).Pairwise (fun a b=>edLt a b=true):=by
 unfold keE
 rw [List.pairwise_map]
 refine List.Pairwise.imp_of_mem (fun {x y} hx hy h=>?_) (hl.filter _)
 simp only [List.mem_filter,Bool.and_eq_true,decide_eq_true_eq,nmF_in] at hx hy
 have bx:=hb x hx.1
 have b2:=hb y hy.1
 rw [edLt_iff] at h ⊢
 simp only
 rcases h with h | ⟨h1,h | ⟨h2,h3⟩⟩
 ·exact .inl (nmF_lt hs hx.2.1 hy.2.1 (by omega))
 ·exact .inr ⟨by rw [h1],.inl h⟩
 ·exact .inr ⟨by rw [h1],.inr ⟨h2,nmF_lt hs hx.2.2 hy.2.2 (by omega)⟩⟩
theorem kpL_pw (a:Au) (k:Nat):(kpL a k).Pairwise (· < ·):=gwB_pw _ _
theorem f_9 {a:Au} (ga:a_l a=true):a_l (trT a)=true:=by
 have na:=d_u ga
 have fa:=na.f
 have sa:=fa.st
 have hL:=kpL_pw a (gA a).length
 have hlen:(kpL a (gA a).length).length≤a.states.toNat:=by
  rw [← c_A a];exact a_3 _ _
 have hg:=ga
 rw [b_J] at hg ⊢
 simp only [a_1,Bool.and_eq_true,decide_eq_true_eq,List.all_eq_true] at hg ⊢
 obtain ⟨h1,h2,h3,⟨h4,h5⟩,h6⟩:=hg
 unfold trT
 simp only
 generalize kpL a (gA a).length=L at hL hlen ⊢
 have hm:(L.length:Int)≤(if L.length=0 then 1 else (L.length:Int)):=by split<;>omega
 refine ⟨⟨by split<;>omega,by split<;>omega⟩,e_z hL h2 hm,Nat.le_trans (keE_len _ _) h3,⟨by simpa [keG] using h4,fun g hg=>?_⟩,edsOk_of (ke_pw hL (fun e he=>by have:=a_h.1 (fa.ei e he);omega) (edsOk_pw h6)) fun x hx=>?_⟩
 ·obtain ⟨g0,hg0,rfl⟩:=List.mem_map.1 hg
  exact e_z hL (h5 g0 hg0) hm
 ·obtain ⟨e,he,k1,k2,rfl⟩:=ke_mem.1 hx
  have:=a_h.1 (fa.ei e he)
  have i1:=List.idxOf_lt_length_of_mem k1
  have i2:=List.idxOf_lt_length_of_mem k2
  rw [a_h,b_X k1,b_X k2]
  simp only
  omega
theorem stepA_arc {a:Au} (fa:GoodF a) {c:Int} {q q':Nat} (h:d_H a c q q'):q'∈rwF (gA a) q:=by
 obtain ⟨e,he,_,h1,h2⟩:=h
 exact (arc_iff fa.x).2 ⟨e,he,h1,h2⟩
theorem turnG_rch {g:List (List Nat)} (h:GrOk (rwF g) g.length) {u v:Nat}:Rch (fun a b=>b∈rwF (a_G g) a) u v↔Rch (aO_ (rwF g)) v u:=by
 rw [c_j h]
 constructor
 ·intro k
  exact k.rev.mono fun x y hxy=>(c_q h).1 hxy
 ·intro k
  exact k.rev.mono fun x y hxy=>(c_q h).2 hxy
theorem run_fairP {a:Au} (na:AutoN a) {w:Nat→Int} {q:Nat→Nat} (q1:∀i,d_H a (w i) (q i) (q (i+1))) (q2:∀g∈a.goals,∀n,∃i,n≤i∧((q i:Nat):Int)∈g):∃N,FairP (rwF (gA a)) (goN a.goals) (q N):=by
 obtain ⟨N,h⟩:=run_fair (E:=aO_ (rwF (gA a))) (f:=q) (M:=a.states.toNat) (goals:=goN a.goals) (fun i=>stepA_arc na.f (q1 i)) (fun i=>(b_W na.f (q1 i)).1) (fun g' hg' n=>by
  obtain ⟨g,hg,rfl⟩:=List.mem_map.1 hg'
  obtain ⟨i,hi,hm⟩:=q2 g hg n
  exact ⟨i,hi,List.mem_map.2 ⟨_,hm,by simp⟩⟩)
 exact ⟨N,h⟩
theorem run_kept {a:Au} (na:AutoN a) {w:Nat→Int} {q:Nat→Nat} (q0:((q 0:Nat):Int)∈a.first) (q1:∀i,d_H a (w i) (q i) (q (i+1))) (q2:∀g∈a.goals,∀n,∃i,n≤i∧((q i:Nat):Int)∈g) (i:Nat):q i∈kpL a (gA a).length:=by
 have hg:=gA_B na.f
 have hl:=c_A a
 have hE:∀i,aO_ (rwF (gA a)) (q i) (q (i+1)):=fun i=>stepA_arc na.f (q1 i)
 have hlt:∀i,q i < (gA a).length:=fun i=>by rw [hl];exact (b_W na.f (q1 i)).1
 refine List.mem_filter.2 ⟨List.mem_range.2 (hlt i),?_⟩
 rw [Bool.and_eq_true]
 constructor
 ·obtain ⟨N,hN⟩:=run_fairP na (w:=fun j=>w (i+j)) (q:=fun j=>q (i+j)) (fun j=>q1 (i+j)) (fun g hg n=>by
   obtain ⟨k,hk,hm⟩:=q2 g hg (i+n)
   exact ⟨k - i,by omega,by simp only [show i+(k - i)=k by omega];exact hm⟩)
  rw [kp1,decide_eq_true_eq]
  have ht:∀v,∀w∈rwF (a_G (gA a)) v,w < (gA a).length:=by
   rw [c_j hg.gr];exact (c_L hg.gr).lt
  rw [d_o ht (fun v hv=>gwB_lt hv)]
  refine ⟨q (i+N),List.mem_filter.2 ⟨List.mem_range.2 (hlt _),c_h.2 hN⟩,(turnG_rch hg.gr).2 (e_v hE i N)⟩
 ·rw [kp2,decide_eq_true_eq,d_o hg.gr.lt (by rw [hl];exact c_v na.fr)]
  refine ⟨q 0,List.mem_map.2 ⟨_,q0,by simp⟩,?_⟩
  have:=e_v hE 0 i
  rwa [Nat.zero_add] at this
theorem accR_tr {a:Au} (ga:a_l a=true) (w:Nat→Int):AccR (trT a) w↔AccR a w:=by
 have na:=d_u ga
 have fa:=na.f
 have sa:=fa.st
 have hst:∀{c:Int} {r r':Nat},d_H (trT a) c r r'↔∃v v',v∈kpL a (gA a).length∧v'∈kpL a (gA a).length∧nmF (kpL a (gA a).length) v=r∧nmF (kpL a (gA a).length) v'=r'∧d_H a c v v':=by
  intro c r r'
  constructor
  ·rintro ⟨x,hx,h1,h2,h3⟩
   obtain ⟨e,he,k1,k2,rfl⟩:=ke_mem.1 (show x∈keE (nmF (kpL a (gA a).length)) a.edges from hx)
   have:=a_h.1 (fa.ei e he)
   exact ⟨_,_,k1,k2,h2,h3,e,he,h1,by omega,by omega⟩
  ·rintro ⟨v,v',k1,k2,h1,h2,e,he,h3,h4,h5⟩
   have ev:e.src.toNat=v:=by omega
   have ev':e.dst.toNat=v':=by omega
   exact ⟨⟨nmF (kpL a (gA a).length) e.src.toNat,e.lt,nmF (kpL a (gA a).length) e.dst.toNat⟩,ke_mem.2 ⟨e,he,by rw [ev];exact k1,by rw [ev'];exact k2,rfl⟩,h3,by simp only;rw [ev];exact h1,by simp only;rw [ev'];exact h2⟩
 have back:∀{v r:Nat},v∈kpL a (gA a).length→nmF (kpL a (gA a).length) v=(r:Int)→(kpL a (gA a).length).getD r 0=v:=by
  intro v r hv h
  rw [b_X hv] at h
  rw [← Int.ofNat_inj.1 h];exact idx_get hv
 have mem:∀{l:List Int} {r:Nat},(∀x∈l,0≤x∧x < a.states.toNat)→(r:Int)∈a_S (nmF (kpL a (gA a).length)) (nN l)→(((kpL a (gA a).length).getD r 0:Nat):Int)∈l:=by
  intro l r hb h
  obtain ⟨v,hv,k1,k2⟩:=f_8.1 h
  rw [back k1 k2]
  obtain ⟨x,hx,rfl⟩:=List.mem_map.1 hv
  have:=hb x hx
  rw [Int.toNat_of_nonneg this.1];exact hx
 constructor
 ·rintro ⟨r,r0,r1,r2⟩
  refine ⟨fun i=>(kpL a (gA a).length).getD (r i) 0,mem na.fr r0,fun i=>?_,fun g hg n=>?_⟩
  ·obtain ⟨v,v',k1,k2,h1,h2,h3⟩:=hst.1 (r1 i)
   simp only
   rw [back k1 h1,back k2 h2];exact h3
  ·obtain ⟨i,hi,hm⟩:=r2 _ (List.mem_map.2 ⟨g,hg,rfl⟩) n
   exact ⟨i,hi,mem (na.go g hg) hm⟩
 ·rintro ⟨q,q0,q1,q2⟩
  have hk:=run_kept na q0 q1 q2
  have hin:∀{l:List Int} {v:Nat},v∈kpL a (gA a).length→(v:Int)∈l→(((kpL a (gA a).length).idxOf v:Nat):Int)∈a_S (nmF (kpL a (gA a).length)) (nN l):=by
   intro l v hv hl
   exact f_8.2 ⟨v,List.mem_map.2 ⟨_,hl,by simp⟩,hv,b_X hv⟩
  refine ⟨fun i=>(kpL a (gA a).length).idxOf (q i),hin (hk 0) q0,fun i=>hst.2 ⟨q i,q (i+1),hk i,hk (i+1),b_X (hk i),b_X (hk (i+1)),q1 i⟩,fun g hg n=>?_⟩
  obtain ⟨g0,hg0,rfl⟩:=List.mem_map.1 (show g∈keG (nmF (kpL a (gA a).length)) a.goals from hg)
  obtain ⟨i,hi,hm⟩:=q2 g0 hg0 n
  exact ⟨i,hi,hin (hk i) hm⟩
end Go.Proofs.YtohkciilfkhomaaGreat
namespace Go.Proofs.YtohkciilfkhomaaGreat
open Go Go.Sep Go.Pt
end Go.Proofs.YtohkciilfkhomaaGreat
namespace Go.Proofs.YtohkciilfkhomaaGreat
open Go Go.Sep Go.Pt
attribute [local irreducible] a_a
end Go.Proofs.YtohkciilfkhomaaGreat
namespace Go.Proofs.YtohkciilfkhomaaGreat
open Go Go.Sep Go.Pt
attribute [local irreducible] a_a
end Go.Proofs.YtohkciilfkhomaaGreat
namespace Go.Proofs.YtohkciilfkhomaaGreat
open Go Go.Sep Go.Pt
attribute [local irreducible] a_a
end Go.Proofs.YtohkciilfkhomaaGreat
namespace Go.Proofs.YtohkciilfkhomaaGreat
open Go Go.Sep Go.Pt
theorem onF_mem {a:Au} {e:Ed} {n:Nat}:e∈onF a n↔∃j,j < n∧∃x∈a.edges,onE a j x=e:=by
 simp only [onF,List.mem_flatten,List.mem_map,List.mem_range]
 constructor
 ·rintro ⟨_,⟨j,hj,rfl⟩,he⟩
  obtain ⟨x,hx,e1⟩:=List.mem_map.1 he
  exact ⟨j,hj,x,hx,e1⟩
 ·rintro ⟨j,hj,x,hx,rfl⟩
  exact ⟨_,⟨j,hj,rfl⟩,List.mem_map.2 ⟨x,hx,rfl⟩⟩
def onN (a:Au) (j:Nat) (q:Nat):Nat:=if (q:Int)∈a.goals.getD j default then (j+1) % a.goals.length else j
theorem onTo_N (a:Au) (j:Nat) {e:Ed} {q:Nat} (h:e.src=(q:Int)):onTo a j e=(onN a j q:Int):=by
 unfold onTo onN
 rw [h]
 split
 ·rw [Int.natCast_emod]
 ·rfl
theorem stepA_on {a:Au} (fa:GoodF a) {c:Int} {j j' q q':Nat} (hq:q < a.states.toNat) (hq':q' < a.states.toNat):d_H (onT a) c (q+j*a.states.toNat) (q'+j'*a.states.toNat)↔j < a.goals.length∧d_H a c q q'∧j'=onN a j q:=by
 have sa:=fa.st
 have hm:((a.states.toNat:Nat):Int)=a.states:=Int.toNat_of_nonneg (by omega)
 have en:∀q j:Nat,((q+j*a.states.toNat:Nat):Int)=(j:Int)*a.states+q:=fun q j=>by rw [Int.natCast_add,Int.natCast_mul,hm];omega
 constructor
 ·rintro ⟨e,he,h1,h2,h3⟩
  obtain ⟨k,hk,x,hx,rfl⟩:=onF_mem.1 (show e∈onF a a.goals.length from he)
  have ix:=a_h.1 (fa.ei x hx)
  simp only [onE] at h1 h2 h3
  rw [en] at h2 h3
  have d1:=f_V (m:=a.states) (i:=(k:Int)) (j:=x.src) ix.1
  have d2:=f_V (m:=a.states) (i:=(j:Int)) (j:=(q:Int)) (by omega)
  rw [show (k:Int)*a.states+x.src=(j:Int)*a.states+q by omega] at d1
  have ek:k=j:=by have:=d1.1.symm.trans d2.1;omega
  have es:x.src=(q:Int):=d1.2.symm.trans d2.2
  subst ek
  rw [onTo_N a k es] at h3
  have d3:=f_V (m:=a.states) (i:=(onN a k q:Int)) (j:=x.dst) ix.2.1
  have d4:=f_V (m:=a.states) (i:=(j':Int)) (j:=(q':Int)) (by omega)
  rw [show (onN a k q:Int)*a.states+x.dst=(j':Int)*a.states+q' by omega] at d3
  exact ⟨hk,⟨x,hx,h1,es,d3.2.symm.trans d4.2⟩,by have:=d3.1.symm.trans d4.1;omega⟩
 ·rintro ⟨hj,⟨x,hx,h1,h2,h3⟩,rfl⟩
  refine ⟨onE a j x,onF_mem.2 ⟨j,hj,x,hx,rfl⟩,h1,?_,?_⟩
  ·rw [en];simp only [onE];omega
  ·rw [en];simp only [onE];rw [onTo_N a j h2];omega
theorem onN_lt {a:Au} (h:0 < a.goals.length) {j:Nat} (hj:j < a.goals.length) (q:Nat):onN a j q < a.goals.length:=by
 unfold onN
 split
 ·exact Nat.mod_lt _ h
 ·exact hj
theorem wait {a:Au} {q j:Nat→Nat} (hj:∀i,j (i+1)=onN a (j i) (q i)) {n:Nat} (h:∀i,n≤i→j i=j n→¬((q i:Nat):Int)∈a.goals.getD (j n) default):∀k,j (n+k)=j n:=by
 intro k
 induction k with
 | zero=>rfl
 | succ k ih=>
  have:=h (n+k) (by omega) ih
  rw [← Nat.add_assoc,hj,onN,ih,if_neg this]
theorem accR_onT {a:Au} (ga:a_l a=true) (h2:¬a.goals.length < 2) (w:Nat→Int):AccR (onT a) w↔AccR a w:=by
 have na:=d_u ga
 have fa:=na.f
 have sa:=fa.st
 have hk:0 < a.goals.length:=by omega
 have hn:0 < a.states.toNat:=by omega
 have g0:(onT a).goals=[a.goals.getD 0 default]:=rfl
 have gm:∀j,j < a.goals.length→a.goals.getD j default∈a.goals:=fun j hj=>by rw [a_k hj];exact List.getElem_mem _
 constructor
 ·rintro ⟨r,r0,r1,r2⟩
  have split:∀x:Nat,x % a.states.toNat+x / a.states.toNat*a.states.toNat=x:=fun x=>by rw [Nat.mul_comm];exact Nat.mod_add_div _ _
  have hl:∀i,r i % a.states.toNat < a.states.toNat:=fun i=>Nat.mod_lt _ hn
  have hs:∀i,r i / a.states.toNat < a.goals.length∧d_H a (w i) (r i % a.states.toNat) (r (i+1) % a.states.toNat)∧r (i+1) / a.states.toNat=onN a (r i / a.states.toNat) (r i % a.states.toNat):=fun i=>
   (stepA_on fa (hl i) (hl (i+1))).1 (by rw [split,split];exact r1 i)
  have hr0:r 0 < a.states.toNat:=by have:=na.fr _ (show ((r 0:Nat):Int)∈a.first from r0);omega
  have key:∀m,m < a.goals.length→∀n,∃i,n≤i∧r i / a.states.toNat=m∧((r i % a.states.toNat:Nat):Int)∈a.goals.getD m default:=by
   intro m
   induction m with
   | zero=>
    intro _ n
    obtain ⟨i,hi,h⟩:=r2 _ (by rw [g0];exact List.mem_singleton.2 rfl) n
    have:=na.go _ (gm 0 hk) _ h
    have hi2:r i < a.states.toNat:=by omega
    exact ⟨i,hi,Nat.div_eq_of_lt hi2,by rw [Nat.mod_eq_of_lt hi2];exact h⟩
   | succ m ih=>
    intro hm n
    obtain ⟨i,hi,e1,e2⟩:=ih (by omega) n
    have e3:r (i+1) / a.states.toNat=m+1:=by
     rw [(hs i).2.2,e1,onN,if_pos e2,Nat.mod_eq_of_lt hm]
    apply Classical.byContradiction
    intro hc
    have hw:=wait (a:=a) (q:=fun i=>r i % a.states.toNat) (j:=fun i=>r i / a.states.toNat) (fun i=>(hs i).2.2) (n:=i+1) (fun k hk e h=>hc ⟨k,by omega,by rw [e,e3],by rw [e3] at h;exact h⟩)
    obtain ⟨k,hk,h⟩:=r2 _ (by rw [g0];exact List.mem_singleton.2 rfl) (i+1)
    have h5:=na.go _ (gm 0 (by omega)) _ h
    have h6:r k / a.states.toNat=0:=Nat.div_eq_of_lt (by omega)
    have h7:=hw (k - (i+1))
    simp only [show i+1+(k - (i+1))=k by omega,h6,e3] at h7
    omega
  refine ⟨fun i=>r i % a.states.toNat,by simp only;rw [Nat.mod_eq_of_lt hr0];exact r0,fun i=>(hs i).2.1,fun g hg n=>?_⟩
  obtain ⟨m,hm,rfl⟩:=List.mem_iff_getElem.1 hg
  obtain ⟨i,hi,_,h⟩:=key m hm n
  rw [a_k hm] at h
  exact ⟨i,hi,h⟩
 ·rintro ⟨q,q0,q1,q2⟩
  let j:Nat→Nat:=fun i=>Nat.rec 0 (fun i x=>onN a x (q i)) i
  have j0:j 0=0:=rfl
  have js:∀i,j (i+1)=onN a (j i) (q i):=fun i=>rfl
  generalize j=j at j0 js
  have jl:∀i,j i < a.goals.length:=by
   intro i
   induction i with
   | zero=>rw [j0];exact hk
   | succ i ih=>rw [js];exact onN_lt hk ih _
  have ql:∀i,q i < a.states.toNat:=fun i=>(b_W fa (q1 i)).1
  have meet:∀n,∃i,n≤i∧j i=j n∧((q i:Nat):Int)∈a.goals.getD (j n) default:=by
   intro n
   apply Classical.byContradiction
   intro hc
   have hw:=wait js (n:=n) (fun i hi e h=>hc ⟨i,hi,e,h⟩)
   obtain ⟨i,hi,h⟩:=q2 _ (gm _ (jl n)) n
   have:=hw (i - n)
   rw [show n+(i - n)=i by omega] at this
   exact hc ⟨i,hi,this,h⟩
  have zero:∀d n,j n+d=a.goals.length→∃i,n≤i∧j i=0:=by
   intro d
   induction d with
   | zero=>intro n h;have:=jl n;omega
   | succ d ih=>
    intro n h
    obtain ⟨i,hi,e1,e2⟩:=meet n
    have e3:j (i+1)=(j n+1) % a.goals.length:=by rw [js,e1,onN,if_pos e2]
    by_cases hd:d=0
    ·subst hd
     exact ⟨i+1,by omega,by rw [e3,show j n+1=a.goals.length by omega,Nat.mod_self]⟩
    ·rw [Nat.mod_eq_of_lt (by omega)] at e3
     obtain ⟨i',hi',e4⟩:=ih (i+1) (by omega)
     exact ⟨i',by omega,e4⟩
  refine ⟨fun i=>q i+j i*a.states.toNat,?_,fun i=>(stepA_on fa (ql i) (ql (i+1))).2 ⟨jl i,q1 i,js i⟩,fun g hg n=>?_⟩
  ·simp only [j0,Nat.zero_mul,Nat.add_zero];exact q0
  ·rw [g0,List.mem_singleton] at hg
   subst hg
   obtain ⟨i,hi,e⟩:=zero (a.goals.length - j n) n (by have:=jl n;omega)
   obtain ⟨i',hi',e1,e2⟩:=meet i
   rw [e] at e1 e2
   refine ⟨i',by omega,?_⟩
   simp only [e1,Nat.zero_mul,Nat.add_zero];exact e2
theorem accR_onZ {a:Au} (ga:a_l a=true) (h2:a.goals.length < 2) (w:Nat→Int):AccR (onZ a) w↔AccR a w:=by
 have na:=d_u ga
 have fa:=na.f
 have sa:=fa.st
 constructor
 ·rintro ⟨q,q0,q1,q2⟩
  refine ⟨q,q0,q1,fun g hg n=>?_⟩
  obtain ⟨k,hk,rfl⟩:=List.mem_iff_getElem.1 hg
  have:k=0:=by omega
  subst this
  have:=q2 (a_o a 0) (List.mem_singleton.2 rfl) n
  rwa [show a_o a 0=a.goals[0] from goalAt_get hk] at this
 ·rintro ⟨q,q0,q1,q2⟩
  refine ⟨q,q0,q1,fun g hg n=>?_⟩
  have hg:g=a_o a 0:=List.mem_singleton.1 hg
  subst hg
  exact goalAt_of (a:=a) (k:=0) (fun i=>by have:=(b_W fa (q1 i)).1;omega) q2 n
end Go.Proofs.YtohkciilfkhomaaGreat
namespace Go.Proofs.YtohkciilfkhomaaGreat
open Go Go.Sep Go.Pt
attribute [local irreducible] a_a
theorem f_m {a:Au} {j:Nat} (e:Ed) (hj:j < a.goals.length):0≤onTo a j e∧onTo a j e < a.goals.length:=by
 unfold onTo
 split
 ·exact ⟨Int.emod_nonneg _ (by omega),Int.emod_lt_of_pos _ (by omega)⟩
 ·omega
theorem One_impl (a:Au) (sa:smAu a) {H:Heap} {K:k_} (h:∀v G D,LAu (onR a).1 v G D→New H G D→K (.tup [v,B (onR a).2]) G):a_a Tryz.prog 16 [aAu a] H K:=by
 refine a_a.fin ?_
 refine lend3 (St.nil H) W16_hb fun z1 z2 z3 G st=>?_
 refine lend3 st W16_hb fun y1 y2 y3 G st=>?_
 refine W16_ok ?_;simp (maxSteps:=1000000) (disch:=first|assumption|apply Y6;assumption) only [W16,vz,vu,vv,eqS,eF_,↓c1_,↓c2_,tabs,reduceCtorEq,X5,↓reduceIte,Y1,Y2,Y3,Y4,Y5,X1,X2,X3,X4]
 intro r hr r2 nr2 hr2
 replace st:=(st.cell hr [I a.states,Is a.first,Es a.edges,Ls a.goals]).cell (r:=r2) (by rw [Heap.set_other nr2];exact hr2) [I 0,.p .nil,.p .nil,.p .nil]
 generalize (G.set r [I a.states,Is a.first,Es a.edges,Ls a.goals]).set r2 [I 0,.p .nil,.p .nil,.p .nil]=G at st ⊢
 clear hr hr2 nr2
 (try simp (disch:=first|assumption|apply Y6;assumption) only [vz,vu,vv,eqS,eF_,↓c1_,↓c2_,tabs,reduceCtorEq,X5,↓reduceIte,Y1,Y2,Y3,Y4,Y5,X1,X2,X3,X4,lA_ (st.get 1 rfl)])
 refine Pu.use (a_O a sa) ?_
 cases ga:a_l a
 ·(try simp (disch:=first|assumption|apply Y6;assumption) only [vz,vu,vv,eqS,eF_,↓c1_,↓c2_,tabs,reduceCtorEq,X5,↓reduceIte,Y1,Y2,Y3,Y4,Y5,X1,X2,X3,X4,sA_ (st.get 0 rfl)])
  have er:onR a=(c_t,false):=by simp only [onR,ga,Bool.false_eq_true,if_false]
  rw [er] at h
  exact e_c (st.put 0 rfl [I 0,.p .nil,.p .nil,.p .nil]) 2 3 4 rfl rfl rfl (by decide) (by decide) (by decide) h
 have fa:=a_B ga
 have hst:=fa.st
 have hed:=fa.ed
 have hfi:=fa.fi
 have hgl:=fa.gl
 have hmul:=c_e (a:=a.goals.length) (A:=6) (b:=a.states) (B:=96) (by omega) (by omega)
 have es:IntKind.i64.wrap (a.goals.length*a.states)=a.goals.length*a.states:=i6_ (by omega) (by omega)
 (try simp (disch:=first|assumption|apply Y6;assumption) only [vz,vu,vv,eqS,eF_,↓c1_,↓c2_,tabs,reduceCtorEq,X5,↓reduceIte,Y1,Y2,Y3,Y4,Y5,X1,X2,X3,X4,lA_ (st.get 1 rfl),es])
 refine ⟨fun h2=>?_,fun h2=>⟨by omega,by omega,?_⟩⟩
 ·have er:onR a=(onZ a,true):=by simp only [onR,ga,if_true,if_pos (show a.goals.length < 2 by omega)]
  rw [er] at h
  refine f_J a fa fun v G1 D lv nv=>?_
  obtain ⟨q1,q2,q3,D1,D2,D3,rfl,st⟩:=au_split (st.push (auT a v D) nv lv)
  clear lv nv
  (try simp (disch:=first|assumption|apply Y6;assumption) only [vz,vu,vv,eqS,eF_,↓c1_,↓c2_,tabs,reduceCtorEq,X5,↓reduceIte,Y1,Y2,Y3,Y4,Y5,X1,X2,X3,X4])
  intro r5 hr5
  replace st:=st.cell hr5 [I a.states,.sl q1 1 0 a.first.length,.sl q2 3 0 a.edges.length,.sl q3 1 0 a.goals.length]
  generalize G1.set r5 [I a.states,.sl q1 1 0 a.first.length,.sl q2 3 0 a.edges.length,.sl q3 1 0 a.goals.length]=G2 at st ⊢
  (try simp (disch:=first|assumption|apply Y6;assumption) only [vz,vu,vv,eqS,eF_,↓c1_,↓c2_,tabs,reduceCtorEq,X5,↓reduceIte,Y1,Y2,Y3,Y4,Y5,X1,X2,X3,X4,lA_ (st.get 5 rfl)])
  refine Pu.use (goalOf_spec a 0 (by omega) (by omega)) ?_
  have hg0:=goalAt_sm fa 0
  refine b_j (a_o a 0) (by have:=hg0.2;simp only [Int.natCast_zero] at this;omega) fun qn hqn=>?_
  replace st:=st.cell hqn (cP fI (a_o a 0))
  generalize G2.set qn (cP fI (a_o a 0))=G3 at st ⊢
  refine a_2 fun ql hql=>?_
  replace st:=rg_lit (st.cell hql [rowP qn (a_o a 0)])
  generalize G3.set ql [.sl qn 1 0 (a_o a 0).length]=G4 at st ⊢
  (try simp (disch:=first|assumption|apply Y6;assumption) only [vz,vu,vv,eqS,eF_,↓c1_,↓c2_,tabs,reduceCtorEq,X5,↓reduceIte,Y1,Y2,Y3,Y4,Y5,X1,X2,X3,X4,sA_ (st.get 1 rfl)])
  replace st:=st.put 1 rfl [I a.states,.sl q1 1 0 a.first.length,.sl q2 3 0 a.edges.length,.sl ql 1 0 1]
  generalize G4.set r5 [I a.states,.sl q1 1 0 a.first.length,.sl q2 3 0 a.edges.length,.sl ql 1 0 1]=G5 at st ⊢
  (try simp (disch:=first|assumption|apply Y6;assumption) only [vz,vu,vv,eqS,eF_,↓c1_,↓c2_,tabs,reduceCtorEq,X5,↓reduceIte,Y1,Y2,Y3,Y4,Y5,X1,X2,X3,X4,lA_ (st.get 1 rfl),sA_ (st.get 5 rfl)])
  replace st:=st.put 5 rfl [I a.states,.sl q1 1 0 a.first.length,.sl q2 3 0 a.edges.length,.sl ql 1 0 1]
  obtain ⟨x',y',w',hw,hl,hn⟩:=b_A a.states st 2 3 0 rfl rfl rfl (by decide) (by decide) (by decide)
  exact ⟨_,_,.val (v':=.tup [.agg [I a.states,x',y',w'],B true]) (a_W ⟨hw,.refl _,trivial⟩),h _ _ _ hl hn⟩
 ·refine b_j a.first (by omega) fun q1 hq1=>?_
  replace st:=st.cell hq1 (cP fI a.first)
  generalize G.set q1 (cP fI a.first)=G1 at st ⊢
  (try simp (disch:=first|assumption|apply Y6;assumption) only [vz,vu,vv,eqS,eF_,↓c1_,↓c2_,tabs,reduceCtorEq,X5,↓reduceIte,Y1,Y2,Y3,Y4,Y5,X1,X2,X3,X4,lA_ (st.get 2 rfl)])
  have hg0:=a_e (p:=fun x=>smI x∧x.length≤96) (d:=default) fa.gi (show 0 < a.goals.length by omega)
  refine b_j (a.goals.getD 0 default) (by omega) fun qn hqn=>?_
  replace st:=st.cell hqn (cP fI (a.goals.getD 0 default))
  generalize G1.set qn (cP fI (a.goals.getD 0 default))=G2 at st ⊢
  (try simp (disch:=first|assumption|apply Y6;assumption) only [vz,vu,vv,eqS,eF_,↓c1_,↓c2_,tabs,reduceCtorEq,X5,↓reduceIte,Y1,Y2,Y3,Y4,Y5,X1,X2,X3,X4,lA_ (st.get 3 rfl)])
  refine a_2 fun ql hql=>?_
  replace st:=rg_lit (st.cell hql [rowP qn (a.goals.getD 0 default)])
  generalize G2.set ql [.sl qn 1 0 (a.goals.getD 0 default).length]=G3 at st ⊢
  (try simp (disch:=first|assumption|apply Y6;assumption) only [vz,vu,vv,eqS,eF_,↓c1_,↓c2_,tabs,reduceCtorEq,X5,↓reduceIte,Y1,Y2,Y3,Y4,Y5,X1,X2,X3,X4,lA_ (st.get 3 rfl)])
  intro r6 hr6
  replace st:=st.cell hr6 [I (a.goals.length*a.states),rowP q1 a.first,.p .nil,.sl ql 1 0 1]
  (try simp (disch:=first|assumption|apply Y6;assumption) only [vz,vu,vv,eqS,eF_,↓c1_,↓c2_,tabs,reduceCtorEq,X5,↓reduceIte,Y1,Y2,Y3,Y4,Y5,X1,X2,X3,X4,lA_ (st.get 4 rfl)])
  generalize G3.set r6 [I (a.goals.length*a.states),rowP q1 a.first,.p .nil,.sl ql 1 0 1]=G4 at st ⊢
  have hlen:∀j i,j < a.goals.length→i≤a.edges.length→(onP a j i).length+1≤1000000:=fun j i hj hi=>by
   rw [onP_len a j i hi]
   have:j*a.edges.length≤6*2400:=Nat.mul_le_mul (by omega) (by omega)
   omega
  have hg4:a_o a 0=a.goals.getD 0 default:=goalAt0 (by omega)
  refine L16_0_rule ((0:Nat),(.p .nil:AV),[y2],G4) (fun s=>I s.1) (fun s=>s.2.2.2)
   (fun s=>s.1≤a.goals.length∧St H [cT_ r6 [I (a.goals.length*a.states),rowP q1 a.first,s.2.1,.sl ql 1 0 1],rgT 0 (.sl ql 1 0 1) [a.goals.getD 0 default] [ql,qn],cT_ q1 (cP fI a.first),cT_ r2 [I 0,.p .nil,.p .nil,.p .nil],cT_ r [I a.states,Is a.first,Es a.edges,Ls a.goals],riT y1 (.p .nil) [] [y1],reT y2 s.2.1 (onF a s.1) s.2.2.1,rgT y3 (.p .nil) [] [y3],riT z1 (.p .nil) [] [z1],reT z2 (.p .nil) [] [z2],rgT z3 (.p .nil) [] [z3]] s.2.2.2) (fun s=>a.goals.length - s.1)
   ⟨⟨by simp,st⟩,.refl _,Heap.le_refl _⟩ ?_
  clear st
  rintro ⟨j,x,D,G⟩ ⟨hj,st⟩
  dsimp only at hj st
  (try simp (disch:=first|assumption|apply Y6;assumption) only [vz,vu,vv,eqS,eF_,↓c1_,↓c2_,tabs,reduceCtorEq,X5,↓reduceIte,Y1,Y2,Y3,Y4,Y5,X1,X2,X3,X4,B16_0])
  refine ⟨fun h1=>⟨by omega,h1,?_⟩,fun h1=>?_⟩
  ·have hltj:j < a.goals.length:=by omega
   have hgj:=a_e (p:=fun x=>smI x∧x.length≤96) (d:=default) fa.gi hltj
   (try simp (disch:=first|assumption|apply Y6;assumption) only [vz,vu,vv,eqS,eF_,↓c1_,↓c2_,tabs,reduceCtorEq,X5,↓reduceIte,Y1,Y2,Y3,Y4,Y5,X1,X2,X3,X4,lA_ (st.get 4 rfl)])
   refine L16_1_rule ((0:Nat),x,D,G) (fun s=>I s.1) (fun s=>s.2.2.2)
    (fun s=>s.1≤a.edges.length∧St H [cT_ r6 [I (a.goals.length*a.states),rowP q1 a.first,s.2.1,.sl ql 1 0 1],rgT 0 (.sl ql 1 0 1) [a.goals.getD 0 default] [ql,qn],cT_ q1 (cP fI a.first),cT_ r2 [I 0,.p .nil,.p .nil,.p .nil],cT_ r [I a.states,Is a.first,Es a.edges,Ls a.goals],riT y1 (.p .nil) [] [y1],reT y2 s.2.1 (onP a j s.1) s.2.2.1,rgT y3 (.p .nil) [] [y3],riT z1 (.p .nil) [] [z1],reT z2 (.p .nil) [] [z2],rgT z3 (.p .nil) [] [z3]] s.2.2.2) (fun s=>a.edges.length - s.1)
    ⟨⟨by simp,by simp only [onP_zero];exact st⟩,.refl _,Heap.le_refl _⟩ ?_
   clear st x D
   rintro ⟨i,x,D,G⟩ ⟨hi,st⟩
   dsimp only at hi st
   (try simp (disch:=first|assumption|apply Y6;assumption) only [vz,vu,vv,eqS,eF_,↓c1_,↓c2_,tabs,reduceCtorEq,X5,↓reduceIte,Y1,Y2,Y3,Y4,Y5,X1,X2,X3,X4,B16_1])
   refine ⟨fun h5=>⟨by omega,h5,?_⟩,fun h5=>?_⟩
   ·have hlti:i < a.edges.length:=by omega
    have hm:a.edges.getD i default∈a.edges:=a_e (p:=fun x=>x∈a.edges) (fun _ h=>h) hlti
    have hei:=a_h.1 (fa.ei _ hm)
    have hsucc:=onP_succ a j hlti
    have hlp:=hlen j i hltj hi
    generalize a.edges.getD i default=e at hei hsucc ⊢
    intro r8 hr8
    replace st:=st.cell hr8 [I e.src,I e.lt,I e.dst]
    generalize G.set r8 [I e.src,I e.lt,I e.dst]=G5 at st ⊢
    (try simp (disch:=first|assumption|apply Y6;assumption) only [vz,vu,vv,eqS,eF_,↓c1_,↓c2_,tabs,reduceCtorEq,X5,↓reduceIte,Y1,Y2,Y3,Y4,Y5,X1,X2,X3,X4,lA_ (st.get 0 rfl)])
    refine Pu.use (c_y (a.goals.getD j default) e.src (by have:=hgj.1.1;omega)) ?_
    have hto:=f_m (a:=a) e hltj
    have m1:=c_e (a:=j) (A:=6) (b:=a.states) (B:=96) (by omega) (by omega)
    have m2:=c_e (a:=onTo a j e) (A:=6) (b:=a.states) (B:=96) (by omega) (by omega)
    have e1:IntKind.i64.wrap (j*a.states)=j*a.states:=i6_ (by omega) (by omega)
    have e2:IntKind.i64.wrap (onTo a j e*a.states)=onTo a j e*a.states:=i6_ (by omega) (by omega)
    have e3:IntKind.i64.wrap (e.src+j*a.states)=e.src+j*a.states:=i6_ (by omega) (by omega)
    have e4:IntKind.i64.wrap (e.dst+onTo a j e*a.states)=e.dst+onTo a j e*a.states:=i6_ (by omega) (by omega)
    have e5:IntKind.i64.wrap ((j:Int)+1)=j+1:=i6_ (by omega) (by omega)
    have key:∀(N1 N2:k_) (v:Int),v=onTo a j e→(∀x' D' G',St H [cT_ r6 [I (a.goals.length*a.states),rowP q1 a.first,x',.sl ql 1 0 1],rgT 0 (.sl ql 1 0 1) [a.goals.getD 0 default] [ql,qn],cT_ q1 (cP fI a.first),cT_ r2 [I 0,.p .nil,.p .nil,.p .nil],cT_ r [I a.states,Is a.first,Es a.edges,Ls a.goals],riT y1 (.p .nil) [] [y1],reT y2 x' (onP a j (i+1)) D',rgT y3 (.p .nil) [] [y3],riT z1 (.p .nil) [] [z1],reT z2 (.p .nil) [] [z2],rgT z3 (.p .nil) [] [z3]] G'→N2 (I ((i+1:Nat):Int)) G')→
      J16_2 (wkK K) N1 N2 (.ptr r 0) (.ptr r2 0) (I a.goals.length) (.ptr r6 0) (I j) (Is (a.goals.getD j default)) (.ptr r8 0) (I v) (Ls a.goals) (I a.goals.length) (I j) (Es a.edges) (I a.edges.length) (I i) G5:=by
     rintro N1 N2 _ rfl hN
     (try simp (disch:=first|assumption|apply Y6;assumption) only [vz,vu,vv,eqS,eF_,↓c1_,↓c2_,tabs,reduceCtorEq,X5,↓reduceIte,Y1,Y2,Y3,Y4,Y5,X1,X2,X3,X4,J16_2,lA_ (st.get 0 rfl),lA_ (st.get 1 rfl),lA_ (st.get 5 rfl),e1,e2,e3,e4])
     refine c_n (x:=onE a j e) ?_
     refine d_j st 7 rfl (by simp only [List.length_cons,List.length_nil];omega) fun q' G' hq' st=>?_
     rw [← hsucc] at st ⊢
     (try simp (disch:=first|assumption|apply Y6;assumption) only [vz,vu,vv,eqS,eF_,↓c1_,↓c2_,tabs,reduceCtorEq,X5,↓reduceIte,Y1,Y2,Y3,Y4,Y5,X1,X2,X3,X4,sA_ (st.get 1 rfl)])
     have:=hN _ _ _ (st.put 1 rfl [I (a.goals.length*a.states),rowP q1 a.first,rowE q' (onP a j (i+1)),.sl ql 1 0 1]).drop
     have e6:IntKind.i64.wrap ((i:Int)+1)=((i+1:Nat):Int):=by rw [i6_ (by omega) (by omega)];simp
     rw [e6]
     exact this
    by_cases hc:e.src∈a.goals.getD j default
    ·rw [decide_eq_true hc]
     (try simp (disch:=first|assumption|apply Y6;assumption) only [vz,vu,vv,eqS,eF_,↓c1_,↓c2_,tabs,reduceCtorEq,X5,↓reduceIte,Y1,Y2,Y3,Y4,Y5,X1,X2,X3,X4,e5])
     refine ⟨by omega,key _ _ _ ?_ fun x' D' G' st=>⟨(i+1,x',D',G'),⟨by simp only;omega,st⟩,by simp only;omega,.refl _,Heap.le_refl _⟩⟩
     rw [onTo,if_pos hc,Int.tmod_eq_emod_of_nonneg (by omega)];simp
    ·rw [decide_eq_false hc]
     (try simp (disch:=first|assumption|apply Y6;assumption) only [vz,vu,vv,eqS,eF_,↓c1_,↓c2_,tabs,reduceCtorEq,X5,↓reduceIte,Y1,Y2,Y3,Y4,Y5,X1,X2,X3,X4])
     refine key _ _ _ ?_ fun x' D' G' st=>⟨(i+1,x',D',G'),⟨by simp only;omega,st⟩,by simp only;omega,.refl _,Heap.le_refl _⟩
     rw [onTo,if_neg hc]
   ·have:i=a.edges.length:=by omega
    subst this
    rw [onP_all] at st
    refine ⟨(j+1,x,D,G),⟨by simp only;omega,st⟩,by simp only;omega,?_,Heap.le_refl _⟩
    rw [a_r,i6_ (by omega) (by omega)];simp
  ·have:j=a.goals.length:=by omega
   subst this
   obtain ⟨u1,u2,u3,hw,st⟩:=rz_au (a.goals.length*a.states) ((((c_d st 2 rfl).pick 2 rfl).pick 6 rfl).pick 3 rfl)
   (try simp (disch:=first|assumption|apply Y6;assumption) only [vz,vu,vv,eqS,eF_,↓c1_,↓c2_,tabs,reduceCtorEq,X5,↓reduceIte,Y1,Y2,Y3,Y4,Y5,X1,X2,X3,X4,lA_ (st.get 1 rfl)])
   refine a_a.args (args':=[.agg [I (a.goals.length*a.states),.sl u1 1 0 a.first.length,.sl u2 3 0 (onF a a.goals.length).length,.sl u3 1 0 1]]) ?_ ⟨hw,trivial⟩
   refine d_F (o:=onT a) (st.get 0 rfl) (st.ndT 0 rfl) (onT_sm fa) (fun hgo=>?_) (fun hgo=>?_)
   ·have er:onR a=(onT a,true):=by simp only [onR,ga,hgo,if_true,if_neg (show ¬a.goals.length < 2 by omega)]
    rw [er] at h
    (try simp (disch:=first|assumption|apply Y6;assumption) only [vz,vu,vv,eqS,eF_,↓c1_,↓c2_,tabs,reduceCtorEq,X5,↓reduceIte,Y1,Y2,Y3,Y4,Y5,X1,X2,X3,X4,sA_ (st.get 2 rfl)])
    obtain ⟨hl,hn⟩:=au_new (st.put 2 rfl [I (a.goals.length*a.states),.sl u1 1 0 a.first.length,.sl u2 3 0 (onF a a.goals.length).length,.sl u3 1 0 1]) 0 rfl
    exact wkK.keep (h _ _ _ hl hn)
   ·have er:onR a=(c_t,false):=by simp only [onR,ga,hgo,if_true,Bool.false_eq_true,if_false,if_neg (show ¬a.goals.length < 2 by omega)]
    rw [er] at h
    (try simp (disch:=first|assumption|apply Y6;assumption) only [vz,vu,vv,eqS,eF_,↓c1_,↓c2_,tabs,reduceCtorEq,X5,↓reduceIte,Y1,Y2,Y3,Y4,Y5,X1,X2,X3,X4,sA_ (st.get 2 rfl)])
    exact e_c (st.put 2 rfl [I 0,.p .nil,.p .nil,.p .nil]) 6 7 8 rfl rfl rfl (by decide) (by decide) (by decide) h
theorem l12All_row (n:Nat) (hn:n≤10000) {H:Heap} {K:k_} (h:∀q,H q=none→K (rowP q (below n)) (H.set q (cP fI (below n)))):a_a Tryz.prog 57 [I n] H K:=by
 refine a_a.fin ?_
 refine a_a.ghost W57_hb fun q0 hq0=>?_
 refine W57_ok ?_;simp (maxSteps:=1000000) (disch:=first|assumption|apply Y6;assumption) only [W57,vz,vu,vv,eqS,eF_,↓c1_,↓c2_,tabs,reduceCtorEq,X5,↓reduceIte,Y1,Y2,Y3,Y4,Y5,X1,X2,X3,X4]
 refine L57_0_rule ((0:Nat),q0) (fun s=>rowP s.2 (below s.1)) (fun s=>I s.1) (fun s=>H.set s.2 (cP fI (below s.1))) (fun s=>s.1≤n∧H s.2=none) (fun s=>n - s.1) ⟨⟨by simp,hq0⟩,.nilo _ _ _,.refl _,Heap.le_refl _⟩ ?_
 rintro ⟨i,q⟩ ⟨hi,hq⟩
 dsimp only at hi hq
 have hml:=a_H i
 (try simp (disch:=first|assumption|apply Y6;assumption) only [vz,vu,vv,eqS,eF_,↓c1_,↓c2_,tabs,reduceCtorEq,X5,↓reduceIte,Y1,Y2,Y3,Y4,Y5,X1,X2,X3,X4,B57_0])
 refine ⟨fun h1=>?_,fun h1=>?_⟩
 ·refine c_c hq (by omega) fun q' hq'=>?_
  rw [← e_8]
  (try simp (disch:=first|assumption|apply Y6;assumption) only [vz,vu,vv,eqS,eF_,↓c1_,↓c2_,tabs,reduceCtorEq,X5,↓reduceIte,Y1,Y2,Y3,Y4,Y5,X1,X2,X3,X4])
  refine ⟨(i+1,q'),⟨by simp only;omega,hq'⟩,by simp only;omega,.refl _,?_,Heap.le_refl _⟩
  rw [a_r,i6_ (by omega) (by omega)];simp
 ·have:i=n:=by omega
  subst this
  exact wkK.keep (h q hq)
theorem One_ref (a:Au) (sa:smAu a) {H:Heap} {K:k_} (h:∀v G D,LAu (onR a).1 v G D→New H G D→K (.tup [v,B (onR a).2]) G):a_a Tryz.prog 17 [aAu a] H K:=by
 refine a_a.fin ?_
 refine lend3 (St.nil H) W17_hb fun z1 z2 z3 G st=>?_
 refine lend3 st W17_hb fun y1 y2 y3 G st=>?_
 refine W17_ok ?_;simp (maxSteps:=1000000) (disch:=first|assumption|apply Y6;assumption) only [W17,vz,vu,vv,eqS,eF_,↓c1_,↓c2_,tabs,reduceCtorEq,X5,↓reduceIte,Y1,Y2,Y3,Y4,Y5,X1,X2,X3,X4]
 intro r hr r2 nr2 hr2
 replace st:=(st.cell hr [I a.states,Is a.first,Es a.edges,Ls a.goals]).cell (r:=r2) (by rw [Heap.set_other nr2];exact hr2) [I 0,.p .nil,.p .nil,.p .nil]
 generalize (G.set r [I a.states,Is a.first,Es a.edges,Ls a.goals]).set r2 [I 0,.p .nil,.p .nil,.p .nil]=G at st ⊢
 clear hr hr2 nr2
 (try simp (disch:=first|assumption|apply Y6;assumption) only [vz,vu,vv,eqS,eF_,↓c1_,↓c2_,tabs,reduceCtorEq,X5,↓reduceIte,Y1,Y2,Y3,Y4,Y5,X1,X2,X3,X4,lA_ (st.get 1 rfl)])
 refine Pu.use (a_F a sa) ?_
 cases ga:a_l a
 ·(try simp (disch:=first|assumption|apply Y6;assumption) only [vz,vu,vv,eqS,eF_,↓c1_,↓c2_,tabs,reduceCtorEq,X5,↓reduceIte,Y1,Y2,Y3,Y4,Y5,X1,X2,X3,X4,sA_ (st.get 0 rfl)])
  have er:onR a=(c_t,false):=by simp only [onR,ga,Bool.false_eq_true,if_false]
  rw [er] at h
  exact e_c (st.put 0 rfl [I 0,.p .nil,.p .nil,.p .nil]) 2 3 4 rfl rfl rfl (by decide) (by decide) (by decide) h
 have fa:=a_B ga
 have hst:=fa.st
 have hed:=fa.ed
 have hfi:=fa.fi
 have hgl:=fa.gl
 have hmul:=c_e (a:=a.goals.length) (A:=6) (b:=a.states) (B:=96) (by omega) (by omega)
 have es:IntKind.i64.wrap (a.states*a.goals.length)=a.goals.length*a.states:=by rw [Int.mul_comm];exact i6_ (by omega) (by omega)
 (try simp (disch:=first|assumption|apply Y6;assumption) only [vz,vu,vv,eqS,eF_,↓c1_,↓c2_,tabs,reduceCtorEq,X5,↓reduceIte,Y1,Y2,Y3,Y4,Y5,X1,X2,X3,X4,lA_ (st.get 1 rfl)])
 refine l12Own_live a fa fun v G1 D lv nv=>?_
 obtain ⟨q1,q2,q3,D1,D2,D3,rfl,st⟩:=au_split (st.push (auT a v D) nv lv)
 clear lv nv
 (try simp (disch:=first|assumption|apply Y6;assumption) only [vz,vu,vv,eqS,eF_,↓c1_,↓c2_,tabs,reduceCtorEq,X5,↓reduceIte,Y1,Y2,Y3,Y4,Y5,X1,X2,X3,X4])
 intro r5 hr5
 replace st:=st.cell hr5 [I a.states,.sl q1 1 0 a.first.length,.sl q2 3 0 a.edges.length,.sl q3 1 0 a.goals.length]
 generalize G1.set r5 [I a.states,.sl q1 1 0 a.first.length,.sl q2 3 0 a.edges.length,.sl q3 1 0 a.goals.length]=G2 at st ⊢
 have hg0:=goalAt_sm fa 0
 simp only [Int.natCast_zero] at hg0
 refine ⟨fun h0=>?_,fun h0=>?_⟩
 ·have er:onR a=(onZ a,true):=by simp only [onR,ga,if_true,if_pos (show a.goals.length < 2 by omega)]
  rw [er] at h
  have eg:a_o a 0=below a.states.toNat:=by unfold a_o;rw [if_neg (by omega)]
  have en:(a.states:Int)=(a.states.toNat:Nat):=by omega
  (try simp (disch:=first|assumption|apply Y6;assumption) only [vz,vu,vv,eqS,eF_,↓c1_,↓c2_,tabs,reduceCtorEq,X5,↓reduceIte,Y1,Y2,Y3,Y4,Y5,X1,X2,X3,X4,lA_ (st.get 5 rfl)])
  rw [show (I a.states:AV)=I (a.states.toNat:Nat) by rw [← en]]
  refine l12All_row a.states.toNat (by omega) fun qn hqn=>?_
  rw [← eg]
  replace st:=st.cell hqn (cP fI (a_o a 0))
  generalize G2.set qn (cP fI (a_o a 0))=G3 at st ⊢
  refine a_2 fun ql hql=>?_
  replace st:=rg_lit (st.cell hql [rowP qn (a_o a 0)])
  generalize G3.set ql [.sl qn 1 0 (a_o a 0).length]=G4 at st ⊢
  (try simp (disch:=first|assumption|apply Y6;assumption) only [vz,vu,vv,eqS,eF_,↓c1_,↓c2_,tabs,reduceCtorEq,X5,↓reduceIte,Y1,Y2,Y3,Y4,Y5,X1,X2,X3,X4,sA_ (st.get 1 rfl)])
  replace st:=st.put 1 rfl [I a.states,.sl q1 1 0 a.first.length,.sl q2 3 0 a.edges.length,.sl ql 1 0 1]
  generalize G4.set r5 [I a.states,.sl q1 1 0 a.first.length,.sl q2 3 0 a.edges.length,.sl ql 1 0 1]=G5 at st ⊢
  (try simp (disch:=first|assumption|apply Y6;assumption) only [vz,vu,vv,eqS,eF_,↓c1_,↓c2_,tabs,reduceCtorEq,X5,↓reduceIte,Y1,Y2,Y3,Y4,Y5,X1,X2,X3,X4,J17_3])
  refine ⟨fun _=>?_,fun h2=>by omega⟩
  (try simp (disch:=first|assumption|apply Y6;assumption) only [vz,vu,vv,eqS,eF_,↓c1_,↓c2_,tabs,reduceCtorEq,X5,↓reduceIte,Y1,Y2,Y3,Y4,Y5,X1,X2,X3,X4,lA_ (st.get 1 rfl),sA_ (st.get 5 rfl)])
  replace st:=st.put 5 rfl [I a.states,.sl q1 1 0 a.first.length,.sl q2 3 0 a.edges.length,.sl ql 1 0 1]
  obtain ⟨x',y',w',hw,hl,hn⟩:=b_A a.states st 2 3 0 rfl rfl rfl (by decide) (by decide) (by decide)
  exact ⟨_,_,.val (v':=.tup [.agg [I a.states,x',y',w'],B true]) (a_W ⟨hw,.refl _,trivial⟩),h _ _ _ hl hn⟩
 (try simp (disch:=first|assumption|apply Y6;assumption) only [vz,vu,vv,eqS,eF_,↓c1_,↓c2_,tabs,reduceCtorEq,X5,↓reduceIte,Y1,Y2,Y3,Y4,Y5,X1,X2,X3,X4,J17_3])
 refine ⟨fun h2=>?_,fun h2=>?_⟩
 ·have er:onR a=(onZ a,true):=by simp only [onR,ga,if_true,if_pos (show a.goals.length < 2 by omega)]
  rw [er] at h
  have eg:a.goals=[a_o a 0]:=by
   have h1:a.goals.length=1:=by omega
   obtain ⟨g,hg⟩:=List.length_eq_one_iff.1 h1
   unfold a_o
   rw [if_pos (by omega),hg];rfl
  (try simp (disch:=first|assumption|apply Y6;assumption) only [vz,vu,vv,eqS,eF_,↓c1_,↓c2_,tabs,reduceCtorEq,X5,↓reduceIte,Y1,Y2,Y3,Y4,Y5,X1,X2,X3,X4,lA_ (st.get 0 rfl),sA_ (st.get 4 rfl)])
  replace st:=st.put 4 rfl [I a.states,.sl q1 1 0 a.first.length,.sl q2 3 0 a.edges.length,.sl q3 1 0 a.goals.length]
  obtain ⟨x',y',w',hw,hl,hn⟩:=b_A a.states st 1 2 3 rfl rfl rfl (by decide) (by decide) (by decide)
  rw [show (⟨a.states,a.first,a.edges,a.goals⟩:Au)=onZ a by rw [onZ,← eg]] at hl
  exact ⟨_,_,.val (v':=.tup [.agg [I a.states,x',y',w'],B true]) (a_W ⟨hw,.refl _,trivial⟩),h _ _ _ hl hn⟩
 ·(try simp (disch:=first|assumption|apply Y6;assumption) only [vz,vu,vv,eqS,eF_,↓c1_,↓c2_,tabs,reduceCtorEq,X5,↓reduceIte,Y1,Y2,Y3,Y4,Y5,X1,X2,X3,X4,lA_ (st.get 5 rfl),es])
  refine ⟨by omega,by omega,?_⟩
  refine b_K a.first (by omega) fun q1' hq1'=>?_
  replace st:=st.cell hq1' (cP fI a.first)
  generalize G2.set q1' (cP fI a.first)=G1 at st ⊢
  (try simp (disch:=first|assumption|apply Y6;assumption) only [vz,vu,vv,eqS,eF_,↓c1_,↓c2_,tabs,reduceCtorEq,X5,↓reduceIte,Y1,Y2,Y3,Y4,Y5,X1,X2,X3,X4,lA_ (st.get 6 rfl)])
  have hg0:=a_e (p:=fun x=>smI x∧x.length≤96) (d:=default) fa.gi (show 0 < a.goals.length by omega)
  refine b_K (a.goals.getD 0 default) (by omega) fun qn hqn=>?_
  replace st:=st.cell hqn (cP fI (a.goals.getD 0 default))
  generalize G1.set qn (cP fI (a.goals.getD 0 default))=G2 at st ⊢
  (try simp (disch:=first|assumption|apply Y6;assumption) only [vz,vu,vv,eqS,eF_,↓c1_,↓c2_,tabs,reduceCtorEq,X5,↓reduceIte,Y1,Y2,Y3,Y4,Y5,X1,X2,X3,X4,lA_ (st.get 7 rfl)])
  refine a_2 fun ql hql=>?_
  replace st:=rg_lit (st.cell hql [rowP qn (a.goals.getD 0 default)])
  generalize G2.set ql [.sl qn 1 0 (a.goals.getD 0 default).length]=G3 at st ⊢
  (try simp (disch:=first|assumption|apply Y6;assumption) only [vz,vu,vv,eqS,eF_,↓c1_,↓c2_,tabs,reduceCtorEq,X5,↓reduceIte,Y1,Y2,Y3,Y4,Y5,X1,X2,X3,X4,lA_ (st.get 7 rfl),sA_ (st.get 2 rfl)])
  replace st:=(st.put 2 rfl [I (a.goals.length*a.states),rowP q1' a.first,.p .nil,.sl ql 1 0 1]).pick 2 rfl
  replace st:=((st.erase 3).erase 3).erase 3
  generalize G3.set r5 [I (a.goals.length*a.states),rowP q1' a.first,.p .nil,.sl ql 1 0 1]=G4 at st ⊢
  have hlen:∀j i,j < a.goals.length→i≤a.edges.length→(onP a j i).length+1≤1000000:=fun j i hj hi=>by
   rw [onP_len a j i hi]
   have:j*a.edges.length≤6*2400:=Nat.mul_le_mul (by omega) (by omega)
   omega
  have hg4:a_o a 0=a.goals.getD 0 default:=goalAt0 (by omega)
  refine L17_0_rule ((0:Nat),(.p .nil:AV),[y2],G4) (fun s=>I s.1) (fun s=>s.2.2.2)
   (fun s=>s.1≤a.goals.length∧St H [cT_ r5 [I (a.goals.length*a.states),rowP q1' a.first,s.2.1,.sl ql 1 0 1],rgT 0 (.sl ql 1 0 1) [a.goals.getD 0 default] [ql,qn],cT_ q1' (cP fI a.first),cT_ r2 [I 0,.p .nil,.p .nil,.p .nil],cT_ r [I a.states,Is a.first,Es a.edges,Ls a.goals],riT y1 (.p .nil) [] [y1],reT y2 s.2.1 (onF a s.1) s.2.2.1,rgT y3 (.p .nil) [] [y3],riT z1 (.p .nil) [] [z1],reT z2 (.p .nil) [] [z2],rgT z3 (.p .nil) [] [z3]] s.2.2.2) (fun s=>a.goals.length - s.1)
   ⟨⟨by simp,st⟩,.refl _,Heap.le_refl _⟩ ?_
  clear st
  rintro ⟨j,x,D,G⟩ ⟨hj,st⟩
  dsimp only at hj st
  (try simp (disch:=first|assumption|apply Y6;assumption) only [vz,vu,vv,eqS,eF_,↓c1_,↓c2_,tabs,reduceCtorEq,X5,↓reduceIte,Y1,Y2,Y3,Y4,Y5,X1,X2,X3,X4,B17_0])
  refine ⟨fun h1=>?_,fun h1=>?_⟩
  ·have hltj:j < a.goals.length:=by omega
   have hgj:=a_e (p:=fun x=>smI x∧x.length≤96) (d:=default) fa.gi hltj
   (try simp (disch:=first|assumption|apply Y6;assumption) only [vz,vu,vv,eqS,eF_,↓c1_,↓c2_,tabs,reduceCtorEq,X5,↓reduceIte,Y1,Y2,Y3,Y4,Y5,X1,X2,X3,X4,lA_ (st.get 4 rfl)])
   refine L17_1_rule ((0:Nat),x,D,G) (fun s=>I s.1) (fun s=>s.2.2.2)
    (fun s=>s.1≤a.edges.length∧St H [cT_ r5 [I (a.goals.length*a.states),rowP q1' a.first,s.2.1,.sl ql 1 0 1],rgT 0 (.sl ql 1 0 1) [a.goals.getD 0 default] [ql,qn],cT_ q1' (cP fI a.first),cT_ r2 [I 0,.p .nil,.p .nil,.p .nil],cT_ r [I a.states,Is a.first,Es a.edges,Ls a.goals],riT y1 (.p .nil) [] [y1],reT y2 s.2.1 (onP a j s.1) s.2.2.1,rgT y3 (.p .nil) [] [y3],riT z1 (.p .nil) [] [z1],reT z2 (.p .nil) [] [z2],rgT z3 (.p .nil) [] [z3]] s.2.2.2) (fun s=>a.edges.length - s.1)
    ⟨⟨by simp,by simp only [onP_zero];exact st⟩,.refl _,Heap.le_refl _⟩ ?_
   clear st x D
   rintro ⟨i,x,D,G⟩ ⟨hi,st⟩
   dsimp only at hi st
   (try simp (disch:=first|assumption|apply Y6;assumption) only [vz,vu,vv,eqS,eF_,↓c1_,↓c2_,tabs,reduceCtorEq,X5,↓reduceIte,Y1,Y2,Y3,Y4,Y5,X1,X2,X3,X4,B17_1])
   refine ⟨fun h5=>⟨by omega,h5,?_⟩,fun h5=>?_⟩
   ·have hlti:i < a.edges.length:=by omega
    have hm:a.edges.getD i default∈a.edges:=a_e (p:=fun x=>x∈a.edges) (fun _ h=>h) hlti
    have hei:=a_h.1 (fa.ei _ hm)
    have hsucc:=onP_succ a j hlti
    have hlp:=hlen j i hltj hi
    generalize a.edges.getD i default=e at hei hsucc ⊢
    intro r8 hr8
    replace st:=st.cell hr8 [I e.src,I e.lt,I e.dst]
    generalize G.set r8 [I e.src,I e.lt,I e.dst]=G5 at st ⊢
    (try simp (disch:=first|assumption|apply Y6;assumption) only [vz,vu,vv,eqS,eF_,↓c1_,↓c2_,tabs,reduceCtorEq,X5,↓reduceIte,Y1,Y2,Y3,Y4,Y5,X1,X2,X3,X4,lA_ (st.get 0 rfl),lA_ (st.get 5 rfl)])
    refine ⟨by omega,h1,?_⟩
    refine Pu.use (l1Has_spec (a.goals.getD j default) e.src (by have:=hgj.1.1;omega)) ?_
    have hto:=f_m (a:=a) e hltj
    have m1:=c_e (a:=j) (A:=6) (b:=a.states) (B:=96) (by omega) (by omega)
    have m2:=c_e (a:=onTo a j e) (A:=6) (b:=a.states) (B:=96) (by omega) (by omega)
    have e1:IntKind.i64.wrap (a.states*j)=j*a.states:=by rw [Int.mul_comm];exact i6_ (by omega) (by omega)
    have e2:IntKind.i64.wrap (a.states*onTo a j e)=onTo a j e*a.states:=by rw [Int.mul_comm];exact i6_ (by omega) (by omega)
    have e3:IntKind.i64.wrap (e.src+j*a.states)=e.src+j*a.states:=i6_ (by omega) (by omega)
    have e4:IntKind.i64.wrap (e.dst+onTo a j e*a.states)=e.dst+onTo a j e*a.states:=i6_ (by omega) (by omega)
    have e5:IntKind.i64.wrap ((j:Int)+1)=j+1:=i6_ (by omega) (by omega)
    have key:∀(N1 N2:k_) (v:Int),v=onTo a j e→(∀x' D' G',St H [cT_ r5 [I (a.goals.length*a.states),rowP q1' a.first,x',.sl ql 1 0 1],rgT 0 (.sl ql 1 0 1) [a.goals.getD 0 default] [ql,qn],cT_ q1' (cP fI a.first),cT_ r2 [I 0,.p .nil,.p .nil,.p .nil],cT_ r [I a.states,Is a.first,Es a.edges,Ls a.goals],riT y1 (.p .nil) [] [y1],reT y2 x' (onP a j (i+1)) D',rgT y3 (.p .nil) [] [y3],riT z1 (.p .nil) [] [z1],reT z2 (.p .nil) [] [z2],rgT z3 (.p .nil) [] [z3]] G'→N2 (I ((i+1:Nat):Int)) G')→
      J17_2 (wkK K) N1 N2 (.ptr r 0) (.ptr r2 0) (I a.goals.length) (.ptr r5 0) (I j) (.ptr r8 0) (I v) (Es a.edges) (I a.edges.length) (I i) G5:=by
     rintro N1 N2 _ rfl hN
     (try simp (disch:=first|assumption|apply Y6;assumption) only [vz,vu,vv,eqS,eF_,↓c1_,↓c2_,tabs,reduceCtorEq,X5,↓reduceIte,Y1,Y2,Y3,Y4,Y5,X1,X2,X3,X4,J17_2,lA_ (st.get 0 rfl),lA_ (st.get 1 rfl),lA_ (st.get 5 rfl),e1,e2,e3,e4])
     refine c_n (x:=onE a j e) ?_
     refine d_j st 7 rfl (by simp only [List.length_cons,List.length_nil];omega) fun q' G' hq' st=>?_
     rw [← hsucc] at st ⊢
     (try simp (disch:=first|assumption|apply Y6;assumption) only [vz,vu,vv,eqS,eF_,↓c1_,↓c2_,tabs,reduceCtorEq,X5,↓reduceIte,Y1,Y2,Y3,Y4,Y5,X1,X2,X3,X4,sA_ (st.get 1 rfl)])
     have:=hN _ _ _ (st.put 1 rfl [I (a.goals.length*a.states),rowP q1' a.first,rowE q' (onP a j (i+1)),.sl ql 1 0 1]).drop
     have e6:IntKind.i64.wrap ((i:Int)+1)=((i+1:Nat):Int):=by rw [i6_ (by omega) (by omega)];simp
     rw [e6]
     exact this
    by_cases hc:e.src∈a.goals.getD j default
    ·rw [decide_eq_true hc]
     (try simp (disch:=first|assumption|apply Y6;assumption) only [vz,vu,vv,eqS,eF_,↓c1_,↓c2_,tabs,reduceCtorEq,X5,↓reduceIte,Y1,Y2,Y3,Y4,Y5,X1,X2,X3,X4,e5])
     refine ⟨by omega,key _ _ _ ?_ fun x' D' G' st=>⟨(i+1,x',D',G'),⟨by simp only;omega,st⟩,by simp only;omega,.refl _,Heap.le_refl _⟩⟩
     rw [onTo,if_pos hc,Int.tmod_eq_emod_of_nonneg (by omega)];simp
    ·rw [decide_eq_false hc]
     (try simp (disch:=first|assumption|apply Y6;assumption) only [vz,vu,vv,eqS,eF_,↓c1_,↓c2_,tabs,reduceCtorEq,X5,↓reduceIte,Y1,Y2,Y3,Y4,Y5,X1,X2,X3,X4])
     refine key _ _ _ ?_ fun x' D' G' st=>⟨(i+1,x',D',G'),⟨by simp only;omega,st⟩,by simp only;omega,.refl _,Heap.le_refl _⟩
     rw [onTo,if_neg hc]
   ·have:i=a.edges.length:=by omega
    subst this
    rw [onP_all] at st
    refine ⟨(j+1,x,D,G),⟨by simp only;omega,st⟩,by simp only;omega,?_,Heap.le_refl _⟩
    rw [a_r,i6_ (by omega) (by omega)];simp
  ·have:j=a.goals.length:=by omega
   subst this
   obtain ⟨u1,u2,u3,hw,st⟩:=rz_au (a.goals.length*a.states) ((((c_d st 2 rfl).pick 2 rfl).pick 6 rfl).pick 3 rfl)
   (try simp (disch:=first|assumption|apply Y6;assumption) only [vz,vu,vv,eqS,eF_,↓c1_,↓c2_,tabs,reduceCtorEq,X5,↓reduceIte,Y1,Y2,Y3,Y4,Y5,X1,X2,X3,X4,lA_ (st.get 1 rfl)])
   refine a_a.args (args':=[.agg [I (a.goals.length*a.states),.sl u1 1 0 a.first.length,.sl u2 3 0 (onF a a.goals.length).length,.sl u3 1 0 1]]) ?_ ⟨hw,trivial⟩
   refine l12Made_live (o:=onT a) (st.get 0 rfl) (st.ndT 0 rfl) (onT_sm fa) (fun hgo=>?_) (fun hgo=>?_)
   ·have er:onR a=(onT a,true):=by simp only [onR,ga,hgo,if_true,if_neg (show ¬a.goals.length < 2 by omega)]
    rw [er] at h
    (try simp (disch:=first|assumption|apply Y6;assumption) only [vz,vu,vv,eqS,eF_,↓c1_,↓c2_,tabs,reduceCtorEq,X5,↓reduceIte,Y1,Y2,Y3,Y4,Y5,X1,X2,X3,X4,sA_ (st.get 2 rfl)])
    obtain ⟨hl,hn⟩:=au_new (st.put 2 rfl [I (a.goals.length*a.states),.sl u1 1 0 a.first.length,.sl u2 3 0 (onF a a.goals.length).length,.sl u3 1 0 1]) 0 rfl
    exact wkK.keep (h _ _ _ hl hn)
   ·have er:onR a=(c_t,false):=by simp only [onR,ga,hgo,if_true,Bool.false_eq_true,if_false,if_neg (show ¬a.goals.length < 2 by omega)]
    rw [er] at h
    (try simp (disch:=first|assumption|apply Y6;assumption) only [vz,vu,vv,eqS,eF_,↓c1_,↓c2_,tabs,reduceCtorEq,X5,↓reduceIte,Y1,Y2,Y3,Y4,Y5,X1,X2,X3,X4,sA_ (st.get 2 rfl)])
    exact e_c (st.put 2 rfl [I 0,.p .nil,.p .nil,.p .nil]) 6 7 8 rfl rfl rfl (by decide) (by decide) (by decide) h
end Go.Proofs.YtohkciilfkhomaaGreat
namespace Go.Proofs.YtohkciilfkhomaaGreat
open Go Go.Sep Go.Pt
attribute [local irreducible] a_a
end Go.Proofs.YtohkciilfkhomaaGreat
namespace Go.Proofs.YtohkciilfkhomaaGreat
open Go Go.Sep Go.Pt
attribute [local irreducible] a_a
abbrev aG (rows:List (List Int)):AV:=.agg [Ls rows]
def LGr (rows:List (List Int)) (v:AV) (G:Heap) (D:List Nat):Prop:=∃q,v=.agg [.sl q 1 0 rows.length]∧LII rows (.sl q 1 0 rows.length) G D
theorem LGr.local {rows:List (List Int)} {v:AV} {G G':Heap} {D:List Nat} (h:LGr rows v G D) (hf:∀y∈D,∀b,G y=some b→G' y=some b):LGr rows v G' D:=by
 obtain ⟨x,e,h⟩:=h;exact ⟨x,e,LRow.local LIc.local h hf⟩
theorem LGr.has {rows:List (List Int)} {v:AV} {G:Heap} {D:List Nat} (h:LGr rows v G D):∀y∈D,G y≠none:=by
 obtain ⟨x,e,h⟩:=h;exact LRow.has LIc.has h
def grT (rows:List (List Int)) (v:AV) (D:List Nat):Th:=⟨D,fun G=>LGr rows v G D,fun h f=>h.local f,fun h=>h.has⟩
theorem LGr.wk {rows:List (List Int)} {v:AV} {G:Heap} {D:List Nat} (h:LGr rows v G D) (hD:D.Nodup) (C:AV→AV) (hC:∀{q sz es a a'},FrzR q sz es a a'→FrzR q sz es (C a) (C a')):∃G',Wk (C v) G (C (aG rows)) G'∧∀y,y∉D→G' y=G y:=by
 obtain ⟨q,rfl,h⟩:=h
 obtain ⟨G',w,f⟩:=LRow.frzV (e:=eL) (sz:=1) (v:=C (.agg [.sl q 1 0 rows.length])) (v':=C (aG rows)) (by omega) (fun _=>rfl) LIc.local LIc.frz h hD
  (fun q _ hr=>hC (.agg (.cons hr .nil)))
 exact ⟨G',w,f⟩
def grR (a:Au):List (List Int)×Bool:=if a_l a then (b_q a,true) else ([],false)
theorem Graph_ref (a:Au) (sa:smAu a):Pu Tryz.prog 25 [aAu a] (.tup [aG (grR a).1,B (grR a).2]):=by
 refine ⟨fun H=>a_a.fin ?_⟩
 refine W25_ok ?_;simp (maxSteps:=1000000) (disch:=first|assumption|apply Y6;assumption) only [W25,vz,vu,vv,eqS,eF_,↓c1_,↓c2_,tabs,reduceCtorEq,X5,↓reduceIte,Y1,Y2,Y3,Y4,Y5,X1,X2,X3,X4]
 intro r hr r2 n2 hr2
 have nn2:r≠r2:=Ne.symm n2
 have hle:=Heap.le_setN (b:=[.p .nil]) (Heap.le_set (b:=[I a.states,Is a.first,Es a.edges,Ls a.goals]) hr) hr2
 (try simp (disch:=first|assumption|apply Y6;assumption) only [vz,vu,vv,eqS,eF_,↓c1_,↓c2_,tabs,reduceCtorEq,X5,↓reduceIte,Y1,Y2,Y3,Y4,Y5,X1,X2,X3,X4])
 refine Pu.use (a_F a sa) ?_
 cases ga:a_l a
 ·(try simp (disch:=first|assumption|apply Y6;assumption) only [vz,vu,vv,eqS,eF_,↓c1_,↓c2_,tabs,reduceCtorEq,X5,↓reduceIte,Y1,Y2,Y3,Y4,Y5,X1,X2,X3,X4])
  have e:grR a=([],false):=by simp [grR,ga]
  rw [e]
  exact ⟨_,_,.trans (.val (v':=.tup [aG [],B false]) (a_W ⟨b_9 ⟨.nil,trivial⟩,.refl _,trivial⟩)) (.forget hle),rfl,rfl⟩
 ·(try simp (disch:=first|assumption|apply Y6;assumption) only [vz,vu,vv,eqS,eF_,↓c1_,↓c2_,tabs,reduceCtorEq,X5,↓reduceIte,Y1,Y2,Y3,Y4,Y5,X1,X2,X3,X4])
  refine Pu.use (b_U a (a_B ga)) ?_
  (try simp (disch:=first|assumption|apply Y6;assumption) only [vz,vu,vv,eqS,eF_,↓c1_,↓c2_,tabs,reduceCtorEq,X5,↓reduceIte,Y1,Y2,Y3,Y4,Y5,X1,X2,X3,X4])
  have e:grR a=(b_q a,true):=by simp [grR,ga]
  rw [e]
  exact ⟨_,_,.forget (Heap.le_setN (Heap.le_set hr) hr2),rfl,rfl⟩
theorem Graph_impl (a:Au) (sa:smAu a) {H:Heap} {K:k_} (h:∀v G D,LGr (grR a).1 v G D→New H G D→K (.tup [v,B (grR a).2]) G):a_a Tryz.prog 24 [aAu a] H K:=by
 refine a_a.finish ?_
 refine W24_ok ?_;simp (maxSteps:=1000000) (disch:=first|assumption|apply Y6;assumption) only [W24,vz,vu,vv,eqS,eF_,↓c1_,↓c2_,tabs,reduceCtorEq,X5,↓reduceIte,Y1,Y2,Y3,Y4,Y5,X1,X2,X3,X4]
 intro r hr r2 nr2 hr2
 have st:=((St.nil H).cell hr [I a.states,Is a.first,Es a.edges,Ls a.goals]).cell (r:=r2) (by rw [Heap.set_other nr2];exact hr2) [.p .nil]
 generalize (H.set r [I a.states,Is a.first,Es a.edges,Ls a.goals]).set r2 [.p .nil]=G at st ⊢
 clear hr hr2 nr2
 (try simp (disch:=first|assumption|apply Y6;assumption) only [vz,vu,vv,eqS,eF_,↓c1_,↓c2_,tabs,reduceCtorEq,X5,↓reduceIte,Y1,Y2,Y3,Y4,Y5,X1,X2,X3,X4,lA_ (st.get 1 rfl)])
 refine Pu.use (a_O a sa) ?_
 cases ga:a_l a
 ·(try simp (disch:=first|assumption|apply Y6;assumption) only [vz,vu,vv,eqS,eF_,↓c1_,↓c2_,tabs,reduceCtorEq,X5,↓reduceIte,Y1,Y2,Y3,Y4,Y5,X1,X2,X3,X4,sA_ (st.get 0 rfl)])
  have e:grR a=([],false):=by simp [grR,ga]
  rw [e] at h
  replace st:=st.put 0 rfl [.p .nil]
  refine .ghost fun z hz=>?_
  replace st:=st.cell hz []
  refine .wk (.val (v':=.tup [.agg [.sl z 1 0 0],B false]) (a_W ⟨b_9 ⟨.nilo _ _ _,trivial⟩,.refl _,trivial⟩)) (.done (h _ _ [z] ⟨z,rfl,z,[],[],rfl,st.get 0 rfl,⟨rfl,rfl⟩,rfl⟩ ⟨st.ndT 0 rfl,st.fr _ (List.mem_cons_self ..),st.le⟩))
 ·(try simp (disch:=first|assumption|apply Y6;assumption) only [vz,vu,vv,eqS,eF_,↓c1_,↓c2_,tabs,reduceCtorEq,X5,↓reduceIte,Y1,Y2,Y3,Y4,Y5,X1,X2,X3,X4,lA_ (st.get 1 rfl)])
  refine next_live a (a_B ga) fun x G2 D hx hn=>?_
  obtain ⟨q,rfl⟩:=LRow.sl hx
  replace st:=st.push (grT (b_q a) _ D) hn ⟨q,rfl,hx⟩
  (try simp (disch:=first|assumption|apply Y6;assumption) only [vz,vu,vv,eqS,eF_,↓c1_,↓c2_,tabs,reduceCtorEq,X5,↓reduceIte,Y1,Y2,Y3,Y4,Y5,X1,X2,X3,X4,sA_ (st.get 1 rfl)])
  have e:grR a=(b_q a,true):=by simp [grR,ga]
  rw [e] at h
  replace st:=st.put 1 rfl [.sl q 1 0 (b_q a).length]
  exact .done (h _ _ D (st.get 0 rfl) ⟨st.ndT 0 rfl,st.fr _ (List.mem_cons_self ..),st.le⟩)
end Go.Proofs.YtohkciilfkhomaaGreat
namespace Go.Proofs.YtohkciilfkhomaaGreat
open Go Go.Sep Go.Pt
attribute [local irreducible] a_a
theorem tr_fin {H G:Heap} {Ts:List Th} {z2 z3:Nat} {y w:AV} {es:List Ed} {gs:List (List Int)} {D D3:List Nat} {m:Int} {fst':List Int} (st:St H Ts G) (i j:Nat) (hi:Ts[i]?=some (reT z2 y es D)) (hj:Ts[j]?=some (rzT (LPl.local eL) (LPl.has eL) 1 z3 w gs D3)) (hij:i≠j) :
  wkK (fun r H'=>r=.tup [aAu ⟨m,fst',es,gs⟩,B true]∧H'=H) (.tup [.agg [I m,Is fst',y,w],.p (.bool true)]) G:=by
 obtain ⟨y',hy,ly⟩:=(st.get i hi:RZ (LPl eE) 3 z2 y es G D).row
 obtain ⟨w',hw,lw⟩:=(st.get j hj:RZ (LPl eL) 1 z3 w gs G D3).row
 obtain ⟨G1,w1,f1⟩:=LRow.frzV (e:=eE) (sz:=3) (v:=.tup [.agg [I m,Is fst',y',w'],B true]) (v':=.tup [.agg [I m,Is fst',Es es,w'],B true]) (by omega) (fun _=>rfl) (LPl.local eE) (LPl.frz eE) ly (st.ndT i hi) (fun q _ hr=>.tup (.cons (.agg (.cons (.same _) (.cons (.same _) (.cons hr (.cons (.same _) .nil))))) (.cons (.same _) .nil)))
 have lw1:=LRow.local (LPl.local eL) lw (G':=G1) fun y hy bb hb=>by rw [f1 y (fun hm=>st.disjI i j hi hj hij y hm hy)];exact hb
 obtain ⟨G2,w2,f2⟩:=LRow.frzV (e:=eL) (sz:=1) (v:=.tup [.agg [I m,Is fst',Es es,w'],B true]) (v':=.tup [.agg [I m,Is fst',Es es,Ls gs],B true]) (by omega) (fun _=>rfl) (LPl.local eL) (LPl.frz eL) lw1 (st.ndT j hj) (fun q _ hr=>.tup (.cons (.agg (.cons (.same _) (.cons (.same _) (.cons (.same _) (.cons hr .nil))))) (.cons (.same _) .nil)))
 have w0:Wk (.tup [.agg [I m,Is fst',y,w],.p (.bool true)]) G (.tup [.agg [I m,Is fst',y',w'],B true]) G:=.val (a_W ⟨b_9 ⟨.refl _,.refl _,hy,hw,trivial⟩,.refl _,trivial⟩)
 refine ⟨_,_,.trans w0 (.trans w1 (.trans w2 (.forget (H':=H) fun v b hb=>?_))),rfl,rfl⟩
 rw [f2 v (st.wkNone v b hb _ (List.mem_of_getElem? hj)),f1 v (st.wkNone v b hb _ (List.mem_of_getElem? hi))]
 exact st.le v b hb
theorem TrimAuto_ref (a:Au) (sa:smAu a):Pu Tryz.prog 19 [aAu a] (.tup [aAu (trR a).1,B (trR a).2]):=by
 refine ⟨fun H=>a_a.fin ?_⟩
 refine a_a.ghost W19_hb fun z2 hz2=>?_
 refine a_a.ghost W19_hb fun z3 hz3=>?_
 have st:=lent (LPl.local eL) (LPl.has eL) 1 (lent (LPl.local eE) (LPl.has eE) 3 (((St.nil H).cell hz2 []).cell hz3 []) 1 rfl) 0 rfl
 generalize (H.set z2 []).set z3 []=G0 at st ⊢
 clear hz2 hz3
 refine W19_ok ?_;simp (maxSteps:=1000000) (disch:=first|assumption|apply Y6;assumption) only [W19,vz,vu,vv,eqS,eF_,↓c1_,↓c2_,tabs,reduceCtorEq,X5,↓reduceIte,Y1,Y2,Y3,Y4,Y5,X1,X2,X3,X4,mS_]
 intro r hr r2 n2r hr2
 replace st:=(st.cell hr [I a.states,Is a.first,Es a.edges,Ls a.goals]).cell (r:=r2) (by rw [Heap.set_other n2r];exact hr2) [I 0,.p .nil,.p .nil,.p .nil]
 generalize (G0.set r [I a.states,Is a.first,Es a.edges,Ls a.goals]).set r2 [I 0,.p .nil,.p .nil,.p .nil]=G at st ⊢
 clear hr hr2 n2r G0
 (try simp (disch:=first|assumption|apply Y6;assumption) only [vz,vu,vv,eqS,eF_,↓c1_,↓c2_,tabs,reduceCtorEq,X5,↓reduceIte,Y1,Y2,Y3,Y4,Y5,X1,X2,X3,X4,lA_ (st.get 1 rfl)])
 refine Pu.use (a_F a sa) ?_
 cases ga:a_l a
 ·have er:trR a=(c_t,false):=by simp [trR,ga]
  rw [er]
  (try simp (disch:=first|assumption|apply Y6;assumption) only [vz,vu,vv,eqS,eF_,↓c1_,↓c2_,tabs,reduceCtorEq,X5,↓reduceIte,Y1,Y2,Y3,Y4,Y5,X1,X2,X3,X4,sA_ (st.get 0 rfl)])
  exact ⟨_,_,.trans (.val (v':=.tup [aAu c_t,B false]) (a_W ⟨b_9 ⟨.refl _,.nil,.nil,.nil,trivial⟩,.refl _,trivial⟩)) (.forget (st.put 0 rfl _).le),rfl,rfl⟩
 have er:trR a=(trT a,true):=by simp [trR,ga]
 rw [er]
 have hN:=d_u ga
 have fa:=hN.f
 have sta:=fa.st
 have hed:=fa.ed
 obtain ⟨hgo1,hgo2,_⟩:=hN.gob
 have hgB:=gA_B fa
 have hgl:=c_A a
 have hfi:=fa.fi
 (try simp (disch:=first|assumption|apply Y6;assumption) only [vz,vu,vv,eqS,eF_,↓c1_,↓c2_,tabs,reduceCtorEq,X5,↓reduceIte,Y1,Y2,Y3,Y4,Y5,X1,X2,X3,X4,lA_ (st.get 1 rfl)])
 refine Pu.use (b_U a fa) ?_
 (try simp (disch:=first|assumption|apply Y6;assumption) only [vz,vu,vv,eqS,eF_,↓c1_,↓c2_,tabs,reduceCtorEq,X5,↓reduceIte,Y1,Y2,Y3,Y4,Y5,X1,X2,X3,X4,lA_ (st.get 1 rfl)])
 have htu:=sp_spec.l11Turn (gA a) hgB
 rw [gA_I fa] at htu
 refine Pu.use htu ?_
 (try simp (disch:=first|assumption|apply Y6;assumption) only [vz,vu,vv,eqS,eF_,↓c1_,↓c2_,tabs,reduceCtorEq,X5,↓reduceIte,Y1,Y2,Y3,Y4,Y5,X1,X2,X3,X4,lA_ (st.get 1 rfl)])
 have hfs:=c_l (gA a) hgB (d_t hgB) (goN a.goals) hgo1
 rw [gA_I fa,goN,gI_of hN.go] at hfs
 refine Pu.use hfs ?_
 have hfl:=a_3 (gA a).length (a_s (rwF (gA a)) (goN a.goals))
 have htl:=a_L (gA a)
 have hre:=reach_gen (a_G (gA a)) (d_t hgB) (gwB (gA a).length (a_s (rwF (gA a)) (goN a.goals))) (fun v hv=>by rw [htl];exact gwB_lt hv) (by omega)
 rw [htl] at hre
 refine Pu.use hre ?_
 (try simp (disch:=first|assumption|apply Y6;assumption) only [vz,vu,vv,eqS,eF_,↓c1_,↓c2_,tabs,reduceCtorEq,X5,↓reduceIte,Y1,Y2,Y3,Y4,Y5,X1,X2,X3,X4,lA_ (st.get 1 rfl)])
 refine ⟨by omega,by omega,by omega,by omega,fun q hq r7 n7q hr7=>?_⟩
 replace st:=(st.cell hq (zA_ a.states.toNat [I 0])).cell (r:=r7) (by rw [Heap.set_other n7q];exact hr7) [I 0,.p .nil,.p .nil,.p .nil]
 have ez:zA_ a.states.toNat [I 0]=cP fI (mpI (fun _=>0) a.states.toNat):=by rw [e_j,b_c]
 rw [ez] at st
 have ez2:zA_ a.states.toNat [AV.p (PV.int IntKind.i64 0)]=cP fI (mpI (fun _=>0) a.states.toNat):=ez
 rw [ez2]
 have ez3:∀H:Heap,H.set r7 [AV.p (PV.int IntKind.i64 0),AV.p PV.nil,AV.p PV.nil,AV.p PV.nil]=H.set r7 [I 0,.p .nil,.p .nil,.p .nil]:=fun _=>rfl
 rw [ez3]
 generalize (G.set q (cP fI (mpI (fun _=>0) a.states.toNat))).set r7 [I 0,.p .nil,.p .nil,.p .nil]=G1 at st ⊢
 clear hq n7q hr7 ez ez2 ez3 G
 replace st:St H [cT_ r7 [I 0,.p .nil,.p .nil,.p .nil],cT_ q (cP fI (mpI (fun _=>0) a.states.toNat)),cT_ r2 [I 0,.p .nil,.p .nil,.p .nil],cT_ r [I a.states,Is a.first,Es a.edges,Ls a.goals],rzT (LPl.local eL) (LPl.has eL) 1 z3 (.p .nil) [] [z3],reT z2 (.p .nil) [] [z2]] G1:=st
 have hr2':=reach_gen (gA a) hgB (nN a.first) (fun v hv=>by rw [hgl];exact c_v hN.fr v hv) (by rw [b_0];omega)
 rw [gA_I fa,e_K hN.fr] at hr2'
 (try simp (disch:=first|assumption|apply Y6;assumption) only [vz,vu,vv,eqS,eF_,↓c1_,↓c2_,tabs,reduceCtorEq,X5,↓reduceIte,Y1,Y2,Y3,Y4,Y5,X1,X2,X3,X4,lA_ (st.get 3 rfl)])
 refine Pu.use hr2' ?_
 have hn96:(gA a).length≤96:=by omega
 have e1:∀v,v < (gA a).length→decide (v∈gwB (gA a).length (fun v=>decide (0≤farF (rwF (a_G (gA a))) (gA a).length (gwB (gA a).length (a_s (rwF (gA a)) (goN a.goals))) v)))=kp1 a v:=fun v hv=>gwB_mem hv
 have e2:∀v,v < (gA a).length→decide (v∈gwB (gA a).length (fun v=>decide (0≤farF (rwF (gA a)) (gA a).length (nN a.first) v)))=kp2 a v:=fun v hv=>gwB_mem hv
 have l1:=a_3 (gA a).length (fun v=>decide (0≤farF (rwF (a_G (gA a))) (gA a).length (gwB (gA a).length (a_s (rwF (gA a)) (goN a.goals))) v))
 have l2:=a_3 (gA a).length (fun v=>decide (0≤farF (rwF (gA a)) (gA a).length (nN a.first) v))
 generalize gwB (gA a).length (fun v=>decide (0≤farF (rwF (a_G (gA a))) (gA a).length (gwB (gA a).length (a_s (rwF (gA a)) (goN a.goals))) v))=FP at e1 l1 ⊢
 generalize gwB (gA a).length (fun v=>decide (0≤farF (rwF (gA a)) (gA a).length (nN a.first) v))=RC at e2 l2 ⊢
 obtain ⟨n,hn⟩:∃n,a.states.toNat=n:=⟨_,rfl⟩
 rw [hgl] at e1 e2 hn96
 have htr:trT a=⟨if (kpL a n).length=0 then 1 else ((kpL a n).length:Int),a_S (nmF (kpL a n)) (nN a.first),keE (nmF (kpL a n)) a.edges,keG (nmF (kpL a n)) a.goals⟩:=by rw [trT,hgl,hn]
 rw [htr]
 rw [hn] at st e1 e2 hn96 ⊢
 clear htr
 have hkl:∀i,(kpL a i).length≤i:=fun i=>a_3 i _
 refine L19_0_rule ((0:Nat),G1) (fun s=>I s.1) (fun s=>s.2)
  (fun s=>s.1≤n∧St H [cT_ r7 [I (kpL a s.1).length,.p .nil,.p .nil,.p .nil],cT_ q (cP fI (mpI (fun v=>if v < s.1 then nmF (kpL a s.1) v else 0) n)),cT_ r2 [I 0,.p .nil,.p .nil,.p .nil],cT_ r [I a.states,Is a.first,Es a.edges,Ls a.goals],rzT (LPl.local eL) (LPl.has eL) 1 z3 (.p .nil) [] [z3],reT z2 (.p .nil) [] [z2]] s.2) (fun s=>n - s.1)
  ⟨⟨by simp,by simpa [kpL,gwB] using st⟩,.refl _,Heap.le_refl _⟩ ?_
 clear st G1
 rintro ⟨i,G⟩ ⟨hi,st⟩
 dsimp only at hi st
 have e5:IntKind.i64.wrap ((i:Int)+1)=((i+1:Nat):Int):=by rw [i6_ (by omega) (by omega)];simp
 have hki:=hkl i
 have e6:IntKind.i64.wrap (((kpL a i).length:Int)+1)=(((kpL a i).length+1:Nat):Int):=by rw [i6_ (by omega) (by omega)];simp
 (try simp (disch:=first|assumption|apply Y6;assumption) only [vz,vu,vv,eqS,eF_,↓c1_,↓c2_,tabs,reduceCtorEq,X5,↓reduceIte,Y1,Y2,Y3,Y4,Y5,X1,X2,X3,X4,B19_0,e5])
 refine ⟨fun h1=>?_,fun h1=>?_⟩
 ·have hlt:i < n:=by omega
  have hml:∀f,(mpI f n).length=n:=fun f=>a_f f n
  have hcl:∀f,(cP fI (mpI f n)).length=n:=fun f=>by simp [cP,hml]
  have hset:=c_8 (l:=mpI (fun v=>if v < i then nmF (kpL a i) v else 0) n) (t:=i) (by rw [hml];exact hlt) (-1)
  rw [b_T] at hset
  have hnot:i∉kpL a i:=fun h=>by have:=gwB_lt h;omega
  have hg0:∀v,v < n→updI (fun v=>if v < i then nmF (kpL a i) v else 0) i (-1) v=if v < i+1 then nmF (kpL a i) v else 0:=fun v hv=>by
   by_cases e:v=i
   ·subst e;rw [a_y,if_pos (by omega),nmF,if_neg hnot]
   ·rw [a_A _ _ e]
    by_cases h:v < i
    ·rw [if_pos h,if_pos (by omega)]
    ·rw [if_neg h,if_neg (by omega)]
  rw [e_y hg0] at hset
  have hks:kpL a (i+1)=if kp1 a i && kp2 a i then kpL a i++[i] else kpL a i:=d_b i _
  (try simp (disch:=first|assumption|apply Y6;assumption) only [vz,vu,vv,eqS,eF_,↓c1_,↓c2_,tabs,reduceCtorEq,X5,↓reduceIte,Y1,Y2,Y3,Y4,Y5,X1,X2,X3,X4,sA_ (st.get 1 rfl),hcl,hset,Int.toNat_natCast])
  refine ⟨by omega,by omega,by omega,?_⟩
  replace st:=st.put 1 rfl (cP fI (mpI (fun v=>if v < i+1 then nmF (kpL a i) v else 0) n))
  generalize G.set q (cP fI (mpI (fun v=>if v < i+1 then nmF (kpL a i) v else 0) n))=G2 at st ⊢
  refine Pu.use (l1Has_nat FP (by omega) i) ?_
  rw [e1 i hlt]
  cases hk1:kp1 a i
  ·rw [hk1] at hks
   simp only [Bool.false_and,Bool.false_eq_true,if_false] at hks
   (try simp (disch:=first|assumption|apply Y6;assumption) only [vz,vu,vv,eqS,eF_,↓c1_,↓c2_,tabs,reduceCtorEq,X5,↓reduceIte,Y1,Y2,Y3,Y4,Y5,X1,X2,X3,X4])
   exact ⟨(i+1,G2),⟨by simp only;omega,by rw [hks];exact st⟩,by simp only;omega,.refl _,Heap.le_refl _⟩
  (try simp (disch:=first|assumption|apply Y6;assumption) only [vz,vu,vv,eqS,eF_,↓c1_,↓c2_,tabs,reduceCtorEq,X5,↓reduceIte,Y1,Y2,Y3,Y4,Y5,X1,X2,X3,X4])
  refine Pu.use (l1Has_nat RC (by omega) i) ?_
  rw [e2 i hlt]
  cases hk2:kp2 a i
  ·rw [hk1,hk2] at hks
   simp only [Bool.and_false,Bool.false_eq_true,if_false] at hks
   (try simp (disch:=first|assumption|apply Y6;assumption) only [vz,vu,vv,eqS,eF_,↓c1_,↓c2_,tabs,reduceCtorEq,X5,↓reduceIte,Y1,Y2,Y3,Y4,Y5,X1,X2,X3,X4])
   exact ⟨(i+1,G2),⟨by simp only;omega,by rw [hks];exact st⟩,by simp only;omega,.refl _,Heap.le_refl _⟩
  rw [hk1,hk2] at hks
  simp only [Bool.and_self,if_true] at hks
  have hset2:=c_8 (l:=mpI (fun v=>if v < i+1 then nmF (kpL a i) v else 0) n) (t:=i) (by rw [hml];exact hlt) ((kpL a i).length:Int)
  rw [b_T] at hset2
  have hg1:∀v,v < n→updI (fun v=>if v < i+1 then nmF (kpL a i) v else 0) i ((kpL a i).length:Int) v=if v < i+1 then nmF (kpL a (i+1)) v else 0:=fun v hv=>by
   rw [hks,nmF_snoc hnot]
   by_cases e:v=i
   ·subst e;rw [a_y,if_pos (by omega),a_y]
   ·rw [a_A _ _ e]
    by_cases h:v < i+1
    ·rw [if_pos h,if_pos h,a_A _ _ e]
    ·rw [if_neg h,if_neg h]
  rw [e_y hg1] at hset2
  have hkl1:(kpL a (i+1)).length=(kpL a i).length+1:=by rw [hks];simp
  (try simp (disch:=first|assumption|apply Y6;assumption) only [vz,vu,vv,eqS,eF_,↓c1_,↓c2_,tabs,reduceCtorEq,X5,↓reduceIte,Y1,Y2,Y3,Y4,Y5,X1,X2,X3,X4,lA_ (st.get 0 rfl),sA_ (st.get 1 rfl),hcl,hset2,Int.toNat_natCast])
  refine ⟨by omega,by omega,by omega,?_⟩
  replace st:=st.put 1 rfl (cP fI (mpI (fun v=>if v < i+1 then nmF (kpL a (i+1)) v else 0) n))
  generalize G2.set q (cP fI (mpI (fun v=>if v < i+1 then nmF (kpL a (i+1)) v else 0) n))=G3 at st ⊢
  (try simp (disch:=first|assumption|apply Y6;assumption) only [vz,vu,vv,eqS,eF_,↓c1_,↓c2_,tabs,reduceCtorEq,X5,↓reduceIte,Y1,Y2,Y3,Y4,Y5,X1,X2,X3,X4,lA_ (st.get 0 rfl),e6,sA_ (st.get 0 rfl)])
  exact ⟨(i+1,_),⟨by simp only;omega,by rw [hkl1];exact st.put 0 rfl _⟩,by simp only;omega,.refl _,Heap.le_refl _⟩
 ·have:i=n:=by omega
  subst this
  rw [e_y (g:=nmF (kpL a i)) (fun v hv=>if_pos hv)] at st
  have hkf:=fun {H:Heap} {K:k_}=>d_D (nmF (kpL a i)) i (nN a.first) (by rw [b_0];omega) (fun v hv=>by have:=c_v hN.fr v hv;omega) (q6:=q) (H:=H) (K:=K)
  rw [e_K hN.fr] at hkf
  (try simp (disch:=first|assumption|apply Y6;assumption) only [vz,vu,vv,eqS,eF_,↓c1_,↓c2_,tabs,reduceCtorEq,X5,↓reduceIte,Y1,Y2,Y3,Y4,Y5,X1,X2,X3,X4,lA_ (st.get 3 rfl)])
  refine hkf (st.get 1 rfl) ?_
  generalize hf:nmF (kpL a i)=f at st ⊢
  generalize a_S f (nN a.first)=fst'
  generalize hcnt:(kpL a i).length=cnt at st ⊢
  (try simp (disch:=first|assumption|apply Y6;assumption) only [vz,vu,vv,eqS,eF_,↓c1_,↓c2_,tabs,reduceCtorEq,X5,↓reduceIte,Y1,Y2,Y3,Y4,Y5,X1,X2,X3,X4,sA_ (st.get 0 rfl)])
  replace st:=st.put 0 rfl [I cnt,Is fst',.p .nil,.p .nil]
  generalize G.set r7 [I cnt,Is fst',.p .nil,.p .nil]=G2 at st ⊢
  clear hkf hki e6
  (try simp (disch:=first|assumption|apply Y6;assumption) only [vz,vu,vv,eqS,eF_,↓c1_,↓c2_,tabs,reduceCtorEq,X5,↓reduceIte,Y1,Y2,Y3,Y4,Y5,X1,X2,X3,X4,lA_ (st.get 3 rfl)])
  refine L19_1_rule ((0:Nat),(.p .nil:AV),[z2],G2) (fun s=>I s.1) (fun s=>s.2.2.2)
   (fun k=>k.1≤a.edges.length∧St H [cT_ r7 [I cnt,Is fst',k.2.1,.p .nil],cT_ q (cP fI (mpI f i)),cT_ r2 [I 0,.p .nil,.p .nil,.p .nil],cT_ r [I a.states,Is a.first,Es a.edges,Ls a.goals],rzT (LPl.local eL) (LPl.has eL) 1 z3 (.p .nil) [] [z3],reT z2 k.2.1 (keE f (a.edges.take k.1)) k.2.2.1] k.2.2.2) (fun k=>a.edges.length - k.1)
   ⟨⟨by simp,by simpa [keE] using st⟩,.refl _,Heap.le_refl _⟩ ?_
  clear st G2 G
  rintro ⟨k,y,D,G⟩ ⟨hk,st⟩
  dsimp only at hk st
  have e7:IntKind.i64.wrap ((k:Int)+1)=((k+1:Nat):Int):=by rw [i6_ (by omega) (by omega)];simp
  have hkel:=keE_len f (a.edges.take k)
  rw [List.length_take] at hkel
  have hml:=a_f f i
  have hcl:(cP fI (mpI f i)).length=i:=by simp [cP,hml]
  (try simp (disch:=first|assumption|apply Y6;assumption) only [vz,vu,vv,eqS,eF_,↓c1_,↓c2_,tabs,reduceCtorEq,X5,↓reduceIte,Y1,Y2,Y3,Y4,Y5,X1,X2,X3,X4,B19_1,e7])
  refine ⟨fun h2=>⟨by omega,h2,?_⟩,fun h2=>?_⟩
  ·have hltk:k < a.edges.length:=by omega
   have hei:=a_h.1 (fa.ei _ (a_e (p:=fun x=>x∈a.edges) (d:=default) (fun _ h=>h) hltk))
   have hs:=keE_succ f hltk
   generalize a.edges.getD k default=e at hei hs ⊢
   have r1:=c_u (l:=mpI f i) (i:=e.src.toNat) (by omega)
   have r2':=c_u (l:=mpI f i) (i:=e.dst.toNat) (by omega)
   rw [a_P f (by omega)] at r1 r2'
   intro r11 hr11
   replace st:=st.cell hr11 [I e.src,I e.lt,I e.dst]
   generalize G.set r11 [I e.src,I e.lt,I e.dst]=G5 at st ⊢
   clear hr11
   (try simp (disch:=first|assumption|apply Y6;assumption) only [vz,vu,vv,eqS,eF_,↓c1_,↓c2_,tabs,reduceCtorEq,X5,↓reduceIte,Y1,Y2,Y3,Y4,Y5,X1,X2,X3,X4,lA_ (st.get 0 rfl),lA_ (st.get 2 rfl),hcl,r1,r2'])
   have nx:¬(0≤f e.src.toNat∧0≤f e.dst.toNat)→∃s':Nat×AV×List Nat×Heap,(s'.1≤a.edges.length∧St H [cT_ r7 [I cnt,Is fst',s'.2.1,.p .nil],cT_ q (cP fI (mpI f i)),cT_ r2 [I 0,.p .nil,.p .nil,.p .nil],cT_ r [I a.states,Is a.first,Es a.edges,Ls a.goals],rzT (LPl.local eL) (LPl.has eL) 1 z3 (.p .nil) [] [z3],reT z2 s'.2.1 (keE f (a.edges.take s'.1)) s'.2.2.1] s'.2.2.2)∧a.edges.length - s'.1 < a.edges.length - k∧(AV.p (PV.int IntKind.i64 ((k+1:Nat):Int))).wk (I s'.1)∧Heap.le s'.2.2.2 G5:=fun hc=>by
    rw [if_neg hc] at hs
    exact ⟨(k+1,y,D,G5),⟨by simp only;omega,by rw [hs];exact st.drop⟩,by simp only;omega,.refl _,Heap.le_refl _⟩
   refine ⟨by clear nx;omega,by clear nx;omega,by clear nx;omega,fun h3=>⟨by clear nx;omega,by clear nx;omega,by clear nx;omega,fun h4=>?_,fun h4=>nx fun h=>h4 h.2⟩,fun h3=>nx fun h=>h3 h.1⟩
   clear nx
   rw [if_pos ⟨h3,h4⟩] at hs
   (try simp (disch:=first|assumption|apply Y6;assumption) only [vz,vu,vv,eqS,eF_,↓c1_,↓c2_,tabs,reduceCtorEq,X5,↓reduceIte,Y1,Y2,Y3,Y4,Y5,X1,X2,X3,X4,lA_ (st.get 1 rfl)])
   refine ⟨by omega,by omega,by omega,by omega,by omega,by omega,?_⟩
   refine c_n (x:=⟨f e.src.toNat,e.lt,f e.dst.toNat⟩) ?_
   (try simp (disch:=first|assumption|apply Y6;assumption) only [vz,vu,vv,eqS,eF_,↓c1_,↓c2_,tabs,reduceCtorEq,X5,↓reduceIte,Y1,Y2,Y3,Y4,Y5,X1,X2,X3,X4,lA_ (st.get 1 rfl)])
   refine d_j (ys:=[⟨f e.src.toNat,e.lt,f e.dst.toNat⟩]) st 6 rfl (by simp only [List.length_cons,List.length_nil];omega) fun q' G' hq' st=>?_
   rw [← hs] at st ⊢
   obtain ⟨es',hes⟩:∃es',keE f (a.edges.take (k+1))=es':=⟨_,rfl⟩
   rw [hes] at st ⊢
   (try simp (disch:=first|assumption|apply Y6;assumption) only [vz,vu,vv,eqS,eF_,↓c1_,↓c2_,tabs,reduceCtorEq,X5,↓reduceIte,Y1,Y2,Y3,Y4,Y5,X1,X2,X3,X4,sA_ (st.get 1 rfl),e7])
   replace st:=st.put 1 rfl [I cnt,Is fst',rowE q' es',.p .nil]
   rw [← hes] at st
   exact ⟨(k+1,_,[q'],_),⟨by simp only;omega,st.drop⟩,by simp only;omega,.refl _,by rw [hes];exact Heap.le_refl _⟩
  ·have:k=a.edges.length:=by omega
   subst this
   rw [List.take_length] at st
   (try simp (disch:=first|assumption|apply Y6;assumption) only [vz,vu,vv,eqS,eF_,↓c1_,↓c2_,tabs,reduceCtorEq,X5,↓reduceIte,Y1,Y2,Y3,Y4,Y5,X1,X2,X3,X4,lA_ (st.get 3 rfl)])
   have hgol:=fa.gl
   refine L19_2_rule ((0:Nat),(.p .nil:AV),[z3],G) (fun s=>I s.1) (fun s=>s.2.2.2)
    (fun k=>k.1≤a.goals.length∧St H [cT_ r7 [I cnt,Is fst',y,k.2.1],cT_ q (cP fI (mpI f i)),cT_ r2 [I 0,.p .nil,.p .nil,.p .nil],cT_ r [I a.states,Is a.first,Es a.edges,Ls a.goals],rzT (LPl.local eL) (LPl.has eL) 1 z3 k.2.1 (keG f (a.goals.take k.1)) k.2.2.1,reT z2 y (keE f a.edges) D] k.2.2.2) (fun k=>a.goals.length - k.1)
    ⟨⟨by simp,by simpa [keG] using st⟩,.refl _,Heap.le_refl _⟩ ?_
   clear st G
   rintro ⟨k,w,D3,G⟩ ⟨hk,st⟩
   dsimp only at hk st
   have e8:IntKind.i64.wrap ((k:Int)+1)=((k+1:Nat):Int):=by rw [i6_ (by omega) (by omega)];simp
   have hgll:(keG f (a.goals.take k)).length≤6:=by rw [keG,List.length_map,List.length_take];omega
   (try simp (disch:=first|assumption|apply Y6;assumption) only [vz,vu,vv,eqS,eF_,↓c1_,↓c2_,tabs,reduceCtorEq,X5,↓reduceIte,Y1,Y2,Y3,Y4,Y5,X1,X2,X3,X4,B19_2,e8])
   refine ⟨fun h3=>⟨by omega,h3,?_⟩,fun h3=>?_⟩
   ·have hltk:k < a.goals.length:=by omega
    have hmem:a.goals.getD k default∈a.goals:=a_e (p:=fun x=>x∈a.goals) (fun _ h=>h) hltk
    have hgi:=(fa.gi _ hmem).2
    have hgo:=hN.go _ hmem
    have hs:keG f (a.goals.take (k+1))=keG f (a.goals.take k)++[a_S f (nN (a.goals.getD k default))]:=by unfold keG;rw [tS_ hltk,List.map_append];rfl
    generalize a.goals.getD k default=g at hgi hgo hs ⊢
    have hkf:=fun {H:Heap} {K:k_}=>d_D f i (nN g) (by rw [b_0];omega) (fun v hv=>by have:=c_v hgo v hv;omega) (q6:=q) (H:=H) (K:=K)
    rw [e_K hgo] at hkf
    (try simp (disch:=first|assumption|apply Y6;assumption) only [vz,vu,vv,eqS,eF_,↓c1_,↓c2_,tabs,reduceCtorEq,X5,↓reduceIte,Y1,Y2,Y3,Y4,Y5,X1,X2,X3,X4,lA_ (st.get 0 rfl)])
    refine hkf (st.get 1 rfl) ?_
    generalize a_S f (nN g)=kg at hs
    (try simp (disch:=first|assumption|apply Y6;assumption) only [vz,vu,vv,eqS,eF_,↓c1_,↓c2_,tabs,reduceCtorEq,X5,↓reduceIte,Y1,Y2,Y3,Y4,Y5,X1,X2,X3,X4,lA_ (st.get 0 rfl)])
    refine lit1 c_x rfl a_g ⟨rfl,rfl⟩ ?_
    (try simp (disch:=first|assumption|apply Y6;assumption) only [vz,vu,vv,eqS,eF_,↓c1_,↓c2_,tabs,reduceCtorEq,X5,↓reduceIte,Y1,Y2,Y3,Y4,Y5,X1,X2,X3,X4,lA_ (st.get 0 rfl)])
    refine RZ.app (bz:=24) (e:=eL) (ys:=[kg]) c_x rfl a_g c_x rfl rfl rfl (fun _=>rfl) st 4 rfl rfl (by simp only [List.length_cons,List.length_nil];omega) (by simp only [List.length_cons,List.length_nil];omega) fun q' G' hq' st=>?_
    rw [← hs] at st ⊢
    obtain ⟨gs',hgs⟩:∃gs',keG f (a.goals.take (k+1))=gs':=⟨_,rfl⟩
    rw [hgs] at st ⊢
    (try simp (disch:=first|assumption|apply Y6;assumption) only [vz,vu,vv,eqS,eF_,↓c1_,↓c2_,tabs,reduceCtorEq,X5,↓reduceIte,Y1,Y2,Y3,Y4,Y5,X1,X2,X3,X4,sA_ (st.get 0 rfl),e8])
    replace st:=st.put 0 rfl [I cnt,Is fst',y,.sl q' 1 0 gs'.length]
    rw [← hgs] at st
    exact ⟨(k+1,_,[q'],_),⟨by simp only;omega,st⟩,by simp only;omega,.refl _,by rw [hgs];exact Heap.le_refl _⟩
   ·have:k=a.goals.length:=by omega
    subst this
    rw [List.take_length] at st
    have hy:=RZ.sl (st.get 5 rfl:RZ (LPl eE) 3 z2 y _ G D)
    have hw:=RZ.sl (st.get 4 rfl:RZ (LPl eL) 1 z3 w _ G D3)
    (try simp (disch:=first|assumption|apply Y6;assumption) only [vz,vu,vv,eqS,eF_,↓c1_,↓c2_,tabs,reduceCtorEq,X5,↓reduceIte,Y1,Y2,Y3,Y4,Y5,X1,X2,X3,X4,lA_ (st.get 0 rfl)])
    refine ⟨fun h4=>?_,fun h4=>?_⟩
    ·have hc:cnt=0:=by omega
     subst hc
     (try simp (disch:=first|assumption|apply Y6;assumption) only [vz,vu,vv,eqS,eF_,↓c1_,↓c2_,tabs,reduceCtorEq,X5,↓reduceIte,Y1,Y2,Y3,Y4,Y5,X1,X2,X3,X4,sA_ (st.get 0 rfl)])
     replace st:=st.put 0 rfl [I 1,Is fst',y,w]
     generalize G.set r7 [I 1,Is fst',y,w]=G6 at st ⊢
     (try simp (disch:=first|assumption|apply Y6;assumption) only [vz,vu,vv,eqS,eF_,↓c1_,↓c2_,tabs,reduceCtorEq,X5,↓reduceIte,Y1,Y2,Y3,Y4,Y5,X1,X2,X3,X4,lA_ (st.get 0 rfl),sA_ (st.get 2 rfl)])
     replace st:=st.put 2 rfl [I 1,Is fst',y,w]
     have:=tr_fin (m:=1) (fst':=fst') st 5 4 rfl rfl (by decide)
     refine ⟨by rcases hy with rfl | ⟨q,rfl⟩<;>rcases hw with rfl | ⟨q,rfl⟩<;>rfl,?_⟩
     exact this
    ·(try simp (disch:=first|assumption|apply Y6;assumption) only [vz,vu,vv,eqS,eF_,↓c1_,↓c2_,tabs,reduceCtorEq,X5,↓reduceIte,Y1,Y2,Y3,Y4,Y5,X1,X2,X3,X4,sA_ (st.get 2 rfl)])
     rw [if_neg (by omega)]
     replace st:=st.put 2 rfl [I cnt,Is fst',y,w]
     have:=tr_fin (m:=(cnt:Int)) (fst':=fst') st 5 4 rfl rfl (by decide)
     refine ⟨by rcases hy with rfl | ⟨q,rfl⟩<;>rcases hw with rfl | ⟨q,rfl⟩<;>rfl,?_⟩
     exact this
end Go.Proofs.YtohkciilfkhomaaGreat
