/- Texts laid together: Tg6 Tg7 Tg8 Tg9 Tg3 Tg10 Lt5 Lu0 Tg11. -/
import Derived.Test.YtohkciilfkhomaaGreatPO9
set_option linter.unusedVariables false
set_option linter.unusedSimpArgs false
open Go.Sep.AV renaming any → Q_
open Nat renaming reduceAdd→Y1,reduceLeDiff→Y2,reduceLT→Y3,reduceMul→Y4,reduceSub→Y5
open Int renaming reduceToNat→X1,reduceSub→X2,reduceAdd→X3,reduceNeg→X4
open Array renaming toList→X5
open Ne renaming symm→Y6
open List renaming forall_mem_cons→Y7
namespace Go.Proofs.YtohkciilfkhomaaGreat
open Go Go.Sep Go.Pt
attribute [local irreducible] a_a
def mpB (f:Nat→Bool) (n:Nat):List Bool:=(List.range n).map f
theorem a_E (f:Nat→Bool) (n:Nat):(mpB f n).length=n:=by simp [mpB]
theorem mpB_get (f:Nat→Bool) {n v:Nat} (h:v < n):(mpB f n).getD v default=f v:=by simp [mpB,List.getD,h]
theorem mpB_set (f:Nat→Bool) (n v:Nat) (x:Bool):(mpB f n).set v x=mpB (updB f v x) n:=by
 apply List.ext_getElem
 ·simp [mpB]
 ·intro i h1 h2
  simp only [mpB,List.getElem_set,List.getElem_map,List.getElem_range,updB]
  by_cases e:v=i
  ·subst e;simp
  ·have:¬i=v:=fun k=>e k.symm
   simp [e,this]
theorem rdB (f:Nat→Bool) {n v:Nat} (h:v < n):(List.take 1 (List.drop (v*1) (cP fB (mpB f n)))).headD Q_=B (f v):=by
 rw [mapB_rd (by rw [a_E];exact h),mpB_get f h]
theorem lnB (f:Nat→Bool) (n:Nat):(cP fB (mpB f n)).length=n:=by rw [cP,List.length_map,a_E]
theorem setB (f:Nat→Bool) {n v:Nat} (h:v < n) (x:Bool):List.take (v*1) (cP fB (mpB f n))++[B x]++List.drop (v*1+1) (cP fB (mpB f n))=cP fB (mpB (updB f v x) n):=by
 rw [cB_set (by rw [a_E];exact h),mpB_set]
abbrev wkT (g:List (List Nat)) (r qs:Nat) (s:DS) (x:AV) (D:List Nat) (rest:List Th):List Th:=
 cT_ r [Ls (gI g),.sl qs 1 0 g.length,x]::cT_ qs (cP fB (mpB s.seen g.length))::skT x s.out D::rest
theorem DInv.out_len {E:Nat→Nat→Prop} {n:Nat} {S0:Nat→Prop} {gray:List Nat} {s:DS} (h:DInv E n S0 gray s):s.out.length≤n:=e_k n s.out h.nd h.lt
theorem walk_spec (g:List (List Nat)) (hg:GrB g) (S0:Nat→Prop) {H:Heap} (r qs:Nat) (rest:List Th):∀(m:Nat) (gray:List Nat) (s:DS) (v:Nat) (x:AV) (D:List Nat) (G:Heap) (K:k_),g.length - cntB s.seen g.length=m→DInv (aO_ (rwF g)) g.length S0 gray s→v < g.length→
  (∀y∈gray,Rch (aO_ (rwF g)) y v)→St H (wkT g r qs s x D rest) G→
  (∀s' x' D' G',DInv (aO_ (rwF g)) g.length S0 gray s'→DPost (aO_ (rwF g)) s s' v→(s.seen v=true→s'=s)→St H (wkT g r qs s' x' D' rest) G'→K (.tup []) G')→a_a Tryz.prog 118 [.ptr r 0,I v] G K:=by
 intro m
 induction m using Nat.strongRecOn with
 | ind m ih=>
  intro gray s v x D G K hm hi hv hr st hK
  have hn:=hg.n
  have hrv:=rdB s.seen hv
  refine W118_ok ?_;simp (maxSteps:=1000000) (disch:=first|assumption|apply Y6;assumption) only [W118,vz,vu,vv,eqS,eF_,↓c1_,↓c2_,tabs,reduceCtorEq,X5,↓reduceIte,Y1,Y2,Y3,Y4,Y5,X1,X2,X3,X4,lA_ (st.get 0 rfl),lA_ (st.get 1 rfl),lnB,a_E,hrv,Int.toNat_natCast]
  refine ⟨by omega,by omega,by omega,?_⟩
  cases hsv:s.seen v
  ·(try simp (disch:=first|assumption|apply Y6;assumption) only [vz,vu,vv,eqS,eF_,↓c1_,↓c2_,tabs,reduceCtorEq,X5,↓reduceIte,Y1,Y2,Y3,Y4,Y5,X1,X2,X3,X4,sA_ (st.get 1 rfl),lnB,a_E,Int.toNat_natCast])
   refine ⟨by omega,by omega,by omega,?_⟩
   have hset:=setB s.seen hv true
   rw [hset]
   replace st:=st.put 1 rfl (cP fB (mpB (updB s.seen v true) g.length))
   generalize G.set qs (cP fB (mpB (updB s.seen v true) g.length))=G1 at st ⊢
   simp only [List.set_cons_zero,List.set_cons_succ] at st
   have hl0:=D_start hi hsv
   have hgl:=a_J g
   have hrn:=nL_ (rwF g v)
   have hrl:=hg.row hv
   (try simp (disch:=first|assumption|apply Y6;assumption) only [vz,vu,vv,eqS,eF_,↓c1_,↓c2_,tabs,reduceCtorEq,X5,↓reduceIte,Y1,Y2,Y3,Y4,Y5,X1,X2,X3,X4,lA_ (st.get 0 rfl),hgl])
   refine ⟨by omega,by omega,?_⟩
   rw [b_b hv]
   (try simp (disch:=first|assumption|apply Y6;assumption) only [vz,vu,vv,eqS,eF_,↓c1_,↓c2_,tabs,reduceCtorEq,X5,↓reduceIte,Y1,Y2,Y3,Y4,Y5,X1,X2,X3,X4,hrn])
   refine L118_0_rule ((0:Nat),(⟨updB s.seen v true,s.out⟩:DS),x,D,G1) (fun z=>I z.1) (fun z=>z.2.2.2.2)
    (fun z=>z.1≤(rwF g v).length∧DLoop (aO_ (rwF g)) g.length S0 gray s v (fun w=>w∈(rwF g v).take z.1) z.2.1∧St H (wkT g r qs z.2.1 z.2.2.1 z.2.2.2.1 rest) z.2.2.2.2) (fun z=>(rwF g v).length - z.1)
    ⟨⟨by simp,⟨hl0.inv,hl0.ext,hl0.sv,hl0.mono,fun u hu=>by simp at hu⟩,st⟩,.refl _,Heap.le_refl _⟩ ?_
   clear st hl0 hset
   rintro ⟨j,t,y,E,G⟩ ⟨hj,hl,st⟩
   dsimp only at hj hl st
   have e5:IntKind.i64.wrap ((j:Int)+1)=((j+1:Nat):Int):=by rw [i6_ (by omega) (by omega)];simp
   (try simp (disch:=first|assumption|apply Y6;assumption) only [vz,vu,vv,eqS,eF_,↓c1_,↓c2_,tabs,reduceCtorEq,X5,↓reduceIte,Y1,Y2,Y3,Y4,Y5,X1,X2,X3,X4,B118_0,hrn])
   refine ⟨fun h2=>?_,fun h2=>?_⟩
   ·have hlj:j < (rwF g v).length:=by omega
    refine ⟨by omega,h2,?_⟩
    rw [a_D hlj]
    have hw:=hg.lt hlj
    have hE:aO_ (rwF g) v ((rwF g v).getD j 0):=by simp [aO_,List.getD,hlj]
    have htk:∀u,u∈(rwF g v).take (j+1)→u∈(rwF g v).take j∨u=(rwF g v).getD j 0:=by
     intro u hu
     rw [tS_ hlj,List.mem_append,List.mem_singleton] at hu
     exact hu
    generalize (rwF g v).getD j 0=w at hw hE htk ⊢
    have hms:cntB s.seen g.length+1≤cntB t.seen g.length:=by
     rw [← cntB_upd hv hsv]
     refine cntB_mono fun u hu=>?_
     unfold updB at hu
     split at hu
     ·rename_i e;subst e;exact hl.sv
     ·exact hl.mono u hu
    have hmb:=cntB_le t.seen g.length
    refine ih _ (by omega) (v::gray) t w y E G _ rfl hl.inv hw (fun z hz=>?_) st fun t' y' E' G' hi' hp' _ st=>?_
    ·rcases List.mem_cons.1 hz with rfl | hz
     ·exact .one hE
     ·exact (hr z hz).snoc hE
    have hnx:=D_call hl hE hi' hp'
    (try simp (disch:=first|assumption|apply Y6;assumption) only [vz,vu,vv,eqS,eF_,↓c1_,↓c2_,tabs,reduceCtorEq,X5,↓reduceIte,Y1,Y2,Y3,Y4,Y5,X1,X2,X3,X4,e5])
    exact ⟨(j+1,t',y',E',G'),⟨by simp only;omega,⟨hnx.inv,hnx.ext,hnx.sv,hnx.mono,fun u hu=>hnx.don u (htk u hu)⟩,st⟩,by simp only;omega,.refl _,Heap.le_refl _⟩
   ·have:j=(rwF g v).length:=by omega
    subst this
    rw [List.take_length] at hl
    have hol:=DInv.out_len hl.inv
    obtain ⟨a,b⟩:=D_fin hl hi hv hsv hr fun w hw=>hw
    (try simp (disch:=first|assumption|apply Y6;assumption) only [vz,vu,vv,eqS,eF_,↓c1_,↓c2_,tabs,reduceCtorEq,X5,↓reduceIte,Y1,Y2,Y3,Y4,Y5,X1,X2,X3,X4,lA_ (st.get 0 rfl)])
    refine lit1 a_g rfl a_u ⟨rfl,rfl⟩ ?_
    refine sk_app (w:=v) st 2 rfl (by omega) fun q' G' st=>?_
    simp only [List.set_cons_zero,List.set_cons_succ] at st
    (try simp (disch:=first|assumption|apply Y6;assumption) only [vz,vu,vv,eqS,eF_,↓c1_,↓c2_,tabs,reduceCtorEq,X5,↓reduceIte,Y1,Y2,Y3,Y4,Y5,X1,X2,X3,X4,sA_ (st.get 0 rfl)])
    replace st:=st.put 0 rfl [Ls (gI g),.sl qs 1 0 g.length,.sl q' 1 0 (t.out.length+1)]
    exact hK _ (.sl q' 1 0 (t.out.length+1)) [q'] _ a b (fun h=>by rw [hsv] at h;cases h) st
  ·(try simp (disch:=first|assumption|apply Y6;assumption) only [vz,vu,vv,eqS,eF_,↓c1_,↓c2_,tabs,reduceCtorEq,X5,↓reduceIte,Y1,Y2,Y3,Y4,Y5,X1,X2,X3,X4])
   exact hK s x D G hi (DPost.skip hsv) (fun _=>rfl) st
theorem len_SK {x:AV} {l:List Nat} {G:Heap} {D:List Nat} (h:SK x l G D):x=.p .nil∧l=[]∨∃q J,x=.sl q 1 0 l.length∧G q=some (cP fI (nI l++J)):=by
 rcases h with ⟨h1,h2,_⟩ | ⟨q,J,h1,h2,_⟩
 ·exact .inl ⟨h1,h2⟩
 ·exact .inr ⟨q,J,h1,h2⟩
theorem lenV_SK {x:AV} {l:List Nat} {G:Heap} {D:List Nat} (h:SK x l G D) {K:AV→Prop}:lenV tab 24 x K=K (I l.length):=by
 rcases h with ⟨rfl,rfl,_⟩ | ⟨q,J,rfl,h2,_⟩
 ·(try simp (disch:=first|assumption|apply Y6;assumption) only [vz,vu,vv,eqS,eF_,↓c1_,↓c2_,tabs,reduceCtorEq,X5,↓reduceIte,Y1,Y2,Y3,Y4,Y5,X1,X2,X3,X4]);rfl
 ·(try simp (disch:=first|assumption|apply Y6;assumption) only [vz,vu,vv,eqS,eF_,↓c1_,↓c2_,tabs,reduceCtorEq,X5,↓reduceIte,Y1,Y2,Y3,Y4,Y5,X1,X2,X3,X4])
theorem rdSK {l:List Nat} {J:List Int} {j:Nat} (h:j < l.length):(List.take 1 (List.drop (j*1) (cP fI (nI l++J)))).headD Q_=I ((l.getD j 0:Nat):Int):=by
 rw [c_u (by rw [List.length_append,nL_];omega)]
 have:(nI l++J).getD j default=((l.getD j 0:Nat):Int):=by
  rw [← a_D h]
  simp only [List.getD]
  rw [List.getElem?_append_left (by rw [nL_];exact h)]
 rw [this]
theorem lnSK (l:List Nat) (J:List Int):(cP fI (nI l++J)).length=l.length+J.length:=by rw [a_R,List.length_append,nL_]
theorem makeN_B (n:Nat) (h:n≤1000000000):b_1 tab 87 (I n) (I n)=some (fun r=>.sl r 1 0 n,cP fB (mpB (fun _=>false) n)):=by
 have e:zA_ n [B false]=cP fB (mpB (fun _=>false) n):=by rw [c_K];rfl
 simp only [b_1,tab_87,tab_4,ifN]
 rw [if_pos ⟨by omega,by omega,by omega,by omega⟩,← e]
 rfl
theorem turn_rel {g:List (List Nat)} (hg:GrB g):aO_ (rwF (a_G g))=fun x y=>aO_ (rwF g) y x:=by
 funext x y
 show (y∈rwF (a_G g) x)=(x∈rwF g y)
 rw [c_j hg.gr]
 exact propext (c_q hg.gr)
theorem foldl_min (n:Nat) (l:List Nat):(l.foldl min n≤n∧∀u∈l,l.foldl min n≤u)∧(l.foldl min n=n∨l.foldl min n∈l):=by
 induction l generalizing n with
 | nil=>simp
 | cons a l ih=>
  obtain ⟨⟨h1,h2⟩,h3⟩:=ih (min n a)
  rw [List.foldl_cons]
  refine ⟨⟨Nat.le_trans h1 (Nat.min_le_left _ _),fun u hu=>?_⟩,?_⟩
  ·rcases List.mem_cons.1 hu with rfl | hu
   ·exact Nat.le_trans h1 (Nat.min_le_right _ _)
   ·exact h2 u hu
  ·rcases h3 with h3 | h3
   ·rcases Nat.le_total n a with k | k
    ·left;rw [h3];exact Nat.min_eq_left k
    ·right;rw [h3,Nat.min_eq_right k];simp
   ·right;exact List.mem_cons_of_mem _ h3
theorem c_9 (g:List (List Nat)) (hg:GrB g) (hg2:GrB (a_G g)):Pu Tryz.prog 91 [Ls (gI g)] (Is (prtI g)):=by
 refine ⟨fun H=>a_a.fin ?_⟩
 have hn:=hg.n
 have hgl:=a_J g
 have hmk:=makeN_B g.length (by omega)
 have ez:zA_ g.length [B false]=cP fB (mpB (fun _=>false) g.length):=by rw [c_K];rfl
 refine W91_ok ?_;simp (maxSteps:=1000000) (disch:=first|assumption|apply Y6;assumption) only [W91,vz,vu,vv,eqS,eF_,↓c1_,↓c2_,tabs,reduceCtorEq,X5,↓reduceIte,Y1,Y2,Y3,Y4,Y5,X1,X2,X3,X4,hgl,mS_]
 refine ⟨by omega,by omega,by omega,by omega,fun qs hqs=>?_⟩
 rw [ez]
 (try simp (disch:=first|assumption|apply Y6;assumption) only [vz,vu,vv,eqS,eF_,↓c1_,↓c2_,tabs,reduceCtorEq,X5,↓reduceIte,Y1,Y2,Y3,Y4,Y5,X1,X2,X3,X4])
 intro r hrs hr
 have st:=((St.nil H).cell hqs (cP fB (mpB (fun _=>false) g.length))).cell (r:=r) (by rw [Heap.set_other hrs];exact hr) [Ls (gI g),.sl qs 1 0 g.length,.p .nil]
 generalize (H.set qs (cP fB (mpB (fun _=>false) g.length))).set r [Ls (gI g),.sl qs 1 0 g.length,.p .nil]=G1 at st ⊢
 have st:=(st.push (skT (.p .nil) [] []) ⟨.nil,fun y hy=>(by cases hy),Heap.le_refl _⟩ (.inl ⟨rfl,rfl,rfl⟩)).perm (Us:=wkT g r qs ⟨fun _=>false,[]⟩ (.p .nil) [] []) (by exact List.perm_append_comm (l₁:=[skT (.p .nil) [] []]))
 clear hqs hrs hr
 refine L91_0_rule ((0:Nat),(⟨fun _=>false,[]⟩:DS),(.p .nil:AV),([]:List Nat),G1) (fun z=>I z.1) (fun z=>z.2.2.2.2)
  (fun z=>z.1≤g.length∧DInv (aO_ (rwF g)) g.length (fun _=>False) [] z.2.1∧(∀u,u < z.1→z.2.1.seen u=true)∧St H (wkT g r qs z.2.1 z.2.2.1 z.2.2.2.1 []) z.2.2.2.2) (fun z=>g.length - z.1)
  ⟨⟨by simp,D_zero _ _,fun u hu=>by omega,st⟩,.refl _,Heap.le_refl _⟩ ?_
 clear st
 rintro ⟨k,t,x,D,G⟩ ⟨hk,ht,hd,st⟩
 dsimp only at hk ht hd st
 (try simp (disch:=first|assumption|apply Y6;assumption) only [vz,vu,vv,eqS,eF_,↓c1_,↓c2_,tabs,reduceCtorEq,X5,↓reduceIte,Y1,Y2,Y3,Y4,Y5,X1,X2,X3,X4,B91_0,hgl])
 refine ⟨fun h1=>?_,fun h1=>?_⟩
 ·have hlt:k < g.length:=by omega
  have e5:IntKind.i64.wrap ((k:Int)+1)=((k+1:Nat):Int):=by rw [i6_ (by omega) (by omega)];simp
  refine walk_spec g hg _ r qs [] _ [] t k x D G _ rfl ht hlt (fun y hy=>by cases hy) st fun t' x' D' G' ht' hp _ st=>?_
  (try simp (disch:=first|assumption|apply Y6;assumption) only [vz,vu,vv,eqS,eF_,↓c1_,↓c2_,tabs,reduceCtorEq,X5,↓reduceIte,Y1,Y2,Y3,Y4,Y5,X1,X2,X3,X4,e5])
  refine ⟨(k+1,t',x',D',G'),⟨by simp only;omega,ht',fun u hu=>?_,st⟩,by simp only;omega,.refl _,Heap.le_refl _⟩
  simp only at hu ⊢
  by_cases e:u=k
  ·subst e;exact hp.sv
  ·exact hp.mono u (hd u (by omega))
 ·have:k=g.length:=by omega
  subst this
  have hL:=D_left ht hd
  have hLl:t.out.length≤g.length:=DInv.out_len ht
  (try simp (disch:=first|assumption|apply Y6;assumption) only [vz,vu,vv,eqS,eF_,↓c1_,↓c2_,tabs,reduceCtorEq,X5,↓reduceIte,Y1,Y2,Y3,Y4,Y5,X1,X2,X3,X4,hmk,b_g,newV])
  refine Pu.use (sp_spec.l11Turn g hg) ?_
  intro qt hqt
  (try simp (disch:=first|assumption|apply Y6;assumption) only [vz,vu,vv,eqS,eF_,↓c1_,↓c2_,tabs,reduceCtorEq,X5,↓reduceIte,Y1,Y2,Y3,Y4,Y5,X1,X2,X3,X4])
  intro r2 hr2t hr2
  replace st:=(st.cell hqt (cP fB (mpB (fun _=>false) g.length))).cell (r:=r2) (by rw [Heap.set_other hr2t];exact hr2) [Ls (gI (a_G g)),.sl qt 1 0 g.length,.p .nil]
  generalize (G.set qt (cP fB (mpB (fun _=>false) g.length))).set r2 [Ls (gI (a_G g)),.sl qt 1 0 g.length,.p .nil]=G3 at st ⊢
  (try simp (disch:=first|assumption|apply Y6;assumption) only [vz,vu,vv,eqS,eF_,↓c1_,↓c2_,tabs,reduceCtorEq,X5,↓reduceIte,Y1,Y2,Y3,Y4,Y5,X1,X2,X3,X4,hgl,mS_])
  refine ⟨by omega,by omega,by omega,by omega,fun q3 hq3=>?_⟩
  have ez3:zA_ g.length [I 0]=cP fI (mpI (fun _=>0) g.length):=by rw [e_j,b_c]
  rw [ez3]
  replace st:=st.cell hq3 (cP fI (mpI (fun _=>0) g.length))
  generalize G3.set q3 (cP fI (mpI (fun _=>0) g.length))=G4 at st ⊢
  clear hq3 hr2 hr2t hqt
  have hgt:(a_G g).length=g.length:=a_L g
  have p3:∀{α:Type} (a b c:α) (l:List α),List.Perm (a::b::c::l) (b::c::a::l):=fun a b c l=>(List.Perm.swap b a _).trans ((List.Perm.swap c a _).cons b)
  (try simp (disch:=first|assumption|apply Y6;assumption) only [vz,vu,vv,eqS,eF_,↓c1_,↓c2_,tabs,reduceCtorEq,X5,↓reduceIte,Y1,Y2,Y3,Y4,Y5,X1,X2,X3,X4,lA_ (st.get 3 rfl)])
  rw [lenV_SK (st.get 5 rfl)]
  have e0:IntKind.i64.wrap ((t.out.length:Int) - 1)=(t.out.length:Int) - 1:=i6_ (by omega) (by omega)
  (try simp (disch:=first|assumption|apply Y6;assumption) only [vz,vu,vv,eqS,eF_,↓c1_,↓c2_,tabs,reduceCtorEq,X5,↓reduceIte,Y1,Y2,Y3,Y4,Y5,X1,X2,X3,X4,e0])
  have st:=(st.push (skT (.p .nil) [] []) ⟨.nil,fun y hy=>(by cases hy),Heap.le_refl _⟩ (.inl ⟨rfl,rfl,rfl⟩)).perm (Us:=wkT (a_G g) r2 qt ⟨fun _=>false,[]⟩ (.p .nil) [] [cT_ q3 (cP fI (mpI (fun _=>0) g.length)),cT_ r [Ls (gI g),.sl qs 1 0 g.length,x],cT_ qs (cP fB (mpB t.seen g.length)),skT x t.out D]) (by
   simp only [wkT,hgt]
   exact (List.perm_append_comm (l₁:=[_,_]) (l₂:=[_,_])).append_right _)
  refine L91_1_rule (t.out.length,(⟨fun _=>false,[]⟩:DS),(fun _=>(0:Int)),(.p .nil:AV),([]:List Nat),G4) (fun z=>I ((z.1:Int) - 1)) (fun z=>z.2.2.2.2.2)
   (fun z=>z.1≤t.out.length∧(∀v,v < g.length→(z.2.1.seen v=true↔∃q∈t.out.drop z.1,Con (aO_ (rwF g)) v q))∧(∀v,v < g.length→z.2.1.seen v=true→z.2.2.1 v=(a_n (aO_ (rwF g)) v:Int))∧
    St H (wkT (a_G g) r2 qt z.2.1 z.2.2.2.1 z.2.2.2.2.1 [cT_ q3 (cP fI (mpI z.2.2.1 g.length)),cT_ r [Ls (gI g),.sl qs 1 0 g.length,x],cT_ qs (cP fB (mpB t.seen g.length)),skT x t.out D]) z.2.2.2.2.2) (fun z=>z.1)
   ⟨⟨Nat.le_refl _,fun v hv=>by simp,fun v hv h=>(by cases h),st⟩,.refl _,Heap.le_refl _⟩ ?_
  clear st
  rintro ⟨c,s2,po,x2,D2,G⟩ ⟨hc,hseen,hpo,st⟩
  dsimp only at hc hseen hpo st
  (try simp (disch:=first|assumption|apply Y6;assumption) only [vz,vu,vv,eqS,eF_,↓c1_,↓c2_,tabs,reduceCtorEq,X5,↓reduceIte,Y1,Y2,Y3,Y4,Y5,X1,X2,X3,X4,B91_1])
  refine ⟨fun h2=>?_,fun h2=>?_⟩
  ·obtain ⟨c,rfl⟩:∃c',c=c'+1:=⟨c - 1,by omega⟩
   have hcl:c < t.out.length:=by omega
   (try simp (disch:=first|assumption|apply Y6;assumption) only [vz,vu,vv,eqS,eF_,↓c1_,↓c2_,tabs,reduceCtorEq,X5,↓reduceIte,Y1,Y2,Y3,Y4,Y5,X1,X2,X3,X4,sA_ (st.get 0 rfl)])
   have hcur:=st.put 0 rfl [Ls (gI (a_G g)),.sl qt 1 0 (a_G g).length,.p .nil]
   have st:=((hcur.erase 2).push (skT (.p .nil) [] []) ⟨.nil,fun y hy=>(by cases hy),Heap.le_refl _⟩ (.inl ⟨rfl,rfl,rfl⟩)).perm (p3 _ _ _ _)
   clear hcur
   generalize G.set r2 [Ls (gI (a_G g)),.sl qt 1 0 (a_G g).length,.p .nil]=G5 at st ⊢
   have hx:SK x t.out G5 D:=st.get 6 rfl
   rcases len_SK hx with ⟨_,h0⟩ | ⟨qx,J,rfl,hqx⟩
   ·rw [h0] at hcl;simp at hcl
   have hrd:=rdSK (l:=t.out) (J:=J) hcl
   have e1:(((c+1:Nat):Int) - 1)=(c:Int):=by omega
   rw [e1] at h2 ⊢
   have hu:t.out.getD c 0∈t.out:=a_e (p:=fun z=>z∈t.out) (d:=0) (fun _ k=>k) hcl
   have hsplit:t.out=t.out.take c++t.out.getD c 0::t.out.drop (c+1):=by
    conv=>lhs;rw [← List.take_append_drop c t.out,a_K hcl]
    rfl
   have hdrop:t.out.drop c=t.out.getD c 0::t.out.drop (c+1):=a_K hcl
   generalize t.out.getD c 0=u at hu hsplit hrd hdrop
   have hun:u < g.length:=(hL.mem u).2 hu
   have hln:=lnSK t.out J
   (try simp (disch:=first|assumption|apply Y6;assumption) only [vz,vu,vv,eqS,eF_,↓c1_,↓c2_,tabs,reduceCtorEq,X5,↓reduceIte,Y1,Y2,Y3,Y4,Y5,X1,X2,X3,X4,lA_ (st.get 4 rfl),lA_ hqx,hrd,hln,Int.toNat_natCast])
   refine ⟨by omega,by omega,by omega,?_⟩
   refine walk_spec (a_G g) hg2 (fun v=>s2.seen v=true) r2 qt _ _ [] ⟨s2.seen,[]⟩ u (.p .nil) [] G5 _ rfl (D_zero' _ _ _) (by rw [hgt];exact hun) (fun y hy=>by cases hy) st fun t2 x3 D3 G6 ht2 hp2 hsame st=>?_
   rw [turn_rel hg,hgt] at ht2
   rw [turn_rel hg] at hp2
   (try simp (disch:=first|assumption|apply Y6;assumption) only [vz,vu,vv,eqS,eF_,↓c1_,↓c2_,tabs,reduceCtorEq,X5,↓reduceIte,Y1,Y2,Y3,Y4,Y5,X1,X2,X3,X4,hgl,lA_ (st.get 0 rfl)])
   rw [lenV_SK (st.get 2 rfl)]
   have ho2:=DInv.out_len ht2
   have key:(∀v,v < g.length→(t2.seen v=true↔∃q∈t.out.drop c,Con (aO_ (rwF g)) v q))∧
     (∀v,v < g.length→t2.seen v=true→(if v∈t2.out then (((t2.out.foldl min g.length:Nat)):Int) else po v)=(a_n (aO_ (rwF g)) v:Int))∧∀w∈t2.out,w < g.length:=by
    rw [hdrop]
    cases hus:s2.seen u
    ·have hu0:¬s2.seen u=true:=by rw [hus];simp
     have hout:=D_part hL hsplit (S0:=fun v=>s2.seen v=true) hseen (fun x y hxy=>⟨hg.gr.src hxy,hg.gr.lt x y hxy⟩) ht2 hp2.sv hu0 (fun z hz=>by
      obtain ⟨N,k1,k2⟩:=hp2.ext
      rw [k1] at hz
      exact k2 z (by simpa using hz))
     obtain ⟨⟨_,hm2⟩,hm3⟩:=foldl_min g.length t2.out
     have huo:u∈t2.out:=(hout u).2 (.refl _)
     have hmo:t2.out.foldl min g.length∈t2.out:=by
      rcases hm3 with h | h
      ·have:=hm2 u huo
       omega
      ·exact h
     refine ⟨fun v hv=>?_,fun v hv hsv=>?_,ht2.lt⟩
     ·rw [ht2.sn v]
      constructor
      ·rintro (k | k | k)
       ·obtain ⟨q,q1,q2⟩:=(hseen v hv).1 k
        exact ⟨q,List.mem_cons_of_mem _ q1,q2⟩
       ·exact ⟨u,List.mem_cons_self ..,((hout v).1 k).symm⟩
       ·cases k
      ·rintro ⟨q,q1,q2⟩
       rcases List.mem_cons.1 q1 with rfl | q1
       ·exact .inr (.inl ((hout v).2 q2.symm))
       ·exact .inl ((hseen v hv).2 ⟨q,q1,q2⟩)
     ·by_cases hvo:v∈t2.out
      ·rw [if_pos hvo]
       have hle:c_g (aO_ (rwF g)) u (t2.out.foldl min g.length):=⟨(hout _).1 hmo,fun w hw=>hm2 w ((hout w).2 hw)⟩
       rw [f_K (hle.of_con ((hout v).1 hvo))]
      ·rw [if_neg hvo]
       rcases (ht2.sn v).1 hsv with k | k | k
       ·exact hpo v hv k
       ·exact absurd k hvo
       ·cases k
    ·have e:=hsame hus
     subst e
     refine ⟨fun v hv=>?_,fun v hv hsv=>?_,fun w hw=>(by cases hw)⟩
     ·rw [hseen v hv]
      constructor
      ·rintro ⟨q,q1,q2⟩;exact ⟨q,List.mem_cons_of_mem _ q1,q2⟩
      ·rintro ⟨q,q1,q2⟩
       rcases List.mem_cons.1 q1 with rfl | q1
       ·obtain ⟨q',k1,k2⟩:=(hseen q hun).1 hus
        exact ⟨q',k1,q2.trans k2⟩
       ·exact ⟨q,q1,q2⟩
     ·rw [if_neg (by simp)];exact hpo v hv hsv
   obtain ⟨key1,key2,key3⟩:=key
   refine L91_2_rule (0:Nat) (fun j=>I ((t2.out.take j).foldl min g.length:Nat)) (fun j=>I j) (fun _=>G6) (fun j=>j≤t2.out.length) (fun j=>t2.out.length - j) ⟨by simp,.refl _,.refl _,Heap.le_refl _⟩ ?_
   intro j hj
   have e5:IntKind.i64.wrap ((j:Int)+1)=((j+1:Nat):Int):=by rw [i6_ (by omega) (by omega)];simp
   (try simp (disch:=first|assumption|apply Y6;assumption) only [vz,vu,vv,eqS,eF_,↓c1_,↓c2_,tabs,reduceCtorEq,X5,↓reduceIte,Y1,Y2,Y3,Y4,Y5,X1,X2,X3,X4,B91_2])
   refine ⟨fun h3=>?_,fun h3=>?_⟩
   ·have hlj:j < t2.out.length:=by omega
    rcases len_SK (st.get 2 rfl) with ⟨_,h0⟩ | ⟨q4,J4,rfl,hq4⟩
    ·rw [h0] at hlj;simp at hlj
    have hrd4:=rdSK (l:=t2.out) (J:=J4) hlj
    have hln4:=lnSK t2.out J4
    have hmin:(t2.out.take (j+1)).foldl min g.length=min ((t2.out.take j).foldl min g.length) (t2.out.getD j 0):=by
     rw [tS_ hlj,List.foldl_append];rfl
    (try simp (disch:=first|assumption|apply Y6;assumption) only [vz,vu,vv,eqS,eF_,↓c1_,↓c2_,tabs,reduceCtorEq,X5,↓reduceIte,Y1,Y2,Y3,Y4,Y5,X1,X2,X3,X4,lA_ hq4,hrd4,hln4,e5])
    refine ⟨by omega,by omega,by omega,fun h4=>?_,fun h4=>?_⟩
    ·refine ⟨j+1,by omega,by omega,?_,.refl _⟩
     rw [hmin,Nat.min_eq_right (by omega)];exact .refl _
    ·refine ⟨j+1,by omega,by omega,?_,.refl _⟩
     rw [hmin,Nat.min_eq_left (by omega)];exact .refl _
   ·have:j=t2.out.length:=by omega
    subst this
    rw [List.take_length]
    generalize t2.out.foldl min g.length=mm at key2
    (try simp (disch:=first|assumption|apply Y6;assumption) only [vz,vu,vv,eqS,eF_,↓c1_,↓c2_,tabs,reduceCtorEq,X5,↓reduceIte,Y1,Y2,Y3,Y4,Y5,X1,X2,X3,X4,lA_ (st.get 0 rfl)])
    rw [lenV_SK (st.get 2 rfl)]
    refine L91_3_rule ((0:Nat),G6) (fun z=>I z.1) (fun z=>z.2)
     (fun z=>z.1≤t2.out.length∧St H (wkT (a_G g) r2 qt t2 x3 D3 [cT_ q3 (cP fI (mpI (fun v=>if v∈t2.out.take z.1 then (mm:Int) else po v) g.length)),cT_ r [Ls (gI g),.sl qs 1 0 g.length,.sl qx 1 0 t.out.length],cT_ qs (cP fB (mpB t.seen g.length)),skT (.sl qx 1 0 t.out.length) t.out D]) z.2) (fun z=>t2.out.length - z.1)
     ⟨⟨by simp,by simpa using st⟩,.refl _,Heap.le_refl _⟩ ?_
    clear st
    rintro ⟨j,G⟩ ⟨hj,st⟩
    dsimp only at hj st
    have e5:IntKind.i64.wrap ((j:Int)+1)=((j+1:Nat):Int):=by rw [i6_ (by omega) (by omega)];simp
    (try simp (disch:=first|assumption|apply Y6;assumption) only [vz,vu,vv,eqS,eF_,↓c1_,↓c2_,tabs,reduceCtorEq,X5,↓reduceIte,Y1,Y2,Y3,Y4,Y5,X1,X2,X3,X4,B91_3])
    refine ⟨fun h3=>?_,fun h3=>?_⟩
    ·have hlj:j < t2.out.length:=by omega
     rcases len_SK (st.get 2 rfl) with ⟨_,h0⟩ | ⟨q4,J4,rfl,hq4⟩
     ·rw [h0] at hlj;simp at hlj
     have hrd4:=rdSK (l:=t2.out) (J:=J4) hlj
     have hln4:=lnSK t2.out J4
     have hw:=key3 (t2.out.getD j 0) (a_e (p:=fun z=>z∈t2.out) (d:=0) (fun _ k=>k) hlj)
     have htk:t2.out.take (j+1)=t2.out.take j++[t2.out.getD j 0]:=tS_ hlj
     generalize t2.out.getD j 0=w at hw htk hrd4
     have hset:=setN (fun v=>if v∈t2.out.take j then (mm:Int) else po v) hw (mm:Int)
     have hup:updI (fun v=>if v∈t2.out.take j then (mm:Int) else po v) w (mm:Int)=fun v=>if v∈t2.out.take (j+1) then (mm:Int) else po v:=by
      funext z
      rw [htk]
      unfold updI
      by_cases e:z=w
      ·subst e;simp
      ·by_cases e2:z∈t2.out.take j<;>simp [e,e2]
     (try simp (disch:=first|assumption|apply Y6;assumption) only [vz,vu,vv,eqS,eF_,↓c1_,↓c2_,tabs,reduceCtorEq,X5,↓reduceIte,Y1,Y2,Y3,Y4,Y5,X1,X2,X3,X4,lA_ hq4,hrd4,hln4,sA_ (st.get 3 rfl),lnN,a_f,e5,Int.toNat_natCast])
     refine ⟨by omega,by omega,by omega,by omega,by omega,by omega,?_⟩
     rw [hset,hup]
     exact ⟨(j+1,_),⟨by simp only;omega,st.put 3 rfl (cP fI (mpI (fun v=>if v∈t2.out.take (j+1) then (mm:Int) else po v) g.length))⟩,by simp only;omega,.refl _,Heap.le_refl _⟩
    ·have:j=t2.out.length:=by omega
     subst this
     rw [List.take_length] at st
     have e6:IntKind.i64.wrap ((c:Int) - 1)=(c:Int) - 1:=i6_ (by omega) (by omega)
     (try simp (disch:=first|assumption|apply Y6;assumption) only [vz,vu,vv,eqS,eF_,↓c1_,↓c2_,tabs,reduceCtorEq,X5,↓reduceIte,Y1,Y2,Y3,Y4,Y5,X1,X2,X3,X4,e6])
     exact ⟨(c,t2,_,x3,D3,G),⟨by simp only;omega,key1,key2,st⟩,by simp only;omega,.refl _,Heap.le_refl _⟩
  ·have:c=0:=by omega
   subst this
   have e:mpI po g.length=prtI g:=by
    unfold prtI mpI
    apply List.map_congr_left
    intro v hv
    have hv:=List.mem_range.1 hv
    exact hpo v hv ((hseen v hv).2 ⟨v,by simpa using (hL.mem v).1 hv,.refl _⟩)
   have:=f_g st 3 rfl
   rw [rowP,a_f,e] at this
   exact this
end Go.Proofs.YtohkciilfkhomaaGreat
namespace Go.Proofs.YtohkciilfkhomaaGreat
open Go Go.Sep Go.Pt
attribute [local irreducible] a_a
structure GoB (goals:List (List Nat)) (n:Nat):Prop where
 lt:∀g∈goals,∀x∈g,x < n
 len:goals.length≤1000
 sz:∀g∈goals,g.length≤100000
theorem GoB.get {goals:List (List Nat)} {n t:Nat} (h:GoB goals n) (ht:t < goals.length):(rwF goals t).length≤100000∧∀j,j < (rwF goals t).length→(rwF goals t).getD j 0 < n:=by
 have hm:rwF goals t∈goals:=by simp [rwF,List.getD,ht]
 exact ⟨h.sz _ hm,fun j hj=>h.lt _ hm _ (by simp [List.getD,hj])⟩
theorem wkBl {q:Nat} {xs:List Bool} {G:Heap} (hq:G q=some (cP fB xs)):Wk (rowP q xs) G (Bls xs) (G.del q):=wkB hq (fun v=>v) (fun h=>h)
theorem st_bool {H G:Heap} {Ts:List Th} {q:Nat} {xs:List Bool} (s:St H Ts G) (i:Nat) (hi:Ts[i]?=some (cT_ q (cP fB xs))):wkK (fun r H'=>r=Bls xs∧H'=H) (rowP q xs) G:=by
 refine ⟨_,H,.trans (wkBl (s.get i hi)) (.forget fun y b hb=>?_),rfl,rfl⟩
 have:=s.fr _ (List.mem_of_getElem? hi)
 rw [Heap.del_other (fun e=>by have:=this q (by simp [cT_]);rw [← e,hb] at this;cases this)]
 exact s.le y b hb
theorem d_Q (g:List (List Nat)):(prtI g).length=g.length:=by simp [prtI,a_f]
theorem d_R {g:List (List Nat)} {v:Nat} (h:v < g.length):(prtI g).getD v default=((a_n (aO_ (rwF g)) v:Nat):Int):=by rw [prtI,a_P _ h]
theorem f_i (g:List (List Nat)) (hg:GrB g) (goals:List (List Nat)) (hgo:GoB goals g.length):Pu Tryz.prog 94 [Ls (gI g),Ls (gI goals)] (Bls (mpB (a_s (rwF g) goals) g.length)):=by
 refine ⟨fun H=>a_a.fin ?_⟩
 have hn:=hg.n
 have hgl:=a_J g
 have hol:=a_J goals
 have hon:=hgo.len
 have hpl:=d_Q g
 have hmk:=makeN_B g.length (by omega)
 have ez:zA_ g.length [B false]=cP fB (mpB (fun _=>false) g.length):=by rw [c_K];rfl
 have hpf:∀v,v < g.length→a_n (aO_ (rwF g)) v < g.length:=fun v hv=>by have:=partF_le (aO_ (rwF g)) v;omega
 have hfair:=fun v hv=>fa2_fair (goals:=goals) hg.gr (v:=v) hv
 have hpg:=fun v (h:v < g.length)=>d_R h
 refine W94_ok ?_;simp (maxSteps:=1000000) (disch:=first|assumption|apply Y6;assumption) only [W94,vz,vu,vv,eqS,eF_,↓c1_,↓c2_,tabs,reduceCtorEq,X5,↓reduceIte,Y1,Y2,Y3,Y4,Y5,X1,X2,X3,X4,hgl]
 refine Pu.use (parts_spec g hg) ?_
 generalize a_n (aO_ (rwF g))=pf at hpf hfair hpg
 generalize prtI g=pr at hpl hpg ⊢
 (try simp (disch:=first|assumption|apply Y6;assumption) only [vz,vu,vv,eqS,eF_,↓c1_,↓c2_,tabs,reduceCtorEq,X5,↓reduceIte,Y1,Y2,Y3,Y4,Y5,X1,X2,X3,X4,hmk,b_g,newV,mS_])
 refine ⟨by omega,by omega,by omega,by omega,fun q1 hq1=>?_⟩
 rw [ez]
 intro q2 hq21 hq2
 have st:=((St.nil H).cell hq1 (cP fB (mpB (fun _=>false) g.length))).cell (r:=q2) (by rw [Heap.set_other hq21];exact hq2) (cP fB (mpB (fun _=>false) g.length))
 generalize (H.set q1 (cP fB (mpB (fun _=>false) g.length))).set q2 (cP fB (mpB (fun _=>false) g.length))=G1 at st ⊢
 clear hq1 hq21 hq2
 have last:∀G,St H [cT_ q2 (cP fB (mpB (fun _=>false) g.length)),cT_ q1 (cP fB (mpB (fa2 (rwF g) pf g.length goals goals.length) g.length))] G→
   L94_5 (wkK fun r H'=>r=Bls (mpB (a_s (rwF g) goals) g.length)∧H'=H) (Is pr) (.sl q1 1 0 g.length) (.sl q2 1 0 g.length) (I g.length) (I 0) G:=by
  intro G st
  refine L94_5_rule ((0:Nat),G) (fun z=>I z.1) (fun z=>z.2) (fun z=>z.1≤g.length∧St H [cT_ q2 (cP fB (mpB (fun v=>if v < z.1 then a_s (rwF g) goals v else false) g.length)),cT_ q1 (cP fB (mpB (fa2 (rwF g) pf g.length goals goals.length) g.length))] z.2) (fun z=>g.length - z.1)
   ⟨⟨by simp,by simpa using st⟩,.refl _,Heap.le_refl _⟩ ?_
  clear st G
  rintro ⟨i,G⟩ ⟨hi,st⟩
  dsimp only at hi st
  have e5:IntKind.i64.wrap ((i:Int)+1)=((i+1:Nat):Int):=by rw [i6_ (by omega) (by omega)];simp
  (try simp (disch:=first|assumption|apply Y6;assumption) only [vz,vu,vv,eqS,eF_,↓c1_,↓c2_,tabs,reduceCtorEq,X5,↓reduceIte,Y1,Y2,Y3,Y4,Y5,X1,X2,X3,X4,B94_5,hpl])
  refine ⟨fun h1=>?_,fun h1=>?_⟩
  ·have hlt:i < g.length:=by omega
   have hp:=hpf i hlt
   have hrd:=rdB (fa2 (rwF g) pf g.length goals goals.length) hp
   rw [hfair i hlt] at hrd
   have hset:=setB (fun v=>if v < i then a_s (rwF g) goals v else false) hlt (a_s (rwF g) goals i)
   have hup:updB (fun v=>if v < i then a_s (rwF g) goals v else false) i (a_s (rwF g) goals i)=fun v=>if v < i+1 then a_s (rwF g) goals v else false:=by
    funext v
    unfold updB
    by_cases e:v=i
    ·subst e;simp
    ·have:v < i+1↔v < i:=by omega
     simp [e,this]
   rw [hpg i hlt]
   (try simp (disch:=first|assumption|apply Y6;assumption) only [vz,vu,vv,eqS,eF_,↓c1_,↓c2_,tabs,reduceCtorEq,X5,↓reduceIte,Y1,Y2,Y3,Y4,Y5,X1,X2,X3,X4,lA_ (st.get 1 rfl),sA_ (st.get 0 rfl),lnB,a_E,hrd,e5,Int.toNat_natCast])
   repeat refine ⟨by omega,?_⟩
   rw [hset,hup]
   exact ⟨(i+1,_),⟨by simp only;omega,st.put 0 rfl (cP fB (mpB (fun v=>if v < i+1 then a_s (rwF g) goals v else false) g.length))⟩,by simp only;omega,.refl _,Heap.le_refl _⟩
  ·have:i=g.length:=by omega
   subst this
   have e:mpB (fun v=>if v < g.length then a_s (rwF g) goals v else false) g.length=mpB (a_s (rwF g) goals) g.length:=by
    unfold mpB
    apply List.map_congr_left
    intro v hv
    rw [if_pos (List.mem_range.1 hv)]
   rw [e] at st
   have:=st_bool st 0 rfl
   rw [rowP,a_E] at this
   exact this
 have gos:∀G,St H [cT_ q2 (cP fB (mpB (fun _=>false) g.length)),cT_ q1 (cP fB (mpB (fa1 (rwF g) pf g.length 0) g.length))] G→
   L94_2 (wkK fun r H'=>r=Bls (mpB (a_s (rwF g) goals) g.length)∧H'=H) (Is pr) (I g.length) (.sl q1 1 0 g.length) (.sl q2 1 0 g.length) (Ls (gI goals)) (I goals.length) (I 0) G:=by
  intro G st
  refine L94_2_rule ((0:Nat),G) (fun z=>I z.1) (fun z=>z.2) (fun z=>z.1≤goals.length∧St H [cT_ q2 (cP fB (mpB (fun _=>false) g.length)),cT_ q1 (cP fB (mpB (fa2 (rwF g) pf g.length goals z.1) g.length))] z.2) (fun z=>goals.length - z.1)
   ⟨⟨by simp,by rw [fa2_zero];exact st⟩,.refl _,Heap.le_refl _⟩ ?_
  clear st G
  rintro ⟨t,G⟩ ⟨ht,st⟩
  dsimp only at ht st
  have e5:IntKind.i64.wrap ((t:Int)+1)=((t+1:Nat):Int):=by rw [i6_ (by omega) (by omega)];simp
  (try simp (disch:=first|assumption|apply Y6;assumption) only [vz,vu,vv,eqS,eF_,↓c1_,↓c2_,tabs,reduceCtorEq,X5,↓reduceIte,Y1,Y2,Y3,Y4,Y5,X1,X2,X3,X4,B94_2,hol,mS_])
  refine ⟨fun h1=>?_,fun h1=>?_⟩
  ·have hlt:t < goals.length:=by omega
   refine ⟨by omega,h1,by omega,by omega,by omega,by omega,fun q3 hq3=>?_⟩
   rw [ez,b_b hlt]
   replace st:=st.cell hq3 (cP fB (mpB (fun _=>false) g.length))
   generalize G.set q3 (cP fB (mpB (fun _=>false) g.length))=G2 at st ⊢
   obtain ⟨hsz,hxlt⟩:=hgo.get hlt
   have hnl:=nL_ (rwF goals t)
   have hf2:=fa2_succ (rwF g) pf g.length hlt
   have hgd:goals.getD t []=rwF goals t:=rfl
   rw [hgd] at hf2
   (try simp (disch:=first|assumption|apply Y6;assumption) only [vz,vu,vv,eqS,eF_,↓c1_,↓c2_,tabs,reduceCtorEq,X5,↓reduceIte,Y1,Y2,Y3,Y4,Y5,X1,X2,X3,X4,hnl])
   refine L94_3_rule ((0:Nat),G2) (fun z=>I z.1) (fun z=>z.2) (fun z=>z.1≤(rwF goals t).length∧St H [cT_ q3 (cP fB (mpB (ha1 pf (rwF goals t) z.1) g.length)),cT_ q2 (cP fB (mpB (fun _=>false) g.length)),cT_ q1 (cP fB (mpB (fa2 (rwF g) pf g.length goals t) g.length))] z.2) (fun z=>(rwF goals t).length - z.1)
    ⟨⟨by simp,by rw [ha1_zero];exact st⟩,.refl _,Heap.le_refl _⟩ ?_
   clear st hq3
   rintro ⟨j,G⟩ ⟨hj,st⟩
   dsimp only at hj st
   have e6:IntKind.i64.wrap ((j:Int)+1)=((j+1:Nat):Int):=by rw [i6_ (by omega) (by omega)];simp
   (try simp (disch:=first|assumption|apply Y6;assumption) only [vz,vu,vv,eqS,eF_,↓c1_,↓c2_,tabs,reduceCtorEq,X5,↓reduceIte,Y1,Y2,Y3,Y4,Y5,X1,X2,X3,X4,B94_3,hnl,hpl])
   refine ⟨fun h2=>?_,fun h2=>?_⟩
   ·have hlj:j < (rwF goals t).length:=by omega
    refine ⟨by omega,h2,?_⟩
    rw [a_D hlj]
    have hx:=hxlt j hlj
    have hs:=ha1_succ pf (rwF goals t) hlj
    generalize (rwF goals t).getD j 0=w at hx hs ⊢
    have hp:=hpf w hx
    have hset:=setB (ha1 pf (rwF goals t) j) hp true
    have hup:updB (ha1 pf (rwF goals t) j) (pf w) true=ha1 pf (rwF goals t) (j+1):=by
     rw [hs];funext p;unfold updB
     by_cases e:p=pf w<;>simp [e]
    rw [Int.toNat_natCast,hpg w hx]
    (try simp (disch:=first|assumption|apply Y6;assumption) only [vz,vu,vv,eqS,eF_,↓c1_,↓c2_,tabs,reduceCtorEq,X5,↓reduceIte,Y1,Y2,Y3,Y4,Y5,X1,X2,X3,X4,sA_ (st.get 0 rfl),lnB,a_E,e6,Int.toNat_natCast])
    refine ⟨by omega,by omega,by omega,by omega,by omega,?_⟩
    rw [hset,hup]
    exact ⟨(j+1,_),⟨by simp only;omega,st.put 0 rfl (cP fB (mpB (ha1 pf (rwF goals t) (j+1)) g.length))⟩,by simp only;omega,.refl _,Heap.le_refl _⟩
   ·have:j=(rwF goals t).length:=by omega
    subst this
    generalize ha1 pf (rwF goals t) (rwF goals t).length=hs at hf2 st
    refine L94_4_rule ((0:Nat),G) (fun z=>I z.1) (fun z=>z.2) (fun z=>z.1≤g.length∧St H [cT_ q3 (cP fB (mpB hs g.length)),cT_ q2 (cP fB (mpB (fun _=>false) g.length)),cT_ q1 (cP fB (mpB (fun p=>if p < z.1 then fa2 (rwF g) pf g.length goals t p && hs p else fa2 (rwF g) pf g.length goals t p) g.length))] z.2) (fun z=>g.length - z.1)
     ⟨⟨by simp,by simpa using st⟩,.refl _,Heap.le_refl _⟩ ?_
    clear st G
    rintro ⟨i,G⟩ ⟨hi,st⟩
    dsimp only at hi st
    have e7:IntKind.i64.wrap ((i:Int)+1)=((i+1:Nat):Int):=by rw [i6_ (by omega) (by omega)];simp
    (try simp (disch:=first|assumption|apply Y6;assumption) only [vz,vu,vv,eqS,eF_,↓c1_,↓c2_,tabs,reduceCtorEq,X5,↓reduceIte,Y1,Y2,Y3,Y4,Y5,X1,X2,X3,X4,B94_4])
    refine ⟨fun h3=>?_,fun h3=>?_⟩
    ·have hli:i < g.length:=by omega
     have hr1:=rdB (fun p=>if p < i then fa2 (rwF g) pf g.length goals t p && hs p else fa2 (rwF g) pf g.length goals t p) hli
     simp only [Nat.lt_irrefl,if_false] at hr1
     have hr2:=rdB hs hli
     have hup:updB (fun p=>if p < i then fa2 (rwF g) pf g.length goals t p && hs p else fa2 (rwF g) pf g.length goals t p) i (fa2 (rwF g) pf g.length goals t i && hs i)=fun p=>if p < i+1 then fa2 (rwF g) pf g.length goals t p && hs p else fa2 (rwF g) pf g.length goals t p:=by
      funext v
      unfold updB
      by_cases e:v=i
      ·subst e;simp
      ·have:v < i+1↔v < i:=by omega
       simp [e,this]
     have hset:=setB (fun p=>if p < i then fa2 (rwF g) pf g.length goals t p && hs p else fa2 (rwF g) pf g.length goals t p) hli (fa2 (rwF g) pf g.length goals t i && hs i)
     rw [hup] at hset
     (try simp (disch:=first|assumption|apply Y6;assumption) only [vz,vu,vv,eqS,eF_,↓c1_,↓c2_,tabs,reduceCtorEq,X5,↓reduceIte,Y1,Y2,Y3,Y4,Y5,X1,X2,X3,X4,lA_ (st.get 2 rfl),lnB,a_E,hr1,Int.toNat_natCast])
     refine ⟨by omega,by omega,by omega,?_⟩
     have hput:=st.put 2 rfl (cP fB (mpB (fun p=>if p < i+1 then fa2 (rwF g) pf g.length goals t p && hs p else fa2 (rwF g) pf g.length goals t p) g.length))
     cases hfi:fa2 (rwF g) pf g.length goals t i
     ·rw [hfi,Bool.false_and] at hset
      (try simp (disch:=first|assumption|apply Y6;assumption) only [vz,vu,vv,eqS,eF_,↓c1_,↓c2_,tabs,reduceCtorEq,X5,↓reduceIte,Y1,Y2,Y3,Y4,Y5,X1,X2,X3,X4,sA_ (st.get 2 rfl),lnB,a_E,e7,Int.toNat_natCast])
      refine ⟨by omega,by omega,by omega,?_⟩
      rw [hset]
      exact ⟨(i+1,_),⟨by simp only;omega,hput⟩,by simp only;omega,.refl _,Heap.le_refl _⟩
     ·rw [hfi,Bool.true_and] at hset
      (try simp (disch:=first|assumption|apply Y6;assumption) only [vz,vu,vv,eqS,eF_,↓c1_,↓c2_,tabs,reduceCtorEq,X5,↓reduceIte,Y1,Y2,Y3,Y4,Y5,X1,X2,X3,X4,lA_ (st.get 0 rfl),hr2,sA_ (st.get 2 rfl),lnB,a_E,e7,Int.toNat_natCast])
      refine ⟨by omega,by omega,by omega,by omega,by omega,by omega,?_⟩
      rw [hset]
      exact ⟨(i+1,_),⟨by simp only;omega,hput⟩,by simp only;omega,.refl _,Heap.le_refl _⟩
    ·have:i=g.length:=by omega
     subst this
     have e:mpB (fun p=>if p < g.length then fa2 (rwF g) pf g.length goals t p && hs p else fa2 (rwF g) pf g.length goals t p) g.length=mpB (fa2 (rwF g) pf g.length goals (t+1)) g.length:=by
      rw [hf2]
      unfold mpB
      apply List.map_congr_left
      intro v hv
      rw [if_pos (List.mem_range.1 hv)]
     rw [e] at st
     (try simp (disch:=first|assumption|apply Y6;assumption) only [vz,vu,vv,eqS,eF_,↓c1_,↓c2_,tabs,reduceCtorEq,X5,↓reduceIte,Y1,Y2,Y3,Y4,Y5,X1,X2,X3,X4,e5])
     exact ⟨(t+1,G),⟨by simp only;omega,st.drop⟩,by simp only;omega,.refl _,Heap.le_refl _⟩
  ·have:t=goals.length:=by omega
   subst this
   exact last G st
 refine L94_0_rule ((0:Nat),G1) (fun z=>I z.1) (fun z=>z.2) (fun z=>z.1≤g.length∧St H [cT_ q2 (cP fB (mpB (fun _=>false) g.length)),cT_ q1 (cP fB (mpB (fa1 (rwF g) pf z.1 0) g.length))] z.2) (fun z=>g.length - z.1)
  ⟨⟨by simp,(st.perm (List.Perm.refl _):St H _ G1) |> fun s=>by rw [fa1_zero];exact s⟩,.refl _,Heap.le_refl _⟩ ?_
 clear st
 rintro ⟨k,G⟩ ⟨hk,st⟩
 dsimp only at hk st
 have e5:IntKind.i64.wrap ((k:Int)+1)=((k+1:Nat):Int):=by rw [i6_ (by omega) (by omega)];simp
 (try simp (disch:=first|assumption|apply Y6;assumption) only [vz,vu,vv,eqS,eF_,↓c1_,↓c2_,tabs,reduceCtorEq,X5,↓reduceIte,Y1,Y2,Y3,Y4,Y5,X1,X2,X3,X4,B94_0,hgl,hol])
 refine ⟨fun h1=>?_,fun h1=>?_⟩
 ·have hlt:k < g.length:=by omega
  refine ⟨by omega,h1,?_⟩
  rw [b_b hlt]
  have hrn:=nL_ (rwF g k)
  have hrl:=hg.row hlt
  have hpk:=hpf k hlt
  (try simp (disch:=first|assumption|apply Y6;assumption) only [vz,vu,vv,eqS,eF_,↓c1_,↓c2_,tabs,reduceCtorEq,X5,↓reduceIte,Y1,Y2,Y3,Y4,Y5,X1,X2,X3,X4,hrn])
  refine L94_1_rule ((0:Nat),G) (fun z=>I z.1) (fun z=>z.2) (fun z=>z.1≤(rwF g k).length∧St H [cT_ q2 (cP fB (mpB (fun _=>false) g.length)),cT_ q1 (cP fB (mpB (fa1 (rwF g) pf k z.1) g.length))] z.2) (fun z=>(rwF g k).length - z.1)
   ⟨⟨by simp,st⟩,.refl _,Heap.le_refl _⟩ ?_
  clear st G
  rintro ⟨j,G⟩ ⟨hj,st⟩
  dsimp only at hj st
  have e6:IntKind.i64.wrap ((j:Int)+1)=((j+1:Nat):Int):=by rw [i6_ (by omega) (by omega)];simp
  (try simp (disch:=first|assumption|apply Y6;assumption) only [vz,vu,vv,eqS,eF_,↓c1_,↓c2_,tabs,reduceCtorEq,X5,↓reduceIte,Y1,Y2,Y3,Y4,Y5,X1,X2,X3,X4,B94_1,hrn,hpl])
  refine ⟨fun h2=>?_,fun h2=>?_⟩
  ·have hlj:j < (rwF g k).length:=by omega
   refine ⟨by omega,h2,?_⟩
   rw [a_D hlj]
   have hw:=hg.lt hlj
   have hs:=fa1_succ (rwF g) pf hlj
   generalize (rwF g k).getD j 0=w at hw hs ⊢
   have hr1:=rdB (fa1 (rwF g) pf k j) hpk
   have hup:updB (fa1 (rwF g) pf k j) (pf k) (fa1 (rwF g) pf k j (pf k) || decide (pf w=pf k))=fa1 (rwF g) pf k (j+1):=by
    rw [hs];funext p;unfold updB
    by_cases e:p=pf k<;>simp [e]
   have hset:=setB (fa1 (rwF g) pf k j) hpk (fa1 (rwF g) pf k j (pf k) || decide (pf w=pf k))
   rw [hup] at hset
   have hput:=st.put 1 rfl (cP fB (mpB (fa1 (rwF g) pf k (j+1)) g.length))
   rw [Int.toNat_natCast,hpg w hw,hpg k hlt]
   (try simp (disch:=first|assumption|apply Y6;assumption) only [vz,vu,vv,eqS,eF_,↓c1_,↓c2_,tabs,reduceCtorEq,X5,↓reduceIte,Y1,Y2,Y3,Y4,Y5,X1,X2,X3,X4,lA_ (st.get 1 rfl),lnB,a_E,hr1,Int.toNat_natCast])
   refine ⟨by omega,by omega,by omega,by omega,by omega,by omega,by omega,?_⟩
   cases hfi:fa1 (rwF g) pf k j (pf k)
   ·have ed:decide (((pf w:Nat):Int)=((pf k:Nat):Int))=decide (pf w=pf k):=by rw [decide_eq_decide];omega
    rw [hfi,Bool.false_or] at hset
    (try simp (disch:=first|assumption|apply Y6;assumption) only [vz,vu,vv,eqS,eF_,↓c1_,↓c2_,tabs,reduceCtorEq,X5,↓reduceIte,Y1,Y2,Y3,Y4,Y5,X1,X2,X3,X4,sA_ (st.get 1 rfl),lnB,a_E,e6,ed,Int.toNat_natCast])
    repeat refine ⟨by omega,?_⟩
    rw [hset]
    exact ⟨(j+1,_),⟨by simp only;omega,hput⟩,by simp only;omega,.refl _,Heap.le_refl _⟩
   ·rw [hfi,Bool.true_or] at hset
    (try simp (disch:=first|assumption|apply Y6;assumption) only [vz,vu,vv,eqS,eF_,↓c1_,↓c2_,tabs,reduceCtorEq,X5,↓reduceIte,Y1,Y2,Y3,Y4,Y5,X1,X2,X3,X4,sA_ (st.get 1 rfl),lnB,a_E,e6,Int.toNat_natCast])
    refine ⟨by omega,by omega,by omega,?_⟩
    rw [hset]
    exact ⟨(j+1,_),⟨by simp only;omega,hput⟩,by simp only;omega,.refl _,Heap.le_refl _⟩
  ·have:j=(rwF g k).length:=by omega
   subst this
   rw [fa1_next] at st
   (try simp (disch:=first|assumption|apply Y6;assumption) only [vz,vu,vv,eqS,eF_,↓c1_,↓c2_,tabs,reduceCtorEq,X5,↓reduceIte,Y1,Y2,Y3,Y4,Y5,X1,X2,X3,X4,e5])
   exact ⟨(k+1,G),⟨by simp only;omega,st⟩,by simp only;omega,.refl _,Heap.le_refl _⟩
 ·have:k=g.length:=by omega
  subst this
  exact gos G st
end Go.Proofs.YtohkciilfkhomaaGreat
namespace Go.Proofs.YtohkciilfkhomaaGreat
open Go Go.Sep Go.Pt
attribute [local irreducible] a_a
noncomputable def meK (row:Nat→List Nat) (n:Nat) (some:List Nat) (goals:List (List Nat)) (k:Nat):Int:=a_v (farF row n some) ((List.range k).filter (a_s row goals))
theorem meK_succ (row:Nat→List Nat) (n:Nat) (some:List Nat) (goals:List (List Nat)) (k:Nat):meK row n some goals (k+1)=if a_s row goals k=true then b_3 (farF row n some) (meK row n some goals k) k else meK row n some goals k:=by
 unfold meK
 rw [List.range_succ,List.filter_append]
 by_cases h:a_s row goals k=true
 ·rw [if_pos h,← c_p];simp [h]
 ·rw [if_neg h];simp [h]
theorem meK_bd (row:Nat→List Nat) (n:Nat) (some:List Nat) (goals:List (List Nat)) (k:Nat):meK row n some goals k < k∧-1≤meK row n some goals k:=by
 unfold meK
 rcases a_8 (farF row n some) ((List.range k).filter (a_s row goals)) with ⟨e,_⟩ | ⟨v,h,e,_⟩
 ·omega
 ·have:=List.mem_range.1 (List.mem_filter.1 h).1
  omega
theorem meeting_spec (g:List (List Nat)) (hg:GrB g) (some:List Nat) (hs:∀v∈some,v < g.length) (hsl:some.length≤100000) (goals:List (List Nat)) (hgo:GoB goals g.length) :
  Pu Tryz.prog 41 [Ls (gI g),Is (nI some),Ls (gI goals)] (I (b_S (rwF g) g.length some goals)):=by
 refine Pu.of fun H=>?_
 have hn:=hg.n
 refine W41_ok ?_;simp (maxSteps:=1000000) (disch:=first|assumption|apply Y6;assumption) only [W41,vz,vu,vv,eqS,eF_,↓c1_,↓c2_,tabs,reduceCtorEq,X5,↓reduceIte,Y1,Y2,Y3,Y4,Y5,X1,X2,X3,X4]
 refine Pu.use (c_k g hg some hs hsl) ?_
 refine Pu.use (f_i g hg goals hgo) ?_
 have hml:=a_f (farF (rwF g) g.length some) g.length
 have hbl:=a_E (a_s (rwF g) goals) g.length
 (try simp (disch:=first|assumption|apply Y6;assumption) only [vz,vu,vv,eqS,eF_,↓c1_,↓c2_,tabs,reduceCtorEq,X5,↓reduceIte,Y1,Y2,Y3,Y4,Y5,X1,X2,X3,X4,hbl])
 refine L41_0_rule (0:Nat) (fun k=>I (meK (rwF g) g.length some goals k)) (fun k=>I k) (fun _=>H) (fun k=>k≤g.length) (fun k=>g.length - k) ⟨by simp,.refl _,.refl _,Heap.le_refl _⟩ ?_
 intro k hk
 have e5:IntKind.i64.wrap ((k:Int)+1)=((k+1:Nat):Int):=by rw [i6_ (by omega) (by omega)];simp
 (try simp (disch:=first|assumption|apply Y6;assumption) only [vz,vu,vv,eqS,eF_,↓c1_,↓c2_,tabs,reduceCtorEq,X5,↓reduceIte,Y1,Y2,Y3,Y4,Y5,X1,X2,X3,X4,B41_0,hbl,hml,e5])
 refine ⟨fun h1=>?_,fun h1=>?_⟩
 ·have hlt:k < g.length:=by omega
  have hsc:=meK_succ (rwF g) g.length some goals k
  obtain ⟨hb1,hb2⟩:=meK_bd (rwF g) g.length some goals k
  have hg1:=a_P (farF (rwF g) g.length some) hlt
  have hg2:=fun (b:Nat) (hb:b < g.length)=>a_P (farF (rwF g) g.length some) hb
  have hf:=mpB_get (a_s (rwF g) goals) hlt
  generalize farF (rwF g) g.length some=far at hsc hg1 hg2
  rw [hf]
  refine ⟨by omega,h1,?_⟩
  generalize meK (rwF g) g.length some goals k=mk at hsc hb1 hb2 ⊢
  have yes:meK (rwF g) g.length some goals (k+1)=(k:Int)→∃s':Nat,s'≤g.length∧g.length - s' < g.length - k∧(I (k:Int)).wk (I (meK (rwF g) g.length some goals s'))∧(I ((k+1:Nat):Int)).wk (I s'):=
   fun h=>⟨k+1,by omega,by omega,by rw [h];exact .refl _,.refl _⟩
  have no:meK (rwF g) g.length some goals (k+1)=mk→∃s':Nat,s'≤g.length∧g.length - s' < g.length - k∧(I mk).wk (I (meK (rwF g) g.length some goals s'))∧(I ((k+1:Nat):Int)).wk (I s'):=
   fun h=>⟨k+1,by omega,by omega,by rw [h];exact .refl _,.refl _⟩
  rw [hg1]
  refine ⟨fun h2=>⟨by omega,by omega,fun h3=>⟨fun h4=>?_,fun h4=>⟨by omega,by omega,by omega,by omega,?_⟩⟩,fun h3=>?_⟩,fun h2=>?_⟩
  ·exact yes (by rw [hsc,if_pos h2,b_3,if_pos ⟨h3,.inl h4⟩])
  ·rw [hg2 mk.toNat (by omega)]
   refine ⟨fun h5=>yes ?_,fun h5=>no ?_⟩
   ·rw [hsc,if_pos h2,b_3,if_pos ⟨h3,.inr h5⟩]
   ·rw [hsc,if_pos h2,b_3,if_neg (fun h=>h5 (h.2.resolve_left h4))]
  ·exact no (by rw [hsc,if_pos h2,b_3,if_neg (fun h=>h3 h.1)])
  ·exact no (by rw [hsc,if_neg (by rw [h2];simp)])
 ·have:k=g.length:=by omega
  subst this
  rfl
end Go.Proofs.YtohkciilfkhomaaGreat
namespace Go.Proofs.YtohkciilfkhomaaGreat
open Go Go.Sep Go.Pt
attribute [local irreducible] a_a
theorem sk_val {H G:Heap} {Ts:List Th} {x:AV} {l D:List Nat} (s:St H Ts G) (i:Nat) (hi:Ts[i]?=some (skT x l D)):wkK (fun r H'=>r=Is (nI l)∧H'=H) x G:=by
 have h:SK x l G D:=s.get i hi
 rcases h with ⟨rfl,rfl,rfl⟩ | ⟨q,J,rfl,hq,rfl⟩
 ·exact ⟨_,_,.trans (.val .nil) (.forget s.le),rfl,rfl⟩
 ·have w:Wk (.sl q 1 0 l.length) G (Is (nI l)) (G.del q):=by
   refine Wk.frzS (es:=(nI l++J).map fI) (by rw [hq,List.map_map];rfl) ?_
   have:=FrzS.part (r:=q) (es:=(nI l++J).map fI) 0 l.length (by rw [List.length_map,List.length_append,nL_];omega)
   have e:((((nI l++J).map fI).drop 0).take l.length).map (fun v=>[v])=(nI l).map eI:=by
    rw [List.drop_zero,← List.map_take,List.take_left' (nL_ l),List.map_map];rfl
   rw [e] at this
   exact this
  refine ⟨_,H,.trans w (.forget fun y b hb=>?_),rfl,rfl⟩
  have:=s.fr _ (List.mem_of_getElem? hi)
  rw [Heap.del_other (fun e=>by have:=this q (by simp [skT]);rw [← e,hb] at this;cases this)]
  exact s.le y b hb
noncomputable def cB (row:Nat→List Nat) (v w:Nat):Bool:=decide (a_n (aO_ row) v=a_n (aO_ row) w)
theorem inF_cB (row:Nat→List Nat) (v:Nat):inF row v=(row v).filter (cB row v):=by
 unfold inF
 apply List.filter_congr
 intro w _
 rw [cB,decide_eq_decide]
 exact b_L.symm
noncomputable def inG (g:List (List Nat)):List (List Nat):=(List.range g.length).map (inF (rwF g))
theorem b_d (g:List (List Nat)):(inG g).length=g.length:=by simp [inG]
theorem f_S {g:List (List Nat)} (hg:GrB g):rwF (inG g)=inF (rwF g):=by
 have:=rwF_mapOk (e_g hg.gr)
 exact this
noncomputable def wiR (g:List (List Nat)) (k j:Nat):List (List Nat):=(List.range g.length).map fun v=>if v < k then inF (rwF g) v else if v=k then ((rwF g k).take j).filter (cB (rwF g) k) else []
theorem wiR_len (g:List (List Nat)) (k j:Nat):(wiR g k j).length=g.length:=by simp [wiR]
theorem wiR_zero (g:List (List Nat)):wiR g 0 0=List.replicate g.length []:=by
 apply List.ext_getElem
 ·simp [wiR]
 ·intro i h1 h2;simp [wiR]
theorem wiR_next (g:List (List Nat)) (k:Nat):wiR g k (rwF g k).length=wiR g (k+1) 0:=by
 unfold wiR
 apply List.map_congr_left
 intro v _
 rw [List.take_length,← inF_cB]
 by_cases h1:v < k
 ·rw [if_pos h1,if_pos (by omega)]
 ·by_cases h2:v=k
  ·subst h2;simp
  ·rw [if_neg h1,if_neg h2,if_neg (by omega)];simp
theorem wiR_all (g:List (List Nat)):wiR g g.length 0=inG g:=by
 unfold wiR inG
 apply List.map_congr_left
 intro v hv
 rw [if_pos (List.mem_range.1 hv)]
theorem wiR_get {g:List (List Nat)} {k j:Nat} (h:k < g.length):rwF (wiR g k j) k=((rwF g k).take j).filter (cB (rwF g) k):=by simp [rwF,wiR,List.getD,h]
theorem wiR_succ {g:List (List Nat)} {k j:Nat} (hj:j < (rwF g k).length):wiR g k (j+1)=if cB (rwF g) k ((rwF g k).getD j 0)=true then (wiR g k j).set k (((rwF g k).take j).filter (cB (rwF g) k)++[(rwF g k).getD j 0]) else wiR g k j:=by
 have ht:(rwF g k).take (j+1)=(rwF g k).take j++[(rwF g k).getD j 0]:=tS_ hj
 generalize (rwF g k).getD j 0=w at ht ⊢
 by_cases hc:cB (rwF g) k w=true
 ·rw [if_pos hc]
  apply List.ext_getElem
  ·simp [wiR]
  ·intro v h1 h2
   simp only [wiR,List.getElem_map,List.getElem_range,List.getElem_set,ht,List.filter_append]
   by_cases e:k=v
   ·subst e;simp [hc]
   ·have:¬v=k:=fun h=>e h.symm
    simp [e,this]
 ·rw [if_neg hc]
  unfold wiR
  apply List.map_congr_left
  intro v _
  simp [ht,hc]
theorem e_m (g:List (List Nat)) (hg:GrB g):Pu Tryz.prog 92 [Ls (gI g),Is (prtI g)] (Ls (gI (inG g))):=by
 refine ⟨fun H=>a_a.finish ?_⟩
 have hn:=hg.n
 have hgl:=a_J g
 have hpl:=d_Q g
 have hpg:=fun v (h:v < g.length)=>d_R h
 refine W92_ok ?_;simp (maxSteps:=1000000) (disch:=first|assumption|apply Y6;assumption) only [W92,vz,vu,vv,eqS,eF_,↓c1_,↓c2_,tabs,reduceCtorEq,X5,↓reduceIte,Y1,Y2,Y3,Y4,Y5,X1,X2,X3,X4,mS_,hgl]
 refine ⟨by omega,by omega,by omega,by omega,fun q hq=>?_⟩
 have st:=d_l (n:=g.length) (St.nil H) (q:=q) hq
 rw [← gI_nil,← wiR_zero g] at st
 generalize H.set q (zA_ g.length [.p .nil])=G1 at st ⊢
 refine L92_0_rule ((0:Nat),[q],G1) (fun s=>I s.1) (fun s=>s.2.2) (fun s=>s.1≤g.length∧St H [tabT q (gI (wiR g s.1 0)) s.2.1] s.2.2) (fun s=>g.length - s.1)
  ⟨⟨by simp,st⟩,.refl _,Heap.le_refl _⟩ ?_
 clear st
 rintro ⟨k,D,G⟩ ⟨hk,st⟩
 dsimp only at hk st
 have e5:IntKind.i64.wrap ((k:Int)+1)=((k+1:Nat):Int):=by rw [i6_ (by omega) (by omega)];simp
 (try simp (disch:=first|assumption|apply Y6;assumption) only [vz,vu,vv,eqS,eF_,↓c1_,↓c2_,tabs,reduceCtorEq,X5,↓reduceIte,Y1,Y2,Y3,Y4,Y5,X1,X2,X3,X4,B92_0,hgl])
 refine ⟨fun h1=>?_,fun h1=>?_⟩
 ·have hlt:k < g.length:=by omega
  have hrl:=hg.row hlt
  refine ⟨by omega,h1,?_⟩
  rw [b_b hlt]
  have hrn:=nL_ (rwF g k)
  (try simp (disch:=first|assumption|apply Y6;assumption) only [vz,vu,vv,eqS,eF_,↓c1_,↓c2_,tabs,reduceCtorEq,X5,↓reduceIte,Y1,Y2,Y3,Y4,Y5,X1,X2,X3,X4,hrn])
  refine L92_1_rule ((0:Nat),D,G) (fun s=>I s.1) (fun s=>s.2.2) (fun s=>s.1≤(rwF g k).length∧St H [tabT q (gI (wiR g k s.1)) s.2.1] s.2.2) (fun s=>(rwF g k).length - s.1)
   ⟨⟨by simp,st⟩,.refl _,Heap.le_refl _⟩ ?_
  clear st D
  rintro ⟨j,D,G⟩ ⟨hj,st⟩
  dsimp only at hj st
  have e6:IntKind.i64.wrap ((j:Int)+1)=((j+1:Nat):Int):=by rw [i6_ (by omega) (by omega)];simp
  (try simp (disch:=first|assumption|apply Y6;assumption) only [vz,vu,vv,eqS,eF_,↓c1_,↓c2_,tabs,reduceCtorEq,X5,↓reduceIte,Y1,Y2,Y3,Y4,Y5,X1,X2,X3,X4,B92_1,hrn,hpl])
  refine ⟨fun h2=>?_,fun h2=>?_⟩
  ·have hlj:j < (rwF g k).length:=by omega
   refine ⟨by omega,h2,?_⟩
   rw [a_D hlj]
   have hw:=hg.lt hlj
   have hsc:=wiR_succ hlj
   generalize (rwF g k).getD j 0=w at hw hsc ⊢
   have htl:(gI (wiR g k j)).length=g.length:=by rw [a_J,wiR_len]
   have hget:(gI (wiR g k j)).getD k default=nI (((rwF g k).take j).filter (cB (rwF g) k)):=by rw [b_b (by rw [wiR_len];exact hlt),wiR_get hlt]
   have hfl:(((rwF g k).take j).filter (cB (rwF g) k)).length≤500000:=Nat.le_trans (List.length_filter_le _ _) (by rw [List.length_take];omega)
   rw [Int.toNat_natCast,hpg k hlt,hpg w hw]
   have hcb:(((a_n (aO_ (rwF g)) k:Nat):Int)=((a_n (aO_ (rwF g)) w:Nat):Int))↔cB (rwF g) k w=true:=by rw [cB,decide_eq_true_eq];omega
   (try simp (disch:=first|assumption|apply Y6;assumption) only [vz,vu,vv,eqS,eF_,↓c1_,↓c2_,tabs,reduceCtorEq,X5,↓reduceIte,Y1,Y2,Y3,Y4,Y5,X1,X2,X3,X4,e6])
   refine ⟨by omega,by omega,by omega,by omega,fun h3=>?_,fun h3=>?_⟩
   ·rw [if_pos (hcb.1 h3)] at hsc
    have:=fun (K:Heap→Prop)=>f_R (K:=K) st 0 rfl htl hlt (w:Int) (by rw [hget,nL_];omega)
    refine this _ fun G' D' st=>?_
    rw [hget,← f_f,← a_X,← gI_set,← hsc] at st
    exact ⟨(j+1,D',G'),⟨by simp only;omega,st⟩,by simp only;omega,.refl _,Heap.le_refl _⟩
   ·rw [if_neg (fun h=>h3 (hcb.2 h))] at hsc
    exact ⟨(j+1,D,G),⟨by simp only;omega,by rw [hsc];exact st⟩,by simp only;omega,.refl _,Heap.le_refl _⟩
  ·have:j=(rwF g k).length:=by omega
   subst this
   rw [wiR_next] at st
   (try simp (disch:=first|assumption|apply Y6;assumption) only [vz,vu,vv,eqS,eF_,↓c1_,↓c2_,tabs,reduceCtorEq,X5,↓reduceIte,Y1,Y2,Y3,Y4,Y5,X1,X2,X3,X4,e5])
   exact ⟨(k+1,D,G),⟨by simp only;omega,st⟩,by simp only;omega,.refl _,Heap.le_refl _⟩
 ·have:k=g.length:=by omega
  subst this
  rw [wiR_all] at st
  have e:(gI (inG g)).length=g.length:=by rw [a_J,b_d]
  rw [← e]
  exact c_2 (fun G D s=>.ofWkK (f_Q (s.get 0 rfl) ⟨s.ndT 0 rfl,s.fr _ (List.mem_cons_self ..),s.le⟩)) st
end Go.Proofs.YtohkciilfkhomaaGreat
namespace Go.Proofs.YtohkciilfkhomaaGreat
open Go Go.Sep Go.Pt
attribute [local irreducible] a_a
theorem d_a (g:List (List Nat)) (hg:GrB g) (some:List Nat) (hs:∀v∈some,v < g.length) (hsl:some.length≤100000):Pu Tryz.prog 89 [Ls (gI g),Is (nI some)] (Is (mpI (farF (rwF g) g.length some) g.length)):=by
 refine ⟨fun H=>a_a.fin ?_⟩
 have hn:=hg.n
 have hgl:=a_J g
 have hil:=nL_ some
 have hrow:=hg.gr.lt
 have hml:∀f,(mpI f g.length).length=g.length:=fun f=>a_f f g.length
 have lnm:∀f,(cP fI (mpI f g.length)).length=g.length:=fun f=>by rw [a_R,a_f]
 refine W89_ok ?_;simp (maxSteps:=1000000) (disch:=first|assumption|apply Y6;assumption) only [W89,vz,vu,vv,eqS,eF_,↓c1_,↓c2_,tabs,reduceCtorEq,X5,↓reduceIte,Y1,Y2,Y3,Y4,Y5,X1,X2,X3,X4,mS_,hgl,hil]
 refine ⟨by omega,by omega,by omega,by omega,fun q hq=>?_⟩
 have st:=(St.nil H).cell hq (cP fI (mpI (fun v=>if v < 0 then -1 else 0) g.length))
 have ez:zA_ g.length [I 0]=cP fI (mpI (fun v=>if v < 0 then -1 else 0) g.length):=by
  rw [e_j,b_c];simp
 rw [ez]
 generalize H.set q (cP fI (mpI (fun v=>if v < 0 then -1 else 0) g.length))=G1 at st ⊢
 have rounds:∀q2 G,St H [cT_ q2 (cP fI (nI some)),cT_ q (cP fI (mpI (sI0 some some.length) g.length))] G→
   L89_2 (wkK fun r H'=>r=Is (mpI (farF (rwF g) g.length some) g.length)∧H'=H) (Ls (gI g)) (.sl q 1 0 g.length) (rowP q2 (nI some)) G:=by
  intro q2 G st
  refine L89_2_rule ((0:Nat),([]:List Nat),q2,G) (fun s=>.sl s.2.2.1 1 s.2.1.length (bst (rwF g) some s.1).q.length) (fun s=>s.2.2.2)
   (fun s=>BInv (rwF g) g.length some s.1 (bst (rwF g) some s.1)∧St H [cT_ s.2.2.1 (cP fI (nI s.2.1++nI (bst (rwF g) some s.1).q)),cT_ q (cP fI (mpI (bst (rwF g) some s.1).s g.length))] s.2.2.2)
   (fun s=>g.length+some.length - s.1) ⟨⟨B_ini hs,by rw [sI0_all] at st;exact st⟩,by simp [rowP,nL_,bst,bini];exact .refl _,Heap.le_refl _⟩ ?_
  clear st G q2
  rintro ⟨i,J,q2,G⟩ ⟨hb,st⟩
  dsimp only at hb st
  generalize hbe:bst (rwF g) some i=b at hb st
  simp only [hbe]
  have hms:=hb.ms
  (try simp (disch:=first|assumption|apply Y6;assumption) only [vz,vu,vv,eqS,eF_,↓c1_,↓c2_,tabs,reduceCtorEq,X5,↓reduceIte,Y1,Y2,Y3,Y4,Y5,X1,X2,X3,X4,B89_2])
  refine ⟨fun h1=>?_,fun h1=>?_⟩
  ·obtain ⟨k,bq,hbq⟩:∃k bq,b.q=k::bq:=by
    cases e:b.q with
    | nil=>rw [e] at h1;simp at h1
    | cons k bq=>exact ⟨k,bq,rfl⟩
   have hstep:bst (rwF g) some (i+1)=f_L (rwF g) b:=by rw [bst,hbe]
   have hnxt:=B_step hrow hb (by rw [hbq];simp)
   rw [f_h hbq] at hstep hnxt
   have hk0:0≤b.s k:=hb.qs k (by rw [hbq];simp)
   have hkn:=hb.lt k hk0
   have hki:=hb.hi k
   rw [hbq] at st hms
   simp only [List.length_cons] at hms
   have rdk:∀(J l:List Nat),(List.take 1 (List.drop J.length (cP fI (nI J++nI (k::l))))).headD Q_=I k:=by
    intro J l
    have e:nI (k::l)=(k:Int)::nI l:=rfl
    rw [d_A,List.drop_left' (by rw [a_R,nL_]),e];rfl
   have ln:∀(J l:List Nat),(cP fI (nI J++nI (k::l))).length=J.length+(l.length+1):=by
    intro J l;rw [a_R,List.length_append,nL_,nL_,List.length_cons]
   have hrl:=hg.row hkn
   have hrn:=nL_ (rwF g k)
   have hlq:b.q.length=bq.length+1:=by rw [hbq];rfl
   (try simp (disch:=first|assumption|apply Y6;assumption) only [vz,vu,vv,eqS,eF_,↓c1_,↓c2_,tabs,reduceCtorEq,X5,↓reduceIte,Y1,Y2,Y3,Y4,Y5,X1,X2,X3,X4,lA_ (st.get 0 rfl),rdk,ln,hgl,hlq])
   refine ⟨by omega,by omega,by omega,by omega,by omega,?_⟩
   rw [b_b hkn]
   (try simp (disch:=first|assumption|apply Y6;assumption) only [vz,vu,vv,eqS,eF_,↓c1_,↓c2_,tabs,reduceCtorEq,X5,↓reduceIte,Y1,Y2,Y3,Y4,Y5,X1,X2,X3,X4,hrn])
   have eJ:∀(J l:List Nat),nI J++nI (k::l)=nI (J++[k])++nI l:=fun J l=>by rw [← a_X,← a_X];simp
   rw [eJ] at st
   have et:(((bq.length+1:Nat):Int) - 1).toNat=bq.length:=by omega
   refine ⟨by omega,by omega,by omega,?_⟩
   refine L89_3_rule ((0:Nat),J++[k],q2,G) (fun s=>.sl s.2.2.1 1 s.2.1.length (((rwF g k).take s.1).foldl (bput (b.s k+1)) ⟨b.s,bq⟩).q.length) (fun s=>I s.1) (fun s=>s.2.2.2)
    (fun s=>s.1≤(rwF g k).length∧St H [cT_ s.2.2.1 (cP fI (nI s.2.1++nI ((((rwF g k).take s.1).foldl (bput (b.s k+1)) ⟨b.s,bq⟩).q))),cT_ q (cP fI (mpI (((rwF g k).take s.1).foldl (bput (b.s k+1)) ⟨b.s,bq⟩).s g.length))] s.2.2.2)
    (fun s=>(rwF g k).length - s.1) ⟨⟨by simp,st⟩,by simp only [List.length_append,List.length_singleton,et,List.take_zero,List.foldl_nil];exact .refl _,.refl _,Heap.le_refl _⟩ ?_
   clear st J q2 G
   rintro ⟨j,J,q2,G⟩ ⟨hj,st⟩
   dsimp only at hj st
   have hbr:=BRow.fold (n:=g.length) (k:=k) (d:=b.s k+1) (b0:=⟨b.s,bq⟩) (by omega) (l:=(rwF g k).take j) fun w hw=>hrow k w (List.mem_of_mem_take hw)
   generalize hc:((rwF g k).take j).foldl (bput (b.s k+1)) ⟨b.s,bq⟩=c at hbr st
   have hcm:=hbr.ms
   simp only at hcm
   have hck:c.s k=b.s k:=hbr.old k hk0
   have e5:IntKind.i64.wrap ((j:Int)+1)=((j+1:Nat):Int):=by rw [i6_ (by omega) (by omega)];simp
   simp only [hc]
   (try simp (disch:=first|assumption|apply Y6;assumption) only [vz,vu,vv,eqS,eF_,↓c1_,↓c2_,tabs,reduceCtorEq,X5,↓reduceIte,Y1,Y2,Y3,Y4,Y5,X1,X2,X3,X4,B89_3,hrn])
   refine ⟨fun h2=>?_,fun h2=>?_⟩
   ·have hlj:j < (rwF g k).length:=by omega
    refine ⟨by omega,h2,?_⟩
    rw [a_D hlj]
    have hw:=hg.lt hlj
    have hsc:=c_z (bput (b.s k+1)) ⟨b.s,bq⟩ hlj
    rw [hc] at hsc
    have edf:(rwF g k).getD j default=(rwF g k).getD j 0:=rfl
    rw [edf] at hsc
    generalize (rwF g k).getD j 0=w at hw hsc ⊢
    have rdw:=fun (f:Nat→Int) (v:Nat) (hv:v < g.length)=>(c_u (l:=mpI f g.length) (i:=v) (by rw [a_f];exact hv)).trans (by rw [a_P f hv])
    have lnm:∀f,(cP fI (mpI f g.length)).length=g.length:=fun f=>by rw [a_R,a_f]
    have hwb:=rdw c.s w hw
    have hkb:=rdw c.s k hkn
    (try simp (disch:=first|assumption|apply Y6;assumption) only [vz,vu,vv,eqS,eF_,↓c1_,↓c2_,tabs,reduceCtorEq,X5,↓reduceIte,Y1,Y2,Y3,Y4,Y5,X1,X2,X3,X4,lA_ (st.get 1 rfl),lnm,hwb,Int.toNat_natCast])
    refine ⟨by omega,by omega,by omega,fun h3=>?_,fun h3=>?_⟩
    ·have hsc2:bput (b.s k+1) c w=⟨updI c.s w (b.s k+1),c.q++[w]⟩:=by rw [bput,if_pos h3]
     rw [hsc2] at hsc
     have e6:IntKind.i64.wrap (b.s k+1)=b.s k+1:=i6_ (by omega) (by omega)
     (try simp (disch:=first|assumption|apply Y6;assumption) only [vz,vu,vv,eqS,eF_,↓c1_,↓c2_,tabs,reduceCtorEq,X5,↓reduceIte,Y1,Y2,Y3,Y4,Y5,X1,X2,X3,X4,lA_ (st.get 1 rfl),sA_ (st.get 1 rfl),lnm,hkb,hck,e6,Int.toNat_natCast])
     refine ⟨by omega,by omega,by omega,by omega,by omega,by omega,?_⟩
     have hset:=c_8 (l:=mpI c.s g.length) (t:=w) (by rw [a_f];exact hw) (b.s k+1)
     rw [hset,b_T]
     replace st:=st.put 1 rfl (cP fI (mpI (updI c.s w (b.s k+1)) g.length))
     generalize G.set q (cP fI (mpI (updI c.s w (b.s k+1)) g.length))=G2 at st ⊢
     refine lit1 a_g rfl a_u ⟨rfl,rfl⟩ ?_
     refine st_appN (w:=w) st 0 rfl rfl (by omega) fun q' G' hq' st=>?_
     (try simp (disch:=first|assumption|apply Y6;assumption) only [vz,vu,vv,eqS,eF_,↓c1_,↓c2_,tabs,reduceCtorEq,X5,↓reduceIte,Y1,Y2,Y3,Y4,Y5,X1,X2,X3,X4,e5])
     refine ⟨(j+1,[],q',G'),⟨by simp only;omega,by simp only [hsc];exact st⟩,by simp only;omega,?_,.refl _,Heap.le_refl _⟩
     simp only [hsc,List.length_append,List.length_singleton];exact .refl _
    ·have hsc2:bput (b.s k+1) c w=c:=by rw [bput,if_neg h3]
     rw [hsc2] at hsc
     (try simp (disch:=first|assumption|apply Y6;assumption) only [vz,vu,vv,eqS,eF_,↓c1_,↓c2_,tabs,reduceCtorEq,X5,↓reduceIte,Y1,Y2,Y3,Y4,Y5,X1,X2,X3,X4,e5])
     refine ⟨(j+1,J,q2,G),⟨by simp only;omega,by simp only [hsc];exact st⟩,by simp only;omega,?_,.refl _,Heap.le_refl _⟩
     simp only [hsc];exact .refl _
   ·have:j=(rwF g k).length:=by omega
    subst this
    rw [List.take_length] at hc
    rw [hc] at hstep hnxt
    (try simp (disch:=first|assumption|apply Y6;assumption) only [vz,vu,vv,eqS,eF_,↓c1_,↓c2_,tabs,reduceCtorEq,X5,↓reduceIte,Y1,Y2,Y3,Y4,Y5,X1,X2,X3,X4])
    refine ⟨(i+1,J,q2,G),⟨by simp only [hstep];exact hnxt,by simp only [hstep];exact st⟩,by simp only;omega,?_,Heap.le_refl _⟩
    simp only [hstep];exact .refl _
  ·have hq0:b.q=[]:=List.eq_nil_of_length_eq_zero (by omega)
   rw [hq0] at hms
   have hfar:=far_of (row:=rwF g) (n:=g.length) (some:=some) (i:=i) (by simp at hms;omega) (by rw [hbe];exact hq0)
   rw [hbe] at hfar
   rw [hfar]
   have:=f_g st 1 rfl
   rw [rowP,a_f] at this
   exact this
 have seeds:∀G,St H [cT_ q (cP fI (mpI (sI0 some 0) g.length))] G→L89_1 (wkK fun r H'=>r=Is (mpI (farF (rwF g) g.length some) g.length)∧H'=H) (Ls (gI g)) (Is (nI some)) (.sl q 1 0 g.length) (Is (nI some)) (I some.length) (I 0) G:=by
  intro G st
  refine L89_1_rule ((0:Nat),G) (fun s=>I s.1) (fun s=>s.2) (fun s=>s.1≤some.length∧St H [cT_ q (cP fI (mpI (sI0 some s.1) g.length))] s.2) (fun s=>some.length - s.1)
   ⟨⟨by simp,st⟩,.refl _,Heap.le_refl _⟩ ?_
  clear st G
  rintro ⟨k,G⟩ ⟨hk,st⟩
  dsimp only at hk st
  (try simp (disch:=first|assumption|apply Y6;assumption) only [vz,vu,vv,eqS,eF_,↓c1_,↓c2_,tabs,reduceCtorEq,X5,↓reduceIte,Y1,Y2,Y3,Y4,Y5,X1,X2,X3,X4,B89_1,hil])
  refine ⟨fun h1=>?_,fun h1=>?_⟩
  ·have hlt:k < some.length:=by omega
   refine ⟨by omega,h1,?_⟩
   rw [a_D hlt]
   have hv:=hs (some.getD k 0) (by simp [List.getD,hlt])
   have hsc:=sI0_succ hlt
   generalize some.getD k 0=v at hv hsc ⊢
   have e5:IntKind.i64.wrap ((k:Int)+1)=((k+1:Nat):Int):=by rw [i6_ (by omega) (by omega)];simp
   (try simp (disch:=first|assumption|apply Y6;assumption) only [vz,vu,vv,eqS,eF_,↓c1_,↓c2_,tabs,reduceCtorEq,X5,↓reduceIte,Y1,Y2,Y3,Y4,Y5,X1,X2,X3,X4,sA_ (st.get 0 rfl),lnm,e5,Int.toNat_natCast])
   refine ⟨by omega,by omega,by omega,?_⟩
   have hset:=c_8 (l:=mpI (sI0 some k) g.length) (t:=v) (by rw [a_f];exact hv) 0
   rw [hset,b_T,hsc]
   exact ⟨(k+1,_),⟨by simp only;omega,st.put 0 rfl (cP fI (mpI (sI0 some (k+1)) g.length))⟩,by simp only;omega,.refl _,Heap.le_refl _⟩
  ·have:k=some.length:=by omega
   subst this
   refine b_K (nI some) (by omega) fun q2 hq2=>?_
   replace st:=st.cell hq2 (cP fI (nI some))
   exact rounds q2 _ st
 refine L89_0_rule ((0:Nat),G1) (fun s=>I s.1) (fun s=>s.2) (fun s=>s.1≤g.length∧St H [cT_ q (cP fI (mpI (fun v=>if v < s.1 then -1 else 0) g.length))] s.2) (fun s=>g.length - s.1)
  ⟨⟨by simp,st⟩,.refl _,Heap.le_refl _⟩ ?_
 clear st G1
 rintro ⟨k,G⟩ ⟨hk,st⟩
 dsimp only at hk st
 (try simp (disch:=first|assumption|apply Y6;assumption) only [vz,vu,vv,eqS,eF_,↓c1_,↓c2_,tabs,reduceCtorEq,X5,↓reduceIte,Y1,Y2,Y3,Y4,Y5,X1,X2,X3,X4,B89_0,hil])
 refine ⟨fun h1=>?_,fun h1=>?_⟩
 ·have hlt:k < g.length:=by omega
  have e5:IntKind.i64.wrap ((k:Int)+1)=((k+1:Nat):Int):=by rw [i6_ (by omega) (by omega)];simp
  (try simp (disch:=first|assumption|apply Y6;assumption) only [vz,vu,vv,eqS,eF_,↓c1_,↓c2_,tabs,reduceCtorEq,X5,↓reduceIte,Y1,Y2,Y3,Y4,Y5,X1,X2,X3,X4,sA_ (st.get 0 rfl),lnm,e5,Int.toNat_natCast])
  refine ⟨by omega,by omega,by omega,?_⟩
  have hset:=c_8 (l:=mpI (fun v=>if v < k then -1 else 0) g.length) (t:=k) (by rw [a_f];exact hlt) (-1)
  have hup:updI (fun v=>if v < k then -1 else 0) k (-1)=fun v=>if v < k+1 then -1 else 0:=by
   funext v
   unfold updI
   by_cases e:v=k
   ·subst e;simp
   ·have:v < k+1↔v < k:=by omega
    simp [e,this]
  rw [hset,b_T,hup]
  exact ⟨(k+1,_),⟨by simp only;omega,st.put 0 rfl (cP fI (mpI (fun v=>if v < k+1 then -1 else 0) g.length))⟩,by simp only;omega,.refl _,Heap.le_refl _⟩
 ·have:k=g.length:=by omega
  subst this
  have e0:mpI (fun v=>if v < g.length then -1 else 0) g.length=mpI (sI0 some 0) g.length:=by
   rw [sI0_zero]
   unfold mpI
   apply List.map_congr_left
   intro v hv
   rw [if_pos (List.mem_range.1 hv)]
  rw [e0] at st
  exact seeds G st
end Go.Proofs.YtohkciilfkhomaaGreat
namespace Go.Proofs.YtohkciilfkhomaaGreat
open Go Go.Sep Go.Pt
attribute [local irreducible] a_a
theorem d_s (p:Nat→Bool) (k:Nat):(List.range (k+1)).filter p=if p k=true then (List.range k).filter p++[k] else (List.range k).filter p:=by
 rw [List.range_succ,List.filter_append]
 by_cases h:p k=true<;>simp [h]
theorem b_Z (p:Nat→Bool) (k:Nat):((List.range k).filter p).length≤k:=by
 have:=List.length_filter_le p (List.range k)
 rwa [List.length_range] at this
theorem c_l (g:List (List Nat)) (hg:GrB g) (hg2:GrB (a_G g)) (goals:List (List Nat)) (hgo:GoB goals g.length):Pu Tryz.prog 66 [Ls (gI g),Ls (gI goals)] (Is (nI ((List.range g.length).filter (a_s (rwF g) goals)))):=by
 refine ⟨fun H=>a_a.fin ?_⟩
 have hn:=hg.n
 have hgl:=a_J g
 have hol:=a_J goals
 have hon:=hgo.len
 have hpl:=d_Q g
 have hig:=a_J (inG g)
 rw [b_d] at hig
 have hpf:∀v,v < g.length→a_n (aO_ (rwF g)) v < g.length:=fun v hv=>by have:=partF_le (aO_ (rwF g)) v;omega
 have hfair:=fun v hv=>fair_ref (goals:=goals) hg.gr (v:=v) hv
 have hpg:=fun v (h:v < g.length)=>d_R h
 have haw:=aw1_succ (rwF g)
 have hgi:∀k,k < g.length→(gI (inG g)).getD k default=nI (inF (rwF g) k):=fun k h=>by rw [b_b (by rw [b_d];exact h),f_S hg]
 have hil:∀k,(inF (rwF g) k).length≤(rwF g k).length:=fun k=>by rw [inF_cB];exact List.length_filter_le _ _
 refine W66_ok ?_;simp (maxSteps:=1000000) (disch:=first|assumption|apply Y6;assumption) only [W66,vz,vu,vv,eqS,eF_,↓c1_,↓c2_,tabs,reduceCtorEq,X5,↓reduceIte,Y1,Y2,Y3,Y4,Y5,X1,X2,X3,X4,hgl]
 refine Pu.use (c_9 g hg hg2) ?_
 refine Pu.use (e_m g hg) ?_
 generalize a_n (aO_ (rwF g))=pf at hpf hfair hpg haw
 generalize prtI g=pr at hpl hpg ⊢
 have ez:zA_ g.length [B false]=cP fB (mpB (aw1 (rwF g) 0) g.length):=by rw [c_K];rfl
 have ez3:zA_ g.length [I 0]=cP fI (mpI (fun p=>((mtF pf goals 0 p:Nat):Int)) g.length):=by rw [e_j,b_c];rfl
 (try simp (disch:=first|assumption|apply Y6;assumption) only [vz,vu,vv,eqS,eF_,↓c1_,↓c2_,tabs,reduceCtorEq,X5,↓reduceIte,Y1,Y2,Y3,Y4,Y5,X1,X2,X3,X4,mS_,hig])
 refine ⟨by omega,by omega,by omega,by omega,fun q1 hq1=>?_⟩
 refine ⟨by omega,by omega,by omega,by omega,fun q2 hq21 hq2=>?_⟩
 rw [ez,ez3] at *
 have st:=((St.nil H).cell hq1 (cP fB (mpB (aw1 (rwF g) 0) g.length))).cell (r:=q2) (by rw [Heap.set_other hq21];exact hq2) (cP fI (mpI (fun p=>((mtF pf goals 0 p:Nat):Int)) g.length))
 generalize (H.set q1 (cP fB (mpB (aw1 (rwF g) 0) g.length))).set q2 (cP fI (mpI (fun p=>((mtF pf goals 0 p:Nat):Int)) g.length))=G1 at st ⊢
 clear hq1 hq21 hq2
 have last:∀G,St H [cT_ q2 (cP fI (mpI (fun p=>((mtF pf goals goals.length p:Nat):Int)) g.length)),cT_ q1 (cP fB (mpB (aw1 (rwF g) g.length) g.length))] G→
   L66_3 (wkK fun r H'=>r=Is (nI ((List.range g.length).filter (a_s (rwF g) goals)))∧H'=H) (Ls (gI goals)) (Is pr) (.sl q1 1 0 g.length) (.sl q2 1 0 g.length) (.p .nil) (I g.length) (I 0) G:=by
  intro G st
  have st:=(st.push (skT (.p .nil) [] []) ⟨.nil,fun y hy=>(by cases hy),Heap.le_refl _⟩ (.inl ⟨rfl,rfl,rfl⟩))
  refine L66_3_rule ((0:Nat),(.p .nil:AV),([]:List Nat),G) (fun z=>z.2.1) (fun z=>I z.1) (fun z=>z.2.2.2) (fun z=>z.1≤g.length∧St H [skT z.2.1 ((List.range z.1).filter (a_s (rwF g) goals)) z.2.2.1,cT_ q2 (cP fI (mpI (fun p=>((mtF pf goals goals.length p:Nat):Int)) g.length)),cT_ q1 (cP fB (mpB (aw1 (rwF g) g.length) g.length))] z.2.2.2) (fun z=>g.length - z.1)
   ⟨⟨by simp,by simpa using st⟩,.refl _,.refl _,Heap.le_refl _⟩ ?_
  clear st
  rintro ⟨i,x,D,G⟩ ⟨hi,st⟩
  dsimp only at hi st
  have e5:IntKind.i64.wrap ((i:Int)+1)=((i+1:Nat):Int):=by rw [i6_ (by omega) (by omega)];simp
  have hfl:=b_Z (a_s (rwF g) goals) i
  (try simp (disch:=first|assumption|apply Y6;assumption) only [vz,vu,vv,eqS,eF_,↓c1_,↓c2_,tabs,reduceCtorEq,X5,↓reduceIte,Y1,Y2,Y3,Y4,Y5,X1,X2,X3,X4,B66_3,hpl,hol])
  refine ⟨fun h1=>?_,fun h1=>?_⟩
  ·have hlt:i < g.length:=by omega
   have hp:=hpf i hlt
   have hr1:=rdB (aw1 (rwF g) g.length) hp
   have hr2:=rdN (fun p=>((mtF pf goals goals.length p:Nat):Int)) hp
   have hf:=hfair i hlt
   have hsc:=d_s (a_s (rwF g) goals) i
   rw [hpg i hlt]
   (try simp (disch:=first|assumption|apply Y6;assumption) only [vz,vu,vv,eqS,eF_,↓c1_,↓c2_,tabs,reduceCtorEq,X5,↓reduceIte,Y1,Y2,Y3,Y4,Y5,X1,X2,X3,X4,lA_ (st.get 2 rfl),lnB,a_E,hr1,Int.toNat_natCast])
   refine ⟨by omega,by omega,by omega,by omega,by omega,?_⟩
   have no:a_s (rwF g) goals i=false→∃z:Nat×AV×List Nat×Heap,(z.1≤g.length∧St H [skT z.2.1 ((List.range z.1).filter (a_s (rwF g) goals)) z.2.2.1,cT_ q2 (cP fI (mpI (fun p=>((mtF pf goals goals.length p:Nat):Int)) g.length)),cT_ q1 (cP fB (mpB (aw1 (rwF g) g.length) g.length))] z.2.2.2)∧g.length - z.1 < g.length - i∧x.wk z.2.1∧(I ((i+1:Nat):Int)).wk (I z.1)∧z.2.2.2.le G:=by
    intro h
    rw [if_neg (by rw [h];simp)] at hsc
    exact ⟨(i+1,x,D,G),⟨by simp only;omega,by simp only [hsc];exact st⟩,by simp only;omega,.refl _,.refl _,Heap.le_refl _⟩
   cases ha:aw1 (rwF g) g.length (pf i)
   ·rw [ha,Bool.false_and] at hf
    (try simp (disch:=first|assumption|apply Y6;assumption) only [vz,vu,vv,eqS,eF_,↓c1_,↓c2_,tabs,reduceCtorEq,X5,↓reduceIte,Y1,Y2,Y3,Y4,Y5,X1,X2,X3,X4,e5])
    exact no hf.symm
   ·rw [ha,Bool.true_and] at hf
    (try simp (disch:=first|assumption|apply Y6;assumption) only [vz,vu,vv,eqS,eF_,↓c1_,↓c2_,tabs,reduceCtorEq,X5,↓reduceIte,Y1,Y2,Y3,Y4,Y5,X1,X2,X3,X4,lA_ (st.get 1 rfl),lnN,a_f,hr2,e5,Int.toNat_natCast])
    refine ⟨by omega,by omega,by omega,by omega,by omega,fun h2=>?_,fun h2=>?_⟩
    ·have ht:a_s (rwF g) goals i=true:=by rw [← hf,decide_eq_true_eq];omega
     rw [if_pos ht] at hsc
     refine lit1 a_g rfl a_u ⟨rfl,rfl⟩ ?_
     refine sk_app (w:=i) st 0 rfl (by omega) fun q' G' st=>?_
     simp only [List.set_cons_zero] at st
     rw [← hsc] at st
     (try simp (disch:=first|assumption|apply Y6;assumption) only [vz,vu,vv,eqS,eF_,↓c1_,↓c2_,tabs,reduceCtorEq,X5,↓reduceIte,Y1,Y2,Y3,Y4,Y5,X1,X2,X3,X4,e5])
     exact ⟨(i+1,_,[q'],G'),⟨by simp only;omega,st⟩,by simp only;omega,.refl _,.refl _,Heap.le_refl _⟩
    ·refine no ?_
     rw [← hf,decide_eq_false_iff_not]
     omega
  ·have:i=g.length:=by omega
   subst this
   exact sk_val st 0 rfl
 have gos:∀G,St H [cT_ q2 (cP fI (mpI (fun p=>((mtF pf goals 0 p:Nat):Int)) g.length)),cT_ q1 (cP fB (mpB (aw1 (rwF g) g.length) g.length))] G→
   L66_1 (wkK fun r H'=>r=Is (nI ((List.range g.length).filter (a_s (rwF g) goals)))∧H'=H) (Ls (gI g)) (Ls (gI goals)) (Is pr) (.sl q1 1 0 g.length) (.sl q2 1 0 g.length) (Ls (gI goals)) (I goals.length) (I 0) G:=by
  intro G st
  refine L66_1_rule ((0:Nat),G) (fun z=>I z.1) (fun z=>z.2) (fun z=>z.1≤goals.length∧St H [cT_ q2 (cP fI (mpI (fun p=>((mtF pf goals z.1 p:Nat):Int)) g.length)),cT_ q1 (cP fB (mpB (aw1 (rwF g) g.length) g.length))] z.2) (fun z=>goals.length - z.1)
   ⟨⟨by simp,st⟩,.refl _,Heap.le_refl _⟩ ?_
  clear st G
  rintro ⟨t,G⟩ ⟨ht,st⟩
  dsimp only at ht st
  have e5:IntKind.i64.wrap ((t:Int)+1)=((t+1:Nat):Int):=by rw [i6_ (by omega) (by omega)];simp
  (try simp (disch:=first|assumption|apply Y6;assumption) only [vz,vu,vv,eqS,eF_,↓c1_,↓c2_,tabs,reduceCtorEq,X5,↓reduceIte,Y1,Y2,Y3,Y4,Y5,X1,X2,X3,X4,B66_1,hol,hgl])
  refine ⟨fun h1=>?_,fun h1=>?_⟩
  ·have hlt:t < goals.length:=by omega
   refine ⟨by omega,h1,?_⟩
   rw [b_b hlt]
   obtain ⟨hsz,hxlt⟩:=hgo.get hlt
   have hnl:=nL_ (rwF goals t)
   have hgd:goals.getD t []=rwF goals t:=rfl
   (try simp (disch:=first|assumption|apply Y6;assumption) only [vz,vu,vv,eqS,eF_,↓c1_,↓c2_,tabs,reduceCtorEq,X5,↓reduceIte,Y1,Y2,Y3,Y4,Y5,X1,X2,X3,X4,hnl])
   refine L66_2_rule ((0:Nat),G) (fun z=>I z.1) (fun z=>z.2) (fun z=>z.1≤(rwF goals t).length∧St H [cT_ q2 (cP fI (mpI (fun p=>((mtP pf goals t z.1 p:Nat):Int)) g.length)),cT_ q1 (cP fB (mpB (aw1 (rwF g) g.length) g.length))] z.2) (fun z=>(rwF goals t).length - z.1)
    ⟨⟨by simp,by rw [mtP_zero];exact st⟩,.refl _,Heap.le_refl _⟩ ?_
   clear st G
   rintro ⟨j,G⟩ ⟨hj,st⟩
   dsimp only at hj st
   have e6:IntKind.i64.wrap ((j:Int)+1)=((j+1:Nat):Int):=by rw [i6_ (by omega) (by omega)];simp
   (try simp (disch:=first|assumption|apply Y6;assumption) only [vz,vu,vv,eqS,eF_,↓c1_,↓c2_,tabs,reduceCtorEq,X5,↓reduceIte,Y1,Y2,Y3,Y4,Y5,X1,X2,X3,X4,B66_2,hnl,hpl])
   refine ⟨fun h2=>?_,fun h2=>?_⟩
   ·have hlj:j < (rwF goals t).length:=by omega
    refine ⟨by omega,h2,?_⟩
    rw [a_D hlj]
    have hx:=hxlt j hlj
    have hs:=mtP_succ pf goals (j:=t) (t:=j) hlj
    rw [hgd] at hs
    generalize (rwF goals t).getD j 0=w at hx hs ⊢
    have hp:=hpf w hx
    have hr:=rdN (fun p=>((mtP pf goals t j p:Nat):Int)) hp
    rw [Int.toNat_natCast,hpg w hx]
    (try simp (disch:=first|assumption|apply Y6;assumption) only [vz,vu,vv,eqS,eF_,↓c1_,↓c2_,tabs,reduceCtorEq,X5,↓reduceIte,Y1,Y2,Y3,Y4,Y5,X1,X2,X3,X4,lA_ (st.get 0 rfl),lnN,a_f,hr,e6,Int.toNat_natCast])
    refine ⟨by omega,by omega,by omega,by omega,by omega,fun h3=>?_,fun h3=>?_⟩
    ·have hset:=setN (fun p=>((mtP pf goals t j p:Nat):Int)) hp ((t+1:Nat):Int)
     have hup:updI (fun p=>((mtP pf goals t j p:Nat):Int)) (pf w) ((t+1:Nat):Int)=fun p=>((mtP pf goals t (j+1) p:Nat):Int):=by
      funext p
      rw [hs]
      unfold updI
      by_cases e:p=pf w
      ·subst e
       have h3':mtP pf goals t j (pf w)=t:=by omega
       simp only [if_pos,h3',and_self]
      ·simp only [e,false_and,if_false]
     (try simp (disch:=first|assumption|apply Y6;assumption) only [vz,vu,vv,eqS,eF_,↓c1_,↓c2_,tabs,reduceCtorEq,X5,↓reduceIte,Y1,Y2,Y3,Y4,Y5,X1,X2,X3,X4,sA_ (st.get 0 rfl),lnN,a_f,e5,e6,Int.toNat_natCast])
     repeat refine ⟨by omega,?_⟩
     rw [hset,hup]
     exact ⟨(j+1,_),⟨by simp only;omega,st.put 0 rfl (cP fI (mpI (fun p=>((mtP pf goals t (j+1) p:Nat):Int)) g.length))⟩,by simp only;omega,.refl _,Heap.le_refl _⟩
    ·have e:mtP pf goals t (j+1)=mtP pf goals t j:=by
      funext p
      rw [hs]
      simp only
      by_cases h:p=pf w∧mtP pf goals t j p=t
      ·obtain ⟨rfl,h⟩:=h
       exact absurd (by omega) h3
      ·rw [if_neg h]
     exact ⟨(j+1,G),⟨by simp only;omega,by simp only [e];exact st⟩,by simp only;omega,.refl _,Heap.le_refl _⟩
   ·have:j=(rwF goals t).length:=by omega
    subst this
    have hal:=mtP_all pf goals t
    rw [hgd] at hal
    rw [hal] at st
    (try simp (disch:=first|assumption|apply Y6;assumption) only [vz,vu,vv,eqS,eF_,↓c1_,↓c2_,tabs,reduceCtorEq,X5,↓reduceIte,Y1,Y2,Y3,Y4,Y5,X1,X2,X3,X4,e5])
    exact ⟨(t+1,G),⟨by simp only;omega,st⟩,by simp only;omega,.refl _,Heap.le_refl _⟩
  ·have:t=goals.length:=by omega
   subst this
   exact last G st
 refine L66_0_rule ((0:Nat),G1) (fun z=>I z.1) (fun z=>z.2) (fun z=>z.1≤g.length∧St H [cT_ q2 (cP fI (mpI (fun p=>((mtF pf goals 0 p:Nat):Int)) g.length)),cT_ q1 (cP fB (mpB (aw1 (rwF g) z.1) g.length))] z.2) (fun z=>g.length - z.1)
  ⟨⟨by simp,st⟩,.refl _,Heap.le_refl _⟩ ?_
 clear st
 rintro ⟨k,G⟩ ⟨hk,st⟩
 dsimp only at hk st
 have e5:IntKind.i64.wrap ((k:Int)+1)=((k+1:Nat):Int):=by rw [i6_ (by omega) (by omega)];simp
 (try simp (disch:=first|assumption|apply Y6;assumption) only [vz,vu,vv,eqS,eF_,↓c1_,↓c2_,tabs,reduceCtorEq,X5,↓reduceIte,Y1,Y2,Y3,Y4,Y5,X1,X2,X3,X4,B66_0,hig,hol,hpl])
 refine ⟨fun h1=>?_,fun h1=>?_⟩
 ·have hlt:k < g.length:=by omega
  have hrl:=hg.row hlt
  have hikl:=hil k
  have hp:=hpf k hlt
  have hr:=rdB (aw1 (rwF g) k) hp
  have hnl:=nL_ (inF (rwF g) k)
  have hup:updB (aw1 (rwF g) k) (pf k) (aw1 (rwF g) k (pf k) || decide (0 < (inF (rwF g) k).length))=aw1 (rwF g) (k+1):=by
   rw [haw];funext p;unfold updB
   by_cases e:p=pf k
   ·subst e;simp
   ·simp [e]
  have hset:=setB (aw1 (rwF g) k) hp (aw1 (rwF g) k (pf k) || decide (0 < (inF (rwF g) k).length))
  rw [hup] at hset
  have hput:=st.put 1 rfl (cP fB (mpB (aw1 (rwF g) (k+1)) g.length))
  rw [hgi k hlt,hpg k hlt]
  (try simp (disch:=first|assumption|apply Y6;assumption) only [vz,vu,vv,eqS,eF_,↓c1_,↓c2_,tabs,reduceCtorEq,X5,↓reduceIte,Y1,Y2,Y3,Y4,Y5,X1,X2,X3,X4,lA_ (st.get 1 rfl),lnB,a_E,hr,hnl,Int.toNat_natCast])
  refine ⟨by omega,by omega,by omega,by omega,by omega,by omega,by omega,?_⟩
  cases ha:aw1 (rwF g) k (pf k)
  ·have ed:decide ((0:Int) < ((inF (rwF g) k).length:Int))=decide (0 < (inF (rwF g) k).length):=by rw [decide_eq_decide];omega
   rw [ha,Bool.false_or] at hset
   (try simp (disch:=first|assumption|apply Y6;assumption) only [vz,vu,vv,eqS,eF_,↓c1_,↓c2_,tabs,reduceCtorEq,X5,↓reduceIte,Y1,Y2,Y3,Y4,Y5,X1,X2,X3,X4,sA_ (st.get 1 rfl),lnB,a_E,e5,ed,gt_iff_lt,Int.toNat_natCast])
   repeat refine ⟨by omega,?_⟩
   rw [hset]
   exact ⟨(k+1,_),⟨by simp only;omega,hput⟩,by simp only;omega,.refl _,Heap.le_refl _⟩
  ·rw [ha,Bool.true_or] at hset
   (try simp (disch:=first|assumption|apply Y6;assumption) only [vz,vu,vv,eqS,eF_,↓c1_,↓c2_,tabs,reduceCtorEq,X5,↓reduceIte,Y1,Y2,Y3,Y4,Y5,X1,X2,X3,X4,sA_ (st.get 1 rfl),lnB,a_E,e5,Int.toNat_natCast])
   repeat refine ⟨by omega,?_⟩
   rw [hset]
   exact ⟨(k+1,_),⟨by simp only;omega,hput⟩,by simp only;omega,.refl _,Heap.le_refl _⟩
 ·have:k=g.length:=by omega
  subst this
  exact gos G st
end Go.Proofs.YtohkciilfkhomaaGreat
namespace Go.Proofs.YtohkciilfkhomaaGreat
open Go Go.Sep Go.Pt
attribute [local irreducible] a_a
end Go.Proofs.YtohkciilfkhomaaGreat
namespace Go.Sep
open Go Go.RowKit Go.Proofs.YtohkciilfkhomaaGreat
structure ResU (R:AV→Heap→List Nat→Prop):Prop where
 loc:∀{r G G' D},R r G D→(∀y∈D,∀b,G y=some b→G' y=some b)→R r G' D
 gd:∀{r G D},R r G D→Gd2 r∧∀y∈D,∀bs,G y=some bs→∀c∈bs,GdC c
 sh:∀{r G D n G0},(∀q,n≤q→G0 q=none)→R r G D→R (sh2 n r) (Heap.or G0 (shH n G)) (D.map (·+n))
theorem thawU {R:AV→Heap→List Nat→Prop} (hR:ResU R) {P:Program} {f:Nat} {args args':List AV} {G G1:Heap} {K:k_}
  (hf:∀{K:k_},(∀r G D,R r G D→New (fun _=>none) G D→K r G)→a_a P f args' (fun _=>none) K)
  (hw:Wk (.tup args) G (.tup args') G1) (h:∀r G' D,R r G' D→New G G' D→K r G'):a_a P f args G K:=by
 refine a_a.thawX (Q':=fun r H'=>∃D,R r H' D∧D.Nodup∧∀y,y∉D→H' y=none) ?_ ?_ hw ?_
 ·refine a_a.fin (hf fun r G D hl hn=>⟨_,only D G,.forget (only_le D G),D,hR.loc hl fun y hy b hb=>by rw [only_in hy];exact hb,hn.nd,fun y hy=>only_out hy⟩)
 ·rintro r H' ⟨D,hl,_,hout⟩
  refine ⟨(hR.gd hl).1,fun q cs hq=>?_⟩
  by_cases hD:q∈D
  ·exact (hR.gd hl).2 q hD cs hq
  ·rw [hout q hD] at hq;cases hq
 ·rintro r H' n ⟨D,hl,hnd,hout⟩ hn
  refine h _ _ (D.map (·+n)) (hR.sh hn hl) ⟨?_,fun y hy=>?_,fun y b hb=>by simp only [Heap.or,hb]⟩
  ·exact List.pairwise_map.2 (hnd.imp fun h e=>h (Nat.add_right_cancel e))
  ·obtain ⟨z,_,rfl⟩:=List.mem_map.1 hy
   exact hn _ (by omega)
end Go.Sep
namespace Go.Proofs.YtohkciilfkhomaaGreat
open Go Go.Sep Go.Pt
attribute [local irreducible] a_a
end Go.Proofs.YtohkciilfkhomaaGreat
namespace Go.Proofs.YtohkciilfkhomaaGreat
open Go Go.Sep Go.Pt
attribute [local irreducible] a_a
theorem lit_row {x:Int} {G:Heap} {K:k_} (h:∀q,G q=none→K (.sl q 1 0 1) (G.set q (cP fI [x]))):bS_ tab 24 1 [(0,I x)] G (wkK K):=by
 simp only [bS_,a_g,a_u]
 refine ⟨by omega,?_⟩
 exact fun r hr=>wkK.keep (h r hr)
theorem nxt_at {s:Nat→Int} {row:Nat→List Nat} {v j:Nat} (hj:j < (row v).length) (hn:∀i,i < j→s ((row v).getD i 0)≠s v - 1) (hp:s ((row v).getD j 0)=s v - 1):nxtF s row v=(row v).getD j 0:=by
 have e:(row v).find? (fun w=>decide (s w=s v - 1))=some ((row v).getD j 0):=by
  rw [List.find?_eq_some_iff_getElem]
  refine ⟨by simpa using hp,j,hj,by simp [List.getD,hj],fun i hi=>?_⟩
  have:=hn i hi
  simp [List.getD,show i < (row v).length by omega] at this
  simpa using this
 rw [nxtF,e];rfl
theorem near_at {s:Nat→Int} {row:Nat→List Nat} (h:Near s row) {v:Nat} (hv:0 < s v):∃j,j < (row v).length∧s ((row v).getD j 0)=s v - 1:=by
 obtain ⟨w,h1,h2⟩:=h.nx v hv
 obtain ⟨j,hj,e⟩:=List.getElem_of_mem h1
 exact ⟨j,hj,by simp [List.getD,hj,e,h2]⟩
theorem toF_turn {g:List (List Nat)} (hg:GrB g) (to:List Nat):farF (rwF (a_G g)) (a_G g).length to=toF (rwF g) g.length to:=by rw [c_j hg.gr,a_L];rfl
theorem itK_succ (s:Nat→Int) (row:Nat→List Nat) (v k:Nat):(List.range (k+1+1)).map (itF s row v)=(List.range (k+1)).map (itF s row v)++[nxtF s row (itF s row v k)]:=by
 rw [List.range_succ,List.map_append];rfl
def wayV (row:Nat→List Nat) (n:Nat) (some to:List Nat):AV:=.tup [Is (nI (b_h row n some to)),B (!decide (a_v (toF row n to) some < 0))]
def RPt (l:List Nat) (ok:Bool) (r:AV) (G:Heap) (D:List Nat):Prop:=∃x,r=.tup [x,B ok]∧RN (LPl eI) 1 x (nI l) G D
theorem RPt.res (l:List Nat) (ok:Bool):ResU (RPt l ok):=by
 refine ⟨?_,?_,?_⟩
 ·rintro r G G' D ⟨v,rfl,h⟩ hf
  exact ⟨v,rfl,h.local (LPl.local eI) hf⟩
 ·rintro r G D ⟨v,rfl,h⟩
  have gb:Gd1 (B ok):=.inr ⟨.p (.bool ok),fun _=>rfl⟩
  have gv:Gd1 v∧∀y∈D,∀bs,G y=some bs→∀c∈bs,GdC c:=by
   rcases b_p h with ⟨rfl,_,rfl⟩ | ⟨q,rfl,hq,rfl⟩
   ·exact ⟨.inr ⟨.p .nil,fun _=>rfl⟩,fun y hy=>by cases hy⟩
   ·refine ⟨.inr ⟨.inl ⟨_,_,_,_,rfl⟩,fun _=>rfl⟩,fun y hy bs hb c hc=>?_⟩
    rw [List.mem_singleton.1 hy,hq] at hb;cases hb
    obtain ⟨z,_,rfl⟩:=List.mem_map.1 hc
    exact .p (.int _ _)
  refine ⟨.inl ⟨_,rfl,fun u hu=>?_⟩,gv.2⟩
  rcases List.mem_cons.1 hu with rfl | hu
  ·exact gv.1
  ·rw [List.mem_singleton] at hu;rw [hu];exact gb
 ·rintro r G D n G0 h0 ⟨v,rfl,h⟩
  rcases b_p h with ⟨rfl,hl,rfl⟩ | ⟨q,rfl,hq,rfl⟩
  ·exact ⟨_,rfl,.inl ⟨rfl,hl,rfl⟩⟩
  ·refine ⟨_,rfl,?_⟩
   have e:shC n (rowP q (nI l))=rowP (q+n) (nI l):=rfl
   refine rnI_mk ?_
   have em:(cP fI (nI l)).map (shC n)=cP fI (nI l):=by rw [cP,List.map_map];rfl
   simp only [Heap.or,h0 (q+n) (by omega),shH,Nat.le_add_left,if_true,Nat.add_sub_cancel,hq,Option.map_some,em]
theorem e_n (g:List (List Nat)) (hg:GrB g) (hg2:GrB (a_G g)) (some to:List Nat) (hs:∀v∈some,v < g.length) (hsl:some.length≤500000) (ht:∀v∈to,v < g.length) (htl:to.length≤100000)
  {H:Heap} {K:k_} (hK:∀x G D,RN (LPl eI) 1 x (nI (b_h (rwF g) g.length some to)) G D→New H G D→K (.tup [x,B (!decide (a_v (toF (rwF g) g.length to) some < 0))]) G) :
  a_a Tryz.prog 90 [Ls (gI g),Is (nI some),Is (nI to)] H K:=by
 have hn:=hg.n
 have hgl:=a_J g
 have hsn:=nL_ some
 refine W90_ok ?_;simp (maxSteps:=1000000) (disch:=first|assumption|apply Y6;assumption) only [W90,vz,vu,vv,eqS,eF_,↓c1_,↓c2_,tabs,reduceCtorEq,X5,↓reduceIte,Y1,Y2,Y3,Y4,Y5,X1,X2,X3,X4,hsn]
 refine Pu.use (sp_spec.l11Turn g hg) ?_
 have hfar:=d_a (a_G g) hg2 to (by rw [a_L];exact ht) htl
 rw [toF_turn hg,a_L] at hfar
 refine Pu.use hfar ?_
 have hnear:=toF_near hg.gr ht
 have hbd:=toF_bd hg.gr ht
 have hwl:b_h (rwF g) g.length some to=if a_v (toF (rwF g) g.length to) some < 0 then [] else wayF (toF (rwF g) g.length to) (rwF g) (a_v (toF (rwF g) g.length to) some).toNat:=rfl
 have hbc:=a_8 (toF (rwF g) g.length to)
 generalize toF (rwF g) g.length to=far at hnear hbd hwl hbc hK
 have hml:=a_f far g.length
 have hmg:=fun v (h:v < g.length)=>a_P far h
 (try simp (disch:=first|assumption|apply Y6;assumption) only [vz,vu,vv,eqS,eF_,↓c1_,↓c2_,tabs,reduceCtorEq,X5,↓reduceIte,Y1,Y2,Y3,Y4,Y5,X1,X2,X3,X4])
 have go:∀(v q:Nat) (G:Heap),v < g.length→0≤far v→a_v far some=(v:Int)→St H [rnI (rowP q (nI [v])) (nI [v]) [q]] G→
   L90_1 K (Ls (gI g)) (Is (mpI far g.length)) (I v) (rowP q (nI [v])) G:=by
  intro v q G hv h0 hb st
  have hvb:=hbd v
  refine L90_1_rule ((0:Nat),q,G) (fun z=>I (itF far (rwF g) v z.1:Nat)) (fun z=>rowP z.2.1 (nI ((List.range (z.1+1)).map (itF far (rwF g) v)))) (fun z=>z.2.2) (fun z=>(z.1:Int)≤far v∧St H [rnI (rowP z.2.1 (nI ((List.range (z.1+1)).map (itF far (rwF g) v)))) (nI ((List.range (z.1+1)).map (itF far (rwF g) v))) [z.2.1]] z.2.2) (fun z=>(far v).toNat - z.1)
   ⟨⟨by simpa using h0,st⟩,.refl _,.refl _,Heap.le_refl _⟩ ?_
  clear st q G
  rintro ⟨k,q,G⟩ ⟨hk,st⟩
  dsimp only at hk st
  have hsk:=itF_s hnear (v:=v) k hk
  have hbk:=hbd (itF far (rwF g) v k)
  have hisc:=itK_succ far (rwF g) v k
  have hik:itF far (rwF g) v (k+1)=nxtF far (rwF g) (itF far (rwF g) v k):=rfl
  generalize hu:itF far (rwF g) v k=u at hsk hbk hisc hik
  have hun:u < g.length:=hbk.2.2 (by omega)
  simp only [hu]
  (try simp (disch:=first|assumption|apply Y6;assumption) only [vz,vu,vv,eqS,eF_,↓c1_,↓c2_,tabs,reduceCtorEq,X5,↓reduceIte,Y1,Y2,Y3,Y4,Y5,X1,X2,X3,X4,B90_1,hml,hgl])
  rw [hmg u hun]
  refine ⟨by omega,by omega,fun h1=>?_,fun h1=>?_⟩
  ·refine ⟨by omega,by omega,?_⟩
   rw [b_b hun]
   have hrn:=nL_ (rwF g u)
   have hrl:=hg.row hun
   have e6:IntKind.i64.wrap (far u - 1)=far u - 1:=i6_ (by omega) (by omega)
   (try simp (disch:=first|assumption|apply Y6;assumption) only [vz,vu,vv,eqS,eF_,↓c1_,↓c2_,tabs,reduceCtorEq,X5,↓reduceIte,Y1,Y2,Y3,Y4,Y5,X1,X2,X3,X4,hrn])
   refine L90_2_rule (0:Nat) (fun _=>I (u:Nat)) (fun j=>I j) (fun _=>G) (fun j=>j≤(rwF g u).length∧∀i,i < j→far ((rwF g u).getD i 0)≠far u - 1) (fun j=>(rwF g u).length - j) ⟨⟨by simp,fun i hi=>by omega⟩,.refl _,.refl _,Heap.le_refl _⟩ ?_
   rintro j ⟨hj,hno⟩
   have e5:IntKind.i64.wrap ((j:Int)+1)=((j+1:Nat):Int):=by rw [i6_ (by omega) (by omega)];simp
   (try simp (disch:=first|assumption|apply Y6;assumption) only [vz,vu,vv,eqS,eF_,↓c1_,↓c2_,tabs,reduceCtorEq,X5,↓reduceIte,Y1,Y2,Y3,Y4,Y5,X1,X2,X3,X4,B90_2,hrn,hml])
   refine ⟨fun h2=>?_,fun h2=>?_⟩
   ·have hlj:j < (rwF g u).length:=by omega
    refine ⟨by omega,h2,?_⟩
    rw [a_D hlj,Int.toNat_natCast]
    have hw:=hg.lt hlj
    have hnx:=nxt_at (s:=far) (row:=rwF g) (v:=u) hlj hno
    generalize hwe:(rwF g u).getD j 0=w at hw hnx ⊢
    rw [hmg w hw,hmg u hun,e6]
    refine ⟨by omega,by omega,by omega,by omega,fun h3=>?_,fun h3=>?_⟩
    ·have hnx:=hnx h3
     rw [hnx] at hisc hik
     refine lit1 a_g rfl a_u ⟨rfl,rfl⟩ ?_
     refine d_m (ys:=[(w:Int)]) st 0 rfl (by rw [nL_,List.length_map,List.length_range];simp only [List.length_cons,List.length_nil];omega) fun q' G' hq' st=>?_
     simp only [List.set_cons_zero] at st
     rw [← f_f,← a_X,← hisc] at st ⊢
     exact ⟨(k+1,q',G'),⟨by simp only;omega,st⟩,by simp only;omega,by simp only [hik];exact .refl _,.refl _,Heap.le_refl _⟩
    ·(try simp (disch:=first|assumption|apply Y6;assumption) only [vz,vu,vv,eqS,eF_,↓c1_,↓c2_,tabs,reduceCtorEq,X5,↓reduceIte,Y1,Y2,Y3,Y4,Y5,X1,X2,X3,X4,e5])
     refine ⟨j+1,⟨by omega,fun i hi=>?_⟩,by omega,.refl _,.refl _⟩
     rcases Nat.lt_succ_iff_lt_or_eq.1 hi with h | rfl
     ·exact hno i h
     ·rw [hwe];exact h3
   ·exfalso
    obtain ⟨i,hi,hp⟩:=near_at hnear (v:=u) h1
    exact hno i (by omega) hp
  ·have hek:(far v).toNat+1=k+1:=by omega
   have hway:b_h (rwF g) g.length some to=(List.range (k+1)).map (itF far (rwF g) v):=by
    rw [hwl,if_neg (by omega),hb,Int.toNat_natCast,wayF,hek]
   have hdb:decide (a_v far some < 0)=false:=by rw [decide_eq_false_iff_not];omega
   have:=hK (rowP q (nI ((List.range (k+1)).map (itF far (rwF g) v)))) G [q] (by rw [hway];exact st.get 0 rfl) ⟨st.ndT 0 rfl,st.fr _ (List.mem_cons_self ..),st.le⟩
   rw [hdb] at this
   exact this
 refine L90_0_rule (0:Nat) (fun k=>I (a_v far (some.take k))) (fun k=>I k) (fun _=>H) (fun k=>k≤some.length) (fun k=>some.length - k) ⟨by simp,.refl _,.refl _,Heap.le_refl _⟩ ?_
 intro k hk
 have e5:IntKind.i64.wrap ((k:Int)+1)=((k+1:Nat):Int):=by rw [i6_ (by omega) (by omega)];simp
 (try simp (disch:=first|assumption|apply Y6;assumption) only [vz,vu,vv,eqS,eF_,↓c1_,↓c2_,tabs,reduceCtorEq,X5,↓reduceIte,Y1,Y2,Y3,Y4,Y5,X1,X2,X3,X4,B90_0,hsn,hml,e5])
 refine ⟨fun h1=>?_,fun h1=>?_⟩
 ·have hlt:k < some.length:=by omega
  refine ⟨by omega,h1,?_⟩
  rw [a_D hlt,Int.toNat_natCast]
  have hv:=hs (some.getD k 0) (by simp [List.getD,hlt])
  have hsc:a_v far (some.take (k+1))=b_3 far (a_v far (some.take k)) (some.getD k 0):=by
   rw [tS_ hlt,c_p];rfl
  have hbk:a_v far (some.take k) < 0∨a_v far (some.take k) < g.length:=by
   rcases hbc (some.take k) with ⟨e,_⟩ | ⟨u,hu,e,_⟩
   ·omega
   ·have:=hs u (List.mem_of_mem_take hu)
    omega
  generalize some.getD k 0=w at hv hsc ⊢
  generalize a_v far (some.take k)=mk at hsc hbk ⊢
  have yes:a_v far (some.take (k+1))=(w:Int)→∃s':Nat,s'≤some.length∧some.length - s' < some.length - k∧(I (w:Int)).wk (I (a_v far (some.take s')))∧(I ((k+1:Nat):Int)).wk (I s'):=
   fun h=>⟨k+1,by omega,by omega,by rw [h];exact .refl _,.refl _⟩
  have no:a_v far (some.take (k+1))=mk→∃s':Nat,s'≤some.length∧some.length - s' < some.length - k∧(I mk).wk (I (a_v far (some.take s')))∧(I ((k+1:Nat):Int)).wk (I s'):=
   fun h=>⟨k+1,by omega,by omega,by rw [h];exact .refl _,.refl _⟩
  rw [hmg w hv]
  have hp:¬mk < 0→0≤mk∧mk < g.length∧mk.toNat < g.length:=by clear yes no;omega
  refine ⟨by clear yes no;omega,by clear yes no;omega,fun h3=>⟨fun h4=>?_,fun h4=>⟨by clear yes no;omega,by clear yes no;omega,(hp h4).1,(hp h4).2.1,?_⟩⟩,fun h3=>?_⟩
  ·exact yes (by rw [hsc,b_3,if_pos ⟨h3,.inl h4⟩])
  ·rw [hmg mk.toNat (hp h4).2.2]
   refine ⟨fun h5=>yes ?_,fun h5=>no ?_⟩
   ·rw [hsc,b_3,if_pos ⟨h3,.inr h5⟩]
   ·rw [hsc,b_3,if_neg (fun h=>h5 (h.2.resolve_left h4))]
  ·exact no (by rw [hsc,b_3,if_neg (fun h=>h3 h.1)])
 ·have:k=some.length:=by omega
  subst this
  rw [List.take_length]
  refine ⟨fun h2=>?_,fun h2=>?_⟩
  ·have:=hK (.p .nil) H [] (.inl ⟨rfl,by rw [hwl,if_pos h2];rfl,rfl⟩) ⟨.nil,fun y hy=>(by cases hy),Heap.le_refl _⟩
   rw [decide_eq_true h2] at this
   exact this
  ·rcases hbc some with ⟨e,_⟩ | ⟨v,hv,e,h0,_⟩
   ·omega
   ·rw [e] at h2 ⊢
    refine lit_row fun q hq=>?_
    have st:=(St.nil H).push (rnI (rowP q (nI [v])) (nI [v]) [q]) (New.cell (b:=cP fI (nI [v])) hq) (rnI_mk (Heap.set_same _ _ _))
    exact go v q _ (hs v hv) h0 e st
theorem rn_wk2 {x:AV} {l:List Int} {G:Heap} {D:List Nat} (h:RN (LPl eI) 1 x l G D) (y:AV):∃G',Wk (.tup [x,y]) G (.tup [Is l,y]) G'∧∀z,z∉D→G' z=G z:=by
 rcases b_p h with ⟨rfl,rfl,rfl⟩ | ⟨q,rfl,hq,rfl⟩
 ·exact ⟨G,.val (a_W ⟨.nil,.refl _,trivial⟩),fun _ _=>rfl⟩
 ·refine ⟨G.del q,?_,fun z hz=>Heap.del_other (by simpa using hz)⟩
  have:=wkPart (off:=0) (n:=l.length) hq (by omega) [y] []
  rwa [List.drop_zero,List.take_length] at this
theorem d_B (g:List (List Nat)) (hg:GrB g) (hg2:GrB (a_G g)) (some to:List Nat) (hs:∀v∈some,v < g.length) (hsl:some.length≤500000) (ht:∀v∈to,v < g.length) (htl:to.length≤100000) :
  Pu Tryz.prog 90 [Ls (gI g),Is (nI some),Is (nI to)] (wayV (rwF g) g.length some to):=by
 refine ⟨fun H=>a_a.fin (e_n g hg hg2 some to hs hsl ht htl fun x G D hx hn=>?_)⟩
 obtain ⟨G',w,f⟩:=rn_wk2 hx (B (!decide (a_v (toF (rwF g) g.length to) some < 0)))
 refine ⟨_,H,.trans w (.forget fun z b hb=>?_),rfl,rfl⟩
 rw [f z (fun hz=>by rw [hn.fr z hz] at hb;cases hb)]
 exact hn.le z b hb
end Go.Proofs.YtohkciilfkhomaaGreat
