/- Texts laid together: Tg4 Tg5 Tj2 Tg6 Tg7 Tg8 Tg9 Tg3. -/
import Derived.Test.YtohkciilfkhomaaGreatPW8
set_option linter.unusedVariables false
set_option linter.unusedSimpArgs false
open Go.Sep.AV renaming any → Q_
open Nat renaming reduceAdd→ν1,reduceLeDiff→ν2,reduceLT→ν3,reduceMul→ν4,reduceSub→ν5
open Int renaming reduceToNat→ι1,reduceSub→ι2,reduceAdd→ι3,reduceNeg→ι4
open Array renaming toList→ι5
open Ne renaming symm→ν6
open List renaming forall_mem_cons→ν7
namespace Go.Proofs.YtohkciilfkhomaaGreat
open Go Go.Sep Go.Pt
attribute [local irreducible] CallT
def SK (x:AV) (l:List Nat) (G:Heap) (D:List Nat):Prop:=(x=.p .nil∧l=[]∧D=[])∨∃q J,x=.sl q 1 0 l.length∧G q=some (cP fI (nI l++J))∧D=[q]
def skT (x:AV) (l:List Nat) (D:List Nat):Th:=⟨D,fun G=>SK x l G D,by
 rintro G G' (h | ⟨q,J,h1,h2,rfl⟩) hf
 ·exact .inl h
 ·exact .inr ⟨q,J,h1,hf q (by simp) _ h2,rfl⟩,by
 rintro G (⟨_,_,rfl⟩ | ⟨q,J,h1,h2,rfl⟩) y hy
 ·cases hy
 ·rw [List.mem_singleton.1 hy,h2];simp⟩
theorem sk_app {H G:Heap} {Ts:List Th} {x:AV} {l D:List Nat} {w:Nat} (s:St H Ts G) (i:Nat) (hi:Ts[i]?=some (skT x l D)) (hl:l.length≤900000) {K:AV→Heap→Prop}
  (h:∀q' G',St H (Ts.set i (skT (.sl q' 1 0 (l.length+1)) (l++[w]) [q'])) G'→K (.sl q' 1 0 (l.length+1)) G'):aP_ tab 24 24 x (Is [(w:Int)]) G (wkK K):=by
 have hk:SK x l G D:=s.get i hi
 rcases hk with ⟨rfl,rfl,rfl⟩ | ⟨q,J,rfl,hq,rfl⟩
 ·refine app_nil (fs:=[eI (w:Int)]) tab_24 rfl tab_3 tab_24 rfl rfl rfl (.inl rfl) (.inl rfl) (fun e he=>by rw [List.mem_singleton.1 he];rfl) (by simp) (by simp) fun q' hq'=>?_
  refine h q' _ (s.repl i hi (skT (.sl q' 1 0 1) [w] [q']) (by simp [skT]) (fun y hy=>by simp only [skT,List.mem_singleton] at hy;subst hy;exact .inr hq') (fun y b hb _=>Heap.le_set hq' y b hb) (.inr ⟨q',[],rfl,by rw [Heap.set_same,List.append_nil];rfl,rfl⟩))
 ·have:=app_off (K:=K) (J:=[]) (Q:=nI l) (ys:=[(w:Int)]) (G:=G) (q:=q)
  simp only [aP_,tab_24,tab_3,srcV,baseV,hq]
  have e2:(cP fI (nI l++J)).length=l.length+J.length:=by rw [cI_len,List.length_append,nL_]
  have e3:List.take (l.length*1) (List.drop 0 (cP fI (nI l++J)))=cP fI (nI l):=by
   rw [cI_app,List.drop_zero,Nat.mul_one]
   exact List.take_left' (by rw [cI_len,nL_])
  rw [e2,e3]
  refine ⟨fun e he=>?_,trivial,by omega,by simp only [List.map_cons,List.map_nil,List.length_cons,List.length_nil];omega,by simp only [List.map_cons,List.map_nil,List.length_cons,List.length_nil];omega,rfl,fun q' hq'=>wkK.keep ?_⟩
  ·obtain ⟨y,_,rfl⟩:=List.mem_map.1 he;rfl
  ·refine h q' _ (s.repl i hi (skT (.sl q' 1 0 (l.length+1)) (l++[w]) [q']) (by simp [skT]) (fun y hy=>by simp only [skT,List.mem_singleton] at hy;subst hy;exact .inr hq') (fun y b hb hy=>?_) (.inr ⟨q',[],by simp,?_,rfl⟩))
   ·simp only [skT,List.mem_singleton] at hy
    rw [Heap.set_other (fun e=>by rw [e,hq'] at hb;cases hb),Heap.del_other hy];exact hb
   ·rw [Heap.set_same,List.append_nil,nI_app,cI_app];rfl
abbrev tjC (g:List (List Nat)) (qf ql qp:Nat) (x:AV) (vs:Int):List AV:=[Ls (gI g),.sl qf 1 0 g.length,.sl ql 1 0 g.length,.sl qp 1 0 g.length,x,I vs]
abbrev tjT (g:List (List Nat)) (r qf ql qp:Nat) (s:TS) (x:AV) (D:List Nat):List Th:=
 [cT_ r (tjC g qf ql qp x s.vs),cT_ qf (cP fI (mpI s.fd g.length)),cT_ ql (cP fI (mpI s.lw g.length)),cT_ qp (cP fI (mpI s.pt g.length)),skT x s.st D]
theorem rdN (f:Nat→Int) {n v:Nat} (h:v < n):(List.take 1 (List.drop (v*1) (cP fI (mpI f n)))).headD Q_=I (f v):=by
 rw [cI_rd (by rw [mpI_len];exact h),mpI_get f h]
theorem lnN (f:Nat→Int) (n:Nat):(cP fI (mpI f n)).length=n:=by rw [cI_len,mpI_len]
theorem setN (f:Nat→Int) {n v:Nat} (h:v < n) (x:Int):List.take (v*1) (cP fI (mpI f n))++[I x]++List.drop (v*1+1) (cP fI (mpI f n))=cP fI (mpI (updI f v x) n):=by
 rw [cI_set (by rw [mpI_len];exact h),mpI_set]
theorem nodup_len:∀(n:Nat) (l:List Nat),l.Nodup→(∀x∈l,x < n)→l.length≤n
 | 0,l,_,h=>by
  cases l with
  | nil=>simp
  | cons a l=>have:=h a (by simp);omega
 | n+1,l,hd,h=>by
  have h1:=nodup_len n (l.erase n) (hd.erase _) fun x hx=>by
   have:=(hd.mem_erase_iff).1 hx
   have:=h x this.2
   omega
  by_cases hm:n∈l
  ·rw [List.length_erase_of_mem hm] at h1;omega
  ·rw [List.erase_of_not_mem hm] at h1;omega
theorem TInv.st_len {E:Nat→Nat→Prop} {n:Nat} {gray:List Nat} {s:TS} (h:TInv E n gray s):s.st.length≤n:=
 nodup_len n s.st (h.stp.imp fun h e=>by rw [e] at h;omega) fun x hx=>h.fdn x ((h.stm x).1 hx).1
def minN:List Nat→Nat
 | []=>0
 | a::l=>l.foldl min a
theorem minN_snoc {l:List Nat} (h:l≠[]) (x:Nat):minN (l++[x])=min (minN l) x:=by
 cases l with
 | nil=>exact absurd rfl h
 | cons a l=>simp [minN]
theorem minN_prop (l:List Nat) (h:l≠[]):minN l∈l∧∀u∈l,minN l≤u:=by
 induction l using snocInd with
 | h0=>exact absurd rfl h
 | h1 l a ih=>
  by_cases hl:l=[]
  ·subst hl;simp [minN]
  ·rw [minN_snoc hl]
   obtain ⟨h1,h2⟩:=ih hl
   refine ⟨?_,fun u hu=>?_⟩
   ·rcases Nat.le_total (minN l) a with k | k
    ·rw [Nat.min_eq_left k];exact List.mem_append_left _ h1
    ·rw [Nat.min_eq_right k];simp
   ·rcases List.mem_append.1 hu with hu | hu
    ·exact Nat.le_trans (Nat.min_le_left _ _) (h2 u hu)
    ·rw [List.mem_singleton] at hu;subst hu;exact Nat.min_le_right _ _
theorem Min_spec (l:List Nat) (h:0 < l.length) (hl:l.length≤1000000):Pu Tryz.prog 126 [Is (nI l)] (I (minN l)):=by
 refine Pu.of fun H=>?_
 have hn:=nL_ l
 have h1:¬(l.length:Int) < 1:=by omega
 refine W126_ok ?_;simp (maxSteps:=1000000) (disch:=first | assumption | (apply ν6;assumption)) only [W126,vz,vu,vv,eqS,eF_,↓c1_,↓c2_,tabs,reduceCtorEq,ι5,↓reduceIte,ν1,ν2,ν3,ν4,ν5,ι1,ι2,ι3,ι4,hn,h1,decide_false]
 refine ⟨by omega,by omega,?_⟩
 rw [nI_get h]
 refine L126_0_rule (1:Nat) (fun i=>I (minN (l.take i))) (fun i=>I i) (fun _=>H) (fun i=>1≤i∧i≤l.length) (fun i=>l.length - i) ⟨⟨by omega,by omega⟩,?_,.refl _,Heap.le_refl _⟩ ?_
 ·have:l.take 1=[l.getD 0 0]:=by
   cases l with
   | nil=>simp at h
   | cons a l=>rfl
  rw [this];exact .refl _
 ·rintro i ⟨hi1,hi2⟩
  (try simp (maxSteps:=1000000) (disch:=first | assumption | (apply ν6;assumption)) only [vz,vu,vv,eqS,eF_,↓c1_,↓c2_,tabs,reduceCtorEq,ι5,↓reduceIte,ν1,ν2,ν3,ν4,ν5,ι1,ι2,ι3,ι4,B126_0,hn])
  refine ⟨fun h2=>?_,fun h2=>?_⟩
  ·have hlt:i < l.length:=by omega
   refine ⟨by omega,h2,?_⟩
   rw [nI_get hlt]
   have hs:minN (l.take (i+1))=min (minN (l.take i)) (l.getD i 0):=by
    rw [tS_ hlt,minN_snoc (fun e=>by have h3:=congrArg List.length e;rw [List.length_take,List.length_nil] at h3;omega)];rfl
   have e5:IntKind.i64.wrap ((i:Int)+1)=((i+1:Nat):Int):=by rw [i6_ (by omega) (by omega)];simp
   have e6:(if ((l.getD i 0:Nat):Int) < ((minN (l.take i):Nat):Int) then ((l.getD i 0:Nat):Int) else ((minN (l.take i):Nat):Int))=((minN (l.take (i+1)):Nat):Int):=by
    rw [hs,Nat.min_def];split<;>split<;>omega
   (try simp (maxSteps:=1000000) (disch:=first | assumption | (apply ν6;assumption)) only [vz,vu,vv,eqS,eF_,↓c1_,↓c2_,tabs,reduceCtorEq,ι5,↓reduceIte,ν1,ν2,ν3,ν4,ν5,ι1,ι2,ι3,ι4,e5])
   refine ⟨i+1,⟨by omega,by omega⟩,by omega,?_,.refl _⟩
   rw [e6];exact .refl _
  ·have:i=l.length:=by omega
   subst this
   rw [List.take_length]
   first | done | rfl | exact ⟨rfl,Heap.le_refl _⟩
theorem wkPart {q off n:Nat} {l:List Int} {G:Heap} (hq:G q=some (cP fI l)) (hb:off+n≤l.length) (vs:List AV) (w:List AV):Wk (.tup (.sl q 1 off n::vs)) G (.tup (Is ((l.drop off).take n)::vs)) (G.del q):=by
 refine Wk.frzS (es:=l.map fI) (by rw [hq,List.map_map];rfl) (.tup (.cons ?_ ?_))
 ·have:=FrzS.part (r:=q) (es:=l.map fI) off n (by rw [List.length_map];exact hb)
  have e:(((l.map fI).drop off).take n).map (fun v=>[v])=((l.drop off).take n).map eI:=by rw [← List.map_drop,← List.map_take,List.map_map];rfl
  rw [e] at this
  exact this
 ·induction vs with
  | nil=>exact .nil
  | cons v vs ih=>exact .cons (.same _) ih
theorem minE (a b:Int):(if b < a then b else a)=min a b:=by rw [Int.min_def];split<;>split<;>omega
theorem visit_spec (g:List (List Nat)) (hg:GrB g) {H:Heap} (r qf ql qp:Nat):∀(m:Nat) (gray:List Nat) (s:TS) (v:Nat) (x:AV) (D:List Nat) (G:Heap) (K:AV→Heap→Prop),g.length - s.vs.toNat≤m→TInv (aO_ (rwF g)) g.length gray s→v < g.length→s.fd v=0→
  (∀y∈gray,Rch (aO_ (rwF g)) y v)→St H (tjT g r qf ql qp s x D) G→
  (∀s' x' D' G',TInv (aO_ (rwF g)) g.length gray s'→TPost (aO_ (rwF g)) s s' v→St H (tjT g r qf ql qp s' x' D') G'→K (.tup []) G')→CallT Tryz.prog 115 [.ptr r 0,I v] G K:=by
 intro m
 induction m with
 | zero=>
  intro gray s v x D G K hm hi hv h0
  have:=cntF_lt hv h0
  have:=hi.cnt
  omega
 | succ m ih=>
  intro gray s v x D G K hm hi hv h0 hr st hK
  have hn:=hg.n
  have hcl:=cntF_lt hv h0
  have hcnt:=hi.cnt
  have hvs:=hi.vs0
  have e1:IntKind.i64.wrap (s.vs+1)=s.vs+1:=i6_ (by omega) (by omega)
  refine W115_ok ?_;simp (maxSteps:=1000000) (disch:=first | assumption | (apply ν6;assumption)) only [W115,vz,vu,vv,eqS,eF_,↓c1_,↓c2_,tabs,reduceCtorEq,ι5,↓reduceIte,ν1,ν2,ν3,ν4,ν5,ι1,ι2,ι3,ι4,lA_ (st.get 0 rfl),sA_ (st.get 0 rfl),e1]
  refine ⟨by omega,by omega,?_⟩
  replace st:=st.put 0 rfl (tjC g qf ql qp x (s.vs+1))
  generalize G.set r (tjC g qf ql qp x (s.vs+1))=G1 at st ⊢
  simp only [List.set_cons_zero] at st
  have hs1:=setN s.fd hv (s.vs+1)
  (try simp (maxSteps:=1000000) (disch:=first | assumption | (apply ν6;assumption)) only [vz,vu,vv,eqS,eF_,↓c1_,↓c2_,tabs,reduceCtorEq,ι5,↓reduceIte,ν1,ν2,ν3,ν4,ν5,ι1,ι2,ι3,ι4,sA_ (st.get 1 rfl),lnN,mpI_len])
  refine ⟨by omega,by omega,by omega,?_⟩
  rw [hs1]
  replace st:=st.put 1 rfl (cP fI (mpI (updI s.fd v (s.vs+1)) g.length))
  generalize G1.set qf (cP fI (mpI (updI s.fd v (s.vs+1)) g.length))=G2 at st ⊢
  simp only [List.set_cons_zero,List.set_cons_succ] at st
  have hs2:=setN s.lw hv (s.vs+1)
  (try simp (maxSteps:=1000000) (disch:=first | assumption | (apply ν6;assumption)) only [vz,vu,vv,eqS,eF_,↓c1_,↓c2_,tabs,reduceCtorEq,ι5,↓reduceIte,ν1,ν2,ν3,ν4,ν5,ι1,ι2,ι3,ι4,sA_ (st.get 2 rfl),lnN,mpI_len])
  refine ⟨by omega,?_⟩
  rw [hs2]
  replace st:=st.put 2 rfl (cP fI (mpI (updI s.lw v (s.vs+1)) g.length))
  generalize G2.set ql (cP fI (mpI (updI s.lw v (s.vs+1)) g.length))=G3 at st ⊢
  simp only [List.set_cons_zero,List.set_cons_succ] at st
  (try simp (maxSteps:=1000000) (disch:=first | assumption | (apply ν6;assumption)) only [vz,vu,vv,eqS,eF_,↓c1_,↓c2_,tabs,reduceCtorEq,ι5,↓reduceIte,ν1,ν2,ν3,ν4,ν5,ι1,ι2,ι3,ι4,lA_ (st.get 0 rfl)])
  refine lit1 tab_24 rfl tab_3 ⟨rfl,rfl⟩ ?_
  have hsl:s.st.length≤900000:=by have:=TInv.st_len hi;omega
  refine sk_app (w:=v) st 4 rfl hsl fun q' G4 st=>?_
  simp only [List.set_cons_zero,List.set_cons_succ] at st
  have hgl:=gI_len g
  (try simp (maxSteps:=1000000) (disch:=first | assumption | (apply ν6;assumption)) only [vz,vu,vv,eqS,eF_,↓c1_,↓c2_,tabs,reduceCtorEq,ι5,↓reduceIte,ν1,ν2,ν3,ν4,ν5,ι1,ι2,ι3,ι4,lA_ (st.get 0 rfl),sA_ (st.get 0 rfl),hgl])
  refine ⟨by omega,by omega,?_⟩
  replace st:=st.put 0 rfl (tjC g qf ql qp (.sl q' 1 0 (s.st.length+1)) (s.vs+1))
  generalize G4.set r (tjC g qf ql qp (.sl q' 1 0 (s.st.length+1)) (s.vs+1))=G5 at st ⊢
  simp only [List.set_cons_zero,List.set_cons_succ] at st
  have hl0:=T_start hi hv h0 hr
  rw [gI_get hv]
  have hrn:=nL_ (rwF g v)
  have hrl:=hg.row hv
  have hgr:=hg.gr
  (try simp (maxSteps:=1000000) (disch:=first | assumption | (apply ν6;assumption)) only [vz,vu,vv,eqS,eF_,↓c1_,↓c2_,tabs,reduceCtorEq,ι5,↓reduceIte,ν1,ν2,ν3,ν4,ν5,ι1,ι2,ι3,ι4,hrn])
  have hs0:St H (tjT g r qf ql qp (s.push v) (.sl q' 1 0 (s.st.length+1)) [q']) G5:=st
  clear st
  refine L115_0_rule ((0:Nat),s.push v,AV.sl q' 1 0 (s.st.length+1),[q'],G5) (fun z=>I z.1) (fun z=>z.2.2.2.2)
   (fun z=>z.1≤(rwF g v).length∧TLoop (aO_ (rwF g)) g.length gray s v (fun w=>w∈(rwF g v).take z.1) z.2.1∧St H (tjT g r qf ql qp z.2.1 z.2.2.1 z.2.2.2.1) z.2.2.2.2) (fun z=>(rwF g v).length - z.1)
   ⟨⟨by simp,hl0.done fun u hu=>by simp at hu,hs0⟩,.refl _,Heap.le_refl _⟩ ?_
  clear hs0 hl0 hs1 hs2
  rintro ⟨j,t,y,E,G⟩ ⟨hj,hl,st⟩
  dsimp only at hj hl st
  have e5:IntKind.i64.wrap ((j:Int)+1)=((j+1:Nat):Int):=by rw [i6_ (by omega) (by omega)];simp
  (try simp (maxSteps:=1000000) (disch:=first | assumption | (apply ν6;assumption)) only [vz,vu,vv,eqS,eF_,↓c1_,↓c2_,tabs,reduceCtorEq,ι5,↓reduceIte,ν1,ν2,ν3,ν4,ν5,ι1,ι2,ι3,ι4,B115_0,hrn])
  refine ⟨fun h2=>?_,fun h2=>?_⟩
  ·have hlj:j < (rwF g v).length:=by omega
   refine ⟨by omega,h2,?_⟩
   rw [nI_get hlj]
   have hw:=hg.lt hlj
   have hE:aO_ (rwF g) v ((rwF g v).getD j 0):=by simp [aO_,List.getD,hlj]
   have htk:∀u,u∈(rwF g v).take (j+1)→u∈(rwF g v).take j∨u=(rwF g v).getD j 0:=by
    intro u hu
    rw [tS_ hlj,List.mem_append,List.mem_singleton] at hu
    exact hu
   generalize (rwF g v).getD j 0=w at hw hE htk ⊢
   have hwf:=rdN t.fd hw
   have hwp:=rdN t.pt hw
   (try simp (maxSteps:=1000000) (disch:=first | assumption | (apply ν6;assumption)) only [vz,vu,vv,eqS,eF_,↓c1_,↓c2_,tabs,reduceCtorEq,ι5,↓reduceIte,ν1,ν2,ν3,ν4,ν5,ι1,ι2,ι3,ι4,lA_ (st.get 0 rfl),lA_ (st.get 1 rfl),lnN,mpI_len,hwf,Int.toNat_natCast])
   refine ⟨by omega,by omega,by omega,fun h3=>?_,fun h3=>?_⟩
   ·have hvt:=hl.vs
    have hct:=hl.inv.cnt
    have hcb:=cntF_le t.fd g.length
    refine ih (v::gray) t w y E G _ (by omega) hl.inv hw h3 (fun z hz=>?_) st fun t' y' E' G' hi' hp' st=>?_
    ·rcases List.mem_cons.1 hz with rfl | hz
     ·exact .one hE
     ·exact (hr z hz).snoc hE
    have hnx:=(T_call hl h0 hi hE h3 hi' hp').done htk
    have hlv:=rdN t'.lw hv
    have hlw:=rdN t'.lw hw
    have hset:=setN t'.lw hv (min (t'.lw v) (t'.lw w))
    (try simp (maxSteps:=1000000) (disch:=first | assumption | (apply ν6;assumption)) only [vz,vu,vv,eqS,eF_,↓c1_,↓c2_,tabs,reduceCtorEq,ι5,↓reduceIte,ν1,ν2,ν3,ν4,ν5,ι1,ι2,ι3,ι4,lA_ (st.get 0 rfl),lA_ (st.get 2 rfl),sA_ (st.get 2 rfl),lnN,mpI_len,hlv,hlw,minE,e5,Int.toNat_natCast])
    refine ⟨by omega,by omega,by omega,by omega,by omega,by omega,by omega,by omega,by omega,?_⟩
    rw [hset]
    exact ⟨(j+1,t'.low v (min (t'.lw v) (t'.lw w)),y',E',_),⟨by simp only;omega,hnx,st.put 2 rfl (cP fI (mpI (updI t'.lw v (min (t'.lw v) (t'.lw w))) g.length))⟩,by simp only;omega,.refl _,Heap.le_refl _⟩
   ·(try simp (maxSteps:=1000000) (disch:=first | assumption | (apply ν6;assumption)) only [vz,vu,vv,eqS,eF_,↓c1_,↓c2_,tabs,reduceCtorEq,ι5,↓reduceIte,ν1,ν2,ν3,ν4,ν5,ι1,ι2,ι3,ι4,lA_ (st.get 0 rfl),lA_ (st.get 3 rfl),lnN,mpI_len,hwp,Int.toNat_natCast])
    refine ⟨by omega,by omega,by omega,fun h4=>?_,fun h4=>?_⟩
    ·have hnx:=(T_back hl h0 hE h3 h4).done htk
     have hlv:=rdN t.lw hv
     have hset:=setN t.lw hv (min (t.lw v) (t.fd w))
     (try simp (maxSteps:=1000000) (disch:=first | assumption | (apply ν6;assumption)) only [vz,vu,vv,eqS,eF_,↓c1_,↓c2_,tabs,reduceCtorEq,ι5,↓reduceIte,ν1,ν2,ν3,ν4,ν5,ι1,ι2,ι3,ι4,lA_ (st.get 0 rfl),lA_ (st.get 1 rfl),lA_ (st.get 2 rfl),sA_ (st.get 2 rfl),lnN,mpI_len,hlv,hwf,minE,e5,Int.toNat_natCast])
     refine ⟨by omega,by omega,by omega,by omega,by omega,by omega,by omega,by omega,by omega,?_⟩
     rw [hset]
     exact ⟨(j+1,t.low v (min (t.lw v) (t.fd w)),y,E,_),⟨by simp only;omega,hnx,st.put 2 rfl (cP fI (mpI (updI t.lw v (min (t.lw v) (t.fd w))) g.length))⟩,by simp only;omega,.refl _,Heap.le_refl _⟩
    ·have hnx:=(T_skip hl h3 (by omega)).done htk
     (try simp (maxSteps:=1000000) (disch:=first | assumption | (apply ν6;assumption)) only [vz,vu,vv,eqS,eF_,↓c1_,↓c2_,tabs,reduceCtorEq,ι5,↓reduceIte,ν1,ν2,ν3,ν4,ν5,ι1,ι2,ι3,ι4,e5])
     exact ⟨(j+1,t,y,E,G),⟨by simp only;omega,hnx,st⟩,by simp only;omega,.refl _,Heap.le_refl _⟩
  ·have:j=(rwF g v).length:=by omega
   subst this
   rw [List.take_length] at hl
   have hlv:=rdN t.lw hv
   have hfv:=rdN t.fd hv
   have hall:∀w,aO_ (rwF g) v w→w∈rwF g v:=fun w hw=>hw
   (try simp (maxSteps:=1000000) (disch:=first | assumption | (apply ν6;assumption)) only [vz,vu,vv,eqS,eF_,↓c1_,↓c2_,tabs,reduceCtorEq,ι5,↓reduceIte,ν1,ν2,ν3,ν4,ν5,ι1,ι2,ι3,ι4,lA_ (st.get 0 rfl),lA_ (st.get 1 rfl),lA_ (st.get 2 rfl),lnN,mpI_len,hlv,hfv,Int.toNat_natCast])
   refine ⟨by omega,by omega,by omega,by omega,by omega,by omega,fun h3=>?_,fun h3=>?_⟩
   ·obtain ⟨a,b⟩:=T_stay hl hi h0 hall h3
    exact hK _ _ _ _ a b st
   ·obtain ⟨s2,hst,hs20,hs21⟩:=hl.stk
    have hy:SK y t.st G E:=st.get 4 rfl
    have hil:=TInv.st_len hl.inv
    have hlen:t.st.length=s.st.length+(s2.length+1):=by rw [hst,List.length_append,List.length_cons]
    rcases hy with ⟨_,h5,_⟩ | ⟨q2,J,rfl,hq2,rfl⟩
    ·rw [h5] at hlen;simp at hlen
    have hpart:∀off n,off+n≤t.st.length→((nI t.st++J).drop off).take n=nI ((t.st.drop off).take n):=by
     intro off n hb
     rw [← nI_take,← nI_drop,List.drop_append_of_le_length (by rw [nL_];omega),List.take_append_of_le_length (by rw [List.length_drop,nL_];omega)]
    (try simp (maxSteps:=1000000) (disch:=first | assumption | (apply ν6;assumption)) only [vz,vu,vv,eqS,eF_,↓c1_,↓c2_,tabs,reduceCtorEq,ι5,↓reduceIte,ν1,ν2,ν3,ν4,ν5,ι1,ι2,ι3,ι4,lA_ (st.get 0 rfl)])
    refine Pu.thaw (args':=[Is (nI t.st),I v]) (IndexI_spec (nI t.st) v (by rw [nL_];omega)) (.int _ _) (by
     have:=wkPart (off:=0) (n:=t.st.length) hq2 (by rw [List.length_append,nL_];omega) [I v] []
     rw [hpart 0 _ (by omega),List.drop_zero,List.take_length] at this
     exact this) ?_
    have hidx:(if (v:Int)∈nI t.st then ((nI t.st).idxOf (v:Int):Int) else -1)=(s.st.length:Int):=by
     have hvs2:v∉s.st:=fun hm=>((hi.stm v).1 hm).1 h0
     have hnv:(v:Int)∉nI s.st:=fun hm=>by
      obtain ⟨u,hu,e⟩:=nI_mem.1 hm
      have:u=v:=by omega
      exact hvs2 (this ▸ hu)
     have e:nI t.st=nI s.st++((v:Int)::nI s2):=by rw [hst,nI_app];rfl
     rw [e,if_pos (by simp),List.idxOf_append,if_neg hnv,nL_]
     simp
    rw [hidx]
    have hdrop:t.st.drop s.st.length=v::s2:=by rw [hst,List.drop_left' rfl]
    have ek:((t.st.length:Int) - (s.st.length:Int)).toNat=s2.length+1:=by omega
    have hmn:=minN_prop (v::s2) (by simp)
    have hcl2:(cP fI (nI t.st++J)).length=t.st.length+J.length:=by rw [cI_len,List.length_append,nL_]
    (try simp (maxSteps:=1000000) (disch:=first | assumption | (apply ν6;assumption)) only [vz,vu,vv,eqS,eF_,↓c1_,↓c2_,tabs,reduceCtorEq,ι5,↓reduceIte,ν1,ν2,ν3,ν4,ν5,ι1,ι2,ι3,ι4,lA_ (st.get 0 rfl),ek,Int.toNat_natCast])
    refine ⟨by omega,by omega,by omega,?_⟩
    refine Pu.thaw (args':=[Is (nI (v::s2))]) (Min_spec (v::s2) (by simp) (by simp only [List.length_cons];omega)) (.int _ _) (by
     have:=wkPart (off:=s.st.length) (n:=s2.length+1) hq2 (by rw [List.length_append,nL_];omega) [] []
     rw [hpart _ _ (by omega),hdrop,List.take_of_length_le (by simp)] at this
     rw [Nat.mul_one];exact this) ?_
    generalize minN (v::s2)=mm at hmn
    (try simp (maxSteps:=1000000) (disch:=first | assumption | (apply ν6;assumption)) only [vz,vu,vv,eqS,eF_,↓c1_,↓c2_,tabs,reduceCtorEq,ι5,↓reduceIte,ν1,ν2,ν3,ν4,ν5,ι1,ι2,ι3,ι4,lA_ (st.get 0 rfl),ek,Int.toNat_natCast])
    refine ⟨by omega,by omega,by omega,?_⟩
    refine L115_1_rule ((0:Nat),G) (fun z=>I z.1) (fun z=>z.2)
     (fun z=>z.1≤s2.length+1∧St H (tjT g r qf ql qp ⟨t.fd,t.lw,fun u=>if u∈(v::s2).take z.1 then (mm:Int) else t.pt u,t.st,t.vs⟩ (.sl q2 1 0 t.st.length) [q2]) z.2∧z.2 q2=some (cP fI (nI t.st++J))) (fun z=>s2.length+1 - z.1)
     ⟨⟨by simp,by simpa using st,hq2⟩,.refl _,Heap.le_refl _⟩ ?_
    clear st hq2 G
    rintro ⟨j,G⟩ ⟨hj,st,hq2⟩
    dsimp only at hj st hq2
    have e5:IntKind.i64.wrap ((j:Int)+1)=((j+1:Nat):Int):=by rw [i6_ (by omega) (by omega)];simp
    (try simp (maxSteps:=1000000) (disch:=first | assumption | (apply ν6;assumption)) only [vz,vu,vv,eqS,eF_,↓c1_,↓c2_,tabs,reduceCtorEq,ι5,↓reduceIte,ν1,ν2,ν3,ν4,ν5,ι1,ι2,ι3,ι4,B115_1])
    refine ⟨fun h4=>?_,fun h4=>?_⟩
    ·have hlj:j < (v::s2).length:=by rw [List.length_cons];omega
     have hu:(v::s2).getD j 0 < g.length:=by
      have hm:(v::s2).getD j 0∈t.st:=by
       rw [hst];exact List.mem_append_right _ (getD_all (p:=fun z=>z∈v::s2) (d:=0) (fun _ k=>k) hlj)
      exact hl.inv.fdn _ ((hl.inv.stm _).1 hm).1
     have htk:(v::s2).take (j+1)=(v::s2).take j++[(v::s2).getD j 0]:=tS_ hlj
     have hrq:(List.take 1 (List.drop (s.st.length*1+j*1) (cP fI (nI t.st++J)))).headD Q_=I (((v::s2).getD j 0:Nat):Int):=by
      have e:s.st.length*1+j*1=(s.st.length+j)*1:=by omega
      rw [e,cI_rd (by rw [List.length_append,nL_];omega)]
      have e2:(nI t.st++J).getD (s.st.length+j) default=(((v::s2).getD j 0:Nat):Int):=by
       rw [hst,nI_app,List.append_assoc]
       have hlj2:j < (nI (v::s2)).length:=by rw [nL_];exact hlj
       simp only [List.getD]
       rw [List.getElem?_append_right (by rw [nL_];omega),nL_,Nat.add_sub_cancel_left,List.getElem?_append_left hlj2]
       exact nI_get hlj
      rw [e2]
     generalize (v::s2).getD j 0=u at hu htk hrq
     have hset:=setN (fun u=>if u∈(v::s2).take j then (mm:Int) else t.pt u) hu (mm:Int)
     have hup:updI (fun u=>if u∈(v::s2).take j then (mm:Int) else t.pt u) u (mm:Int)=fun u=>if u∈(v::s2).take (j+1) then (mm:Int) else t.pt u:=by
      funext z
      rw [htk]
      unfold updI
      by_cases e:z=u
      ·subst e;simp
      ·by_cases e2:z∈(v::s2).take j<;>simp [e,e2]
     (try simp (maxSteps:=1000000) (disch:=first | assumption | (apply ν6;assumption)) only [vz,vu,vv,eqS,eF_,↓c1_,↓c2_,tabs,reduceCtorEq,ι5,↓reduceIte,ν1,ν2,ν3,ν4,ν5,ι1,ι2,ι3,ι4,lA_ hq2,hcl2,hrq,lA_ (st.get 0 rfl),sA_ (st.get 3 rfl),lnN,mpI_len,e5,Int.toNat_natCast])
     refine ⟨by omega,by omega,by omega,by omega,by omega,by omega,?_⟩
     rw [hset,hup]
     have hne:q2≠qp:=fun e=>st.disjI 4 3 rfl rfl (by decide) q2 (by simp [skT]) (by simp [cT_,e])
     refine ⟨(j+1,_),⟨by simp only;omega,st.put 3 rfl (cP fI (mpI (fun u=>if u∈(v::s2).take (j+1) then (mm:Int) else t.pt u) g.length)),?_⟩,by simp only;omega,.refl _,Heap.le_refl _⟩
     show (G.set qp _) q2=_
     rw [Heap.set_other hne];exact hq2
    ·have:j=s2.length+1:=by omega
     subst this
     have e0:(v::s2).take (s2.length+1)=v::s2:=List.take_of_length_le (by simp)
     rw [e0] at st
     have e6:((s.st.length:Int) - 0).toNat=s.st.length:=by omega
     (try simp (maxSteps:=1000000) (disch:=first | assumption | (apply ν6;assumption)) only [vz,vu,vv,eqS,eF_,↓c1_,↓c2_,tabs,reduceCtorEq,ι5,↓reduceIte,ν1,ν2,ν3,ν4,ν5,ι1,ι2,ι3,ι4,lA_ (st.get 0 rfl),sA_ (st.get 0 rfl),e6,Int.toNat_natCast,Int.sub_zero])
     obtain ⟨a,b⟩:=T_pop hl hi h0 hall h3 (s2:=s2) hst hmn.1 hmn.2
     refine ⟨by omega,by omega,by omega,?_⟩
     have hne:q2≠r:=fun e=>st.disjI 4 0 rfl rfl (by decide) q2 (by simp [skT]) (by simp [cT_,e])
     have st2:=st.put 0 rfl (tjC g qf ql qp (.sl q2 1 0 s.st.length) t.vs)
     have st3:=st2.upd 4 rfl (skT (.sl q2 1 0 s.st.length) s.st [q2]) rfl (fun _ _=>rfl) (.inr ⟨q2,nI (v::s2)++J,rfl,by
      rw [Heap.set_other hne,hq2,hst,nI_app,List.append_assoc],rfl⟩)
     exact hK _ _ _ _ a b st3
end Go.Proofs.YtohkciilfkhomaaGreat
namespace Go.Proofs.YtohkciilfkhomaaGreat
open Go Go.Sep Go.Pt
attribute [local irreducible] CallT
noncomputable def prtI (g:List (List Nat)):List Int:=mpI (fun v=>(partF (aO_ (rwF g)) v:Int)) g.length
theorem makeN_I (n:Nat) (h:n≤1000000000):makeN tab 24 (I n) (I n)=some (fun r=>.sl r 1 0 n,cP fI (mpI (fun _=>0) n)):=by
 have e:zA_ n [I 0]=cP fI (mpI (fun _=>0) n):=by rw [cP_rep,mpI_const]
 simp only [makeN,tab_24,tab_3,ifN]
 rw [if_pos ⟨by omega,by omega,by omega,by omega⟩,← e]
 rfl
theorem parts_spec (g:List (List Nat)) (hg:GrB g):Pu Tryz.prog 78 [Ls (gI g)] (Is (prtI g)):=by
 refine ⟨fun H=>CallT.fin ?_⟩
 have hn:=hg.n
 have hgl:=gI_len g
 refine W78_ok ?_;simp (maxSteps:=1000000) (disch:=first | assumption | (apply ν6;assumption)) only [W78,vz,vu,vv,eqS,eF_,↓c1_,↓c2_,tabs,reduceCtorEq,ι5,↓reduceIte,ν1,ν2,ν3,ν4,ν5,ι1,ι2,ι3,ι4,hgl]
 have hmk:=makeN_I g.length (by omega)
 (try simp (maxSteps:=1000000) (disch:=first | assumption | (apply ν6;assumption)) only [vz,vu,vv,eqS,eF_,↓c1_,↓c2_,tabs,reduceCtorEq,ι5,↓reduceIte,ν1,ν2,ν3,ν4,ν5,ι1,ι2,ι3,ι4,hmk,safeV,newV])
 refine lit1 tab_24 rfl tab_3 ⟨rfl,rfl⟩ ?_
 refine Repeat_row (-1) g.length (by omega) fun qp hqp=>?_
 have st:=(St.nil H).cell hqp (cP fI (List.replicate g.length (-1)))
 rw [mpI_const] at st ⊢
 generalize H.set qp (cP fI (mpI (fun _=>-1) g.length))=G1 at st ⊢
 intro qf hqf ql hlf hql
 replace st:=(st.cell hqf (cP fI (mpI (fun _=>0) g.length))).cell (r:=ql) (by rw [Heap.set_other hlf];exact hql) (cP fI (mpI (fun _=>0) g.length))
 have hm:=mpI_len (fun _=>-1) g.length
 rw [rowP,hm]
 (try simp (maxSteps:=1000000) (disch:=first | assumption | (apply ν6;assumption)) only [vz,vu,vv,eqS,eF_,↓c1_,↓c2_,tabs,reduceCtorEq,ι5,↓reduceIte,ν1,ν2,ν3,ν4,ν5,ι1,ι2,ι3,ι4])
 intro r hrl hrf hr
 replace st:=st.cell (r:=r) (by rw [Heap.set_other hrl,Heap.set_other hrf];exact hr) (tjC g qf ql qp (.p .nil) 0)
 generalize ((G1.set qf (cP fI (mpI (fun _=>0) g.length))).set ql (cP fI (mpI (fun _=>0) g.length))).set r (tjC g qf ql qp (.p .nil) 0)=G4 at st ⊢
 have st:=(st.push (skT (.p .nil) [] []) ⟨.nil,fun y hy=>(by cases hy),Heap.le_refl _⟩ (.inl ⟨rfl,rfl,rfl⟩)).perm (Us:=tjT g r qf ql qp TS.zero (.p .nil) [])
  (by
   refine List.Perm.trans (List.perm_append_comm (l₁:=[skT (.p .nil) [] []])) ?_
   exact (List.Perm.swap _ _ _).cons _)
 clear hr hql hqf hqp
 refine L78_0_rule ((0:Nat),TS.zero,(.p .nil:AV),([]:List Nat),G4) (fun z=>I z.1) (fun z=>z.2.2.2.2)
  (fun z=>z.1≤g.length∧TInv (aO_ (rwF g)) g.length [] z.2.1∧(∀u,u < z.1→z.2.1.fd u≠0)∧St H (tjT g r qf ql qp z.2.1 z.2.2.1 z.2.2.2.1) z.2.2.2.2) (fun z=>g.length - z.1)
  ⟨⟨by simp,T_zero _ _,fun u hu=>by omega,st⟩,.refl _,Heap.le_refl _⟩ ?_
 clear st
 rintro ⟨k,t,x,D,G⟩ ⟨hk,ht,hd,st⟩
 dsimp only at hk ht hd st
 have e5:IntKind.i64.wrap ((k:Int)+1)=((k+1:Nat):Int):=by rw [i6_ (by omega) (by omega)];simp
 (try simp (maxSteps:=1000000) (disch:=first | assumption | (apply ν6;assumption)) only [vz,vu,vv,eqS,eF_,↓c1_,↓c2_,tabs,reduceCtorEq,ι5,↓reduceIte,ν1,ν2,ν3,ν4,ν5,ι1,ι2,ι3,ι4,B78_0])
 refine ⟨fun h1=>?_,fun h1=>?_⟩
 ·have hlt:k < g.length:=by omega
  have hkf:=rdN t.fd hlt
  (try simp (maxSteps:=1000000) (disch:=first | assumption | (apply ν6;assumption)) only [vz,vu,vv,eqS,eF_,↓c1_,↓c2_,tabs,reduceCtorEq,ι5,↓reduceIte,ν1,ν2,ν3,ν4,ν5,ι1,ι2,ι3,ι4,lA_ (st.get 0 rfl),lA_ (st.get 1 rfl),lnN,mpI_len,hkf,Int.toNat_natCast])
  refine ⟨by omega,by omega,by omega,fun h2=>?_,fun h2=>?_⟩
  ·refine visit_spec g hg r qf ql qp g.length [] t k x D G _ (by omega) ht hlt h2 (fun y hy=>by cases hy) st fun t' x' D' G' ht' hp st=>?_
   (try simp (maxSteps:=1000000) (disch:=first | assumption | (apply ν6;assumption)) only [vz,vu,vv,eqS,eF_,↓c1_,↓c2_,tabs,reduceCtorEq,ι5,↓reduceIte,ν1,ν2,ν3,ν4,ν5,ι1,ι2,ι3,ι4,e5])
   refine ⟨(k+1,t',x',D',G'),⟨by simp only;omega,ht',fun u hu=>?_,st⟩,by simp only;omega,.refl _,Heap.le_refl _⟩
   simp only at hu ⊢
   by_cases e:u=k
   ·subst e;exact hp.fv
   ·have:=hd u (by omega)
    rw [hp.fdk u this];exact this
  ·(try simp (maxSteps:=1000000) (disch:=first | assumption | (apply ν6;assumption)) only [vz,vu,vv,eqS,eF_,↓c1_,↓c2_,tabs,reduceCtorEq,ι5,↓reduceIte,ν1,ν2,ν3,ν4,ν5,ι1,ι2,ι3,ι4,e5])
   refine ⟨(k+1,t,x,D,G),⟨by simp only;omega,ht,fun u hu=>?_,st⟩,by simp only;omega,.refl _,Heap.le_refl _⟩
   simp only at hu ⊢
   by_cases e:u=k
   ·subst e;exact h2
   ·exact hd u (by omega)
 ·have:k=g.length:=by omega
  subst this
  have e:mpI t.pt g.length=prtI g:=by
   unfold prtI mpI
   apply List.map_congr_left
   intro v hv
   exact T_end ht (hd v (List.mem_range.1 hv))
  (try simp (maxSteps:=1000000) (disch:=first | assumption | (apply ν6;assumption)) only [vz,vu,vv,eqS,eF_,↓c1_,↓c2_,tabs,reduceCtorEq,ι5,↓reduceIte,ν1,ν2,ν3,ν4,ν5,ι1,ι2,ι3,ι4,lA_ (st.get 0 rfl)])
  have:=st_int st 3 rfl
  rw [rowP,mpI_len,e] at this
  exact this
end Go.Proofs.YtohkciilfkhomaaGreat
namespace Go.Pt
structure DS where
 seen:Nat→Bool
 out:List Nat
def updB (f:Nat→Bool) (v:Nat) (x:Bool):Nat→Bool:=fun u=>if u=v then x else f u
theorem updB_same (f:Nat→Bool) (v:Nat) (x:Bool):updB f v x v=x:=if_pos rfl
theorem updB_ne (f:Nat→Bool) {u v:Nat} (x:Bool) (h:u≠v):updB f v x u=f u:=if_neg h
def cntB (f:Nat→Bool) (n:Nat):Nat:=(List.range n).countP f
theorem cntB_le (f:Nat→Bool) (n:Nat):cntB f n≤n:=by
 have:=List.countP_le_length (p:=f) (l:=List.range n)
 rwa [List.length_range] at this
theorem cntB_mono {f g:Nat→Bool} {n:Nat} (h:∀u,f u=true→g u=true):cntB f n≤cntB g n:=List.countP_mono_left fun u _=>h u
theorem cntB_upd {f:Nat→Bool} {n v:Nat} (h:v < n) (h0:f v=false):cntB (updB f v true) n=cntB f n+1:=by
 unfold cntB
 induction n with
 | zero=>omega
 | succ n ih=>
  rw [List.range_succ,List.countP_append,List.countP_append]
  by_cases e:v=n
  ·subst e
   have:List.countP (updB f v true) (List.range v)=List.countP f (List.range v):=by
    apply List.countP_congr
    intro u hu
    have:=List.mem_range.1 hu
    rw [updB_ne _ _ (by omega)]
   rw [this]
   simp [updB_same,h0]
  ·rw [ih (by omega)]
   have:List.countP (updB f v true) [n]=List.countP f [n]:=by
    simp [List.countP_cons,updB_ne f true (show n≠v by omega)]
   rw [this];omega
structure DInv (E:Nat→Nat→Prop) (n:Nat) (S0:Nat→Prop) (gray:List Nat) (s:DS):Prop where
 sn:∀v,s.seen v=true↔S0 v∨v∈s.out∨v∈gray
 dis:∀v∈s.out,¬S0 v∧v∉gray
 nd:s.out.Nodup
 lt:∀v∈s.out,v < n
 blk:∀v∈s.out,∀w,E v w→s.seen w=true
 fin:∀v∈s.out,∀x,Rch E v x→(∃y∈gray,Con E v y)∨(∃z,S0 z∧Rch E v z)∨∃y∈s.out,Con E v y∧x∈s.out∧s.out.idxOf x≤s.out.idxOf y
structure DPost (E:Nat→Nat→Prop) (s s':DS) (v:Nat):Prop where
 sv:s'.seen v=true
 mono:∀u,s.seen u=true→s'.seen u=true
 ext:∃N,s'.out=s.out++N∧∀x∈N,Rch E v x
structure DLoop (E:Nat→Nat→Prop) (n:Nat) (S0:Nat→Prop) (gray:List Nat) (s:DS) (v:Nat) (done:Nat→Prop) (t:DS):Prop where
 inv:DInv E n S0 (v::gray) t
 ext:∃N,t.out=s.out++N∧∀x∈N,Rch E v x
 sv:t.seen v=true
 mono:∀u,s.seen u=true→t.seen u=true
 don:∀w,done w→t.seen w=true
theorem DPost.skip {E:Nat→Nat→Prop} {s:DS} {v:Nat} (h:s.seen v=true):DPost E s s v:=⟨h,fun _ h=>h,[],by simp,by simp⟩
theorem D_start {E:Nat→Nat→Prop} {n:Nat} {S0:Nat→Prop} {gray:List Nat} {s:DS} {v:Nat} (h:DInv E n S0 gray s) (h0:s.seen v=false):DLoop E n S0 gray s v (fun _=>False) ⟨updB s.seen v true,s.out⟩:=by
 have hn:¬(S0 v∨v∈s.out∨v∈gray):=fun hk=>by rw [(h.sn v).2 hk] at h0;cases h0
 have hk:∀u,s.seen u=true→updB s.seen v true u=true:=fun u hu=>by
  unfold updB
  split
  ·rfl
  ·exact hu
 refine ⟨⟨fun u=>?_,fun u hu=>?_,h.nd,h.lt,fun u hu w hw=>hk w (h.blk u hu w hw),fun u hu x hx=>?_⟩,⟨[],by simp,by simp⟩,updB_same _ _ _,hk,fun w hw=>hw.elim⟩
 ·show updB s.seen v true u=true↔S0 u∨u∈s.out∨u∈v::gray
  by_cases e:u=v
  ·subst e;rw [updB_same];simp
  ·rw [updB_ne _ _ e,h.sn u];simp [e]
 ·refine ⟨(h.dis u hu).1,fun hm=>?_⟩
  rcases List.mem_cons.1 hm with rfl | hm
  ·exact hn (.inr (.inl hu))
  ·exact (h.dis u hu).2 hm
 ·rcases h.fin u hu x hx with ⟨y,h1,h2⟩ | h1
  ·exact .inl ⟨y,List.mem_cons_of_mem _ h1,h2⟩
  ·exact .inr h1
theorem D_call {E:Nat→Nat→Prop} {n:Nat} {S0:Nat→Prop} {gray:List Nat} {s t t':DS} {v w:Nat} {done:Nat→Prop} (h:DLoop E n S0 gray s v done t) (hE:E v w) (h':DInv E n S0 (v::gray) t') (p:DPost E t t' w) :
  DLoop E n S0 gray s v (fun u=>done u∨u=w) t':=by
 obtain ⟨N,h1,h2⟩:=h.ext
 obtain ⟨M,g1,g2⟩:=p.ext
 refine ⟨h',⟨N++M,by rw [g1,h1,List.append_assoc],fun x hx=>?_⟩,p.mono v h.sv,fun u hu=>p.mono u (h.mono u hu),fun u hu=>?_⟩
 ·rcases List.mem_append.1 hx with hx | hx
  ·exact h2 x hx
  ·exact .step hE (g2 x hx)
 ·rcases hu with hu | rfl
  ·exact p.mono u (h.don u hu)
  ·exact p.sv
theorem idx_app {l m:List Nat} {x:Nat} (h:x∈l):(l++m).idxOf x=l.idxOf x:=by
 rw [List.idxOf_append,if_pos h]
theorem D_fin {E:Nat→Nat→Prop} {n:Nat} {S0:Nat→Prop} {gray:List Nat} {s t:DS} {v:Nat} {done:Nat→Prop} (h:DLoop E n S0 gray s v done t) (hi:DInv E n S0 gray s) (hv:v < n) (h0:s.seen v=false)
  (hr:∀x∈gray,Rch E x v) (hd:∀w,E v w→done w):DInv E n S0 gray ⟨t.seen,t.out++[v]⟩∧DPost E s ⟨t.seen,t.out++[v]⟩ v:=by
 have hn:¬(S0 v∨v∈s.out∨v∈gray):=fun hk=>by rw [(hi.sn v).2 hk] at h0;cases h0
 simp only [not_or] at hn
 have hvo:v∉t.out:=fun hm=>(h.inv.dis v hm).2 (List.mem_cons_self ..)
 have hblk:∀u∈t.out++[v],∀w,E u w→t.seen w=true:=by
  intro u hu w hw
  rcases List.mem_append.1 hu with hu | hu
  ·exact h.inv.blk u hu w hw
  ·rw [List.mem_singleton] at hu;subst hu
   exact h.don w (hd w hw)
 have F:∀x,Rch E v x→(∃y∈gray,Con E v y)∨(∃z,S0 z∧Rch E v z)∨x∈t.out++[v]:=by
  intro x hx
  by_cases hm:x∈t.out++[v]
  ·exact .inr (.inr hm)
  ·obtain ⟨a,b,p1,p2,p3,p4,p5⟩:=hx.leave (P:=fun z=>z∈t.out++[v]) (by simp) hm
   have hb:=(h.inv.sn b).1 (hblk a p1 b p3)
   rcases hb with hb | hb | hb
   ·exact .inr (.inl ⟨b,hb,p4.snoc p3⟩)
   ·exact absurd (List.mem_append_left _ hb) p2
   ·rcases List.mem_cons.1 hb with rfl | hb
    ·exact absurd (by simp) p2
    ·exact .inl ⟨b,hb,p4.snoc p3,hr b hb⟩
 have hlast:∀x∈t.out++[v],(t.out++[v]).idxOf x≤(t.out++[v]).idxOf v:=by
  intro x hx
  have e:(t.out++[v]).idxOf v=t.out.length:=by rw [List.idxOf_append,if_neg hvo];simp
  rw [e]
  have:=List.idxOf_lt_length_iff.2 hx
  rw [List.length_append,List.length_singleton] at this
  omega
 have G:∀u,Con E u v→∀x,Rch E u x→(∃y∈gray,Con E u y)∨(∃z,S0 z∧Rch E u z)∨∃y∈t.out++[v],Con E u y∧x∈t.out++[v]∧(t.out++[v]).idxOf x≤(t.out++[v]).idxOf y:=by
  intro u hu x hx
  rcases F x (hu.2.trans hx) with ⟨y,h1,h2⟩ | ⟨z,h1,h2⟩ | h1
  ·exact .inl ⟨y,h1,hu.trans h2⟩
  ·exact .inr (.inl ⟨z,h1,hu.1.trans h2⟩)
  ·exact .inr (.inr ⟨v,by simp,hu,h1,hlast x h1⟩)
 obtain ⟨N,k1,k2⟩:=h.ext
 refine ⟨⟨fun u=>?_,fun u hu=>?_,?_,fun u hu=>?_,hblk,fun u hu x hx=>?_⟩,h.sv,h.mono,N++[v],by simp only;rw [k1,List.append_assoc],fun x hx=>?_⟩
 ·rw [h.inv.sn u]
  simp only [List.mem_cons,List.mem_append,List.not_mem_nil,or_false]
  constructor
  ·rintro (a | a | a | a)
   ·exact .inl a
   ·exact .inr (.inl (.inl a))
   ·exact .inr (.inl (.inr a))
   ·exact .inr (.inr a)
  ·rintro (a | (a | a) | a)
   ·exact .inl a
   ·exact .inr (.inl a)
   ·exact .inr (.inr (.inl a))
   ·exact .inr (.inr (.inr a))
 ·rcases List.mem_append.1 hu with hu | hu
  ·exact ⟨(h.inv.dis u hu).1,fun hm=>(h.inv.dis u hu).2 (List.mem_cons_of_mem _ hm)⟩
  ·rw [List.mem_singleton] at hu;subst hu
   exact ⟨hn.1,hn.2.2⟩
 ·show (t.out++[v]).Nodup
  rw [List.nodup_append]
  exact ⟨h.inv.nd,by simp,fun a ha b hb e=>by rw [List.mem_singleton] at hb;subst hb;exact hvo (e ▸ ha)⟩
 ·rcases List.mem_append.1 hu with hu | hu
  ·exact h.inv.lt u hu
  ·rw [List.mem_singleton] at hu;subst hu;exact hv
 ·rcases List.mem_append.1 hu with hu | hu
  ·rcases h.inv.fin u hu x hx with ⟨y,h1,h2⟩ | h1 | ⟨y,h1,h2,h3,h4⟩
   ·rcases List.mem_cons.1 h1 with rfl | h1
    ·exact G u h2 x hx
    ·exact .inl ⟨y,h1,h2⟩
   ·exact .inr (.inl h1)
   ·refine .inr (.inr ⟨y,List.mem_append_left _ h1,h2,List.mem_append_left _ h3,?_⟩)
    show (t.out++[v]).idxOf x≤(t.out++[v]).idxOf y
    rw [idx_app h3,idx_app h1];exact h4
  ·rw [List.mem_singleton] at hu;subst hu
   exact G u (.refl _) x hx
 ·rcases List.mem_append.1 hx with hx | hx
  ·exact k2 x hx
  ·rw [List.mem_singleton] at hx;subst hx;exact .refl _
structure Left (E:Nat→Nat→Prop) (n:Nat) (L:List Nat):Prop where
 mem:∀v,v < n↔v∈L
 nd:L.Nodup
 fin:∀v∈L,∀x,Rch E v x→∃y∈L,Con E v y∧x∈L∧L.idxOf x≤L.idxOf y
theorem D_zero (E:Nat→Nat→Prop) (n:Nat):DInv E n (fun _=>False) [] ⟨fun _=>false,[]⟩:=⟨fun v=>by simp,fun v hv=>(by cases hv),.nil,fun v hv=>(by cases hv),fun v hv=>(by cases hv),fun v hv=>(by cases hv)⟩
theorem D_left {E:Nat→Nat→Prop} {n:Nat} {s:DS} (h:DInv E n (fun _=>False) [] s) (ha:∀v,v < n→s.seen v=true):Left E n s.out:=by
 refine ⟨fun v=>⟨fun hv=>?_,h.lt v⟩,h.nd,fun v hv x hx=>?_⟩
 ·rcases (h.sn v).1 (ha v hv) with k | k | k
  ·exact k.elim
  ·exact k
  ·cases k
 ·rcases h.fin v hv x hx with ⟨y,k,_⟩ | ⟨z,k,_⟩ | k
  ·cases k
  ·exact k.elim
  ·exact k
theorem D_part {E:Nat→Nat→Prop} {n:Nat} {L P Q:List Nat} {u:Nat} (hL:Left E n L) (e:L=P++u::Q) {S0:Nat→Prop} (hS:∀v,v < n→(S0 v↔∃q∈Q,Con E v q)) (hn:∀x y,E x y→x < n∧y < n)
  {t:DS} (h:DInv (fun x y=>E y x) n S0 [] t) (hu:t.seen u=true) (hu0:¬S0 u) (hr:∀x∈t.out,Rch (fun x y=>E y x) u x):∀x,x∈t.out↔Con E u x:=by
 have hun:u < n:=(hL.mem u).2 (by rw [e];simp)
 have huo:u∈t.out:=by
  rcases (h.sn u).1 hu with k | k | k
  ·exact absurd k hu0
  ·exact k
  ·cases k
 intro x
 constructor
 ·intro hx
  have hxu:Rch E x u:=by simpa using (hr x hx).rev
  obtain ⟨y,h1,h2,h3,h4⟩:=hL.fin x ((hL.mem x).1 (h.lt x hx)) u hxu
  have huP:u∉P:=by
   intro hm
   have:=hL.nd
   rw [e,List.nodup_append] at this
   exact this.2.2 u hm u (List.mem_cons_self ..) rfl
  have hiu:L.idxOf u=P.length:=by rw [e,List.idxOf_append,if_neg huP];simp
  have hy:y∈u::Q:=by
   rw [e] at h1
   rcases List.mem_append.1 h1 with h1 | h1
   ·exfalso
    have:L.idxOf y=P.idxOf y:=by rw [e,idx_app h1]
    have:=List.idxOf_lt_length_iff.2 h1
    omega
   ·exact h1
  rcases List.mem_cons.1 hy with rfl | hy
  ·exact h2.symm
  ·exact absurd ((hS x (h.lt x hx)).2 ⟨y,hy,h2⟩) (h.dis x hx).1
 ·intro hx
  refine Classical.byContradiction fun hm=>?_
  obtain ⟨a,b,p1,p2,p3,p4,p5⟩:=(Con.rev hx).1.leave (P:=fun z=>z∈t.out) huo hm
  have hb:Con E u b:=by
   have h1:Rch (fun x y=>E y x) u b:=p4.snoc p3
   have h2:Rch (fun x y=>E y x) b u:=p5.trans (Con.rev hx).2
   exact ⟨by simpa using h2.rev,by simpa using h1.rev⟩
  rcases (h.sn b).1 (h.blk a p1 b p3) with k | k | k
  ·have hbn:b < n:=(hn _ _ p3).1
   obtain ⟨q,q1,q2⟩:=(hS b hbn).1 k
   exact hu0 ((hS u hun).2 ⟨q,q1,hb.trans q2⟩)
  ·exact p2 k
  ·cases k
theorem D_zero' (E:Nat→Nat→Prop) (n:Nat) (seen:Nat→Bool):DInv E n (fun v=>seen v=true) [] ⟨seen,[]⟩:=⟨fun v=>by simp,fun v hv=>(by cases hv),.nil,fun v hv=>(by cases hv),fun v hv=>(by cases hv),fun v hv=>(by cases hv)⟩
end Go.Pt
namespace Go.Proofs.YtohkciilfkhomaaGreat
open Go Go.Sep Go.Pt
attribute [local irreducible] CallT
def mpB (f:Nat→Bool) (n:Nat):List Bool:=(List.range n).map f
theorem mpB_len (f:Nat→Bool) (n:Nat):(mpB f n).length=n:=by simp [mpB]
theorem mpB_get (f:Nat→Bool) {n v:Nat} (h:v < n):(mpB f n).getD v default=f v:=by simp [mpB,List.getD,h]
theorem mpB_set (f:Nat→Bool) (n v:Nat) (x:Bool):(mpB f n).set v x=mpB (updB f v x) n:=by
 apply List.ext_getElem
 ·simp [mpB]
 ·intro i h1 h2
  simp only [mpB,List.getElem_set,List.getElem_map,List.getElem_range,updB]
  by_cases e:v=i
  ·subst e;simp
  ·have:¬i=v:=fun k=>e k.symm
   simp [e,this]
theorem rdB (f:Nat→Bool) {n v:Nat} (h:v < n):(List.take 1 (List.drop (v*1) (cP fB (mpB f n)))).headD Q_=B (f v):=by
 rw [mapB_rd (by rw [mpB_len];exact h),mpB_get f h]
theorem lnB (f:Nat→Bool) (n:Nat):(cP fB (mpB f n)).length=n:=by rw [cP,List.length_map,mpB_len]
theorem setB (f:Nat→Bool) {n v:Nat} (h:v < n) (x:Bool):List.take (v*1) (cP fB (mpB f n))++[B x]++List.drop (v*1+1) (cP fB (mpB f n))=cP fB (mpB (updB f v x) n):=by
 rw [cB_set (by rw [mpB_len];exact h),mpB_set]
abbrev wkT (g:List (List Nat)) (r qs:Nat) (s:DS) (x:AV) (D:List Nat) (rest:List Th):List Th:=
 cT_ r [Ls (gI g),.sl qs 1 0 g.length,x]::cT_ qs (cP fB (mpB s.seen g.length))::skT x s.out D::rest
theorem DInv.out_len {E:Nat→Nat→Prop} {n:Nat} {S0:Nat→Prop} {gray:List Nat} {s:DS} (h:DInv E n S0 gray s):s.out.length≤n:=nodup_len n s.out h.nd h.lt
theorem walk_spec (g:List (List Nat)) (hg:GrB g) (S0:Nat→Prop) {H:Heap} (r qs:Nat) (rest:List Th):∀(m:Nat) (gray:List Nat) (s:DS) (v:Nat) (x:AV) (D:List Nat) (G:Heap) (K:AV→Heap→Prop),g.length - cntB s.seen g.length=m→DInv (aO_ (rwF g)) g.length S0 gray s→v < g.length→
  (∀y∈gray,Rch (aO_ (rwF g)) y v)→St H (wkT g r qs s x D rest) G→
  (∀s' x' D' G',DInv (aO_ (rwF g)) g.length S0 gray s'→DPost (aO_ (rwF g)) s s' v→(s.seen v=true→s'=s)→St H (wkT g r qs s' x' D' rest) G'→K (.tup []) G')→CallT Tryz.prog 118 [.ptr r 0,I v] G K:=by
 intro m
 induction m using Nat.strongRecOn with
 | ind m ih=>
  intro gray s v x D G K hm hi hv hr st hK
  have hn:=hg.n
  have hrv:=rdB s.seen hv
  refine W118_ok ?_;simp (maxSteps:=1000000) (disch:=first | assumption | (apply ν6;assumption)) only [W118,vz,vu,vv,eqS,eF_,↓c1_,↓c2_,tabs,reduceCtorEq,ι5,↓reduceIte,ν1,ν2,ν3,ν4,ν5,ι1,ι2,ι3,ι4,lA_ (st.get 0 rfl),lA_ (st.get 1 rfl),lnB,mpB_len,hrv,Int.toNat_natCast]
  refine ⟨by omega,by omega,by omega,?_⟩
  cases hsv:s.seen v
  ·(try simp (maxSteps:=1000000) (disch:=first | assumption | (apply ν6;assumption)) only [vz,vu,vv,eqS,eF_,↓c1_,↓c2_,tabs,reduceCtorEq,ι5,↓reduceIte,ν1,ν2,ν3,ν4,ν5,ι1,ι2,ι3,ι4,sA_ (st.get 1 rfl),lnB,mpB_len,Int.toNat_natCast])
   refine ⟨by omega,by omega,by omega,?_⟩
   have hset:=setB s.seen hv true
   rw [hset]
   replace st:=st.put 1 rfl (cP fB (mpB (updB s.seen v true) g.length))
   generalize G.set qs (cP fB (mpB (updB s.seen v true) g.length))=G1 at st ⊢
   simp only [List.set_cons_zero,List.set_cons_succ] at st
   have hl0:=D_start hi hsv
   have hgl:=gI_len g
   have hrn:=nL_ (rwF g v)
   have hrl:=hg.row hv
   (try simp (maxSteps:=1000000) (disch:=first | assumption | (apply ν6;assumption)) only [vz,vu,vv,eqS,eF_,↓c1_,↓c2_,tabs,reduceCtorEq,ι5,↓reduceIte,ν1,ν2,ν3,ν4,ν5,ι1,ι2,ι3,ι4,lA_ (st.get 0 rfl),hgl])
   refine ⟨by omega,by omega,?_⟩
   rw [gI_get hv]
   (try simp (maxSteps:=1000000) (disch:=first | assumption | (apply ν6;assumption)) only [vz,vu,vv,eqS,eF_,↓c1_,↓c2_,tabs,reduceCtorEq,ι5,↓reduceIte,ν1,ν2,ν3,ν4,ν5,ι1,ι2,ι3,ι4,hrn])
   refine L118_0_rule ((0:Nat),(⟨updB s.seen v true,s.out⟩:DS),x,D,G1) (fun z=>I z.1) (fun z=>z.2.2.2.2)
    (fun z=>z.1≤(rwF g v).length∧DLoop (aO_ (rwF g)) g.length S0 gray s v (fun w=>w∈(rwF g v).take z.1) z.2.1∧St H (wkT g r qs z.2.1 z.2.2.1 z.2.2.2.1 rest) z.2.2.2.2) (fun z=>(rwF g v).length - z.1)
    ⟨⟨by simp,⟨hl0.inv,hl0.ext,hl0.sv,hl0.mono,fun u hu=>by simp at hu⟩,st⟩,.refl _,Heap.le_refl _⟩ ?_
   clear st hl0 hset
   rintro ⟨j,t,y,E,G⟩ ⟨hj,hl,st⟩
   dsimp only at hj hl st
   have e5:IntKind.i64.wrap ((j:Int)+1)=((j+1:Nat):Int):=by rw [i6_ (by omega) (by omega)];simp
   (try simp (maxSteps:=1000000) (disch:=first | assumption | (apply ν6;assumption)) only [vz,vu,vv,eqS,eF_,↓c1_,↓c2_,tabs,reduceCtorEq,ι5,↓reduceIte,ν1,ν2,ν3,ν4,ν5,ι1,ι2,ι3,ι4,B118_0,hrn])
   refine ⟨fun h2=>?_,fun h2=>?_⟩
   ·have hlj:j < (rwF g v).length:=by omega
    refine ⟨by omega,h2,?_⟩
    rw [nI_get hlj]
    have hw:=hg.lt hlj
    have hE:aO_ (rwF g) v ((rwF g v).getD j 0):=by simp [aO_,List.getD,hlj]
    have htk:∀u,u∈(rwF g v).take (j+1)→u∈(rwF g v).take j∨u=(rwF g v).getD j 0:=by
     intro u hu
     rw [tS_ hlj,List.mem_append,List.mem_singleton] at hu
     exact hu
    generalize (rwF g v).getD j 0=w at hw hE htk ⊢
    have hms:cntB s.seen g.length+1≤cntB t.seen g.length:=by
     rw [← cntB_upd hv hsv]
     refine cntB_mono fun u hu=>?_
     unfold updB at hu
     split at hu
     ·rename_i e;subst e;exact hl.sv
     ·exact hl.mono u hu
    have hmb:=cntB_le t.seen g.length
    refine ih _ (by omega) (v::gray) t w y E G _ rfl hl.inv hw (fun z hz=>?_) st fun t' y' E' G' hi' hp' _ st=>?_
    ·rcases List.mem_cons.1 hz with rfl | hz
     ·exact .one hE
     ·exact (hr z hz).snoc hE
    have hnx:=D_call hl hE hi' hp'
    (try simp (maxSteps:=1000000) (disch:=first | assumption | (apply ν6;assumption)) only [vz,vu,vv,eqS,eF_,↓c1_,↓c2_,tabs,reduceCtorEq,ι5,↓reduceIte,ν1,ν2,ν3,ν4,ν5,ι1,ι2,ι3,ι4,e5])
    exact ⟨(j+1,t',y',E',G'),⟨by simp only;omega,⟨hnx.inv,hnx.ext,hnx.sv,hnx.mono,fun u hu=>hnx.don u (htk u hu)⟩,st⟩,by simp only;omega,.refl _,Heap.le_refl _⟩
   ·have:j=(rwF g v).length:=by omega
    subst this
    rw [List.take_length] at hl
    have hol:=DInv.out_len hl.inv
    obtain ⟨a,b⟩:=D_fin hl hi hv hsv hr fun w hw=>hw
    (try simp (maxSteps:=1000000) (disch:=first | assumption | (apply ν6;assumption)) only [vz,vu,vv,eqS,eF_,↓c1_,↓c2_,tabs,reduceCtorEq,ι5,↓reduceIte,ν1,ν2,ν3,ν4,ν5,ι1,ι2,ι3,ι4,lA_ (st.get 0 rfl)])
    refine lit1 tab_24 rfl tab_3 ⟨rfl,rfl⟩ ?_
    refine sk_app (w:=v) st 2 rfl (by omega) fun q' G' st=>?_
    simp only [List.set_cons_zero,List.set_cons_succ] at st
    (try simp (maxSteps:=1000000) (disch:=first | assumption | (apply ν6;assumption)) only [vz,vu,vv,eqS,eF_,↓c1_,↓c2_,tabs,reduceCtorEq,ι5,↓reduceIte,ν1,ν2,ν3,ν4,ν5,ι1,ι2,ι3,ι4,sA_ (st.get 0 rfl)])
    replace st:=st.put 0 rfl [Ls (gI g),.sl qs 1 0 g.length,.sl q' 1 0 (t.out.length+1)]
    exact hK _ (.sl q' 1 0 (t.out.length+1)) [q'] _ a b (fun h=>by rw [hsv] at h;cases h) st
  ·(try simp (maxSteps:=1000000) (disch:=first | assumption | (apply ν6;assumption)) only [vz,vu,vv,eqS,eF_,↓c1_,↓c2_,tabs,reduceCtorEq,ι5,↓reduceIte,ν1,ν2,ν3,ν4,ν5,ι1,ι2,ι3,ι4])
   exact hK s x D G hi (DPost.skip hsv) (fun _=>rfl) st
theorem len_SK {x:AV} {l:List Nat} {G:Heap} {D:List Nat} (h:SK x l G D):x=.p .nil∧l=[]∨∃q J,x=.sl q 1 0 l.length∧G q=some (cP fI (nI l++J)):=by
 rcases h with ⟨h1,h2,_⟩ | ⟨q,J,h1,h2,_⟩
 ·exact .inl ⟨h1,h2⟩
 ·exact .inr ⟨q,J,h1,h2⟩
theorem lenV_SK {x:AV} {l:List Nat} {G:Heap} {D:List Nat} (h:SK x l G D) {K:AV→Prop}:lenV tab 24 x K=K (I l.length):=by
 rcases h with ⟨rfl,rfl,_⟩ | ⟨q,J,rfl,h2,_⟩
 ·(try simp (maxSteps:=1000000) (disch:=first | assumption | (apply ν6;assumption)) only [vz,vu,vv,eqS,eF_,↓c1_,↓c2_,tabs,reduceCtorEq,ι5,↓reduceIte,ν1,ν2,ν3,ν4,ν5,ι1,ι2,ι3,ι4]);rfl
 ·(try simp (maxSteps:=1000000) (disch:=first | assumption | (apply ν6;assumption)) only [vz,vu,vv,eqS,eF_,↓c1_,↓c2_,tabs,reduceCtorEq,ι5,↓reduceIte,ν1,ν2,ν3,ν4,ν5,ι1,ι2,ι3,ι4])
theorem rdSK {l:List Nat} {J:List Int} {j:Nat} (h:j < l.length):(List.take 1 (List.drop (j*1) (cP fI (nI l++J)))).headD Q_=I ((l.getD j 0:Nat):Int):=by
 rw [cI_rd (by rw [List.length_append,nL_];omega)]
 have:(nI l++J).getD j default=((l.getD j 0:Nat):Int):=by
  rw [← nI_get h]
  simp only [List.getD]
  rw [List.getElem?_append_left (by rw [nL_];exact h)]
 rw [this]
theorem lnSK (l:List Nat) (J:List Int):(cP fI (nI l++J)).length=l.length+J.length:=by rw [cI_len,List.length_append,nL_]
theorem makeN_B (n:Nat) (h:n≤1000000000):makeN tab 87 (I n) (I n)=some (fun r=>.sl r 1 0 n,cP fB (mpB (fun _=>false) n)):=by
 have e:zA_ n [B false]=cP fB (mpB (fun _=>false) n):=by rw [cB_zero];rfl
 simp only [makeN,tab_87,tab_4,ifN]
 rw [if_pos ⟨by omega,by omega,by omega,by omega⟩,← e]
 rfl
theorem turn_rel {g:List (List Nat)} (hg:GrB g):aO_ (rwF (turnG g))=fun x y=>aO_ (rwF g) y x:=by
 funext x y
 show (y∈rwF (turnG g) x)=(x∈rwF g y)
 rw [turnG_row hg.gr]
 exact propext (turn_arc hg.gr)
theorem foldl_min (n:Nat) (l:List Nat):(l.foldl min n≤n∧∀u∈l,l.foldl min n≤u)∧(l.foldl min n=n∨l.foldl min n∈l):=by
 induction l generalizing n with
 | nil=>simp
 | cons a l ih=>
  obtain ⟨⟨h1,h2⟩,h3⟩:=ih (min n a)
  rw [List.foldl_cons]
  refine ⟨⟨Nat.le_trans h1 (Nat.min_le_left _ _),fun u hu=>?_⟩,?_⟩
  ·rcases List.mem_cons.1 hu with rfl | hu
   ·exact Nat.le_trans h1 (Nat.min_le_right _ _)
   ·exact h2 u hu
  ·rcases h3 with h3 | h3
   ·rcases Nat.le_total n a with k | k
    ·left;rw [h3];exact Nat.min_eq_left k
    ·right;rw [h3,Nat.min_eq_right k];simp
   ·right;exact List.mem_cons_of_mem _ h3
theorem l11Parts_spec (g:List (List Nat)) (hg:GrB g) (hg2:GrB (turnG g)):Pu Tryz.prog 91 [Ls (gI g)] (Is (prtI g)):=by
 refine ⟨fun H=>CallT.fin ?_⟩
 have hn:=hg.n
 have hgl:=gI_len g
 have hmk:=makeN_B g.length (by omega)
 have ez:zA_ g.length [B false]=cP fB (mpB (fun _=>false) g.length):=by rw [cB_zero];rfl
 refine W91_ok ?_;simp (maxSteps:=1000000) (disch:=first | assumption | (apply ν6;assumption)) only [W91,vz,vu,vv,eqS,eF_,↓c1_,↓c2_,tabs,reduceCtorEq,ι5,↓reduceIte,ν1,ν2,ν3,ν4,ν5,ι1,ι2,ι3,ι4,hgl,mS_]
 refine ⟨by omega,by omega,by omega,by omega,fun qs hqs=>?_⟩
 rw [ez]
 (try simp (maxSteps:=1000000) (disch:=first | assumption | (apply ν6;assumption)) only [vz,vu,vv,eqS,eF_,↓c1_,↓c2_,tabs,reduceCtorEq,ι5,↓reduceIte,ν1,ν2,ν3,ν4,ν5,ι1,ι2,ι3,ι4])
 intro r hrs hr
 have st:=((St.nil H).cell hqs (cP fB (mpB (fun _=>false) g.length))).cell (r:=r) (by rw [Heap.set_other hrs];exact hr) [Ls (gI g),.sl qs 1 0 g.length,.p .nil]
 generalize (H.set qs (cP fB (mpB (fun _=>false) g.length))).set r [Ls (gI g),.sl qs 1 0 g.length,.p .nil]=G1 at st ⊢
 have st:=(st.push (skT (.p .nil) [] []) ⟨.nil,fun y hy=>(by cases hy),Heap.le_refl _⟩ (.inl ⟨rfl,rfl,rfl⟩)).perm (Us:=wkT g r qs ⟨fun _=>false,[]⟩ (.p .nil) [] []) (by exact List.perm_append_comm (l₁:=[skT (.p .nil) [] []]))
 clear hqs hrs hr
 refine L91_0_rule ((0:Nat),(⟨fun _=>false,[]⟩:DS),(.p .nil:AV),([]:List Nat),G1) (fun z=>I z.1) (fun z=>z.2.2.2.2)
  (fun z=>z.1≤g.length∧DInv (aO_ (rwF g)) g.length (fun _=>False) [] z.2.1∧(∀u,u < z.1→z.2.1.seen u=true)∧St H (wkT g r qs z.2.1 z.2.2.1 z.2.2.2.1 []) z.2.2.2.2) (fun z=>g.length - z.1)
  ⟨⟨by simp,D_zero _ _,fun u hu=>by omega,st⟩,.refl _,Heap.le_refl _⟩ ?_
 clear st
 rintro ⟨k,t,x,D,G⟩ ⟨hk,ht,hd,st⟩
 dsimp only at hk ht hd st
 (try simp (maxSteps:=1000000) (disch:=first | assumption | (apply ν6;assumption)) only [vz,vu,vv,eqS,eF_,↓c1_,↓c2_,tabs,reduceCtorEq,ι5,↓reduceIte,ν1,ν2,ν3,ν4,ν5,ι1,ι2,ι3,ι4,B91_0,hgl])
 refine ⟨fun h1=>?_,fun h1=>?_⟩
 ·have hlt:k < g.length:=by omega
  have e5:IntKind.i64.wrap ((k:Int)+1)=((k+1:Nat):Int):=by rw [i6_ (by omega) (by omega)];simp
  refine walk_spec g hg _ r qs [] _ [] t k x D G _ rfl ht hlt (fun y hy=>by cases hy) st fun t' x' D' G' ht' hp _ st=>?_
  (try simp (maxSteps:=1000000) (disch:=first | assumption | (apply ν6;assumption)) only [vz,vu,vv,eqS,eF_,↓c1_,↓c2_,tabs,reduceCtorEq,ι5,↓reduceIte,ν1,ν2,ν3,ν4,ν5,ι1,ι2,ι3,ι4,e5])
  refine ⟨(k+1,t',x',D',G'),⟨by simp only;omega,ht',fun u hu=>?_,st⟩,by simp only;omega,.refl _,Heap.le_refl _⟩
  simp only at hu ⊢
  by_cases e:u=k
  ·subst e;exact hp.sv
  ·exact hp.mono u (hd u (by omega))
 ·have:k=g.length:=by omega
  subst this
  have hL:=D_left ht hd
  have hLl:t.out.length≤g.length:=DInv.out_len ht
  (try simp (maxSteps:=1000000) (disch:=first | assumption | (apply ν6;assumption)) only [vz,vu,vv,eqS,eF_,↓c1_,↓c2_,tabs,reduceCtorEq,ι5,↓reduceIte,ν1,ν2,ν3,ν4,ν5,ι1,ι2,ι3,ι4,hmk,safeV,newV])
  refine Pu.use (sp_spec.l11Turn g hg) ?_
  intro qt hqt
  (try simp (maxSteps:=1000000) (disch:=first | assumption | (apply ν6;assumption)) only [vz,vu,vv,eqS,eF_,↓c1_,↓c2_,tabs,reduceCtorEq,ι5,↓reduceIte,ν1,ν2,ν3,ν4,ν5,ι1,ι2,ι3,ι4])
  intro r2 hr2t hr2
  replace st:=(st.cell hqt (cP fB (mpB (fun _=>false) g.length))).cell (r:=r2) (by rw [Heap.set_other hr2t];exact hr2) [Ls (gI (turnG g)),.sl qt 1 0 g.length,.p .nil]
  generalize (G.set qt (cP fB (mpB (fun _=>false) g.length))).set r2 [Ls (gI (turnG g)),.sl qt 1 0 g.length,.p .nil]=G3 at st ⊢
  (try simp (maxSteps:=1000000) (disch:=first | assumption | (apply ν6;assumption)) only [vz,vu,vv,eqS,eF_,↓c1_,↓c2_,tabs,reduceCtorEq,ι5,↓reduceIte,ν1,ν2,ν3,ν4,ν5,ι1,ι2,ι3,ι4,hgl,mS_])
  refine ⟨by omega,by omega,by omega,by omega,fun q3 hq3=>?_⟩
  have ez3:zA_ g.length [I 0]=cP fI (mpI (fun _=>0) g.length):=by rw [cP_rep,mpI_const]
  rw [ez3]
  replace st:=st.cell hq3 (cP fI (mpI (fun _=>0) g.length))
  generalize G3.set q3 (cP fI (mpI (fun _=>0) g.length))=G4 at st ⊢
  clear hq3 hr2 hr2t hqt
  have hgt:(turnG g).length=g.length:=turnG_len g
  have p3:∀{α:Type} (a b c:α) (l:List α),List.Perm (a::b::c::l) (b::c::a::l):=fun a b c l=>(List.Perm.swap b a _).trans ((List.Perm.swap c a _).cons b)
  (try simp (maxSteps:=1000000) (disch:=first | assumption | (apply ν6;assumption)) only [vz,vu,vv,eqS,eF_,↓c1_,↓c2_,tabs,reduceCtorEq,ι5,↓reduceIte,ν1,ν2,ν3,ν4,ν5,ι1,ι2,ι3,ι4,lA_ (st.get 3 rfl)])
  rw [lenV_SK (st.get 5 rfl)]
  have e0:IntKind.i64.wrap ((t.out.length:Int) - 1)=(t.out.length:Int) - 1:=i6_ (by omega) (by omega)
  (try simp (maxSteps:=1000000) (disch:=first | assumption | (apply ν6;assumption)) only [vz,vu,vv,eqS,eF_,↓c1_,↓c2_,tabs,reduceCtorEq,ι5,↓reduceIte,ν1,ν2,ν3,ν4,ν5,ι1,ι2,ι3,ι4,e0])
  have st:=(st.push (skT (.p .nil) [] []) ⟨.nil,fun y hy=>(by cases hy),Heap.le_refl _⟩ (.inl ⟨rfl,rfl,rfl⟩)).perm (Us:=wkT (turnG g) r2 qt ⟨fun _=>false,[]⟩ (.p .nil) [] [cT_ q3 (cP fI (mpI (fun _=>0) g.length)),cT_ r [Ls (gI g),.sl qs 1 0 g.length,x],cT_ qs (cP fB (mpB t.seen g.length)),skT x t.out D]) (by
   simp only [wkT,hgt]
   exact (List.perm_append_comm (l₁:=[_,_]) (l₂:=[_,_])).append_right _)
  refine L91_1_rule (t.out.length,(⟨fun _=>false,[]⟩:DS),(fun _=>(0:Int)),(.p .nil:AV),([]:List Nat),G4) (fun z=>I ((z.1:Int) - 1)) (fun z=>z.2.2.2.2.2)
   (fun z=>z.1≤t.out.length∧(∀v,v < g.length→(z.2.1.seen v=true↔∃q∈t.out.drop z.1,Con (aO_ (rwF g)) v q))∧(∀v,v < g.length→z.2.1.seen v=true→z.2.2.1 v=(partF (aO_ (rwF g)) v:Int))∧
    St H (wkT (turnG g) r2 qt z.2.1 z.2.2.2.1 z.2.2.2.2.1 [cT_ q3 (cP fI (mpI z.2.2.1 g.length)),cT_ r [Ls (gI g),.sl qs 1 0 g.length,x],cT_ qs (cP fB (mpB t.seen g.length)),skT x t.out D]) z.2.2.2.2.2) (fun z=>z.1)
   ⟨⟨Nat.le_refl _,fun v hv=>by simp,fun v hv h=>(by cases h),st⟩,.refl _,Heap.le_refl _⟩ ?_
  clear st
  rintro ⟨c,s2,po,x2,D2,G⟩ ⟨hc,hseen,hpo,st⟩
  dsimp only at hc hseen hpo st
  (try simp (maxSteps:=1000000) (disch:=first | assumption | (apply ν6;assumption)) only [vz,vu,vv,eqS,eF_,↓c1_,↓c2_,tabs,reduceCtorEq,ι5,↓reduceIte,ν1,ν2,ν3,ν4,ν5,ι1,ι2,ι3,ι4,B91_1])
  refine ⟨fun h2=>?_,fun h2=>?_⟩
  ·obtain ⟨c,rfl⟩:∃c',c=c'+1:=⟨c - 1,by omega⟩
   have hcl:c < t.out.length:=by omega
   (try simp (maxSteps:=1000000) (disch:=first | assumption | (apply ν6;assumption)) only [vz,vu,vv,eqS,eF_,↓c1_,↓c2_,tabs,reduceCtorEq,ι5,↓reduceIte,ν1,ν2,ν3,ν4,ν5,ι1,ι2,ι3,ι4,sA_ (st.get 0 rfl)])
   have hcur:=st.put 0 rfl [Ls (gI (turnG g)),.sl qt 1 0 (turnG g).length,.p .nil]
   have st:=((hcur.erase 2).push (skT (.p .nil) [] []) ⟨.nil,fun y hy=>(by cases hy),Heap.le_refl _⟩ (.inl ⟨rfl,rfl,rfl⟩)).perm (p3 _ _ _ _)
   clear hcur
   generalize G.set r2 [Ls (gI (turnG g)),.sl qt 1 0 (turnG g).length,.p .nil]=G5 at st ⊢
   have hx:SK x t.out G5 D:=st.get 6 rfl
   rcases len_SK hx with ⟨_,h0⟩ | ⟨qx,J,rfl,hqx⟩
   ·rw [h0] at hcl;simp at hcl
   have hrd:=rdSK (l:=t.out) (J:=J) hcl
   have e1:(((c+1:Nat):Int) - 1)=(c:Int):=by omega
   rw [e1] at h2 ⊢
   have hu:t.out.getD c 0∈t.out:=getD_all (p:=fun z=>z∈t.out) (d:=0) (fun _ k=>k) hcl
   have hsplit:t.out=t.out.take c++t.out.getD c 0::t.out.drop (c+1):=by
    conv=>lhs;rw [← List.take_append_drop c t.out,drop_cons hcl]
    rfl
   have hdrop:t.out.drop c=t.out.getD c 0::t.out.drop (c+1):=drop_cons hcl
   generalize t.out.getD c 0=u at hu hsplit hrd hdrop
   have hun:u < g.length:=(hL.mem u).2 hu
   have hln:=lnSK t.out J
   (try simp (maxSteps:=1000000) (disch:=first | assumption | (apply ν6;assumption)) only [vz,vu,vv,eqS,eF_,↓c1_,↓c2_,tabs,reduceCtorEq,ι5,↓reduceIte,ν1,ν2,ν3,ν4,ν5,ι1,ι2,ι3,ι4,lA_ (st.get 4 rfl),lA_ hqx,hrd,hln,Int.toNat_natCast])
   refine ⟨by omega,by omega,by omega,?_⟩
   refine walk_spec (turnG g) hg2 (fun v=>s2.seen v=true) r2 qt _ _ [] ⟨s2.seen,[]⟩ u (.p .nil) [] G5 _ rfl (D_zero' _ _ _) (by rw [hgt];exact hun) (fun y hy=>by cases hy) st fun t2 x3 D3 G6 ht2 hp2 hsame st=>?_
   rw [turn_rel hg,hgt] at ht2
   rw [turn_rel hg] at hp2
   (try simp (maxSteps:=1000000) (disch:=first | assumption | (apply ν6;assumption)) only [vz,vu,vv,eqS,eF_,↓c1_,↓c2_,tabs,reduceCtorEq,ι5,↓reduceIte,ν1,ν2,ν3,ν4,ν5,ι1,ι2,ι3,ι4,hgl,lA_ (st.get 0 rfl)])
   rw [lenV_SK (st.get 2 rfl)]
   have ho2:=DInv.out_len ht2
   have key:(∀v,v < g.length→(t2.seen v=true↔∃q∈t.out.drop c,Con (aO_ (rwF g)) v q))∧
     (∀v,v < g.length→t2.seen v=true→(if v∈t2.out then (((t2.out.foldl min g.length:Nat)):Int) else po v)=(partF (aO_ (rwF g)) v:Int))∧∀w∈t2.out,w < g.length:=by
    rw [hdrop]
    cases hus:s2.seen u
    ·have hu0:¬s2.seen u=true:=by rw [hus];simp
     have hout:=D_part hL hsplit (S0:=fun v=>s2.seen v=true) hseen (fun x y hxy=>⟨hg.gr.src hxy,hg.gr.lt x y hxy⟩) ht2 hp2.sv hu0 (fun z hz=>by
      obtain ⟨N,k1,k2⟩:=hp2.ext
      rw [k1] at hz
      exact k2 z (by simpa using hz))
     obtain ⟨⟨_,hm2⟩,hm3⟩:=foldl_min g.length t2.out
     have huo:u∈t2.out:=(hout u).2 (.refl _)
     have hmo:t2.out.foldl min g.length∈t2.out:=by
      rcases hm3 with h | h
      ·have:=hm2 u huo
       omega
      ·exact h
     refine ⟨fun v hv=>?_,fun v hv hsv=>?_,ht2.lt⟩
     ·rw [ht2.sn v]
      constructor
      ·rintro (k | k | k)
       ·obtain ⟨q,q1,q2⟩:=(hseen v hv).1 k
        exact ⟨q,List.mem_cons_of_mem _ q1,q2⟩
       ·exact ⟨u,List.mem_cons_self ..,((hout v).1 k).symm⟩
       ·cases k
      ·rintro ⟨q,q1,q2⟩
       rcases List.mem_cons.1 q1 with rfl | q1
       ·exact .inr (.inl ((hout v).2 q2.symm))
       ·exact .inl ((hseen v hv).2 ⟨q,q1,q2⟩)
     ·by_cases hvo:v∈t2.out
      ·rw [if_pos hvo]
       have hle:Least (aO_ (rwF g)) u (t2.out.foldl min g.length):=⟨(hout _).1 hmo,fun w hw=>hm2 w ((hout w).2 hw)⟩
       rw [partF_of (hle.of_con ((hout v).1 hvo))]
      ·rw [if_neg hvo]
       rcases (ht2.sn v).1 hsv with k | k | k
       ·exact hpo v hv k
       ·exact absurd k hvo
       ·cases k
    ·have e:=hsame hus
     subst e
     refine ⟨fun v hv=>?_,fun v hv hsv=>?_,fun w hw=>(by cases hw)⟩
     ·rw [hseen v hv]
      constructor
      ·rintro ⟨q,q1,q2⟩;exact ⟨q,List.mem_cons_of_mem _ q1,q2⟩
      ·rintro ⟨q,q1,q2⟩
       rcases List.mem_cons.1 q1 with rfl | q1
       ·obtain ⟨q',k1,k2⟩:=(hseen q hun).1 hus
        exact ⟨q',k1,q2.trans k2⟩
       ·exact ⟨q,q1,q2⟩
     ·rw [if_neg (by simp)];exact hpo v hv hsv
   obtain ⟨key1,key2,key3⟩:=key
   refine L91_2_rule (0:Nat) (fun j=>I ((t2.out.take j).foldl min g.length:Nat)) (fun j=>I j) (fun _=>G6) (fun j=>j≤t2.out.length) (fun j=>t2.out.length - j) ⟨by simp,.refl _,.refl _,Heap.le_refl _⟩ ?_
   intro j hj
   have e5:IntKind.i64.wrap ((j:Int)+1)=((j+1:Nat):Int):=by rw [i6_ (by omega) (by omega)];simp
   (try simp (maxSteps:=1000000) (disch:=first | assumption | (apply ν6;assumption)) only [vz,vu,vv,eqS,eF_,↓c1_,↓c2_,tabs,reduceCtorEq,ι5,↓reduceIte,ν1,ν2,ν3,ν4,ν5,ι1,ι2,ι3,ι4,B91_2])
   refine ⟨fun h3=>?_,fun h3=>?_⟩
   ·have hlj:j < t2.out.length:=by omega
    rcases len_SK (st.get 2 rfl) with ⟨_,h0⟩ | ⟨q4,J4,rfl,hq4⟩
    ·rw [h0] at hlj;simp at hlj
    have hrd4:=rdSK (l:=t2.out) (J:=J4) hlj
    have hln4:=lnSK t2.out J4
    have hmin:(t2.out.take (j+1)).foldl min g.length=min ((t2.out.take j).foldl min g.length) (t2.out.getD j 0):=by
     rw [tS_ hlj,List.foldl_append];rfl
    (try simp (maxSteps:=1000000) (disch:=first | assumption | (apply ν6;assumption)) only [vz,vu,vv,eqS,eF_,↓c1_,↓c2_,tabs,reduceCtorEq,ι5,↓reduceIte,ν1,ν2,ν3,ν4,ν5,ι1,ι2,ι3,ι4,lA_ hq4,hrd4,hln4,e5])
    refine ⟨by omega,by omega,by omega,fun h4=>?_,fun h4=>?_⟩
    ·refine ⟨j+1,by omega,by omega,?_,.refl _⟩
     rw [hmin,Nat.min_eq_right (by omega)];exact .refl _
    ·refine ⟨j+1,by omega,by omega,?_,.refl _⟩
     rw [hmin,Nat.min_eq_left (by omega)];exact .refl _
   ·have:j=t2.out.length:=by omega
    subst this
    rw [List.take_length]
    generalize t2.out.foldl min g.length=mm at key2
    (try simp (maxSteps:=1000000) (disch:=first | assumption | (apply ν6;assumption)) only [vz,vu,vv,eqS,eF_,↓c1_,↓c2_,tabs,reduceCtorEq,ι5,↓reduceIte,ν1,ν2,ν3,ν4,ν5,ι1,ι2,ι3,ι4,lA_ (st.get 0 rfl)])
    rw [lenV_SK (st.get 2 rfl)]
    refine L91_3_rule ((0:Nat),G6) (fun z=>I z.1) (fun z=>z.2)
     (fun z=>z.1≤t2.out.length∧St H (wkT (turnG g) r2 qt t2 x3 D3 [cT_ q3 (cP fI (mpI (fun v=>if v∈t2.out.take z.1 then (mm:Int) else po v) g.length)),cT_ r [Ls (gI g),.sl qs 1 0 g.length,.sl qx 1 0 t.out.length],cT_ qs (cP fB (mpB t.seen g.length)),skT (.sl qx 1 0 t.out.length) t.out D]) z.2) (fun z=>t2.out.length - z.1)
     ⟨⟨by simp,by simpa using st⟩,.refl _,Heap.le_refl _⟩ ?_
    clear st
    rintro ⟨j,G⟩ ⟨hj,st⟩
    dsimp only at hj st
    have e5:IntKind.i64.wrap ((j:Int)+1)=((j+1:Nat):Int):=by rw [i6_ (by omega) (by omega)];simp
    (try simp (maxSteps:=1000000) (disch:=first | assumption | (apply ν6;assumption)) only [vz,vu,vv,eqS,eF_,↓c1_,↓c2_,tabs,reduceCtorEq,ι5,↓reduceIte,ν1,ν2,ν3,ν4,ν5,ι1,ι2,ι3,ι4,B91_3])
    refine ⟨fun h3=>?_,fun h3=>?_⟩
    ·have hlj:j < t2.out.length:=by omega
     rcases len_SK (st.get 2 rfl) with ⟨_,h0⟩ | ⟨q4,J4,rfl,hq4⟩
     ·rw [h0] at hlj;simp at hlj
     have hrd4:=rdSK (l:=t2.out) (J:=J4) hlj
     have hln4:=lnSK t2.out J4
     have hw:=key3 (t2.out.getD j 0) (getD_all (p:=fun z=>z∈t2.out) (d:=0) (fun _ k=>k) hlj)
     have htk:t2.out.take (j+1)=t2.out.take j++[t2.out.getD j 0]:=tS_ hlj
     generalize t2.out.getD j 0=w at hw htk hrd4
     have hset:=setN (fun v=>if v∈t2.out.take j then (mm:Int) else po v) hw (mm:Int)
     have hup:updI (fun v=>if v∈t2.out.take j then (mm:Int) else po v) w (mm:Int)=fun v=>if v∈t2.out.take (j+1) then (mm:Int) else po v:=by
      funext z
      rw [htk]
      unfold updI
      by_cases e:z=w
      ·subst e;simp
      ·by_cases e2:z∈t2.out.take j<;>simp [e,e2]
     (try simp (maxSteps:=1000000) (disch:=first | assumption | (apply ν6;assumption)) only [vz,vu,vv,eqS,eF_,↓c1_,↓c2_,tabs,reduceCtorEq,ι5,↓reduceIte,ν1,ν2,ν3,ν4,ν5,ι1,ι2,ι3,ι4,lA_ hq4,hrd4,hln4,sA_ (st.get 3 rfl),lnN,mpI_len,e5,Int.toNat_natCast])
     refine ⟨by omega,by omega,by omega,by omega,by omega,by omega,?_⟩
     rw [hset,hup]
     exact ⟨(j+1,_),⟨by simp only;omega,st.put 3 rfl (cP fI (mpI (fun v=>if v∈t2.out.take (j+1) then (mm:Int) else po v) g.length))⟩,by simp only;omega,.refl _,Heap.le_refl _⟩
    ·have:j=t2.out.length:=by omega
     subst this
     rw [List.take_length] at st
     have e6:IntKind.i64.wrap ((c:Int) - 1)=(c:Int) - 1:=i6_ (by omega) (by omega)
     (try simp (maxSteps:=1000000) (disch:=first | assumption | (apply ν6;assumption)) only [vz,vu,vv,eqS,eF_,↓c1_,↓c2_,tabs,reduceCtorEq,ι5,↓reduceIte,ν1,ν2,ν3,ν4,ν5,ι1,ι2,ι3,ι4,e6])
     exact ⟨(c,t2,_,x3,D3,G),⟨by simp only;omega,key1,key2,st⟩,by simp only;omega,.refl _,Heap.le_refl _⟩
  ·have:c=0:=by omega
   subst this
   have e:mpI po g.length=prtI g:=by
    unfold prtI mpI
    apply List.map_congr_left
    intro v hv
    have hv:=List.mem_range.1 hv
    exact hpo v hv ((hseen v hv).2 ⟨v,by simpa using (hL.mem v).1 hv,.refl _⟩)
   have:=st_int st 3 rfl
   rw [rowP,mpI_len,e] at this
   exact this
end Go.Proofs.YtohkciilfkhomaaGreat
namespace Go.Proofs.YtohkciilfkhomaaGreat
open Go Go.Sep Go.Pt
attribute [local irreducible] CallT
structure GoB (goals:List (List Nat)) (n:Nat):Prop where
 lt:∀g∈goals,∀x∈g,x < n
 len:goals.length≤1000
 sz:∀g∈goals,g.length≤100000
theorem GoB.get {goals:List (List Nat)} {n t:Nat} (h:GoB goals n) (ht:t < goals.length):(rwF goals t).length≤100000∧∀j,j < (rwF goals t).length→(rwF goals t).getD j 0 < n:=by
 have hm:rwF goals t∈goals:=by simp [rwF,List.getD,ht]
 exact ⟨h.sz _ hm,fun j hj=>h.lt _ hm _ (by simp [List.getD,hj])⟩
theorem wkBl {q:Nat} {xs:List Bool} {G:Heap} (hq:G q=some (cP fB xs)):Wk (rowP q xs) G (Bls xs) (G.del q):=wkB hq (fun v=>v) (fun h=>h)
theorem st_bool {H G:Heap} {Ts:List Th} {q:Nat} {xs:List Bool} (s:St H Ts G) (i:Nat) (hi:Ts[i]?=some (cT_ q (cP fB xs))):wkK (fun r H'=>r=Bls xs∧H'=H) (rowP q xs) G:=by
 refine ⟨_,H,.trans (wkBl (s.get i hi)) (.forget fun y b hb=>?_),rfl,rfl⟩
 have:=s.fr _ (List.mem_of_getElem? hi)
 rw [Heap.del_other (fun e=>by have:=this q (by simp [cT_]);rw [← e,hb] at this;cases this)]
 exact s.le y b hb
theorem prtI_len (g:List (List Nat)):(prtI g).length=g.length:=by simp [prtI,mpI_len]
theorem prtI_get {g:List (List Nat)} {v:Nat} (h:v < g.length):(prtI g).getD v default=((partF (aO_ (rwF g)) v:Nat):Int):=by rw [prtI,mpI_get _ h]
theorem fairV_spec (g:List (List Nat)) (hg:GrB g) (goals:List (List Nat)) (hgo:GoB goals g.length):Pu Tryz.prog 94 [Ls (gI g),Ls (gI goals)] (Bls (mpB (fairF (rwF g) goals) g.length)):=by
 refine ⟨fun H=>CallT.fin ?_⟩
 have hn:=hg.n
 have hgl:=gI_len g
 have hol:=gI_len goals
 have hon:=hgo.len
 have hpl:=prtI_len g
 have hmk:=makeN_B g.length (by omega)
 have ez:zA_ g.length [B false]=cP fB (mpB (fun _=>false) g.length):=by rw [cB_zero];rfl
 have hpf:∀v,v < g.length→partF (aO_ (rwF g)) v < g.length:=fun v hv=>by have:=partF_le (aO_ (rwF g)) v;omega
 have hfair:=fun v hv=>fa2_fair (goals:=goals) hg.gr (v:=v) hv
 have hpg:=fun v (h:v < g.length)=>prtI_get h
 refine W94_ok ?_;simp (maxSteps:=1000000) (disch:=first | assumption | (apply ν6;assumption)) only [W94,vz,vu,vv,eqS,eF_,↓c1_,↓c2_,tabs,reduceCtorEq,ι5,↓reduceIte,ν1,ν2,ν3,ν4,ν5,ι1,ι2,ι3,ι4,hgl]
 refine Pu.use (parts_spec g hg) ?_
 generalize partF (aO_ (rwF g))=pf at hpf hfair hpg
 generalize prtI g=pr at hpl hpg ⊢
 (try simp (maxSteps:=1000000) (disch:=first | assumption | (apply ν6;assumption)) only [vz,vu,vv,eqS,eF_,↓c1_,↓c2_,tabs,reduceCtorEq,ι5,↓reduceIte,ν1,ν2,ν3,ν4,ν5,ι1,ι2,ι3,ι4,hmk,safeV,newV,mS_])
 refine ⟨by omega,by omega,by omega,by omega,fun q1 hq1=>?_⟩
 rw [ez]
 intro q2 hq21 hq2
 have st:=((St.nil H).cell hq1 (cP fB (mpB (fun _=>false) g.length))).cell (r:=q2) (by rw [Heap.set_other hq21];exact hq2) (cP fB (mpB (fun _=>false) g.length))
 generalize (H.set q1 (cP fB (mpB (fun _=>false) g.length))).set q2 (cP fB (mpB (fun _=>false) g.length))=G1 at st ⊢
 clear hq1 hq21 hq2
 have last:∀G,St H [cT_ q2 (cP fB (mpB (fun _=>false) g.length)),cT_ q1 (cP fB (mpB (fa2 (rwF g) pf g.length goals goals.length) g.length))] G→
   L94_5 (wkK fun r H'=>r=Bls (mpB (fairF (rwF g) goals) g.length)∧H'=H) (Is pr) (.sl q1 1 0 g.length) (.sl q2 1 0 g.length) (I g.length) (I 0) G:=by
  intro G st
  refine L94_5_rule ((0:Nat),G) (fun z=>I z.1) (fun z=>z.2) (fun z=>z.1≤g.length∧St H [cT_ q2 (cP fB (mpB (fun v=>if v < z.1 then fairF (rwF g) goals v else false) g.length)),cT_ q1 (cP fB (mpB (fa2 (rwF g) pf g.length goals goals.length) g.length))] z.2) (fun z=>g.length - z.1)
   ⟨⟨by simp,by simpa using st⟩,.refl _,Heap.le_refl _⟩ ?_
  clear st G
  rintro ⟨i,G⟩ ⟨hi,st⟩
  dsimp only at hi st
  have e5:IntKind.i64.wrap ((i:Int)+1)=((i+1:Nat):Int):=by rw [i6_ (by omega) (by omega)];simp
  (try simp (maxSteps:=1000000) (disch:=first | assumption | (apply ν6;assumption)) only [vz,vu,vv,eqS,eF_,↓c1_,↓c2_,tabs,reduceCtorEq,ι5,↓reduceIte,ν1,ν2,ν3,ν4,ν5,ι1,ι2,ι3,ι4,B94_5,hpl])
  refine ⟨fun h1=>?_,fun h1=>?_⟩
  ·have hlt:i < g.length:=by omega
   have hp:=hpf i hlt
   have hrd:=rdB (fa2 (rwF g) pf g.length goals goals.length) hp
   rw [hfair i hlt] at hrd
   have hset:=setB (fun v=>if v < i then fairF (rwF g) goals v else false) hlt (fairF (rwF g) goals i)
   have hup:updB (fun v=>if v < i then fairF (rwF g) goals v else false) i (fairF (rwF g) goals i)=fun v=>if v < i+1 then fairF (rwF g) goals v else false:=by
    funext v
    unfold updB
    by_cases e:v=i
    ·subst e;simp
    ·have:v < i+1↔v < i:=by omega
     simp [e,this]
   rw [hpg i hlt]
   (try simp (maxSteps:=1000000) (disch:=first | assumption | (apply ν6;assumption)) only [vz,vu,vv,eqS,eF_,↓c1_,↓c2_,tabs,reduceCtorEq,ι5,↓reduceIte,ν1,ν2,ν3,ν4,ν5,ι1,ι2,ι3,ι4,lA_ (st.get 1 rfl),sA_ (st.get 0 rfl),lnB,mpB_len,hrd,e5,Int.toNat_natCast])
   repeat refine ⟨by omega,?_⟩
   rw [hset,hup]
   exact ⟨(i+1,_),⟨by simp only;omega,st.put 0 rfl (cP fB (mpB (fun v=>if v < i+1 then fairF (rwF g) goals v else false) g.length))⟩,by simp only;omega,.refl _,Heap.le_refl _⟩
  ·have:i=g.length:=by omega
   subst this
   have e:mpB (fun v=>if v < g.length then fairF (rwF g) goals v else false) g.length=mpB (fairF (rwF g) goals) g.length:=by
    unfold mpB
    apply List.map_congr_left
    intro v hv
    rw [if_pos (List.mem_range.1 hv)]
   rw [e] at st
   have:=st_bool st 0 rfl
   rw [rowP,mpB_len] at this
   exact this
 have gos:∀G,St H [cT_ q2 (cP fB (mpB (fun _=>false) g.length)),cT_ q1 (cP fB (mpB (fa1 (rwF g) pf g.length 0) g.length))] G→
   L94_2 (wkK fun r H'=>r=Bls (mpB (fairF (rwF g) goals) g.length)∧H'=H) (Is pr) (I g.length) (.sl q1 1 0 g.length) (.sl q2 1 0 g.length) (Ls (gI goals)) (I goals.length) (I 0) G:=by
  intro G st
  refine L94_2_rule ((0:Nat),G) (fun z=>I z.1) (fun z=>z.2) (fun z=>z.1≤goals.length∧St H [cT_ q2 (cP fB (mpB (fun _=>false) g.length)),cT_ q1 (cP fB (mpB (fa2 (rwF g) pf g.length goals z.1) g.length))] z.2) (fun z=>goals.length - z.1)
   ⟨⟨by simp,by rw [fa2_zero];exact st⟩,.refl _,Heap.le_refl _⟩ ?_
  clear st G
  rintro ⟨t,G⟩ ⟨ht,st⟩
  dsimp only at ht st
  have e5:IntKind.i64.wrap ((t:Int)+1)=((t+1:Nat):Int):=by rw [i6_ (by omega) (by omega)];simp
  (try simp (maxSteps:=1000000) (disch:=first | assumption | (apply ν6;assumption)) only [vz,vu,vv,eqS,eF_,↓c1_,↓c2_,tabs,reduceCtorEq,ι5,↓reduceIte,ν1,ν2,ν3,ν4,ν5,ι1,ι2,ι3,ι4,B94_2,hol,mS_])
  refine ⟨fun h1=>?_,fun h1=>?_⟩
  ·have hlt:t < goals.length:=by omega
   refine ⟨by omega,h1,by omega,by omega,by omega,by omega,fun q3 hq3=>?_⟩
   rw [ez,gI_get hlt]
   replace st:=st.cell hq3 (cP fB (mpB (fun _=>false) g.length))
   generalize G.set q3 (cP fB (mpB (fun _=>false) g.length))=G2 at st ⊢
   obtain ⟨hsz,hxlt⟩:=hgo.get hlt
   have hnl:=nL_ (rwF goals t)
   have hf2:=fa2_succ (rwF g) pf g.length hlt
   have hgd:goals.getD t []=rwF goals t:=rfl
   rw [hgd] at hf2
   (try simp (maxSteps:=1000000) (disch:=first | assumption | (apply ν6;assumption)) only [vz,vu,vv,eqS,eF_,↓c1_,↓c2_,tabs,reduceCtorEq,ι5,↓reduceIte,ν1,ν2,ν3,ν4,ν5,ι1,ι2,ι3,ι4,hnl])
   refine L94_3_rule ((0:Nat),G2) (fun z=>I z.1) (fun z=>z.2) (fun z=>z.1≤(rwF goals t).length∧St H [cT_ q3 (cP fB (mpB (ha1 pf (rwF goals t) z.1) g.length)),cT_ q2 (cP fB (mpB (fun _=>false) g.length)),cT_ q1 (cP fB (mpB (fa2 (rwF g) pf g.length goals t) g.length))] z.2) (fun z=>(rwF goals t).length - z.1)
    ⟨⟨by simp,by rw [ha1_zero];exact st⟩,.refl _,Heap.le_refl _⟩ ?_
   clear st hq3
   rintro ⟨j,G⟩ ⟨hj,st⟩
   dsimp only at hj st
   have e6:IntKind.i64.wrap ((j:Int)+1)=((j+1:Nat):Int):=by rw [i6_ (by omega) (by omega)];simp
   (try simp (maxSteps:=1000000) (disch:=first | assumption | (apply ν6;assumption)) only [vz,vu,vv,eqS,eF_,↓c1_,↓c2_,tabs,reduceCtorEq,ι5,↓reduceIte,ν1,ν2,ν3,ν4,ν5,ι1,ι2,ι3,ι4,B94_3,hnl,hpl])
   refine ⟨fun h2=>?_,fun h2=>?_⟩
   ·have hlj:j < (rwF goals t).length:=by omega
    refine ⟨by omega,h2,?_⟩
    rw [nI_get hlj]
    have hx:=hxlt j hlj
    have hs:=ha1_succ pf (rwF goals t) hlj
    generalize (rwF goals t).getD j 0=w at hx hs ⊢
    have hp:=hpf w hx
    have hset:=setB (ha1 pf (rwF goals t) j) hp true
    have hup:updB (ha1 pf (rwF goals t) j) (pf w) true=ha1 pf (rwF goals t) (j+1):=by
     rw [hs];funext p;unfold updB
     by_cases e:p=pf w<;>simp [e]
    rw [Int.toNat_natCast,hpg w hx]
    (try simp (maxSteps:=1000000) (disch:=first | assumption | (apply ν6;assumption)) only [vz,vu,vv,eqS,eF_,↓c1_,↓c2_,tabs,reduceCtorEq,ι5,↓reduceIte,ν1,ν2,ν3,ν4,ν5,ι1,ι2,ι3,ι4,sA_ (st.get 0 rfl),lnB,mpB_len,e6,Int.toNat_natCast])
    refine ⟨by omega,by omega,by omega,by omega,by omega,?_⟩
    rw [hset,hup]
    exact ⟨(j+1,_),⟨by simp only;omega,st.put 0 rfl (cP fB (mpB (ha1 pf (rwF goals t) (j+1)) g.length))⟩,by simp only;omega,.refl _,Heap.le_refl _⟩
   ·have:j=(rwF goals t).length:=by omega
    subst this
    generalize ha1 pf (rwF goals t) (rwF goals t).length=hs at hf2 st
    refine L94_4_rule ((0:Nat),G) (fun z=>I z.1) (fun z=>z.2) (fun z=>z.1≤g.length∧St H [cT_ q3 (cP fB (mpB hs g.length)),cT_ q2 (cP fB (mpB (fun _=>false) g.length)),cT_ q1 (cP fB (mpB (fun p=>if p < z.1 then fa2 (rwF g) pf g.length goals t p && hs p else fa2 (rwF g) pf g.length goals t p) g.length))] z.2) (fun z=>g.length - z.1)
     ⟨⟨by simp,by simpa using st⟩,.refl _,Heap.le_refl _⟩ ?_
    clear st G
    rintro ⟨i,G⟩ ⟨hi,st⟩
    dsimp only at hi st
    have e7:IntKind.i64.wrap ((i:Int)+1)=((i+1:Nat):Int):=by rw [i6_ (by omega) (by omega)];simp
    (try simp (maxSteps:=1000000) (disch:=first | assumption | (apply ν6;assumption)) only [vz,vu,vv,eqS,eF_,↓c1_,↓c2_,tabs,reduceCtorEq,ι5,↓reduceIte,ν1,ν2,ν3,ν4,ν5,ι1,ι2,ι3,ι4,B94_4])
    refine ⟨fun h3=>?_,fun h3=>?_⟩
    ·have hli:i < g.length:=by omega
     have hr1:=rdB (fun p=>if p < i then fa2 (rwF g) pf g.length goals t p && hs p else fa2 (rwF g) pf g.length goals t p) hli
     simp only [Nat.lt_irrefl,if_false] at hr1
     have hr2:=rdB hs hli
     have hup:updB (fun p=>if p < i then fa2 (rwF g) pf g.length goals t p && hs p else fa2 (rwF g) pf g.length goals t p) i (fa2 (rwF g) pf g.length goals t i && hs i)=fun p=>if p < i+1 then fa2 (rwF g) pf g.length goals t p && hs p else fa2 (rwF g) pf g.length goals t p:=by
      funext v
      unfold updB
      by_cases e:v=i
      ·subst e;simp
      ·have:v < i+1↔v < i:=by omega
       simp [e,this]
     have hset:=setB (fun p=>if p < i then fa2 (rwF g) pf g.length goals t p && hs p else fa2 (rwF g) pf g.length goals t p) hli (fa2 (rwF g) pf g.length goals t i && hs i)
     rw [hup] at hset
     (try simp (maxSteps:=1000000) (disch:=first | assumption | (apply ν6;assumption)) only [vz,vu,vv,eqS,eF_,↓c1_,↓c2_,tabs,reduceCtorEq,ι5,↓reduceIte,ν1,ν2,ν3,ν4,ν5,ι1,ι2,ι3,ι4,lA_ (st.get 2 rfl),lnB,mpB_len,hr1,Int.toNat_natCast])
     refine ⟨by omega,by omega,by omega,?_⟩
     have hput:=st.put 2 rfl (cP fB (mpB (fun p=>if p < i+1 then fa2 (rwF g) pf g.length goals t p && hs p else fa2 (rwF g) pf g.length goals t p) g.length))
     cases hfi:fa2 (rwF g) pf g.length goals t i
     ·rw [hfi,Bool.false_and] at hset
      (try simp (maxSteps:=1000000) (disch:=first | assumption | (apply ν6;assumption)) only [vz,vu,vv,eqS,eF_,↓c1_,↓c2_,tabs,reduceCtorEq,ι5,↓reduceIte,ν1,ν2,ν3,ν4,ν5,ι1,ι2,ι3,ι4,sA_ (st.get 2 rfl),lnB,mpB_len,e7,Int.toNat_natCast])
      refine ⟨by omega,by omega,by omega,?_⟩
      rw [hset]
      exact ⟨(i+1,_),⟨by simp only;omega,hput⟩,by simp only;omega,.refl _,Heap.le_refl _⟩
     ·rw [hfi,Bool.true_and] at hset
      (try simp (maxSteps:=1000000) (disch:=first | assumption | (apply ν6;assumption)) only [vz,vu,vv,eqS,eF_,↓c1_,↓c2_,tabs,reduceCtorEq,ι5,↓reduceIte,ν1,ν2,ν3,ν4,ν5,ι1,ι2,ι3,ι4,lA_ (st.get 0 rfl),hr2,sA_ (st.get 2 rfl),lnB,mpB_len,e7,Int.toNat_natCast])
      refine ⟨by omega,by omega,by omega,by omega,by omega,by omega,?_⟩
      rw [hset]
      exact ⟨(i+1,_),⟨by simp only;omega,hput⟩,by simp only;omega,.refl _,Heap.le_refl _⟩
    ·have:i=g.length:=by omega
     subst this
     have e:mpB (fun p=>if p < g.length then fa2 (rwF g) pf g.length goals t p && hs p else fa2 (rwF g) pf g.length goals t p) g.length=mpB (fa2 (rwF g) pf g.length goals (t+1)) g.length:=by
      rw [hf2]
      unfold mpB
      apply List.map_congr_left
      intro v hv
      rw [if_pos (List.mem_range.1 hv)]
     rw [e] at st
     (try simp (maxSteps:=1000000) (disch:=first | assumption | (apply ν6;assumption)) only [vz,vu,vv,eqS,eF_,↓c1_,↓c2_,tabs,reduceCtorEq,ι5,↓reduceIte,ν1,ν2,ν3,ν4,ν5,ι1,ι2,ι3,ι4,e5])
     exact ⟨(t+1,G),⟨by simp only;omega,st.drop⟩,by simp only;omega,.refl _,Heap.le_refl _⟩
  ·have:t=goals.length:=by omega
   subst this
   exact last G st
 refine L94_0_rule ((0:Nat),G1) (fun z=>I z.1) (fun z=>z.2) (fun z=>z.1≤g.length∧St H [cT_ q2 (cP fB (mpB (fun _=>false) g.length)),cT_ q1 (cP fB (mpB (fa1 (rwF g) pf z.1 0) g.length))] z.2) (fun z=>g.length - z.1)
  ⟨⟨by simp,(st.perm (List.Perm.refl _):St H _ G1) |> fun s=>by rw [fa1_zero];exact s⟩,.refl _,Heap.le_refl _⟩ ?_
 clear st
 rintro ⟨k,G⟩ ⟨hk,st⟩
 dsimp only at hk st
 have e5:IntKind.i64.wrap ((k:Int)+1)=((k+1:Nat):Int):=by rw [i6_ (by omega) (by omega)];simp
 (try simp (maxSteps:=1000000) (disch:=first | assumption | (apply ν6;assumption)) only [vz,vu,vv,eqS,eF_,↓c1_,↓c2_,tabs,reduceCtorEq,ι5,↓reduceIte,ν1,ν2,ν3,ν4,ν5,ι1,ι2,ι3,ι4,B94_0,hgl,hol])
 refine ⟨fun h1=>?_,fun h1=>?_⟩
 ·have hlt:k < g.length:=by omega
  refine ⟨by omega,h1,?_⟩
  rw [gI_get hlt]
  have hrn:=nL_ (rwF g k)
  have hrl:=hg.row hlt
  have hpk:=hpf k hlt
  (try simp (maxSteps:=1000000) (disch:=first | assumption | (apply ν6;assumption)) only [vz,vu,vv,eqS,eF_,↓c1_,↓c2_,tabs,reduceCtorEq,ι5,↓reduceIte,ν1,ν2,ν3,ν4,ν5,ι1,ι2,ι3,ι4,hrn])
  refine L94_1_rule ((0:Nat),G) (fun z=>I z.1) (fun z=>z.2) (fun z=>z.1≤(rwF g k).length∧St H [cT_ q2 (cP fB (mpB (fun _=>false) g.length)),cT_ q1 (cP fB (mpB (fa1 (rwF g) pf k z.1) g.length))] z.2) (fun z=>(rwF g k).length - z.1)
   ⟨⟨by simp,st⟩,.refl _,Heap.le_refl _⟩ ?_
  clear st G
  rintro ⟨j,G⟩ ⟨hj,st⟩
  dsimp only at hj st
  have e6:IntKind.i64.wrap ((j:Int)+1)=((j+1:Nat):Int):=by rw [i6_ (by omega) (by omega)];simp
  (try simp (maxSteps:=1000000) (disch:=first | assumption | (apply ν6;assumption)) only [vz,vu,vv,eqS,eF_,↓c1_,↓c2_,tabs,reduceCtorEq,ι5,↓reduceIte,ν1,ν2,ν3,ν4,ν5,ι1,ι2,ι3,ι4,B94_1,hrn,hpl])
  refine ⟨fun h2=>?_,fun h2=>?_⟩
  ·have hlj:j < (rwF g k).length:=by omega
   refine ⟨by omega,h2,?_⟩
   rw [nI_get hlj]
   have hw:=hg.lt hlj
   have hs:=fa1_succ (rwF g) pf hlj
   generalize (rwF g k).getD j 0=w at hw hs ⊢
   have hr1:=rdB (fa1 (rwF g) pf k j) hpk
   have hup:updB (fa1 (rwF g) pf k j) (pf k) (fa1 (rwF g) pf k j (pf k) || decide (pf w=pf k))=fa1 (rwF g) pf k (j+1):=by
    rw [hs];funext p;unfold updB
    by_cases e:p=pf k<;>simp [e]
   have hset:=setB (fa1 (rwF g) pf k j) hpk (fa1 (rwF g) pf k j (pf k) || decide (pf w=pf k))
   rw [hup] at hset
   have hput:=st.put 1 rfl (cP fB (mpB (fa1 (rwF g) pf k (j+1)) g.length))
   rw [Int.toNat_natCast,hpg w hw,hpg k hlt]
   (try simp (maxSteps:=1000000) (disch:=first | assumption | (apply ν6;assumption)) only [vz,vu,vv,eqS,eF_,↓c1_,↓c2_,tabs,reduceCtorEq,ι5,↓reduceIte,ν1,ν2,ν3,ν4,ν5,ι1,ι2,ι3,ι4,lA_ (st.get 1 rfl),lnB,mpB_len,hr1,Int.toNat_natCast])
   refine ⟨by omega,by omega,by omega,by omega,by omega,by omega,by omega,?_⟩
   cases hfi:fa1 (rwF g) pf k j (pf k)
   ·have ed:decide (((pf w:Nat):Int)=((pf k:Nat):Int))=decide (pf w=pf k):=by rw [decide_eq_decide];omega
    rw [hfi,Bool.false_or] at hset
    (try simp (maxSteps:=1000000) (disch:=first | assumption | (apply ν6;assumption)) only [vz,vu,vv,eqS,eF_,↓c1_,↓c2_,tabs,reduceCtorEq,ι5,↓reduceIte,ν1,ν2,ν3,ν4,ν5,ι1,ι2,ι3,ι4,sA_ (st.get 1 rfl),lnB,mpB_len,e6,ed,Int.toNat_natCast])
    repeat refine ⟨by omega,?_⟩
    rw [hset]
    exact ⟨(j+1,_),⟨by simp only;omega,hput⟩,by simp only;omega,.refl _,Heap.le_refl _⟩
   ·rw [hfi,Bool.true_or] at hset
    (try simp (maxSteps:=1000000) (disch:=first | assumption | (apply ν6;assumption)) only [vz,vu,vv,eqS,eF_,↓c1_,↓c2_,tabs,reduceCtorEq,ι5,↓reduceIte,ν1,ν2,ν3,ν4,ν5,ι1,ι2,ι3,ι4,sA_ (st.get 1 rfl),lnB,mpB_len,e6,Int.toNat_natCast])
    refine ⟨by omega,by omega,by omega,?_⟩
    rw [hset]
    exact ⟨(j+1,_),⟨by simp only;omega,hput⟩,by simp only;omega,.refl _,Heap.le_refl _⟩
  ·have:j=(rwF g k).length:=by omega
   subst this
   rw [fa1_next] at st
   (try simp (maxSteps:=1000000) (disch:=first | assumption | (apply ν6;assumption)) only [vz,vu,vv,eqS,eF_,↓c1_,↓c2_,tabs,reduceCtorEq,ι5,↓reduceIte,ν1,ν2,ν3,ν4,ν5,ι1,ι2,ι3,ι4,e5])
   exact ⟨(k+1,G),⟨by simp only;omega,st⟩,by simp only;omega,.refl _,Heap.le_refl _⟩
 ·have:k=g.length:=by omega
  subst this
  exact gos G st
end Go.Proofs.YtohkciilfkhomaaGreat
namespace Go.Proofs.YtohkciilfkhomaaGreat
open Go Go.Sep Go.Pt
attribute [local irreducible] CallT
noncomputable def meK (row:Nat→List Nat) (n:Nat) (some:List Nat) (goals:List (List Nat)) (k:Nat):Int:=bestF (farF row n some) ((List.range k).filter (fairF row goals))
theorem meK_succ (row:Nat→List Nat) (n:Nat) (some:List Nat) (goals:List (List Nat)) (k:Nat):meK row n some goals (k+1)=if fairF row goals k=true then bput1 (farF row n some) (meK row n some goals k) k else meK row n some goals k:=by
 unfold meK
 rw [List.range_succ,List.filter_append]
 by_cases h:fairF row goals k=true
 ·rw [if_pos h,← bestF_snoc];simp [h]
 ·rw [if_neg h];simp [h]
theorem meK_bd (row:Nat→List Nat) (n:Nat) (some:List Nat) (goals:List (List Nat)) (k:Nat):meK row n some goals k < k∧-1≤meK row n some goals k:=by
 unfold meK
 rcases bestF_cases (farF row n some) ((List.range k).filter (fairF row goals)) with ⟨e,_⟩ | ⟨v,h,e,_⟩
 ·omega
 ·have:=List.mem_range.1 (List.mem_filter.1 h).1
  omega
theorem meeting_spec (g:List (List Nat)) (hg:GrB g) (some:List Nat) (hs:∀v∈some,v < g.length) (hsl:some.length≤100000) (goals:List (List Nat)) (hgo:GoB goals g.length) :
  Pu Tryz.prog 41 [Ls (gI g),Is (nI some),Ls (gI goals)] (I (meetF (rwF g) g.length some goals)):=by
 refine Pu.of fun H=>?_
 have hn:=hg.n
 refine W41_ok ?_;simp (maxSteps:=1000000) (disch:=first | assumption | (apply ν6;assumption)) only [W41,vz,vu,vv,eqS,eF_,↓c1_,↓c2_,tabs,reduceCtorEq,ι5,↓reduceIte,ν1,ν2,ν3,ν4,ν5,ι1,ι2,ι3,ι4]
 refine Pu.use (sp_stepsFrom g hg some hs hsl) ?_
 refine Pu.use (fairV_spec g hg goals hgo) ?_
 have hml:=mpI_len (farF (rwF g) g.length some) g.length
 have hbl:=mpB_len (fairF (rwF g) goals) g.length
 (try simp (maxSteps:=1000000) (disch:=first | assumption | (apply ν6;assumption)) only [vz,vu,vv,eqS,eF_,↓c1_,↓c2_,tabs,reduceCtorEq,ι5,↓reduceIte,ν1,ν2,ν3,ν4,ν5,ι1,ι2,ι3,ι4,hbl])
 refine L41_0_rule (0:Nat) (fun k=>I (meK (rwF g) g.length some goals k)) (fun k=>I k) (fun _=>H) (fun k=>k≤g.length) (fun k=>g.length - k) ⟨by simp,.refl _,.refl _,Heap.le_refl _⟩ ?_
 intro k hk
 have e5:IntKind.i64.wrap ((k:Int)+1)=((k+1:Nat):Int):=by rw [i6_ (by omega) (by omega)];simp
 (try simp (maxSteps:=1000000) (disch:=first | assumption | (apply ν6;assumption)) only [vz,vu,vv,eqS,eF_,↓c1_,↓c2_,tabs,reduceCtorEq,ι5,↓reduceIte,ν1,ν2,ν3,ν4,ν5,ι1,ι2,ι3,ι4,B41_0,hbl,hml,e5])
 refine ⟨fun h1=>?_,fun h1=>?_⟩
 ·have hlt:k < g.length:=by omega
  have hsc:=meK_succ (rwF g) g.length some goals k
  obtain ⟨hb1,hb2⟩:=meK_bd (rwF g) g.length some goals k
  have hg1:=mpI_get (farF (rwF g) g.length some) hlt
  have hg2:=fun (b:Nat) (hb:b < g.length)=>mpI_get (farF (rwF g) g.length some) hb
  have hf:=mpB_get (fairF (rwF g) goals) hlt
  generalize farF (rwF g) g.length some=far at hsc hg1 hg2
  rw [hf]
  refine ⟨by omega,h1,?_⟩
  generalize meK (rwF g) g.length some goals k=mk at hsc hb1 hb2 ⊢
  have yes:meK (rwF g) g.length some goals (k+1)=(k:Int)→∃s':Nat,s'≤g.length∧g.length - s' < g.length - k∧(I (k:Int)).wk (I (meK (rwF g) g.length some goals s'))∧(I ((k+1:Nat):Int)).wk (I s'):=
   fun h=>⟨k+1,by omega,by omega,by rw [h];exact .refl _,.refl _⟩
  have no:meK (rwF g) g.length some goals (k+1)=mk→∃s':Nat,s'≤g.length∧g.length - s' < g.length - k∧(I mk).wk (I (meK (rwF g) g.length some goals s'))∧(I ((k+1:Nat):Int)).wk (I s'):=
   fun h=>⟨k+1,by omega,by omega,by rw [h];exact .refl _,.refl _⟩
  rw [hg1]
  refine ⟨fun h2=>⟨by omega,by omega,fun h3=>⟨fun h4=>?_,fun h4=>⟨by omega,by omega,by omega,by omega,?_⟩⟩,fun h3=>?_⟩,fun h2=>?_⟩
  ·exact yes (by rw [hsc,if_pos h2,bput1,if_pos ⟨h3,.inl h4⟩])
  ·rw [hg2 mk.toNat (by omega)]
   refine ⟨fun h5=>yes ?_,fun h5=>no ?_⟩
   ·rw [hsc,if_pos h2,bput1,if_pos ⟨h3,.inr h5⟩]
   ·rw [hsc,if_pos h2,bput1,if_neg (fun h=>h5 (h.2.resolve_left h4))]
  ·exact no (by rw [hsc,if_pos h2,bput1,if_neg (fun h=>h3 h.1)])
  ·exact no (by rw [hsc,if_neg (by rw [h2];simp)])
 ·have:k=g.length:=by omega
  subst this
  rfl
end Go.Proofs.YtohkciilfkhomaaGreat
namespace Go.Proofs.YtohkciilfkhomaaGreat
open Go Go.Sep Go.Pt
attribute [local irreducible] CallT
theorem sk_val {H G:Heap} {Ts:List Th} {x:AV} {l D:List Nat} (s:St H Ts G) (i:Nat) (hi:Ts[i]?=some (skT x l D)):wkK (fun r H'=>r=Is (nI l)∧H'=H) x G:=by
 have h:SK x l G D:=s.get i hi
 rcases h with ⟨rfl,rfl,rfl⟩ | ⟨q,J,rfl,hq,rfl⟩
 ·exact ⟨_,_,.trans (.val .nil) (.forget s.le),rfl,rfl⟩
 ·have w:Wk (.sl q 1 0 l.length) G (Is (nI l)) (G.del q):=by
   refine Wk.frzS (es:=(nI l++J).map fI) (by rw [hq,List.map_map];rfl) ?_
   have:=FrzS.part (r:=q) (es:=(nI l++J).map fI) 0 l.length (by rw [List.length_map,List.length_append,nL_];omega)
   have e:((((nI l++J).map fI).drop 0).take l.length).map (fun v=>[v])=(nI l).map eI:=by
    rw [List.drop_zero,← List.map_take,List.take_left' (nL_ l),List.map_map];rfl
   rw [e] at this
   exact this
  refine ⟨_,H,.trans w (.forget fun y b hb=>?_),rfl,rfl⟩
  have:=s.fr _ (List.mem_of_getElem? hi)
  rw [Heap.del_other (fun e=>by have:=this q (by simp [skT]);rw [← e,hb] at this;cases this)]
  exact s.le y b hb
noncomputable def cB (row:Nat→List Nat) (v w:Nat):Bool:=decide (partF (aO_ row) v=partF (aO_ row) w)
theorem inF_cB (row:Nat→List Nat) (v:Nat):inF row v=(row v).filter (cB row v):=by
 unfold inF
 apply List.filter_congr
 intro w _
 rw [cB,decide_eq_decide]
 exact partF_iff.symm
noncomputable def inG (g:List (List Nat)):List (List Nat):=(List.range g.length).map (inF (rwF g))
theorem inG_len (g:List (List Nat)):(inG g).length=g.length:=by simp [inG]
theorem inG_row {g:List (List Nat)} (hg:GrB g):rwF (inG g)=inF (rwF g):=by
 have:=rwF_mapOk (inF_ok hg.gr)
 exact this
noncomputable def wiR (g:List (List Nat)) (k j:Nat):List (List Nat):=(List.range g.length).map fun v=>if v < k then inF (rwF g) v else if v=k then ((rwF g k).take j).filter (cB (rwF g) k) else []
theorem wiR_len (g:List (List Nat)) (k j:Nat):(wiR g k j).length=g.length:=by simp [wiR]
theorem wiR_zero (g:List (List Nat)):wiR g 0 0=List.replicate g.length []:=by
 apply List.ext_getElem
 ·simp [wiR]
 ·intro i h1 h2;simp [wiR]
theorem wiR_next (g:List (List Nat)) (k:Nat):wiR g k (rwF g k).length=wiR g (k+1) 0:=by
 unfold wiR
 apply List.map_congr_left
 intro v _
 rw [List.take_length,← inF_cB]
 by_cases h1:v < k
 ·rw [if_pos h1,if_pos (by omega)]
 ·by_cases h2:v=k
  ·subst h2;simp
  ·rw [if_neg h1,if_neg h2,if_neg (by omega)];simp
theorem wiR_all (g:List (List Nat)):wiR g g.length 0=inG g:=by
 unfold wiR inG
 apply List.map_congr_left
 intro v hv
 rw [if_pos (List.mem_range.1 hv)]
theorem wiR_get {g:List (List Nat)} {k j:Nat} (h:k < g.length):rwF (wiR g k j) k=((rwF g k).take j).filter (cB (rwF g) k):=by simp [rwF,wiR,List.getD,h]
theorem wiR_succ {g:List (List Nat)} {k j:Nat} (hj:j < (rwF g k).length):wiR g k (j+1)=if cB (rwF g) k ((rwF g k).getD j 0)=true then (wiR g k j).set k (((rwF g k).take j).filter (cB (rwF g) k)++[(rwF g k).getD j 0]) else wiR g k j:=by
 have ht:(rwF g k).take (j+1)=(rwF g k).take j++[(rwF g k).getD j 0]:=tS_ hj
 generalize (rwF g k).getD j 0=w at ht ⊢
 by_cases hc:cB (rwF g) k w=true
 ·rw [if_pos hc]
  apply List.ext_getElem
  ·simp [wiR]
  ·intro v h1 h2
   simp only [wiR,List.getElem_map,List.getElem_range,List.getElem_set,ht,List.filter_append]
   by_cases e:k=v
   ·subst e;simp [hc]
   ·have:¬v=k:=fun h=>e h.symm
    simp [e,this]
 ·rw [if_neg hc]
  unfold wiR
  apply List.map_congr_left
  intro v _
  simp [ht,hc]
theorem within_spec (g:List (List Nat)) (hg:GrB g):Pu Tryz.prog 92 [Ls (gI g),Is (prtI g)] (Ls (gI (inG g))):=by
 refine ⟨fun H=>CallT.finish ?_⟩
 have hn:=hg.n
 have hgl:=gI_len g
 have hpl:=prtI_len g
 have hpg:=fun v (h:v < g.length)=>prtI_get h
 refine W92_ok ?_;simp (maxSteps:=1000000) (disch:=first | assumption | (apply ν6;assumption)) only [W92,vz,vu,vv,eqS,eF_,↓c1_,↓c2_,tabs,reduceCtorEq,ι5,↓reduceIte,ν1,ν2,ν3,ν4,ν5,ι1,ι2,ι3,ι4,mS_,hgl]
 refine ⟨by omega,by omega,by omega,by omega,fun q hq=>?_⟩
 have st:=tab_new (n:=g.length) (St.nil H) (q:=q) hq
 rw [← gI_nil,← wiR_zero g] at st
 generalize H.set q (zA_ g.length [.p .nil])=G1 at st ⊢
 refine L92_0_rule ((0:Nat),[q],G1) (fun s=>I s.1) (fun s=>s.2.2) (fun s=>s.1≤g.length∧St H [tabT q (gI (wiR g s.1 0)) s.2.1] s.2.2) (fun s=>g.length - s.1)
  ⟨⟨by simp,st⟩,.refl _,Heap.le_refl _⟩ ?_
 clear st
 rintro ⟨k,D,G⟩ ⟨hk,st⟩
 dsimp only at hk st
 have e5:IntKind.i64.wrap ((k:Int)+1)=((k+1:Nat):Int):=by rw [i6_ (by omega) (by omega)];simp
 (try simp (maxSteps:=1000000) (disch:=first | assumption | (apply ν6;assumption)) only [vz,vu,vv,eqS,eF_,↓c1_,↓c2_,tabs,reduceCtorEq,ι5,↓reduceIte,ν1,ν2,ν3,ν4,ν5,ι1,ι2,ι3,ι4,B92_0,hgl])
 refine ⟨fun h1=>?_,fun h1=>?_⟩
 ·have hlt:k < g.length:=by omega
  have hrl:=hg.row hlt
  refine ⟨by omega,h1,?_⟩
  rw [gI_get hlt]
  have hrn:=nL_ (rwF g k)
  (try simp (maxSteps:=1000000) (disch:=first | assumption | (apply ν6;assumption)) only [vz,vu,vv,eqS,eF_,↓c1_,↓c2_,tabs,reduceCtorEq,ι5,↓reduceIte,ν1,ν2,ν3,ν4,ν5,ι1,ι2,ι3,ι4,hrn])
  refine L92_1_rule ((0:Nat),D,G) (fun s=>I s.1) (fun s=>s.2.2) (fun s=>s.1≤(rwF g k).length∧St H [tabT q (gI (wiR g k s.1)) s.2.1] s.2.2) (fun s=>(rwF g k).length - s.1)
   ⟨⟨by simp,st⟩,.refl _,Heap.le_refl _⟩ ?_
  clear st D
  rintro ⟨j,D,G⟩ ⟨hj,st⟩
  dsimp only at hj st
  have e6:IntKind.i64.wrap ((j:Int)+1)=((j+1:Nat):Int):=by rw [i6_ (by omega) (by omega)];simp
  (try simp (maxSteps:=1000000) (disch:=first | assumption | (apply ν6;assumption)) only [vz,vu,vv,eqS,eF_,↓c1_,↓c2_,tabs,reduceCtorEq,ι5,↓reduceIte,ν1,ν2,ν3,ν4,ν5,ι1,ι2,ι3,ι4,B92_1,hrn,hpl])
  refine ⟨fun h2=>?_,fun h2=>?_⟩
  ·have hlj:j < (rwF g k).length:=by omega
   refine ⟨by omega,h2,?_⟩
   rw [nI_get hlj]
   have hw:=hg.lt hlj
   have hsc:=wiR_succ hlj
   generalize (rwF g k).getD j 0=w at hw hsc ⊢
   have htl:(gI (wiR g k j)).length=g.length:=by rw [gI_len,wiR_len]
   have hget:(gI (wiR g k j)).getD k default=nI (((rwF g k).take j).filter (cB (rwF g) k)):=by rw [gI_get (by rw [wiR_len];exact hlt),wiR_get hlt]
   have hfl:(((rwF g k).take j).filter (cB (rwF g) k)).length≤500000:=Nat.le_trans (List.length_filter_le _ _) (by rw [List.length_take];omega)
   rw [Int.toNat_natCast,hpg k hlt,hpg w hw]
   have hcb:(((partF (aO_ (rwF g)) k:Nat):Int)=((partF (aO_ (rwF g)) w:Nat):Int))↔cB (rwF g) k w=true:=by rw [cB,decide_eq_true_eq];omega
   (try simp (maxSteps:=1000000) (disch:=first | assumption | (apply ν6;assumption)) only [vz,vu,vv,eqS,eF_,↓c1_,↓c2_,tabs,reduceCtorEq,ι5,↓reduceIte,ν1,ν2,ν3,ν4,ν5,ι1,ι2,ι3,ι4,e6])
   refine ⟨by omega,by omega,by omega,by omega,fun h3=>?_,fun h3=>?_⟩
   ·rw [if_pos (hcb.1 h3)] at hsc
    have:=fun (K:Heap→Prop)=>tab_push (K:=K) st 0 rfl htl hlt (w:Int) (by rw [hget,nL_];omega)
    refine this _ fun G' D' st=>?_
    rw [hget,← nI_one,← nI_app,← gI_set,← hsc] at st
    exact ⟨(j+1,D',G'),⟨by simp only;omega,st⟩,by simp only;omega,.refl _,Heap.le_refl _⟩
   ·rw [if_neg (fun h=>h3 (hcb.2 h))] at hsc
    exact ⟨(j+1,D,G),⟨by simp only;omega,by rw [hsc];exact st⟩,by simp only;omega,.refl _,Heap.le_refl _⟩
  ·have:j=(rwF g k).length:=by omega
   subst this
   rw [wiR_next] at st
   (try simp (maxSteps:=1000000) (disch:=first | assumption | (apply ν6;assumption)) only [vz,vu,vv,eqS,eF_,↓c1_,↓c2_,tabs,reduceCtorEq,ι5,↓reduceIte,ν1,ν2,ν3,ν4,ν5,ι1,ι2,ι3,ι4,e5])
   exact ⟨(k+1,D,G),⟨by simp only;omega,st⟩,by simp only;omega,.refl _,Heap.le_refl _⟩
 ·have:k=g.length:=by omega
  subst this
  rw [wiR_all] at st
  have e:(gI (inG g)).length=g.length:=by rw [gI_len,inG_len]
  rw [← e]
  exact tab_whole (fun G D s=>.ofWkK (lii_val (s.get 0 rfl) ⟨s.ndT 0 rfl,s.fr _ (List.mem_cons_self ..),s.le⟩)) st
end Go.Proofs.YtohkciilfkhomaaGreat
namespace Go.Proofs.YtohkciilfkhomaaGreat
open Go Go.Sep Go.Pt
attribute [local irreducible] CallT
theorem sp_l11Far (g:List (List Nat)) (hg:GrB g) (some:List Nat) (hs:∀v∈some,v < g.length) (hsl:some.length≤100000):Pu Tryz.prog 89 [Ls (gI g),Is (nI some)] (Is (mpI (farF (rwF g) g.length some) g.length)):=by
 refine ⟨fun H=>CallT.fin ?_⟩
 have hn:=hg.n
 have hgl:=gI_len g
 have hil:=nL_ some
 have hrow:=hg.gr.lt
 have hml:∀f,(mpI f g.length).length=g.length:=fun f=>mpI_len f g.length
 have lnm:∀f,(cP fI (mpI f g.length)).length=g.length:=fun f=>by rw [cI_len,mpI_len]
 refine W89_ok ?_;simp (maxSteps:=1000000) (disch:=first | assumption | (apply ν6;assumption)) only [W89,vz,vu,vv,eqS,eF_,↓c1_,↓c2_,tabs,reduceCtorEq,ι5,↓reduceIte,ν1,ν2,ν3,ν4,ν5,ι1,ι2,ι3,ι4,mS_,hgl,hil]
 refine ⟨by omega,by omega,by omega,by omega,fun q hq=>?_⟩
 have st:=(St.nil H).cell hq (cP fI (mpI (fun v=>if v < 0 then -1 else 0) g.length))
 have ez:zA_ g.length [I 0]=cP fI (mpI (fun v=>if v < 0 then -1 else 0) g.length):=by
  rw [cP_rep,mpI_const];simp
 rw [ez]
 generalize H.set q (cP fI (mpI (fun v=>if v < 0 then -1 else 0) g.length))=G1 at st ⊢
 have rounds:∀q2 G,St H [cT_ q2 (cP fI (nI some)),cT_ q (cP fI (mpI (sI0 some some.length) g.length))] G→
   L89_2 (wkK fun r H'=>r=Is (mpI (farF (rwF g) g.length some) g.length)∧H'=H) (Ls (gI g)) (.sl q 1 0 g.length) (rowP q2 (nI some)) G:=by
  intro q2 G st
  refine L89_2_rule ((0:Nat),([]:List Nat),q2,G) (fun s=>.sl s.2.2.1 1 s.2.1.length (bst (rwF g) some s.1).q.length) (fun s=>s.2.2.2)
   (fun s=>BInv (rwF g) g.length some s.1 (bst (rwF g) some s.1)∧St H [cT_ s.2.2.1 (cP fI (nI s.2.1++nI (bst (rwF g) some s.1).q)),cT_ q (cP fI (mpI (bst (rwF g) some s.1).s g.length))] s.2.2.2)
   (fun s=>g.length+some.length - s.1) ⟨⟨B_ini hs,by rw [sI0_all] at st;exact st⟩,by simp [rowP,nL_,bst,bini];exact .refl _,Heap.le_refl _⟩ ?_
  clear st G q2
  rintro ⟨i,J,q2,G⟩ ⟨hb,st⟩
  dsimp only at hb st
  generalize hbe:bst (rwF g) some i=b at hb st
  simp only [hbe]
  have hms:=hb.ms
  (try simp (maxSteps:=1000000) (disch:=first | assumption | (apply ν6;assumption)) only [vz,vu,vv,eqS,eF_,↓c1_,↓c2_,tabs,reduceCtorEq,ι5,↓reduceIte,ν1,ν2,ν3,ν4,ν5,ι1,ι2,ι3,ι4,B89_2])
  refine ⟨fun h1=>?_,fun h1=>?_⟩
  ·obtain ⟨k,bq,hbq⟩:∃k bq,b.q=k::bq:=by
    cases e:b.q with
    | nil=>rw [e] at h1;simp at h1
    | cons k bq=>exact ⟨k,bq,rfl⟩
   have hstep:bst (rwF g) some (i+1)=bstep (rwF g) b:=by rw [bst,hbe]
   have hnxt:=B_step hrow hb (by rw [hbq];simp)
   rw [bstep_cons hbq] at hstep hnxt
   have hk0:0≤b.s k:=hb.qs k (by rw [hbq];simp)
   have hkn:=hb.lt k hk0
   have hki:=hb.hi k
   rw [hbq] at st hms
   simp only [List.length_cons] at hms
   have rdk:∀(J l:List Nat),(List.take 1 (List.drop J.length (cP fI (nI J++nI (k::l))))).headD Q_=I k:=by
    intro J l
    have e:nI (k::l)=(k:Int)::nI l:=rfl
    rw [cI_app,List.drop_left' (by rw [cI_len,nL_]),e];rfl
   have ln:∀(J l:List Nat),(cP fI (nI J++nI (k::l))).length=J.length+(l.length+1):=by
    intro J l;rw [cI_len,List.length_append,nL_,nL_,List.length_cons]
   have hrl:=hg.row hkn
   have hrn:=nL_ (rwF g k)
   have hlq:b.q.length=bq.length+1:=by rw [hbq];rfl
   (try simp (maxSteps:=1000000) (disch:=first | assumption | (apply ν6;assumption)) only [vz,vu,vv,eqS,eF_,↓c1_,↓c2_,tabs,reduceCtorEq,ι5,↓reduceIte,ν1,ν2,ν3,ν4,ν5,ι1,ι2,ι3,ι4,lA_ (st.get 0 rfl),rdk,ln,hgl,hlq])
   refine ⟨by omega,by omega,by omega,by omega,by omega,?_⟩
   rw [gI_get hkn]
   (try simp (maxSteps:=1000000) (disch:=first | assumption | (apply ν6;assumption)) only [vz,vu,vv,eqS,eF_,↓c1_,↓c2_,tabs,reduceCtorEq,ι5,↓reduceIte,ν1,ν2,ν3,ν4,ν5,ι1,ι2,ι3,ι4,hrn])
   have eJ:∀(J l:List Nat),nI J++nI (k::l)=nI (J++[k])++nI l:=fun J l=>by rw [← nI_app,← nI_app];simp
   rw [eJ] at st
   have et:(((bq.length+1:Nat):Int) - 1).toNat=bq.length:=by omega
   refine ⟨by omega,by omega,by omega,?_⟩
   refine L89_3_rule ((0:Nat),J++[k],q2,G) (fun s=>.sl s.2.2.1 1 s.2.1.length (((rwF g k).take s.1).foldl (bput (b.s k+1)) ⟨b.s,bq⟩).q.length) (fun s=>I s.1) (fun s=>s.2.2.2)
    (fun s=>s.1≤(rwF g k).length∧St H [cT_ s.2.2.1 (cP fI (nI s.2.1++nI ((((rwF g k).take s.1).foldl (bput (b.s k+1)) ⟨b.s,bq⟩).q))),cT_ q (cP fI (mpI (((rwF g k).take s.1).foldl (bput (b.s k+1)) ⟨b.s,bq⟩).s g.length))] s.2.2.2)
    (fun s=>(rwF g k).length - s.1) ⟨⟨by simp,st⟩,by simp only [List.length_append,List.length_singleton,et,List.take_zero,List.foldl_nil];exact .refl _,.refl _,Heap.le_refl _⟩ ?_
   clear st J q2 G
   rintro ⟨j,J,q2,G⟩ ⟨hj,st⟩
   dsimp only at hj st
   have hbr:=BRow.fold (n:=g.length) (k:=k) (d:=b.s k+1) (b0:=⟨b.s,bq⟩) (by omega) (l:=(rwF g k).take j) fun w hw=>hrow k w (List.mem_of_mem_take hw)
   generalize hc:((rwF g k).take j).foldl (bput (b.s k+1)) ⟨b.s,bq⟩=c at hbr st
   have hcm:=hbr.ms
   simp only at hcm
   have hck:c.s k=b.s k:=hbr.old k hk0
   have e5:IntKind.i64.wrap ((j:Int)+1)=((j+1:Nat):Int):=by rw [i6_ (by omega) (by omega)];simp
   simp only [hc]
   (try simp (maxSteps:=1000000) (disch:=first | assumption | (apply ν6;assumption)) only [vz,vu,vv,eqS,eF_,↓c1_,↓c2_,tabs,reduceCtorEq,ι5,↓reduceIte,ν1,ν2,ν3,ν4,ν5,ι1,ι2,ι3,ι4,B89_3,hrn])
   refine ⟨fun h2=>?_,fun h2=>?_⟩
   ·have hlj:j < (rwF g k).length:=by omega
    refine ⟨by omega,h2,?_⟩
    rw [nI_get hlj]
    have hw:=hg.lt hlj
    have hsc:=fold_take_succ (bput (b.s k+1)) ⟨b.s,bq⟩ hlj
    rw [hc] at hsc
    have edf:(rwF g k).getD j default=(rwF g k).getD j 0:=rfl
    rw [edf] at hsc
    generalize (rwF g k).getD j 0=w at hw hsc ⊢
    have rdw:=fun (f:Nat→Int) (v:Nat) (hv:v < g.length)=>(cI_rd (l:=mpI f g.length) (i:=v) (by rw [mpI_len];exact hv)).trans (by rw [mpI_get f hv])
    have lnm:∀f,(cP fI (mpI f g.length)).length=g.length:=fun f=>by rw [cI_len,mpI_len]
    have hwb:=rdw c.s w hw
    have hkb:=rdw c.s k hkn
    (try simp (maxSteps:=1000000) (disch:=first | assumption | (apply ν6;assumption)) only [vz,vu,vv,eqS,eF_,↓c1_,↓c2_,tabs,reduceCtorEq,ι5,↓reduceIte,ν1,ν2,ν3,ν4,ν5,ι1,ι2,ι3,ι4,lA_ (st.get 1 rfl),lnm,hwb,Int.toNat_natCast])
    refine ⟨by omega,by omega,by omega,fun h3=>?_,fun h3=>?_⟩
    ·have hsc2:bput (b.s k+1) c w=⟨updI c.s w (b.s k+1),c.q++[w]⟩:=by rw [bput,if_pos h3]
     rw [hsc2] at hsc
     have e6:IntKind.i64.wrap (b.s k+1)=b.s k+1:=i6_ (by omega) (by omega)
     (try simp (maxSteps:=1000000) (disch:=first | assumption | (apply ν6;assumption)) only [vz,vu,vv,eqS,eF_,↓c1_,↓c2_,tabs,reduceCtorEq,ι5,↓reduceIte,ν1,ν2,ν3,ν4,ν5,ι1,ι2,ι3,ι4,lA_ (st.get 1 rfl),sA_ (st.get 1 rfl),lnm,hkb,hck,e6,Int.toNat_natCast])
     refine ⟨by omega,by omega,by omega,by omega,by omega,by omega,?_⟩
     have hset:=cI_set (l:=mpI c.s g.length) (t:=w) (by rw [mpI_len];exact hw) (b.s k+1)
     rw [hset,mpI_set]
     replace st:=st.put 1 rfl (cP fI (mpI (updI c.s w (b.s k+1)) g.length))
     generalize G.set q (cP fI (mpI (updI c.s w (b.s k+1)) g.length))=G2 at st ⊢
     refine lit1 tab_24 rfl tab_3 ⟨rfl,rfl⟩ ?_
     refine st_appN (w:=w) st 0 rfl rfl (by omega) fun q' G' hq' st=>?_
     (try simp (maxSteps:=1000000) (disch:=first | assumption | (apply ν6;assumption)) only [vz,vu,vv,eqS,eF_,↓c1_,↓c2_,tabs,reduceCtorEq,ι5,↓reduceIte,ν1,ν2,ν3,ν4,ν5,ι1,ι2,ι3,ι4,e5])
     refine ⟨(j+1,[],q',G'),⟨by simp only;omega,by simp only [hsc];exact st⟩,by simp only;omega,?_,.refl _,Heap.le_refl _⟩
     simp only [hsc,List.length_append,List.length_singleton];exact .refl _
    ·have hsc2:bput (b.s k+1) c w=c:=by rw [bput,if_neg h3]
     rw [hsc2] at hsc
     (try simp (maxSteps:=1000000) (disch:=first | assumption | (apply ν6;assumption)) only [vz,vu,vv,eqS,eF_,↓c1_,↓c2_,tabs,reduceCtorEq,ι5,↓reduceIte,ν1,ν2,ν3,ν4,ν5,ι1,ι2,ι3,ι4,e5])
     refine ⟨(j+1,J,q2,G),⟨by simp only;omega,by simp only [hsc];exact st⟩,by simp only;omega,?_,.refl _,Heap.le_refl _⟩
     simp only [hsc];exact .refl _
   ·have:j=(rwF g k).length:=by omega
    subst this
    rw [List.take_length] at hc
    rw [hc] at hstep hnxt
    (try simp (maxSteps:=1000000) (disch:=first | assumption | (apply ν6;assumption)) only [vz,vu,vv,eqS,eF_,↓c1_,↓c2_,tabs,reduceCtorEq,ι5,↓reduceIte,ν1,ν2,ν3,ν4,ν5,ι1,ι2,ι3,ι4])
    refine ⟨(i+1,J,q2,G),⟨by simp only [hstep];exact hnxt,by simp only [hstep];exact st⟩,by simp only;omega,?_,Heap.le_refl _⟩
    simp only [hstep];exact .refl _
  ·have hq0:b.q=[]:=List.eq_nil_of_length_eq_zero (by omega)
   rw [hq0] at hms
   have hfar:=far_of (row:=rwF g) (n:=g.length) (some:=some) (i:=i) (by simp at hms;omega) (by rw [hbe];exact hq0)
   rw [hbe] at hfar
   rw [hfar]
   have:=st_int st 1 rfl
   rw [rowP,mpI_len] at this
   exact this
 have seeds:∀G,St H [cT_ q (cP fI (mpI (sI0 some 0) g.length))] G→L89_1 (wkK fun r H'=>r=Is (mpI (farF (rwF g) g.length some) g.length)∧H'=H) (Ls (gI g)) (Is (nI some)) (.sl q 1 0 g.length) (Is (nI some)) (I some.length) (I 0) G:=by
  intro G st
  refine L89_1_rule ((0:Nat),G) (fun s=>I s.1) (fun s=>s.2) (fun s=>s.1≤some.length∧St H [cT_ q (cP fI (mpI (sI0 some s.1) g.length))] s.2) (fun s=>some.length - s.1)
   ⟨⟨by simp,st⟩,.refl _,Heap.le_refl _⟩ ?_
  clear st G
  rintro ⟨k,G⟩ ⟨hk,st⟩
  dsimp only at hk st
  (try simp (maxSteps:=1000000) (disch:=first | assumption | (apply ν6;assumption)) only [vz,vu,vv,eqS,eF_,↓c1_,↓c2_,tabs,reduceCtorEq,ι5,↓reduceIte,ν1,ν2,ν3,ν4,ν5,ι1,ι2,ι3,ι4,B89_1,hil])
  refine ⟨fun h1=>?_,fun h1=>?_⟩
  ·have hlt:k < some.length:=by omega
   refine ⟨by omega,h1,?_⟩
   rw [nI_get hlt]
   have hv:=hs (some.getD k 0) (by simp [List.getD,hlt])
   have hsc:=sI0_succ hlt
   generalize some.getD k 0=v at hv hsc ⊢
   have e5:IntKind.i64.wrap ((k:Int)+1)=((k+1:Nat):Int):=by rw [i6_ (by omega) (by omega)];simp
   (try simp (maxSteps:=1000000) (disch:=first | assumption | (apply ν6;assumption)) only [vz,vu,vv,eqS,eF_,↓c1_,↓c2_,tabs,reduceCtorEq,ι5,↓reduceIte,ν1,ν2,ν3,ν4,ν5,ι1,ι2,ι3,ι4,sA_ (st.get 0 rfl),lnm,e5,Int.toNat_natCast])
   refine ⟨by omega,by omega,by omega,?_⟩
   have hset:=cI_set (l:=mpI (sI0 some k) g.length) (t:=v) (by rw [mpI_len];exact hv) 0
   rw [hset,mpI_set,hsc]
   exact ⟨(k+1,_),⟨by simp only;omega,st.put 0 rfl (cP fI (mpI (sI0 some (k+1)) g.length))⟩,by simp only;omega,.refl _,Heap.le_refl _⟩
  ·have:k=some.length:=by omega
   subst this
   refine l1Own_row (nI some) (by omega) fun q2 hq2=>?_
   replace st:=st.cell hq2 (cP fI (nI some))
   exact rounds q2 _ st
 refine L89_0_rule ((0:Nat),G1) (fun s=>I s.1) (fun s=>s.2) (fun s=>s.1≤g.length∧St H [cT_ q (cP fI (mpI (fun v=>if v < s.1 then -1 else 0) g.length))] s.2) (fun s=>g.length - s.1)
  ⟨⟨by simp,st⟩,.refl _,Heap.le_refl _⟩ ?_
 clear st G1
 rintro ⟨k,G⟩ ⟨hk,st⟩
 dsimp only at hk st
 (try simp (maxSteps:=1000000) (disch:=first | assumption | (apply ν6;assumption)) only [vz,vu,vv,eqS,eF_,↓c1_,↓c2_,tabs,reduceCtorEq,ι5,↓reduceIte,ν1,ν2,ν3,ν4,ν5,ι1,ι2,ι3,ι4,B89_0,hil])
 refine ⟨fun h1=>?_,fun h1=>?_⟩
 ·have hlt:k < g.length:=by omega
  have e5:IntKind.i64.wrap ((k:Int)+1)=((k+1:Nat):Int):=by rw [i6_ (by omega) (by omega)];simp
  (try simp (maxSteps:=1000000) (disch:=first | assumption | (apply ν6;assumption)) only [vz,vu,vv,eqS,eF_,↓c1_,↓c2_,tabs,reduceCtorEq,ι5,↓reduceIte,ν1,ν2,ν3,ν4,ν5,ι1,ι2,ι3,ι4,sA_ (st.get 0 rfl),lnm,e5,Int.toNat_natCast])
  refine ⟨by omega,by omega,by omega,?_⟩
  have hset:=cI_set (l:=mpI (fun v=>if v < k then -1 else 0) g.length) (t:=k) (by rw [mpI_len];exact hlt) (-1)
  have hup:updI (fun v=>if v < k then -1 else 0) k (-1)=fun v=>if v < k+1 then -1 else 0:=by
   funext v
   unfold updI
   by_cases e:v=k
   ·subst e;simp
   ·have:v < k+1↔v < k:=by omega
    simp [e,this]
  rw [hset,mpI_set,hup]
  exact ⟨(k+1,_),⟨by simp only;omega,st.put 0 rfl (cP fI (mpI (fun v=>if v < k+1 then -1 else 0) g.length))⟩,by simp only;omega,.refl _,Heap.le_refl _⟩
 ·have:k=g.length:=by omega
  subst this
  have e0:mpI (fun v=>if v < g.length then -1 else 0) g.length=mpI (sI0 some 0) g.length:=by
   rw [sI0_zero]
   unfold mpI
   apply List.map_congr_left
   intro v hv
   rw [if_pos (List.mem_range.1 hv)]
  rw [e0] at st
  exact seeds G st
end Go.Proofs.YtohkciilfkhomaaGreat
