/- Texts laid together: Dr1 Dr2 Mg0 Ss1 Lay Ss2 Ms1 Mb1 Mg1 Tj0. -/
import Derived.Test.YtohkciilfkhomaaGreatPW6
import Derived.Sort.Grow
import Derived.Shelf.SlGeneric
import Derived.Shelf.SlLaysNS
import Derived.Test.YtohkciilfkhomaaGreatProg
import Derived.Shelf.SortG.Plain
import Derived.Shelf.SortG.SortNone
import Derived.Shelf.SlicesG.CompactI
set_option linter.unusedVariables false
set_option linter.unusedSimpArgs false
open Go.Sep.AV renaming any → Q_
open Nat renaming reduceAdd→ν1,reduceLeDiff→ν2,reduceLT→ν3,reduceMul→ν4,reduceSub→ν5
open Int renaming reduceToNat→ι1,reduceSub→ι2,reduceAdd→ι3,reduceNeg→ι4
open Array renaming toList→ι5
open Ne renaming symm→ν6
open List renaming forall_mem_cons→ν7
namespace Go.Proofs.YtohkciilfkhomaaGreat
open Go Go.Sep Go.Pt
attribute [local irreducible] CallT
theorem Heap.del_put {H:Heap} {r:Nat} {b:List AV} (h:H r=some b):(H.del r).set r b=H:=by
 funext y
 by_cases e:y=r
 ·subst e;rw [Heap.set_same,h]
 ·rw [Heap.set_other e,Heap.del_other e]
theorem St.start {H:Heap} {r:Nat} {b:List AV} (h:H r=some b):St (H.del r) [cT_ r b] H:=by
 have:=(St.nil (H.del r)).cell (r:=r) (Heap.del_same _ _) b
 rwa [Heap.del_put h] at this
theorem set_le {H G:Heap} {Ts:List Th} {r:Nat} {b:List AV} (st:St (H.del r) Ts G) (c:Nat) (hc:Ts[c]?=some (cT_ r b)):Heap.le (H.set r b) G:=by
 intro y v hv
 by_cases e:y=r
 ·subst e;rw [Heap.set_same] at hv;rw [← hv];exact st.get c hc
 ·rw [Heap.set_other e] at hv
  exact st.le y v (by rw [Heap.del_other e];exact hv)
theorem dr_fin {H G:Heap} {Ts:List Th} {z1 z2 z3:Nat} {x y w:AV} {f:List Int} {es:List Ed} {gs:List (List Int)} {D1 D2 D3:List Nat} {m:Int} {r:Nat} {b:List AV} (st:St (H.del r) Ts G) (i j l c:Nat)
  (hi:(Ts[i]?=some (riT z1 x f D1)∧i≠j∧i≠l∧i≠c)∨(x=.p .nil∧f=[])) (hj:Ts[j]?=some (reT z2 y es D2)) (hl:Ts[l]?=some (rzT (LPl.local eL) (LPl.has eL) 1 z3 w gs D3)) (hc:Ts[c]?=some (cT_ r b)) (hjl:j≠l) (hjc:j≠c) (hlc:l≠c)
  {K:AV→Heap→Prop} (h:K (aAu ⟨m,f,es,gs⟩) (H.set r b)):wkK K (.agg [I m,x,y,w]) G:=by
 obtain ⟨G0,E,w0,f0,e2,e3,er,eH⟩:∃(G0:Heap) (E:List Nat),Wk (.agg [I m,x,y,w]) G (.agg [I m,Is f,y,w]) G0∧(∀v,v∉E→G0 v=G v)∧(∀v∈D2,v∉E)∧(∀v∈D3,v∉E)∧r∉E∧∀v b,(H.del r) v=some b→v∉E:=by
  rcases hi with ⟨hi,h1,h2,h3⟩ | ⟨rfl,rfl⟩
  ·obtain ⟨x',hx,lx⟩:=(st.get i hi:RZ (LPl eI) 1 z1 x f G D1).row
   obtain ⟨G1,w1,f1⟩:=LRow.frzV (e:=eI) (sz:=1) (v:=.agg [I m,x',y,w]) (v':=.agg [I m,Is f,y,w]) (by omega) (fun _=>rfl) (LPl.local eI) (LPl.frz eI) lx (st.ndT i hi) (fun q _ hr=>.agg (.cons (.same _) (.cons hr (.cons (.same _) (.cons (.same _) .nil)))))
   exact ⟨G1,D1,.trans (.val (v':=.agg [I m,x',y,w]) (wk_agg ⟨.refl _,hx,.refl _,.refl _,trivial⟩)) w1,f1,fun v hv=>st.disjI j i hj hi (Ne.symm h1) v hv,fun v hv=>st.disjI l i hl hi (Ne.symm h2) v hv,st.disjI c i hc hi (Ne.symm h3) r (by simp [cT_]),fun v b hb=>st.wkNone v b hb _ (List.mem_of_getElem? hi)⟩
  ·exact ⟨G,[],.val (wk_agg ⟨.refl _,.nil,.refl _,.refl _,trivial⟩),fun _ _=>rfl,by simp,by simp,by simp,by simp⟩
 obtain ⟨y',hy,ly⟩:=(st.get j hj:RZ (LPl eE) 3 z2 y es G D2).row
 obtain ⟨w',hw,lw⟩:=(st.get l hl:RZ (LPl eL) 1 z3 w gs G D3).row
 have ly0:=LRow.local (LPl.local eE) ly (G':=G0) fun y hy bb hb=>by rw [f0 y (e2 y hy)];exact hb
 have wv:Wk (.agg [I m,Is f,y,w]) G0 (.agg [I m,Is f,y',w']) G0:=.val (wk_agg ⟨.refl _,.refl _,hy,hw,trivial⟩)
 obtain ⟨G1,w1,f1⟩:=LRow.frzV (e:=eE) (sz:=3) (v:=.agg [I m,Is f,y',w']) (v':=.agg [I m,Is f,Es es,w']) (by omega) (fun _=>rfl) (LPl.local eE) (LPl.frz eE) ly0 (st.ndT j hj) (fun q _ hr=>.agg (.cons (.same _) (.cons (.same _) (.cons hr (.cons (.same _) .nil)))))
 have lw1:=LRow.local (LPl.local eL) lw (G':=G1) fun y hy bb hb=>by rw [f1 y (fun hm=>st.disjI j l hj hl hjl y hm hy),f0 y (e3 y hy)];exact hb
 obtain ⟨G2,w2,f2⟩:=LRow.frzV (e:=eL) (sz:=1) (v:=.agg [I m,Is f,Es es,w']) (v':=.agg [I m,Is f,Es es,Ls gs]) (by omega) (fun _=>rfl) (LPl.local eL) (LPl.frz eL) lw1 (st.ndT l hl) (fun q _ hr=>.agg (.cons (.same _) (.cons (.same _) (.cons (.same _) (.cons hr .nil)))))
 have hsl:=set_le st c hc
 refine ⟨_,_,.trans w0 (.trans wv (.trans w1 (.trans w2 (.forget (H':=H.set r b) fun v bb hb=>?_)))),h⟩
 have hG:=hsl v bb hb
 have keep:v∉D3∧v∉D2∧v∉E:=by
  by_cases e:v=r
  ·subst e
   exact ⟨st.disjI c l hc hl (Ne.symm hlc) v (by simp [cT_]),st.disjI c j hc hj (Ne.symm hjc) v (by simp [cT_]),er⟩
  ·rw [Heap.set_other e] at hb
   have hb2:(H.del r) v=some bb:=by rw [Heap.del_other e];exact hb
   exact ⟨st.wkNone v bb hb2 _ (List.mem_of_getElem? hl),st.wkNone v bb hb2 _ (List.mem_of_getElem? hj),eH v bb hb2⟩
 rw [f2 v keep.1,f1 v keep.2.1,f0 v keep.2.2]
 exact hG
theorem l1Put_nil (n:Int) {H:Heap} {K:AV→Heap→Prop} (h:∀q,H q=none→K (rowP q [n]) (H.set q (cP fI [n]))):CallT Tryz.prog 93 [.p .nil,I n] H K:=by
 refine CallT.pre (args':=[Is [],I n]) (H':=H) ?_ (.val (wk_tup ⟨.nil,.refl _,trivial⟩))
 refine CallT.fin ?_
 refine W93_ok ?_;simp (maxSteps:=1000000) (disch:=first | assumption | (apply ν6;assumption)) only [W93,vz,vu,vv,eqS,eF_,↓c1_,↓c2_,tabs,reduceCtorEq,ι5,↓reduceIte,ν1,ν2,ν3,ν4,ν5,ι1,ι2,ι3,ι4]
 refine L93_0_rule () (fun _=>I 0) (fun _=>H) (fun _=>True) (fun _=>0) ⟨trivial,.refl _,Heap.le_refl _⟩ ?_
 rintro ⟨⟩ -
 have ins:J93_1 (wkK K) (Is []) (I n) (I 0) H:=by
  (try simp (maxSteps:=1000000) (disch:=first | assumption | (apply ν6;assumption)) only [vz,vu,vv,eqS,eF_,↓c1_,↓c2_,tabs,reduceCtorEq,ι5,↓reduceIte,ν1,ν2,ν3,ν4,ν5,ι1,ι2,ι3,ι4,J93_1])
  refine lit0I fun q0 hq0=>?_
  (try simp (maxSteps:=1000000) (disch:=first | assumption | (apply ν6;assumption)) only [vz,vu,vv,eqS,eF_,↓c1_,↓c2_,tabs,reduceCtorEq,ι5,↓reduceIte,ν1,ν2,ν3,ν4,ν5,ι1,ι2,ι3,ι4,sliceV])
  refine ⟨by omega,by omega,by omega,by simp,?_⟩
  refine app_topI (xs:=[]) (ys:=[]) hq0 (by simp) fun q1 hq1=>?_
  refine push_topI (xs:=[]) hq1 (by simp) fun q2 hq2=>?_
  (try simp (maxSteps:=1000000) (disch:=first | assumption | (apply ν6;assumption)) only [vz,vu,vv,eqS,eF_,↓c1_,↓c2_,tabs,reduceCtorEq,ι5,↓reduceIte,ν1,ν2,ν3,ν4,ν5,ι1,ι2,ι3,ι4,sliceV])
  refine ⟨by omega,by omega,by omega,by simp,?_⟩
  refine app_topI (xs:=[n]) (ys:=[]) hq2 (by simp) fun q3 hq3=>?_
  exact wkK.keep (h q3 hq3)
 (try simp (maxSteps:=1000000) (disch:=first | assumption | (apply ν6;assumption)) only [vz,vu,vv,eqS,eF_,↓c1_,↓c2_,tabs,reduceCtorEq,ι5,↓reduceIte,ν1,ν2,ν3,ν4,ν5,ι1,ι2,ι3,ι4,B93_0,J93_2])
 exact ⟨fun h1=>absurd h1 (by omega),fun _=>⟨fun h1=>absurd h1 (by omega),fun _=>ins⟩⟩
abbrev dTs (q5 q4:Nat) (m:Int) (x y w:AV) (z1 z2 z3:Nat) (f:List Int) (es:List Ed) (gs:List (List Int)) (D1 D2 D3:List Nat) (r:Nat) (c:List AV):List Th:=[cT_ q5 [I m,x,y,w],cT_ q4 [I 0,.p .nil,.p .nil,.p .nil],riT z1 x f D1,reT z2 y es D2,rzT (LPl.local eL) (LPl.has eL) 1 z3 w gs D3,cT_ r c]
theorem auto_ret {q4:Nat} {m:Int} {x y w:AV} {G:Heap} (hx:x=.p .nil∨∃q n,x=.sl q 1 0 n) (hy:y=.p .nil∨∃q n,y=.sl q 3 0 n) (hw:w=.p .nil∨∃q n,w=.sl q 1 0 n) (hG:G q4=some [I 0,.p .nil,.p .nil,.p .nil]) {K:AV→Heap→Prop} (h:K (.agg [I m,x,y,w]) (G.set q4 [I m,x,y,w])) :
  sV_ tab 28 (.ptr q4 0) (.agg [I m,x,y,w]) G fun H=>lV_ tab 28 (.ptr q4 0) H fun r0=>K r0 H:=by
 have hs:(G.set q4 [I m,x,y,w]) q4=some [I m,x,y,w]:=Heap.set_same _ _ _
 rcases hx with rfl | ⟨q1,n1,rfl⟩<;>rcases hy with rfl | ⟨q2,n2,rfl⟩<;>rcases hw with rfl | ⟨q3,n3,rfl⟩<;>((try simp (maxSteps:=1000000) (disch:=first | assumption | (apply ν6;assumption)) only [vz,vu,vv,eqS,eF_,↓c1_,↓c2_,tabs,reduceCtorEq,ι5,↓reduceIte,ν1,ν2,ν3,ν4,ν5,ι1,ι2,ι3,ι4,sA_ hG,lA_ hs]);exact h)
theorem nils_val {H G:Heap} {Ts:List Th} {q N:Nat} (s:St H Ts G) (i:Nat) (hi:Ts[i]?=some (cT_ q (zA_ N [.p .nil]))) (v:AV):∃G',Wk v G v G'∧St H (Ts.set i (rzT (LPl.local eL) (LPl.has eL) 1 0 (.sl q 1 0 N) (List.replicate N []) [q])) G':=by
 have hz:zA_ N [AV.p .nil]=List.replicate N (.p .nil):=by
  induction N with
  | zero=>rfl
  | succ N ih=>simp [zA_,List.replicate_succ] at *
 have hc:cells ((List.replicate N ([]:List Int)).map eL)=List.replicate N (.p (.sl [])):=by
  clear hi hz
  induction N with
  | zero=>rfl
  | succ N ih=>simp only [List.replicate_succ,List.map_cons,cells,List.flatten_cons,List.map_append] at ih ⊢;rw [ih];rfl
 have hG:=s.get i hi
 refine ⟨G.set q (cells ((List.replicate N ([]:List Int)).map eL)),.cell (by exact hG) (by rw [hz,hc];simp) fun j a a' ha ha'=>?_,?_⟩
 ·rw [hz] at ha
  rw [hc] at ha'
  rw [List.eq_of_mem_replicate (List.mem_of_getElem? ha),List.eq_of_mem_replicate (List.mem_of_getElem? ha')]
  exact .nil
 ·refine s.repl i hi _ (by simp [rzT]) (fun y hy=>.inl hy) (fun y b hb hy=>?_) (.inr ⟨q,_,[],by rw [List.length_replicate],Heap.set_same _ _ _,LL.plain _,rfl⟩)
  have hy:y≠q:=by simpa [cT_] using hy
  rw [Heap.set_other hy];exact hb
theorem put_len1 (a b:Int):(put [a] b).length≤2:=by
 unfold put
 split
 ·simp
 ·by_cases h:a < b<;>simp [h]
theorem put_pw1 (a b:Int):(put [a] b).Pairwise (· < ·):=by
 unfold put
 split
 ·simp
 ·rename_i h
  simp at h
  by_cases h2:a < b
  ·simp [h2]
  ·simp [h2];omega
theorem auto_4 {code:List Int} (hc:CodeC code) {H G:Heap} {r q5 q4:Nat} {k0:Nat} {seed:Int} {m:Int} (hm:1≤m∧m≤100) {x y w:AV} {z1 z2 z3:Nat} {f:List Int} {es:List Ed} {gs0:List (List Int)} {D1 D2 D3:List Nat} (hf:f.length≤1000) (he:es.length≤10000) (n0:Nat) (hn0:n0≤4) (hg:gs0=[])
  (st:St (H.del r) (dTs q5 q4 m x y w z1 z2 z3 f es gs0 D1 D2 D3 r (cur code k0 seed)) G) (hk:k0≤600000000) {K:AV→Heap→Prop}
  (h:∀f es gs k' seed',f.length≤2000→es.length≤20000→gs.length≤10→(∀g∈gs,g.length≤10)→k0≤k'→k'≤k0+50→K (aAu ⟨m,f,es,gs⟩) (H.set r (cur code k' seed'))) :
  L45_4 (wkK K) (.ptr r 0) (.ptr q4 0) (.ptr q5 0) (I n0) G:=by
 subst hg
 refine L45_4_rule (n0,w,([]:List (List Int)),D3,k0,seed,G) (fun s=>I s.1) (fun s=>s.2.2.2.2.2.2)
  (fun s=>s.1≤n0∧s.2.2.1.length+s.1≤n0∧(∀g∈s.2.2.1,g.length≤2∧g.Pairwise (· < ·))∧k0≤s.2.2.2.2.1∧s.2.2.2.2.1+8*s.1≤k0+8*n0∧St (H.del r) (dTs q5 q4 m x y s.2.1 z1 z2 z3 f es s.2.2.1 D1 D2 s.2.2.2.1 r (cur code s.2.2.2.2.1 s.2.2.2.2.2.1)) s.2.2.2.2.2.2) (fun s=>s.1)
  ⟨⟨by simp,by simp,by simp,by simp,by simp,st⟩,.refl _,Heap.le_refl _⟩ ?_
 clear st G seed w D3
 rintro ⟨n,w,gs,D3,k,seed,G⟩ ⟨hn,hgl,hgg,hk1,hk2,st⟩
 dsimp only at hn hgl hgg hk1 hk2 st
 have e5:0 < n→IntKind.i64.wrap ((n:Int) - 1)=((n - 1:Nat):Int):=fun h=>by rw [i6_ (by omega) (by omega)];omega
 (try simp (maxSteps:=1000000) (disch:=first | assumption | (apply ν6;assumption)) only [vz,vu,vv,eqS,eF_,↓c1_,↓c2_,tabs,reduceCtorEq,ι5,↓reduceIte,ν1,ν2,ν3,ν4,ν5,ι1,ι2,ι3,ι4,B45_4])
 refine ⟨fun hpos=>?_,fun hpos=>?_⟩
 ·have hn1:0 < n:=by omega
  have e5':=e5 hn1
  (try simp (maxSteps:=1000000) (disch:=first | assumption | (apply ν6;assumption)) only [vz,vu,vv,eqS,eF_,↓c1_,↓c2_,tabs,reduceCtorEq,ι5,↓reduceIte,ν1,ν2,ν3,ν4,ν5,ι1,ι2,ι3,ι4,lA_ (st.get 0 rfl)])
  refine pick_spec hc m (by omega) (k:=k) (by omega) (st.get 5 rfl) fun x1 k1 s1 hx0 hx1 hk3 hk4=>?_
  replace st:=st.put 5 rfl (cur code k1 s1)
  generalize G.set r (cur code k1 s1)=G1 at st ⊢
  have hp1:=l1Put_spec [] x1 List.Pairwise.nil (by simp)
  refine CallT.pre (args':=[Is [],I x1]) (H':=G1) ?_ (.val (wk_tup ⟨.nil,.refl _,trivial⟩))
  refine Pu.use hp1 ?_
  have ep:put [] x1=[x1]:=rfl
  rw [ep]
  have nx:∀(g:List Int) (k2:Nat) (s2:Int) (G2:Heap),g.length≤2→g.Pairwise (· < ·)→k≤k2→k2≤k+8→St (H.del r) (dTs q5 q4 m x y w z1 z2 z3 f es gs D1 D2 D3 r (cur code k2 s2)) G2→G.le G→J45_5 (wkK K) (fun w12 H'=>∃s':Nat×AV×List (List Int)×List Nat×Nat×Int×Heap,(s'.1≤n0∧s'.2.2.1.length+s'.1≤n0∧(∀g∈s'.2.2.1,g.length≤2∧g.Pairwise (· < ·))∧k0≤s'.2.2.2.2.1∧s'.2.2.2.2.1+8*s'.1≤k0+8*n0∧St (H.del r) (dTs q5 q4 m x y s'.2.1 z1 z2 z3 f es s'.2.2.1 D1 D2 s'.2.2.2.1 r (cur code s'.2.2.2.2.1 s'.2.2.2.2.2.1)) s'.2.2.2.2.2.2)∧s'.1 < n∧w12.wk (I s'.1)∧Heap.le s'.2.2.2.2.2.2 H') (.ptr r 0) (.ptr q4 0) (.ptr q5 0) (I n) (Is g) G2:=by
   intro g k2 s2 G2 hg1 hg2 hk5 hk6 st _
   (try simp (maxSteps:=1000000) (disch:=first | assumption | (apply ν6;assumption)) only [vz,vu,vv,eqS,eF_,↓c1_,↓c2_,tabs,reduceCtorEq,ι5,↓reduceIte,ν1,ν2,ν3,ν4,ν5,ι1,ι2,ι3,ι4,J45_5,lA_ (st.get 0 rfl)])
   refine lit1 tab_26 rfl tab_24 ⟨rfl,rfl⟩ ?_
   (try simp (maxSteps:=1000000) (disch:=first | assumption | (apply ν6;assumption)) only [vz,vu,vv,eqS,eF_,↓c1_,↓c2_,tabs,reduceCtorEq,ι5,↓reduceIte,ν1,ν2,ν3,ν4,ν5,ι1,ι2,ι3,ι4,lA_ (st.get 0 rfl)])
   refine RZ.app (bz:=24) (e:=eL) (ys:=[g]) tab_26 rfl tab_24 tab_26 rfl rfl rfl (fun _=>rfl) st 4 rfl rfl (by simp only [List.length_cons,List.length_nil];omega) (by simp only [List.length_cons,List.length_nil];omega) fun q' G' hq' st=>?_
   obtain ⟨gs',hgs⟩:∃gs',gs++[g]=gs':=⟨_,rfl⟩
   have hgl':gs'.length=gs.length+1:=by rw [← hgs];simp
   have hgg':∀g∈gs',g.length≤2∧g.Pairwise (· < ·):=by
    intro g' hg'
    rw [← hgs] at hg'
    rcases List.mem_append.1 hg' with h | h
    ·exact hgg _ h
    ·rw [List.mem_singleton.1 h];exact ⟨hg1,hg2⟩
   rw [hgs] at st ⊢
   (try simp (maxSteps:=1000000) (disch:=first | assumption | (apply ν6;assumption)) only [vz,vu,vv,eqS,eF_,↓c1_,↓c2_,tabs,reduceCtorEq,ι5,↓reduceIte,ν1,ν2,ν3,ν4,ν5,ι1,ι2,ι3,ι4,sA_ (st.get 0 rfl),e5'])
   replace st:=st.put 0 rfl [I m,x,y,.sl q' 1 0 gs'.length]
   exact ⟨(n - 1,_,gs',[q'],k2,s2,_),⟨by simp only;omega,by simp only;omega,hgg',by simp only;omega,by simp only;omega,st⟩,by simp only;omega,.refl _,Heap.le_refl _⟩
  (try simp (maxSteps:=1000000) (disch:=first | assumption | (apply ν6;assumption)) only [vz,vu,vv,eqS,eF_,↓c1_,↓c2_,tabs,reduceCtorEq,ι5,↓reduceIte,ν1,ν2,ν3,ν4,ν5,ι1,ι2,ι3,ι4])
  refine one_spec hc 2 (by omega) (k:=k1) (by omega) (st.get 5 rfl) fun b k2 s2 hk5 hk6=>?_
  replace st:=st.put 5 rfl (cur code k2 s2)
  generalize G1.set r (cur code k2 s2)=G2 at st ⊢
  (try simp (maxSteps:=1000000) (disch:=first | assumption | (apply ν6;assumption)) only [vz,vu,vv,eqS,eF_,↓c1_,↓c2_,tabs,reduceCtorEq,ι5,↓reduceIte,ν1,ν2,ν3,ν4,ν5,ι1,ι2,ι3,ι4])
  refine ⟨fun hb=>?_,fun hb=>?_⟩
  ·(try simp (maxSteps:=1000000) (disch:=first | assumption | (apply ν6;assumption)) only [vz,vu,vv,eqS,eF_,↓c1_,↓c2_,tabs,reduceCtorEq,ι5,↓reduceIte,ν1,ν2,ν3,ν4,ν5,ι1,ι2,ι3,ι4,lA_ (st.get 0 rfl)])
   refine pick_spec hc m (by omega) (k:=k2) (by clear nx;omega) (st.get 5 rfl) fun x2 k3 s3 hy0 hy1 hk7 hk8=>?_
   replace st:=st.put 5 rfl (cur code k3 s3)
   generalize G2.set r (cur code k3 s3)=G3 at st ⊢
   refine Pu.use (l1Put_spec [x1] x2 (by simp) (by simp)) ?_
   (try simp (maxSteps:=1000000) (disch:=first | assumption | (apply ν6;assumption)) only [vz,vu,vv,eqS,eF_,↓c1_,↓c2_,tabs,reduceCtorEq,ι5,↓reduceIte,ν1,ν2,ν3,ν4,ν5,ι1,ι2,ι3,ι4])
   exact nx _ k3 s3 G3 (put_len1 x1 x2) (put_pw1 x1 x2) (by clear nx;omega) (by clear nx;omega) st (Heap.le_refl _)
  ·exact nx _ k2 s2 G2 (by simp) (by simp) (by clear nx;omega) (by clear nx;omega) st (Heap.le_refl _)
 ·have:n=0:=by omega
  subst this
  have hx:=RZ.sl (st.get 2 rfl:RZ (LPl eI) 1 z1 x f G D1)
  have hy:=RZ.sl (st.get 3 rfl:RZ (LPl eE) 3 z2 y es G D2)
  have hw:=RZ.sl (st.get 4 rfl:RZ (LPl eL) 1 z3 w gs G D3)
  have vx:x=.p .nil∨∃q n,x=.sl q 1 0 n:=by rcases hx with h | ⟨q,h⟩<;>simp [h]
  have vy:y=.p .nil∨∃q n,y=.sl q 3 0 n:=by rcases hy with h | ⟨q,h⟩<;>simp [h]
  have vw:w=.p .nil∨∃q n,w=.sl q 1 0 n:=by rcases hw with h | ⟨q,h⟩<;>simp [h]
  have hg10:∀g∈gs,g.length≤10:=fun g hg=>by have:=(hgg g hg).1;omega
  refine pick_spec hc 40 (by omega) (k:=k) (by omega) (st.get 5 rfl) fun x1 k1 s1 hx0 hx1 hk3 hk4=>?_
  replace st:=st.put 5 rfl (cur code k1 s1)
  generalize G.set r (cur code k1 s1)=G1 at st ⊢
  (try simp (maxSteps:=1000000) (disch:=first | assumption | (apply ν6;assumption)) only [vz,vu,vv,eqS,eF_,↓c1_,↓c2_,tabs,reduceCtorEq,ι5,↓reduceIte,ν1,ν2,ν3,ν4,ν5,ι1,ι2,ι3,ι4,lA_ (st.get 0 rfl)])
  refine ⟨fun h1=>?_,fun h1=>⟨fun h2=>?_,fun h2=>⟨fun h3=>?_,fun h3=>⟨fun h4=>?_,fun h4=>?_⟩⟩⟩⟩
  ·refine lit1 tab_24 rfl tab_3 ⟨rfl,rfl⟩ ?_
   refine rz_appI (ys:=[m]) st 2 rfl (by simp only [List.length_cons,List.length_nil];omega) fun q' G' hq' st=>?_
   obtain ⟨f',hf'⟩:∃f',f++[m]=f':=⟨_,rfl⟩
   have hfl:f'.length=f.length+1:=by rw [← hf'];simp
   rw [hf'] at st ⊢
   (try simp (maxSteps:=1000000) (disch:=first | assumption | (apply ν6;assumption)) only [vz,vu,vv,eqS,eF_,↓c1_,↓c2_,tabs,reduceCtorEq,ι5,↓reduceIte,ν1,ν2,ν3,ν4,ν5,ι1,ι2,ι3,ι4,sA_ (st.get 0 rfl)])
   replace st:=st.put 0 rfl [I m,rowP q' f',y,w]
   generalize G'.set q5 [I m,rowP q' f',y,w]=G2 at st ⊢
   (try simp (maxSteps:=1000000) (disch:=first | assumption | (apply ν6;assumption)) only [vz,vu,vv,eqS,eF_,↓c1_,↓c2_,tabs,reduceCtorEq,ι5,↓reduceIte,ν1,ν2,ν3,ν4,ν5,ι1,ι2,ι3,ι4,lA_ (st.get 0 rfl)])
   refine auto_ret (.inr ⟨_,_,rfl⟩) vy vw (st.get 1 rfl) ?_
   replace st:=st.put 1 rfl [I m,rowP q' f',y,w]
   exact dr_fin st 2 3 4 5 (.inl ⟨rfl,by decide,by decide,by decide⟩) rfl rfl rfl (by decide) (by decide) (by decide) (h f' es gs k1 s1 (by omega) (by omega) (by omega) hg10 (by omega) (by omega))
  ·refine lit_edge (x:=⟨0,0,0⟩) ?_
   refine rz_appE (ys:=[⟨0,0,0⟩]) st 3 rfl (by simp only [List.length_cons,List.length_nil];omega) fun q' G' hq' st=>?_
   obtain ⟨f',hf'⟩:∃f',es++[⟨0,0,0⟩]=f':=⟨_,rfl⟩
   have hfl:f'.length=es.length+1:=by rw [← hf'];simp
   rw [hf'] at st ⊢
   (try simp (maxSteps:=1000000) (disch:=first | assumption | (apply ν6;assumption)) only [vz,vu,vv,eqS,eF_,↓c1_,↓c2_,tabs,reduceCtorEq,ι5,↓reduceIte,ν1,ν2,ν3,ν4,ν5,ι1,ι2,ι3,ι4,sA_ (st.get 0 rfl)])
   replace st:=st.put 0 rfl [I m,x,rowE q' f',w]
   generalize G'.set q5 [I m,x,rowE q' f',w]=G2 at st ⊢
   (try simp (maxSteps:=1000000) (disch:=first | assumption | (apply ν6;assumption)) only [vz,vu,vv,eqS,eF_,↓c1_,↓c2_,tabs,reduceCtorEq,ι5,↓reduceIte,ν1,ν2,ν3,ν4,ν5,ι1,ι2,ι3,ι4,lA_ (st.get 0 rfl)])
   refine auto_ret vx (.inr ⟨_,_,rfl⟩) vw (st.get 1 rfl) ?_
   replace st:=st.put 1 rfl [I m,x,rowE q' f',w]
   exact dr_fin st 2 3 4 5 (.inl ⟨rfl,by decide,by decide,by decide⟩) rfl rfl rfl (by decide) (by decide) (by decide) (h f f' gs k1 s1 (by omega) (by omega) (by omega) hg10 (by omega) (by omega))
  ·refine pick_spec hc 2 (by omega) (k:=k1) (by omega) (st.get 5 rfl) fun x2 k2 s2 hy0 hy1 hk5 hk6=>?_
   replace st:=st.put 5 rfl (cur code k2 s2)
   generalize G1.set r (cur code k2 s2)=G2 at st ⊢
   (try simp (maxSteps:=1000000) (disch:=first | assumption | (apply ν6;assumption)) only [vz,vu,vv,eqS,eF_,↓c1_,↓c2_,tabs,reduceCtorEq,ι5,↓reduceIte,ν1,ν2,ν3,ν4,ν5,ι1,ι2,ι3,ι4,i6_ (show -9223372036854775808≤6+x2 by omega) (show 6+x2≤9223372036854775807 by omega),mS_])
   refine ⟨by omega,by omega,by omega,by omega,fun q hq=>?_⟩
   replace st:=st.cell hq (zA_ (6+x2).toNat [.p .nil])
   generalize G2.set q (zA_ (6+x2).toNat [.p .nil])=G3 at st ⊢
   obtain ⟨N,hN⟩:∃N,(6+x2).toNat=N:=⟨_,rfl⟩
   rw [hN] at st ⊢
   (try simp (maxSteps:=1000000) (disch:=first | assumption | (apply ν6;assumption)) only [vz,vu,vv,eqS,eF_,↓c1_,↓c2_,tabs,reduceCtorEq,ι5,↓reduceIte,ν1,ν2,ν3,ν4,ν5,ι1,ι2,ι3,ι4,sA_ (st.get 1 rfl)])
   replace st:=st.put 1 rfl [I m,x,y,.sl q 1 0 N]
   generalize G3.set q5 [I m,x,y,.sl q 1 0 N]=G4 at st ⊢
   (try simp (maxSteps:=1000000) (disch:=first | assumption | (apply ν6;assumption)) only [vz,vu,vv,eqS,eF_,↓c1_,↓c2_,tabs,reduceCtorEq,ι5,↓reduceIte,ν1,ν2,ν3,ν4,ν5,ι1,ι2,ι3,ι4,lA_ (st.get 1 rfl)])
   refine auto_ret vx vy (.inr ⟨_,_,rfl⟩) (st.get 2 rfl) ?_
   replace st:=st.put 2 rfl [I m,x,y,.sl q 1 0 N]
   obtain ⟨G5,w1,st⟩:=nils_val st 0 rfl (.agg [I m,x,y,.sl q 1 0 N])
   obtain ⟨v',H',w2,hk⟩:=dr_fin st 3 4 0 6 (.inl ⟨rfl,by decide,by decide,by decide⟩) rfl rfl rfl (by decide) (by decide) (by decide) (h f es (List.replicate N []) k2 s2 (by omega) (by omega) (by rw [List.length_replicate];omega) (fun g hg=>by rw [List.eq_of_mem_replicate hg];simp) (by omega) (by omega))
   exact ⟨v',H',.trans w1 w2,hk⟩
  ·(try simp (maxSteps:=1000000) (disch:=first | assumption | (apply ν6;assumption)) only [vz,vu,vv,eqS,eF_,↓c1_,↓c2_,tabs,reduceCtorEq,ι5,↓reduceIte,ν1,ν2,ν3,ν4,ν5,ι1,ι2,ι3,ι4,sA_ (st.get 0 rfl)])
   replace st:=st.put 0 rfl [I m,.p .nil,y,w]
   generalize G1.set q5 [I m,.p .nil,y,w]=G2 at st ⊢
   (try simp (maxSteps:=1000000) (disch:=first | assumption | (apply ν6;assumption)) only [vz,vu,vv,eqS,eF_,↓c1_,↓c2_,tabs,reduceCtorEq,ι5,↓reduceIte,ν1,ν2,ν3,ν4,ν5,ι1,ι2,ι3,ι4,lA_ (st.get 0 rfl)])
   refine auto_ret (.inl rfl) vy vw (st.get 1 rfl) ?_
   replace st:=st.put 1 rfl [I m,.p .nil,y,w]
   exact dr_fin (z1:=0) (D1:=[]) st 2 3 4 5 (.inr ⟨rfl,rfl⟩) rfl rfl rfl (by decide) (by decide) (by decide) (h [] es gs k1 s1 (by simp) (by omega) (by omega) hg10 (by omega) (by omega))
  ·refine auto_ret vx vy vw (st.get 1 rfl) ?_
   replace st:=st.put 1 rfl [I m,x,y,w]
   exact dr_fin st 2 3 4 5 (.inl ⟨rfl,by decide,by decide,by decide⟩) rfl rfl rfl (by decide) (by decide) (by decide) (h f es gs k1 s1 (by omega) (by omega) (by omega) hg10 (by omega) (by omega))
theorem put_len (l:List Int) (n:Int):(put l n).length≤l.length+1:=by
 unfold put
 split
 ·omega
 ·rw [List.length_append,List.length_cons]
  have e:=congrArg List.length (List.takeWhile_append_dropWhile (p:=(· < n)) (l:=l))
  rw [List.length_append] at e
  omega
theorem put_pw {l:List Int} (n:Int) (h:l.Pairwise (· < ·)):(put l n).Pairwise (· < ·):=by
 unfold put
 split
 ·exact h
 ·rename_i hn
  have h2:=h
  rw [← List.takeWhile_append_dropWhile (p:=(· < n)) (l:=l)] at h2
  rw [List.pairwise_append] at h2 ⊢
  refine ⟨h2.1,List.pairwise_cons.2 ⟨fun y hy=>?_,h2.2.1⟩,fun a ha b hb=>?_⟩
  ·have:=drop_ge h y hy
   have:y≠n:=fun e=>hn (by rw [← e];exact List.Sublist.mem hy (List.dropWhile_sublist _))
   omega
  ·rcases List.mem_cons.1 hb with rfl | hb
   ·exact take_lt a ha
   ·exact h2.2.2 a ha b hb
theorem auto_0 {code:List Int} (hc:CodeC code) {H G:Heap} {r q5 q4:Nat} {k0:Nat} {seed:Int} {m:Int} (hm:1≤m∧m≤100) {x y w:AV} {z1 z2 z3:Nat} {f:List Int} {D1 D2 D3:List Nat} (hf:f.length≤1000)
  (st:St (H.del r) (dTs q5 q4 m x y w z1 z2 z3 f [] [] D1 D2 D3 r (cur code k0 seed)) G) (hk:k0≤500000000) {K:AV→Heap→Prop}
  (h:∀f es gs k' seed',f.length≤2000→es.length≤20000→gs.length≤10→(∀g∈gs,g.length≤10)→k0≤k'→k'≤k0+10000→K (aAu ⟨m,f,es,gs⟩) (H.set r (cur code k' seed'))) :
  L45_0 (wkK K) (.ptr r 0) (.ptr q4 0) (.ptr q5 0) (I 0) G:=by
 refine L45_0_rule ((0:Nat),y,([]:List Ed),D2,k0,seed,G) (fun s=>I s.1) (fun s=>s.2.2.2.2.2.2)
  (fun s=>(s.1:Int)≤m∧s.2.2.1.length≤16*s.1∧k0≤s.2.2.2.2.1∧s.2.2.2.2.1≤k0+64*s.1∧St (H.del r) (dTs q5 q4 m x s.2.1 w z1 z2 z3 f s.2.2.1 [] D1 s.2.2.2.1 D3 r (cur code s.2.2.2.2.1 s.2.2.2.2.2.1)) s.2.2.2.2.2.2) (fun s=>m.toNat - s.1)
  ⟨⟨by simp only;omega,by simp,by simp,by simp,st⟩,.refl _,Heap.le_refl _⟩ ?_
 clear st G seed y D2
 rintro ⟨i,y,es,D2,k,seed,G⟩ ⟨hi,hel,hk1,hk2,st⟩
 dsimp only at hi hel hk1 hk2 st
 have e5:IntKind.i64.wrap ((i:Int)+1)=((i+1:Nat):Int):=by rw [i6_ (by omega) (by omega)];simp
 (try simp (maxSteps:=1000000) (disch:=first | assumption | (apply ν6;assumption)) only [vz,vu,vv,eqS,eF_,↓c1_,↓c2_,tabs,reduceCtorEq,ι5,↓reduceIte,ν1,ν2,ν3,ν4,ν5,ι1,ι2,ι3,ι4,B45_0,lA_ (st.get 0 rfl)])
 refine ⟨fun h1=>?_,fun h1=>?_⟩
 ·refine L45_1_rule ((0:Nat),y,es,D2,k,seed,G) (fun s=>I s.1) (fun s=>s.2.2.2.2.2.2)
   (fun s=>s.1≤8∧s.2.2.1.length≤16*i+2*s.1∧k0≤s.2.2.2.2.1∧s.2.2.2.2.1≤k0+64*i+8*s.1∧St (H.del r) (dTs q5 q4 m x s.2.1 w z1 z2 z3 f s.2.2.1 [] D1 s.2.2.2.1 D3 r (cur code s.2.2.2.2.1 s.2.2.2.2.2.1)) s.2.2.2.2.2.2) (fun s=>8 - s.1)
   ⟨⟨by simp,by simp only;omega,by simp only;omega,by simp only;omega,st⟩,.refl _,Heap.le_refl _⟩ ?_
  clear st G seed y D2 hel hk1 hk2 es k
  rintro ⟨c,y,es,D2,k,seed,G⟩ ⟨hc8,hel,hk1,hk2,st⟩
  dsimp only at hc8 hel hk1 hk2 st
  have e6:IntKind.i64.wrap ((c:Int)+1)=((c+1:Nat):Int):=by rw [i6_ (by omega) (by omega)];simp
  (try simp (maxSteps:=1000000) (disch:=first | assumption | (apply ν6;assumption)) only [vz,vu,vv,eqS,eF_,↓c1_,↓c2_,tabs,reduceCtorEq,ι5,↓reduceIte,ν1,ν2,ν3,ν4,ν5,ι1,ι2,ι3,ι4,B45_1,lA_ (st.get 0 rfl)])
  refine ⟨fun h2=>?_,fun h2=>?_⟩
  ·refine pick_spec hc 3 (by omega) (k:=k) (by omega) (st.get 5 rfl) fun n0 k1 s1 hx0 hx1 hk3 hk4=>?_
   replace st:=st.put 5 rfl (cur code k1 s1)
   generalize G.set r (cur code k1 s1)=G1 at st ⊢
   obtain ⟨n0,rfl⟩:∃n:Nat,n0=(n:Int):=⟨n0.toNat,by omega⟩
   refine L45_2_rule (n0,([]:List Int),k1,s1,G1) (fun s=>Is s.2.1) (fun s=>I s.1) (fun s=>s.2.2.2.2)
    (fun s=>s.1≤n0∧s.2.1.length+s.1≤n0∧s.2.1.Pairwise (· < ·)∧k1≤s.2.2.1∧s.2.2.1+2*s.1≤k1+2*n0∧St (H.del r) (dTs q5 q4 m x y w z1 z2 z3 f es [] D1 D2 D3 r (cur code s.2.2.1 s.2.2.2.1)) s.2.2.2.2) (fun s=>s.1)
    ⟨⟨by simp,by simp,by simp,by simp,by simp,st⟩,.nil,.refl _,Heap.le_refl _⟩ ?_
   clear st G1 s1
   rintro ⟨n,t,k2,s2,G1⟩ ⟨hn,htl,htp,hk5,hk6,st⟩
   dsimp only at hn htl htp hk5 hk6 st
   have e7:0 < n→IntKind.i64.wrap ((n:Int) - 1)=((n - 1:Nat):Int):=fun h=>by rw [i6_ (by omega) (by omega)];omega
   (try simp (maxSteps:=1000000) (disch:=first | assumption | (apply ν6;assumption)) only [vz,vu,vv,eqS,eF_,↓c1_,↓c2_,tabs,reduceCtorEq,ι5,↓reduceIte,ν1,ν2,ν3,ν4,ν5,ι1,ι2,ι3,ι4,B45_2,lA_ (st.get 0 rfl)])
   refine ⟨fun h3=>?_,fun h3=>?_⟩
   ·have hn1:0 < n:=by omega
    have e7':=e7 hn1
    refine pick_spec hc m (by omega) (k:=k2) (by omega) (st.get 5 rfl) fun x1 k3 s3 hy0 hy1 hk7 hk8=>?_
    replace st:=st.put 5 rfl (cur code k3 s3)
    generalize G1.set r (cur code k3 s3)=G2 at st ⊢
    refine Pu.use (l1Put_spec t x1 htp (by omega)) ?_
    have pl:=put_len t x1
    have pp:=put_pw x1 htp
    generalize put t x1=t' at pl pp ⊢
    (try simp (maxSteps:=1000000) (disch:=first | assumption | (apply ν6;assumption)) only [vz,vu,vv,eqS,eF_,↓c1_,↓c2_,tabs,reduceCtorEq,ι5,↓reduceIte,ν1,ν2,ν3,ν4,ν5,ι1,ι2,ι3,ι4,e7'])
    exact ⟨(n - 1,t',k3,s3,G2),⟨by simp only;omega,by simp only;omega,pp,by simp only;omega,by simp only;omega,st⟩,by simp only;omega,.refl _,.refl _,Heap.le_refl _⟩
   ·have:n=0:=by omega
    subst this
    refine L45_3_rule ((0:Nat),y,es,D2,G1) (fun s=>I s.1) (fun s=>s.2.2.2.2)
     (fun s=>s.1≤t.length∧s.2.2.1.length≤16*i+2*c+s.1∧St (H.del r) (dTs q5 q4 m x s.2.1 w z1 z2 z3 f s.2.2.1 [] D1 s.2.2.2.1 D3 r (cur code k2 s2)) s.2.2.2.2) (fun s=>t.length - s.1)
     ⟨⟨by simp,by simp only;omega,st⟩,.refl _,Heap.le_refl _⟩ ?_
    clear st G1 y D2 hel es
    rintro ⟨j,y,es,D2,G⟩ ⟨hj,hel,st⟩
    dsimp only at hj hel st
    have e8:IntKind.i64.wrap ((j:Int)+1)=((j+1:Nat):Int):=by rw [i6_ (by omega) (by omega)];simp
    (try simp (maxSteps:=1000000) (disch:=first | assumption | (apply ν6;assumption)) only [vz,vu,vv,eqS,eF_,↓c1_,↓c2_,tabs,reduceCtorEq,ι5,↓reduceIte,ν1,ν2,ν3,ν4,ν5,ι1,ι2,ι3,ι4,B45_3,lA_ (st.get 0 rfl)])
    refine ⟨fun h4=>⟨by omega,h4,?_⟩,fun h4=>?_⟩
    ·generalize t.getD j default=u
     refine lit_edge (x:=⟨i,c,u⟩) ?_
     (try simp (maxSteps:=1000000) (disch:=first | assumption | (apply ν6;assumption)) only [vz,vu,vv,eqS,eF_,↓c1_,↓c2_,tabs,reduceCtorEq,ι5,↓reduceIte,ν1,ν2,ν3,ν4,ν5,ι1,ι2,ι3,ι4,lA_ (st.get 0 rfl)])
     refine rz_appE (ys:=[⟨i,c,u⟩]) st 3 rfl (by simp only [List.length_cons,List.length_nil];omega) fun q' G' hq' st=>?_
     obtain ⟨es',hes⟩:∃es',es++[⟨i,c,u⟩]=es':=⟨_,rfl⟩
     have hl':es'.length=es.length+1:=by rw [← hes];simp
     rw [hes] at st ⊢
     (try simp (maxSteps:=1000000) (disch:=first | assumption | (apply ν6;assumption)) only [vz,vu,vv,eqS,eF_,↓c1_,↓c2_,tabs,reduceCtorEq,ι5,↓reduceIte,ν1,ν2,ν3,ν4,ν5,ι1,ι2,ι3,ι4,sA_ (st.get 0 rfl),e8])
     replace st:=st.put 0 rfl [I m,x,rowE q' es',w]
     exact ⟨(j+1,_,es',[q'],_),⟨by simp only;omega,by simp only;omega,st⟩,by simp only;omega,.refl _,Heap.le_refl _⟩
    ·(try simp (maxSteps:=1000000) (disch:=first | assumption | (apply ν6;assumption)) only [vz,vu,vv,eqS,eF_,↓c1_,↓c2_,tabs,reduceCtorEq,ι5,↓reduceIte,ν1,ν2,ν3,ν4,ν5,ι1,ι2,ι3,ι4,e6])
     exact ⟨(c+1,y,es,D2,k2,s2,G),⟨by simp only;omega,by simp only;omega,by simp only;omega,by simp only;omega,st⟩,by simp only;omega,.refl _,Heap.le_refl _⟩
  ·have:c=8:=by omega
   subst this
   (try simp (maxSteps:=1000000) (disch:=first | assumption | (apply ν6;assumption)) only [vz,vu,vv,eqS,eF_,↓c1_,↓c2_,tabs,reduceCtorEq,ι5,↓reduceIte,ν1,ν2,ν3,ν4,ν5,ι1,ι2,ι3,ι4,e5])
   exact ⟨(i+1,y,es,D2,k,seed,G),⟨by simp only;omega,by simp only;omega,by simp only;omega,by simp only;omega,st⟩,by simp only;omega,.refl _,Heap.le_refl _⟩
 ·have hi100:i≤100:=by omega
  refine pick_spec hc 4 (by omega) (k:=k) (by omega) (st.get 5 rfl) fun n0 k1 s1 hx0 hx1 hk3 hk4=>?_
  replace st:=st.put 5 rfl (cur code k1 s1)
  generalize G.set r (cur code k1 s1)=G1 at st ⊢
  obtain ⟨n0,rfl⟩:∃n:Nat,n0=(n:Int):=⟨n0.toNat,by omega⟩
  exact auto_4 hc hm hf (by omega) n0 (by omega) rfl st (by omega) fun f es gs k' s' a1 a2 a3 a4 a5 a6=>h f es gs k' s' a1 a2 a3 a4 (by omega) (by omega)
theorem auto_spec {code:List Int} (hc:CodeC code) {H:Heap} {r:Nat} {k0:Nat} {seed:Int} (hr:H r=some (cur code k0 seed)) (hk:k0≤400000000) (most:Int) (hm:1≤most∧most≤99) {K:AV→Heap→Prop}
  (h:∀a k' seed',smAu a→1≤a.states∧a.states≤100→k0≤k'→k'≤k0+20000→K (aAu a) (H.set r (cur code k' seed'))):CallT Tryz.prog 45 [.ptr r 0,I most] H K:=by
 refine CallT.fin ?_
 refine CallT.ghost W45_hb fun z2 hz2=>?_
 refine CallT.ghost W45_hb fun z3 hz3=>?_
 have st:=lent (LPl.local eL) (LPl.has eL) 1 (lent (LPl.local eE) (LPl.has eE) 3 (((St.start hr).cell hz2 []).cell hz3 []) 1 rfl) 0 rfl
 generalize (H.set z2 []).set z3 []=G0 at st ⊢
 clear hz2 hz3
 refine W45_ok ?_;simp (maxSteps:=1000000) (disch:=first | assumption | (apply ν6;assumption)) only [W45,vz,vu,vv,eqS,eF_,↓c1_,↓c2_,tabs,reduceCtorEq,ι5,↓reduceIte,ν1,ν2,ν3,ν4,ν5,ι1,ι2,ι3,ι4]
 intro q4 hq4
 replace st:=st.cell hq4 [I 0,.p .nil,.p .nil,.p .nil]
 refine pick_spec hc most (by omega) (k:=k0) (by omega) (st.get 3 rfl) fun x1 k1 s1 hx0 hx1 hk1 hk2=>?_
 replace st:=st.put 3 rfl (cur code k1 s1)
 have ec:∀H:Heap,H.set q4 [AV.p (PV.int IntKind.i64 0),AV.p PV.nil,AV.p PV.nil,AV.p PV.nil]=H.set q4 [I 0,.p .nil,.p .nil,.p .nil]:=fun _=>rfl
 rw [ec]
 generalize (G0.set q4 [I 0,.p .nil,.p .nil,.p .nil]).set r (cur code k1 s1)=G at st ⊢
 clear ec hq4
 (try simp (maxSteps:=1000000) (disch:=first | assumption | (apply ν6;assumption)) only [vz,vu,vv,eqS,eF_,↓c1_,↓c2_,tabs,reduceCtorEq,ι5,↓reduceIte,ν1,ν2,ν3,ν4,ν5,ι1,ι2,ι3,ι4,i6_ (show -9223372036854775808≤1+x1 by omega) (show 1+x1≤9223372036854775807 by omega)])
 intro q5 hq5
 replace st:=st.cell hq5 [I (1+x1),.p .nil,.p .nil,.p .nil]
 generalize G.set q5 [I (1+x1),.p .nil,.p .nil,.p .nil]=G1 at st ⊢
 clear hq5
 refine pick_spec hc (1+x1) (by omega) (k:=k1) (by omega) (st.get 4 rfl) fun x2 k2 s2 hy0 hy1 hk3 hk4=>?_
 replace st:=st.put 4 rfl (cur code k2 s2)
 generalize G1.set r (cur code k2 s2)=G2 at st ⊢
 refine l1Put_nil x2 fun q hq=>?_
 replace st:=owned_i (st.cell hq (cP fI [x2])) 0 rfl
 generalize G2.set q (cP fI [x2])=G3 at st ⊢
 (try simp (maxSteps:=1000000) (disch:=first | assumption | (apply ν6;assumption)) only [vz,vu,vv,eqS,eF_,↓c1_,↓c2_,tabs,reduceCtorEq,ι5,↓reduceIte,ν1,ν2,ν3,ν4,ν5,ι1,ι2,ι3,ι4,sA_ (st.get 1 rfl)])
 replace st:=st.put 1 rfl [I (1+x1),rowP q [x2],.p .nil,.p .nil]
 generalize G3.set q5 [I (1+x1),rowP q [x2],.p .nil,.p .nil]=G4 at st ⊢
 have st1:=st.pick 5 rfl
 have st2:=st1.pick 4 rfl
 have st3:=st2.pick 5 rfl
 have st4:=st3.pick 3 rfl
 have st5:=st4.pick 5 rfl
 have st6:=st5.pick 5 rfl
 refine auto_0 hc ⟨by omega,by omega⟩ (by simp) st6 (by omega) fun f es gs k' s' a1 a2 a3 a4 a5 a6=>h _ k' s' ⟨by simp only;omega,by simp only;omega,by simp only;omega,fun g hg=>by have:=a4 g hg;omega⟩ ⟨by simp only;omega,by simp only;omega⟩ (by omega) (by omega)
end Go.Proofs.YtohkciilfkhomaaGreat
namespace Go.Proofs.YtohkciilfkhomaaGreat
open Go Go.Sep
attribute [local irreducible] CallT
theorem letters_spec {code:List Int} (hc:CodeC code) {k:Nat} {seed:Int} (n:Int) (hn:n≤1000) (hk:k≤800000000) {H:Heap} {r:Nat} (hr:H r=some (cur code k seed)) {K:AV→Heap→Prop}
  (h:∀(xs:List Int) q k' seed',(xs.length=n∨xs.length=0∧n≤0)→(∀x∈xs,0≤x∧x < 8)→k≤k'→k'≤k+2*xs.length→H q=none→K (own q 1 (xs.map eI)) ((H.set r (cur code k' seed')).set q (cells (xs.map eI)))) :
  CallT Tryz.prog 96 [.ptr r 0,I n] H K:=by
 refine CallT.ghost W96_hb fun q0 hq0=>?_
 have hq0r:q0≠r:=by rintro rfl;rw [hr] at hq0;cases hq0
 refine W96_ok ?_;simp (maxSteps:=1000000) (disch:=first | assumption | (apply ν6;assumption)) only [W96,vz,vu,vv,eqS,eF_,↓c1_,↓c2_,tabs,reduceCtorEq,ι5,↓reduceIte,ν1,ν2,ν3,ν4,ν5,ι1,ι2,ι3,ι4]
 refine L96_0_rule (([]:List Int),q0,k,seed) (fun s=>I (n - s.1.length)) (fun s=>own s.2.1 1 (s.1.map eI)) (fun s=>(H.set r (cur code s.2.2.1 s.2.2.2)).set s.2.1 (cells (s.1.map eI)))
  (fun s=>H s.2.1=none∧(s.1=[]∨s.1.length≤n)∧(∀x∈s.1,0≤x∧x < 8)∧k≤s.2.2.1∧s.2.2.1≤k+2*s.1.length) (fun s=>(n - s.1.length).toNat) ⟨⟨hq0,.inl rfl,by simp,by simp,by simp⟩,?_,.nilo _ _ _,?_⟩ ?_
 ·simp;exact .refl _
 ·(intro y b hy;simp only [Heap.set,Heap.del] at hy ⊢;(repeat' split at hy)<;>(repeat' split)<;>simp_all [cells])
 ·rintro ⟨xs,q,k',s'⟩ ⟨hq,h1,h2,h3,h4⟩
  dsimp only at hq h1 h2 h3 h4
  have hqr:q≠r:=by rintro rfl;rw [hr] at hq;cases hq
  (try simp (maxSteps:=1000000) (disch:=first | assumption | (apply ν6;assumption)) only [vz,vu,vv,eqS,eF_,↓c1_,↓c2_,tabs,reduceCtorEq,ι5,↓reduceIte,ν1,ν2,ν3,ν4,ν5,ι1,ι2,ι3,ι4,B96_0])
  refine ⟨fun h5=>?_,fun h5=>?_⟩
  ·have hx:xs.length < n:=by omega
   refine pick_spec hc 8 (by omega) (k:=k') (by omega) (r:=r) (by rw [Heap.set_other hqr.symm,Heap.set_same]) fun x k2 s2 hx0 hx1 hk2 hk3=>?_
   refine push_own (es:=xs.map eI) (cs:=eI x) tab_24 rfl tab_3 rfl rfl rfl rfl (by omega) (by omega) rfl (by rw [Heap.set_other hqr,Heap.set_same]) (sized_map (f:=eI) (fun _=>rfl) _) (by simp;omega) (by simp;omega) fun q' hq'=>?_
   simp only [Heap.set_none] at hq'
   obtain ⟨q1,q2,q3⟩:=hq'
   (try simp (maxSteps:=1000000) (disch:=first | assumption | (apply ν6;assumption)) only [vz,vu,vv,eqS,eF_,↓c1_,↓c2_,tabs,reduceCtorEq,ι5,↓reduceIte,ν1,ν2,ν3,ν4,ν5,ι1,ι2,ι3,ι4])
   refine ⟨(xs++[x],q',k2,s2),⟨q3.2,.inr ?_,?_,?_,?_⟩,?_,?_,?_,?_⟩
   ·simp;omega
   ·simp only [List.mem_append,List.mem_singleton];rintro y (hy | rfl)
    ·exact h2 y hy
    ·omega
   ·simp only;omega
   ·simp;omega
   ·simp;omega
   ·rw [wk_int,i6_ (by omega) (by omega)];simp;omega
   ·simp [AV.wk.refl]
   ·simp only [List.map_append,List.map_cons,List.map_nil];(intro y b hy;simp only [Heap.set,Heap.del] at hy ⊢;(repeat' split at hy)<;>(repeat' split)<;>simp_all [cells])
  ·have hl:(xs.length:Int)=n∨xs.length=0∧n≤0:=by
    rcases h1 with rfl | h1
    ·right;simp at h5 ⊢;omega
    ·left;omega
   have:=h xs q k' s' hl h2 h3 h4 hq
   exact this
theorem wk_lit {q:Nat} {H:Heap} {K:AV→Heap→Prop} (xs:List Int) {n:Nat} (hn:n=xs.length) (hq:H q=none) (h:K (Is xs) H):wkK K (.sl q 1 0 n) (H.set q (xs.map fun n=>I n)):=by
 subst hn
 refine ⟨Is xs,H,?_,h⟩
 have:=Wk.own_le (q:=q) (sz:=1) (es:=xs.map eI) (H:=H) (H':=H.set q (xs.map fun n=>I n)) (by omega) (szI _) hq (by rw [cells_I];exact Heap.le_refl _)
 simpa only [own,List.length_map] using this
structure LG (H G:Heap) (r r2 r3 q1 q2:Nat) (code:List Int) (k:Nat) (seed:Int) (s l:List Int):Prop where
 cr:G r=some (cur code k seed)
 c2:G r2=some [.p .nil,.p .nil]
 c3:G r3=some [own q1 1 (s.map eI),own q2 1 (l.map eI)]
 d1:G q1=some (cells (s.map eI))
 d2:G q2=some (cells (l.map eI))
 ne:q1≠q2∧q1≠r∧q2≠r∧r2≠r∧r3≠r∧r2≠r3∧q1≠r2∧q1≠r3∧q2≠r2∧q2≠r3
 nn:H q1=none∧H q2=none∧H r2=none∧H r3=none
 le:∀y b,y≠r→H y=some b→G y=some b
theorem LG.fin {H G:Heap} {r r2 r3 q1 q2:Nat} {code:List Int} {k:Nat} {seed:Int} {s l:List Int} (g:LG H G r r2 r3 q1 q2 code k seed s l) {K:AV→Heap→Prop} (h:K (.agg [Is s,Is l]) (H.set r (cur code k seed))) {b:List AV} :
  wkK K (.agg [own q1 1 (s.map eI),own q2 1 (l.map eI)]) (G.set r2 b):=by
 obtain ⟨n1,n2,n3,n4,n5,n6,n7,n8,n9,n10⟩:=g.ne
 obtain ⟨m1,m2,m3,m4⟩:=g.nn
 refine ⟨_,_,.trans (Wk.frz (r:=q1) (sz:=1) (es:=s.map eI) (v':=.agg [Is s,own q2 1 (l.map eI)]) (by omega) (by rw [Heap.set_other n7];exact g.d1) (szI s) (.agg (.cons .here (.cons (.same _) .nil))))
  (.trans (Wk.frz (r:=q2) (sz:=1) (es:=l.map eI) (v':=.agg [Is s,Is l]) (by omega) (by rw [Heap.del_other n1.symm,Heap.set_other n9];exact g.d2) (szI l) (.agg (.cons (.same _) (.cons .here .nil)))) (.forget ?_)),h⟩
 intro y b' hy
 by_cases e:y=r
 ·subst e
  rw [Heap.set_same] at hy
  rw [Heap.del_other n3.symm,Heap.del_other n2.symm,Heap.set_other n4.symm,g.cr,hy]
 ·rw [Heap.set_other e] at hy
  have y1:y≠q1:=fun e=>by rw [e,m1] at hy;cases hy
  have y2:y≠q2:=fun e=>by rw [e,m2] at hy;cases hy
  have y3:y≠r2:=fun e=>by rw [e,m3] at hy;cases hy
  rw [Heap.del_other y2,Heap.del_other y1,Heap.set_other y3]
  exact g.le y b' e hy
theorem LG.cur {H G:Heap} {r r2 r3 q1 q2:Nat} {code:List Int} {k:Nat} {seed:Int} {s l:List Int} (g:LG H G r r2 r3 q1 q2 code k seed s l) (k1:Nat) (s1:Int):LG H (G.set r (Proofs.YtohkciilfkhomaaGreat.cur code k1 s1)) r r2 r3 q1 q2 code k1 s1 s l:=by
 obtain ⟨n1,n2,n3,n4,n5,n6,n7,n8,n9,n10⟩:=g.ne
 exact ⟨Heap.set_same _ _ _,by rw [Heap.set_other n4];exact g.c2,by rw [Heap.set_other n5];exact g.c3,by rw [Heap.set_other n2];exact g.d1,by rw [Heap.set_other n3];exact g.d2,g.ne,g.nn,
   fun y b e hy=>by rw [Heap.set_other e];exact g.le y b e hy⟩
theorem LG.fresh {H G:Heap} {r r2 r3 q1 q2:Nat} {code:List Int} {k:Nat} {seed:Int} {s l:List Int} (g:LG H G r r2 r3 q1 q2 code k seed s l) {q:Nat} (hq:G q=none):q≠r∧q≠r2∧q≠r3∧q≠q1∧q≠q2∧H q=none:=by
 have h1:q≠r:=fun e=>by rw [e,g.cr] at hq;cases hq
 refine ⟨h1,(fun e=>by rw [e,g.c2] at hq;cases hq),(fun e=>by rw [e,g.c3] at hq;cases hq),(fun e=>by rw [e,g.d1] at hq;cases hq),(fun e=>by rw [e,g.d2] at hq;cases hq),?_⟩
 cases hh:H q with
 | none=>rfl
 | some b=>rw [g.le q b h1 hh] at hq;cases hq
theorem LG.newLoop {H G:Heap} {r r2 r3 q1 q2:Nat} {code:List Int} {k:Nat} {seed:Int} {s l:List Int} (g:LG H G r r2 r3 q1 q2 code k seed s l) {G':Heap} (hG:∀y,y≠q2→G' y=G y) {q:Nat} (hq:G q=none) (ys:List Int) :
  LG H ((G'.set q (cells (ys.map eI))).set r3 [own q1 1 (s.map eI),own q 1 (ys.map eI)]) r r2 r3 q1 q code k seed s ys:=by
 obtain ⟨n1,n2,n3,n4,n5,n6,n7,n8,n9,n10⟩:=g.ne
 obtain ⟨m1,m2,m3,m4⟩:=g.nn
 obtain ⟨f1,f2,f3,f4,f5,f6⟩:=g.fresh hq
 refine ⟨?_,?_,Heap.set_same _ _ _,?_,?_,⟨f4.symm,n2,f1,n4,n5,n6,n7,n8,f2,f3⟩,⟨m1,f6,m3,m4⟩,fun y b e hy=>?_⟩
 ·rw [Heap.set_other n5.symm,Heap.set_other f1.symm,hG _ n3.symm];exact g.cr
 ·rw [Heap.set_other n6,Heap.set_other f2.symm,hG _ n9.symm];exact g.c2
 ·rw [Heap.set_other n8,Heap.set_other f4.symm,hG _ n1];exact g.d1
 ·rw [Heap.set_other f3,Heap.set_same]
 ·rw [Heap.set_other (fun e=>by rw [e,m4] at hy;cases hy),Heap.set_other (fun e=>by rw [e,f6] at hy;cases hy),hG _ (fun e=>by rw [e,m2] at hy;cases hy)];exact g.le y b e hy
theorem LG.newStem {H G:Heap} {r r2 r3 q1 q2:Nat} {code:List Int} {k:Nat} {seed:Int} {s l:List Int} (g:LG H G r r2 r3 q1 q2 code k seed s l) {G':Heap} (hG:∀y,y≠q1→G' y=G y) {q:Nat} (hq:G q=none) (ys:List Int) :
  LG H ((G'.set q (cells (ys.map eI))).set r3 [own q 1 (ys.map eI),own q2 1 (l.map eI)]) r r2 r3 q q2 code k seed ys l:=by
 obtain ⟨n1,n2,n3,n4,n5,n6,n7,n8,n9,n10⟩:=g.ne
 obtain ⟨m1,m2,m3,m4⟩:=g.nn
 obtain ⟨f1,f2,f3,f4,f5,f6⟩:=g.fresh hq
 refine ⟨?_,?_,Heap.set_same _ _ _,?_,?_,⟨f5,f1,n3,n4,n5,n6,f2,f3,n9,n10⟩,⟨f6,m2,m3,m4⟩,fun y b e hy=>?_⟩
 ·rw [Heap.set_other n5.symm,Heap.set_other f1.symm,hG _ n2.symm];exact g.cr
 ·rw [Heap.set_other n6,Heap.set_other f2.symm,hG _ n7.symm];exact g.c2
 ·rw [Heap.set_other f3,Heap.set_same]
 ·rw [Heap.set_other n10,Heap.set_other f5.symm,hG _ n1.symm];exact g.d2
 ·rw [Heap.set_other (fun e=>by rw [e,m4] at hy;cases hy),Heap.set_other (fun e=>by rw [e,f6] at hy;cases hy),hG _ (fun e=>by rw [e,m1] at hy;cases hy)];exact g.le y b e hy
theorem LG.put {H G:Heap} {r r2 r3 q1 q2:Nat} {code:List Int} {k:Nat} {seed:Int} {s l:List Int} (g:LG H G r r2 r3 q1 q2 code k seed s l) {ys:List Int} (hl:ys.length=l.length) :
  LG H (G.set q2 (cells (ys.map eI))) r r2 r3 q1 q2 code k seed s ys:=by
 obtain ⟨n1,n2,n3,n4,n5,n6,n7,n8,n9,n10⟩:=g.ne
 obtain ⟨m1,m2,m3,m4⟩:=g.nn
 refine ⟨?_,?_,?_,?_,Heap.set_same _ _ _,g.ne,g.nn,fun y b e hy=>?_⟩
 ·rw [Heap.set_other n3.symm];exact g.cr
 ·rw [Heap.set_other n9.symm];exact g.c2
 ·rw [Heap.set_other n10.symm,g.c3];simp only [own,List.length_map,hl]
 ·rw [Heap.set_other n1];exact g.d1
 ·rw [Heap.set_other (fun e=>by rw [e,m2] at hy;cases hy)];exact g.le y b e hy
theorem lasso_J0 {code:List Int} (hc:CodeC code) {H G:Heap} {r r2 r3 q1 q2:Nat} {k:Nat} {seed:Int} {s l:List Int} (g:LG H G r r2 r3 q1 q2 code k seed s l) (hk:k≤700000000) (hs:s.length≤64) (hl:l.length≤64) (hl1:1≤l.length) {K:AV→Heap→Prop}
  (h:∀s l k' seed',s.length≤64→l.length≤64→k≤k'→k'≤k+100→K (.agg [Is s,Is l]) (H.set r (cur code k' seed'))):J46_0 (wkK K) (.ptr r 0) (.ptr r2 0) (.ptr r3 0) G:=by
 obtain ⟨n1,n2,n3,n4,n5,n6,n7,n8,n9,n10⟩:=g.ne
 unfold J46_0
 refine pick_spec hc 40 (by omega) (by omega) g.cr fun x k1 s1 hx0 hx1 hk1 hk2=>?_
 have g1:=g.cur k1 s1
 generalize hG1:G.set r (cur code k1 s1)=G1 at g1
 have len25:∀(n:Int) (ys:List Int),n≤25→(ys.length=n∨ys.length=0∧n≤0)→ys.length≤25:=by intro n ys h1 h2;omega
 (try simp (maxSteps:=1000000) (disch:=first | assumption | (apply ν6;assumption)) only [vz,vu,vv,eqS,eF_,↓c1_,↓c2_,tabs,reduceCtorEq,ι5,↓reduceIte,ν1,ν2,ν3,ν4,ν5,ι1,ι2,ι3,ι4])
 refine ⟨fun hx=>?_,fun hx=>⟨fun hx=>?_,fun hx=>⟨fun hx=>?_,fun hx=>?_⟩⟩⟩
 ·(try simp (maxSteps:=1000000) (disch:=first | assumption | (apply ν6;assumption)) only [vz,vu,vv,eqS,eF_,↓c1_,↓c2_,tabs,reduceCtorEq,ι5,↓reduceIte,ν1,ν2,ν3,ν4,ν5,ι1,ι2,ι3,ι4,bS_,zA_,List.replicate_succ,List.replicate_zero,List.flatten_cons,List.flatten_nil])
  intro q hq
  refine wk_lit [0,24,25] rfl hq ?_
  refine among_spec hc [0,24,25] (by simp) (by simp) (by omega) g1.cr fun n k2 s2 hn hk3 hk4=>?_
  have hn':n≤25:=by simp at hn;omega
  have g2:=g1.cur k2 s2
  generalize G1.set r (cur code k2 s2)=G2 at g2
  refine letters_spec hc n (by omega) (by omega) g2.cr fun ys q3 k3 s3 hlen _ hk5 hk6 hq3=>?_
  have hy:=len25 n ys hn' hlen
  have g3:=g2.cur k3 s3
  have hq3':(G2.set r (cur code k3 s3)) q3=none:=by rw [Heap.set_other (g2.fresh hq3).1];exact hq3
  have f3:=g3.fresh hq3'
  generalize G2.set r (cur code k3 s3)=G3 at g3 hq3'
  have g4:=g3.newLoop (fun _ _=>rfl) hq3' ys
  have c3':(G3.set q3 (cells (ys.map eI))) r3=some [own q1 1 (s.map eI),own q2 1 (l.map eI)]:=by rw [Heap.set_other f3.2.2.1.symm];exact g3.c3
  have c2':(G3.set q3 (cells (ys.map eI))) r2=some [.p .nil,.p .nil]:=by rw [Heap.set_other f3.2.1.symm];exact g3.c2
  generalize G3.set q3 (cells (ys.map eI))=G4 at g4 c3' c2'
  (try simp (maxSteps:=1000000) (disch:=first | assumption | (apply ν6;assumption)) only [vz,vu,vv,eqS,eF_,↓c1_,↓c2_,tabs,reduceCtorEq,ι5,↓reduceIte,ν1,ν2,ν3,ν4,ν5,ι1,ι2,ι3,ι4,sA_ c3',sA_ c2'])
  rw [Heap.set_comm n6]
  have:=g4.fin (b:=[own q1 1 (s.map eI),own q3 1 (ys.map eI)]) (h s ys k3 s3 hs (by omega) (by omega) (by omega))
  simpa only [own,List.length_map] using this
 ·(try simp (maxSteps:=1000000) (disch:=first | assumption | (apply ν6;assumption)) only [vz,vu,vv,eqS,eF_,↓c1_,↓c2_,tabs,reduceCtorEq,ι5,↓reduceIte,ν1,ν2,ν3,ν4,ν5,ι1,ι2,ι3,ι4,bS_,zA_,List.replicate_succ,List.replicate_zero,List.flatten_cons,List.flatten_nil])
  intro q hq
  refine wk_lit [24,25] rfl hq ?_
  refine among_spec hc [24,25] (by simp) (by simp) (by omega) g1.cr fun n k2 s2 hn hk3 hk4=>?_
  have hn':n≤25:=by simp at hn;omega
  have g2:=g1.cur k2 s2
  generalize G1.set r (cur code k2 s2)=G2 at g2
  refine letters_spec hc n (by omega) (by omega) g2.cr fun ys q3 k3 s3 hlen _ hk5 hk6 hq3=>?_
  have hy:=len25 n ys hn' hlen
  have g3:=g2.cur k3 s3
  have hq3':(G2.set r (cur code k3 s3)) q3=none:=by rw [Heap.set_other (g2.fresh hq3).1];exact hq3
  have f3:=g3.fresh hq3'
  generalize G2.set r (cur code k3 s3)=G3 at g3 hq3'
  have g4:=g3.newStem (fun _ _=>rfl) hq3' ys
  have c3':(G3.set q3 (cells (ys.map eI))) r3=some [own q1 1 (s.map eI),own q2 1 (l.map eI)]:=by rw [Heap.set_other f3.2.2.1.symm];exact g3.c3
  have c2':(G3.set q3 (cells (ys.map eI))) r2=some [.p .nil,.p .nil]:=by rw [Heap.set_other f3.2.1.symm];exact g3.c2
  generalize G3.set q3 (cells (ys.map eI))=G4 at g4 c3' c2'
  (try simp (maxSteps:=1000000) (disch:=first | assumption | (apply ν6;assumption)) only [vz,vu,vv,eqS,eF_,↓c1_,↓c2_,tabs,reduceCtorEq,ι5,↓reduceIte,ν1,ν2,ν3,ν4,ν5,ι1,ι2,ι3,ι4,sA_ c3',sA_ c2'])
  rw [Heap.set_comm n6]
  have:=g4.fin (b:=[own q3 1 (ys.map eI),own q2 1 (l.map eI)]) (h ys l k3 s3 (by omega) hl (by omega) (by omega))
  simpa only [own,List.length_map] using this
 ·(try simp (maxSteps:=1000000) (disch:=first | assumption | (apply ν6;assumption)) only [vz,vu,vv,eqS,eF_,↓c1_,↓c2_,tabs,reduceCtorEq,ι5,↓reduceIte,ν1,ν2,ν3,ν4,ν5,ι1,ι2,ι3,ι4,bS_,zA_,List.replicate_succ,List.replicate_zero,List.flatten_cons,List.flatten_nil,lA_ g1.c3])
  intro q hq
  refine wk_lit [-1,7,8] rfl hq ?_
  (try simp (maxSteps:=1000000) (disch:=first | assumption | (apply ν6;assumption)) only [vz,vu,vv,eqS,eF_,↓c1_,↓c2_,tabs,reduceCtorEq,ι5,↓reduceIte,ν1,ν2,ν3,ν4,ν5,ι1,ι2,ι3,ι4,lA_ g1.c3])
  refine among_spec hc [-1,7,8] (by simp) (by simp) (by omega) g1.cr fun n k2 s2 hn hk3 hk4=>?_
  have g2:=g1.cur k2 s2
  generalize G1.set r (cur code k2 s2)=G2 at g2
  (try simp (maxSteps:=1000000) (disch:=first | assumption | (apply ν6;assumption)) only [vz,vu,vv,eqS,eF_,↓c1_,↓c2_,tabs,reduceCtorEq,ι5,↓reduceIte,ν1,ν2,ν3,ν4,ν5,ι1,ι2,ι3,ι4,lA_ g2.c3,sA_ g2.d2,sA_ g2.c2])
  refine ⟨by omega,by omega,by rw [cells_I,List.length_map];omega,?_⟩
  have e1:AV.p (PV.int IntKind.i64 n)::List.drop 1 (cells (l.map eI))=cells (((n::l.drop 1)).map eI):=by
   rw [cells_I,cells_I,List.map_cons,List.map_drop]
  rw [e1]
  have g4:=g2.put (ys:=n::l.drop 1) (by simp;omega)
  rw [Heap.set_comm n9.symm]
  have:=g4.fin (b:=[own q1 1 (s.map eI),own q2 1 ((n::l.drop 1).map eI)]) (h s (n::l.drop 1) k2 s2 hs (by simp;omega) (by omega) (by omega))
  have e2:(n::l.drop 1).length=l.length:=by simp;omega
  simp only [own,List.length_map,e2] at this ⊢
  exact this
 ·(try simp (maxSteps:=1000000) (disch:=first | assumption | (apply ν6;assumption)) only [vz,vu,vv,eqS,eF_,↓c1_,↓c2_,tabs,reduceCtorEq,ι5,↓reduceIte,ν1,ν2,ν3,ν4,ν5,ι1,ι2,ι3,ι4,lA_ g1.c3,sA_ g1.c2])
  exact g1.fin (h s l k1 s1 hs hl (by omega) (by omega))
theorem app_rows {tab:Tab} {t e:Nat} {d ed:TD} {q q':Nat} {xs ys:List Int} {H:Heap} {K:AV→Heap→Prop} (h1:tab t=some d) (h2:d.k=.slice e) (h3:tab e=some ed) (h6:ed.size=1) (h7:ed.bytes≤16)
  (hx:H q=some (cells (xs.map eI))) (hy:H q'=some (cells (ys.map eI))) (hl:xs.length+ys.length≤1000000000)
  (h:∀r',H r'=none→K (own r' 1 ((xs++ys).map eI)) ((H.del q).set r' (cells ((xs++ys).map eI)))):aP_ tab t t (own q 1 (xs.map eI)) (own q' 1 (ys.map eI)) H (wkK K):=by
 simp only [aP_,h1,h2,h3,srcV,baseV,hx,hy,h6,own,List.length_map,Nat.mul_one,Nat.zero_add,List.drop_zero]
 have l1:(cells (xs.map eI)).length=xs.length:=by rw [cells_I,List.length_map]
 have l2:(cells (ys.map eI)).length=ys.length:=by rw [cells_I,List.length_map]
 refine ⟨trivial,by omega,trivial,by omega,?_,by omega,?_,fun r' hr'=>wkK.keep ?_⟩
 ·exact Nat.le_trans (Nat.mul_le_mul hl h7) (by omega)
 ·rw [List.take_of_length_le (by omega)];exact cells_cell _
 ·have:=h r' hr'
  rw [List.take_of_length_le (by omega),List.take_of_length_le (by omega),← cells_app,← List.map_append]
  simpa only [own,List.length_map,List.length_append] using this
theorem lasso_J1 {code:List Int} (hc:CodeC code) {H G:Heap} {r r2 r3 q1 q2:Nat} {k:Nat} {seed:Int} {s l:List Int} (g:LG H G r r2 r3 q1 q2 code k seed s l) (hk:k≤600000000) (hs:s.length+l.length≤64) (hl1:1≤l.length) {K:AV→Heap→Prop}
  (h:∀s l k' seed',s.length≤64→l.length≤64→k≤k'→k'≤k+102→K (.agg [Is s,Is l]) (H.set r (cur code k' seed'))):J46_1 (wkK K) (.ptr r 0) (.ptr r2 0) (.ptr r3 0) G:=by
 unfold J46_1
 refine one_spec hc 4 (by omega) (by omega) g.cr fun x k1 s1 hk1 hk2=>?_
 have g1:=g.cur k1 s1
 generalize G.set r (cur code k1 s1)=G1 at g1
 (try simp (maxSteps:=1000000) (disch:=first | assumption | (apply ν6;assumption)) only [vz,vu,vv,eqS,eF_,↓c1_,↓c2_,tabs,reduceCtorEq,ι5,↓reduceIte,ν1,ν2,ν3,ν4,ν5,ι1,ι2,ι3,ι4])
 refine ⟨fun hx=>?_,fun hx=>?_⟩
 ·(try simp (maxSteps:=1000000) (disch:=first | assumption | (apply ν6;assumption)) only [vz,vu,vv,eqS,eF_,↓c1_,↓c2_,tabs,reduceCtorEq,ι5,↓reduceIte,ν1,ν2,ν3,ν4,ν5,ι1,ι2,ι3,ι4,lA_ g1.c3])
  refine app_rows tab_24 rfl tab_3 rfl (by decide) g1.d1 g1.d2 (by omega) fun q hq=>?_
  have f:=g1.fresh hq
  have n:=g1.ne
  have g2:=g1.newStem (G':=G1.del q1) (fun y hy=>Heap.del_other hy) hq (s++l)
  have c3':((G1.del q1).set q (cells ((s++l).map eI))) r3=some [own q1 1 (s.map eI),own q2 1 (l.map eI)]:=by rw [Heap.set_other f.2.2.1.symm,Heap.del_other n.2.2.2.2.2.2.2.1.symm];exact g1.c3
  (try simp (maxSteps:=1000000) (disch:=first | assumption | (apply ν6;assumption)) only [vz,vu,vv,eqS,eF_,↓c1_,↓c2_,tabs,reduceCtorEq,ι5,↓reduceIte,ν1,ν2,ν3,ν4,ν5,ι1,ι2,ι3,ι4,sA_ c3'])
  have:=lasso_J0 hc g2 (by omega) (by simp;omega) (by omega) hl1 fun s l k' s' a b c d=>h s l k' s' a b (by omega) (by omega)
  simpa only [own,List.length_map,List.length_append] using this
 ·exact lasso_J0 hc g1 (by omega) (by omega) (by omega) hl1 fun s l k' s' a b c d=>h s l k' s' a b (by omega) (by omega)
theorem lasso_spec {code:List Int} (hc:CodeC code) {H:Heap} {r k:Nat} {seed:Int} (hr:H r=some (cur code k seed)) (hk:k≤500000000) {K:AV→Heap→Prop}
  (h:∀s l k' seed',s.length≤64→l.length≤64→k≤k'→k'≤k+300→K (.agg [Is s,Is l]) (H.set r (cur code k' seed'))):CallT Tryz.prog 46 [.ptr r 0] H K:=by
 refine CallT.fin ?_
 refine W46_ok ?_;simp (maxSteps:=1000000) (disch:=first | assumption | (apply ν6;assumption)) only [W46,vz,vu,vv,eqS,eF_,↓c1_,↓c2_,tabs,reduceCtorEq,ι5,↓reduceIte,ν1,ν2,ν3,ν4,ν5,ι1,ι2,ι3,ι4]
 intro r2 hr2
 have n4:r2≠r:=by rintro rfl;rw [hr] at hr2;cases hr2
 refine pick_spec hc 6 (by omega) (k:=k) (by omega) (by rw [Heap.set_other n4.symm];exact hr) fun x1 k1 s1 hx0 hx1 hk1 hk2=>?_
 refine letters_spec hc x1 (by omega) (k:=k1) (by omega) (Heap.set_same _ _ _) fun s q1 k2 s2 hl1 _ hk3 hk4 hq1=>?_
 simp only [Heap.set_none] at hq1
 obtain ⟨e1,e2,e3⟩:=hq1
 refine pick_spec hc 5 (by omega) (k:=k2) (by omega) (by rw [Heap.set_other e1.symm];exact Heap.set_same _ _ _) fun x2 k3 s3 hx2 hx3 hk5 hk6=>?_
 (try simp (maxSteps:=1000000) (disch:=first | assumption | (apply ν6;assumption)) only [vz,vu,vv,eqS,eF_,↓c1_,↓c2_,tabs,reduceCtorEq,ι5,↓reduceIte,ν1,ν2,ν3,ν4,ν5,ι1,ι2,ι3,ι4,i6_ (show -9223372036854775808≤1+x2 by omega) (show 1+x2≤9223372036854775807 by omega)])
 refine letters_spec hc (1+x2) (by omega) (k:=k3) (seed:=s3) (by omega) (by rw [Heap.set_other e1.symm,Heap.set_same]) fun l q2 k4 s4 hl2 _ hk7 hk8 hq2=>?_
 simp only [Heap.set_none] at hq2
 obtain ⟨f1,f2,f3,f4⟩:=hq2
 (try simp (maxSteps:=1000000) (disch:=first | assumption | (apply ν6;assumption)) only [vz,vu,vv,eqS,eF_,↓c1_,↓c2_,tabs,reduceCtorEq,ι5,↓reduceIte,ν1,ν2,ν3,ν4,ν5,ι1,ι2,ι3,ι4])
 intro r3 d1 d2 d3 d4 d5
 generalize hG:(((((H.set r2 [AV.p PV.nil,AV.p PV.nil]).set r (cur code k4 s4)).set q1 (cells (List.map eI s))).set q2 (cells (List.map eI l))).set r3 [AV.sl q1 1 0 s.length,AV.sl q2 1 0 l.length])=G
 have g:LG H G r r2 r3 q1 q2 code k4 s4 s l:=by
  subst hG
  refine ⟨?_,?_,?_,?_,?_,⟨f1.symm,e1,f2,n4,d3,Ne.symm d4,e2,Ne.symm d2,f3,Ne.symm d1⟩,⟨e3,f4,hr2,d5⟩,fun y b hy hyb=>?_⟩
  ·simp [Heap.set,Ne.symm d3,f2.symm,e1.symm]
  ·simp [Heap.set,Ne.symm d4,f3.symm,e2.symm,n4]
  ·simp [Heap.set,own]
  ·simp [Heap.set,Ne.symm d2,f1.symm]
  ·simp [Heap.set,Ne.symm d1]
  ·have y1:y≠r2:=fun e=>by rw [e,hr2] at hyb;cases hyb
   have y2:y≠q1:=fun e=>by rw [e,e3] at hyb;cases hyb
   have y3:y≠q2:=fun e=>by rw [e,f4] at hyb;cases hyb
   have y4:y≠r3:=fun e=>by rw [e,d5] at hyb;cases hyb
   simp [Heap.set,hy,y1,y2,y3,y4,hyb]
 clear hG
 have len1:s.length≤6:=by omega
 have len2:1≤l.length∧l.length≤6:=by omega
 have hk4':k4≤k+50:=by omega
 have hkk:k≤k4:=by omega
 refine one_spec hc 4 (by omega) (k:=k4) (by omega) g.cr fun x k5 s5 hk9 hk10=>?_
 have g1:=g.cur k5 s5
 generalize G.set r (cur code k5 s5)=G1 at g1
 (try simp (maxSteps:=1000000) (disch:=first | assumption | (apply ν6;assumption)) only [vz,vu,vv,eqS,eF_,↓c1_,↓c2_,tabs,reduceCtorEq,ι5,↓reduceIte,ν1,ν2,ν3,ν4,ν5,ι1,ι2,ι3,ι4])
 refine ⟨fun hx=>?_,fun hx=>?_⟩
 ·(try simp (maxSteps:=1000000) (disch:=first | assumption | (apply ν6;assumption)) only [vz,vu,vv,eqS,eF_,↓c1_,↓c2_,tabs,reduceCtorEq,ι5,↓reduceIte,ν1,ν2,ν3,ν4,ν5,ι1,ι2,ι3,ι4,lA_ g1.c3])
  refine app_rows tab_24 rfl tab_3 rfl (by decide) g1.d2 g1.d2 (by omega) fun q hq=>?_
  have f:=g1.fresh hq
  have n:=g1.ne
  have g2:=g1.newLoop (G':=G1.del q2) (fun y hy=>Heap.del_other hy) hq (l++l)
  have c3':((G1.del q2).set q (cells ((l++l).map eI))) r3=some [own q1 1 (s.map eI),own q2 1 (l.map eI)]:=by rw [Heap.set_other f.2.2.1.symm,Heap.del_other n.2.2.2.2.2.2.2.2.2.symm];exact g1.c3
  (try simp (maxSteps:=1000000) (disch:=first | assumption | (apply ν6;assumption)) only [vz,vu,vv,eqS,eF_,↓c1_,↓c2_,tabs,reduceCtorEq,ι5,↓reduceIte,ν1,ν2,ν3,ν4,ν5,ι1,ι2,ι3,ι4,sA_ c3'])
  have:=lasso_J1 hc g2 (by omega) (by simp;omega) (by simp;omega) fun s l k' s' a b c d=>h s l k' s' a b (by omega) (by omega)
  simpa only [own,List.length_map,List.length_append] using this
 ·exact lasso_J1 hc g1 (by omega) (by omega) (by omega) fun s l k' s' a b c d=>h s l k' s' a b (by omega) (by omega)
end Go.Proofs.YtohkciilfkhomaaGreat
namespace Go.Sep
open Go Go.RowKit
inductive FinK (K:AV→Heap→Prop):AV→Heap→Prop where
 | done {v:AV} {H:Heap} (h:K v H):FinK K v H
 | wk {v v':AV} {H H':Heap} (h:Wk v H v' H') (k:FinK K v' H'):FinK K v H
 | ghost {v:AV} {H:Heap} (k:∀z,H z=none→FinK K v (H.set z [])):FinK K v H
theorem UpV.finish {B0:Nat} {w0:World} {F:Heap} {K:AV→Heap→Prop} {v:AV} {H:Heap} (h:FinK K v H):∀{Z:Fro} {φ:Pm} {x:Value} {w:World},Disj H F→Sim Z φ B0 w0 (H.or F) w→Cv Z φ v x→UpV B0 w0 F Z φ K x w:=by
 induction h with
 | done h=>exact fun hd hs hc=>⟨_,_,_,_,h,Fro.le_refl _,Pm.le_refl _,hd,hs,hc⟩
 | wk h k ih=>
  intro Z φ x w hd hs hc
  obtain ⟨Z',φ',h1,h2,h3,h4,h5⟩:=UpV.wk h hd hs hc
  obtain ⟨v',H',Z2,φ2,a,b,c,d,e,f⟩:=ih h3 h4 h5
  exact ⟨v',H',Z2,φ2,a,Fro.le_trans h1 b,Pm.le_trans h2 c,d,e,f⟩
 | ghost k ih=>
  intro Z φ x w hd hs hc
  obtain ⟨r,φ',h1,h2,h3,h4⟩:=Rel.ghost hd hs
  obtain ⟨v',H',Z2,φ2,a,b,c,d,e,f⟩:=ih r h1 h3 h4 (hc.mono (Fro.le_refl _) h2)
  exact ⟨v',H',Z2,φ2,a,b,Pm.le_trans h2 c,d,e,f⟩
theorem CallT.finish {P:Program} {f:Nat} {args:List AV} {H:Heap} {K:AV→Heap→Prop} (h:CallT P f args H (FinK K)):CallT P f args H K:=by
 refine ⟨h.1,fun B0 w0 F Z φ w xs hd hs ha=>(h.2 B0 w0 F Z φ w xs hd hs ha).mono ?_⟩
 rintro e w' ⟨x,rfl,v,H',Z',φ',hk,b,c,d,e,f⟩
 obtain ⟨v',H2,Z2,φ2,a,b2,c2,d2,e2,f2⟩:=UpV.finish hk d e f
 exact ⟨x,rfl,v',H2,Z2,φ2,a,Fro.le_trans b b2,Pm.le_trans c c2,d2,e2,f2⟩
theorem FinK.ofWkK {K:AV→Heap→Prop} {v:AV} {H:Heap} (h:wkK K v H):FinK K v H:=let ⟨_,_,a,b⟩:=h;.wk a (.done b)
def RN {α:Type} (L:Lay α) (sz:Nat) (x:AV) (xs:List α) (G:Heap) (D:List Nat):Prop:=(x=.p .nil∧xs=[]∧D=[])∨LRow L sz xs x G D
theorem RN.local {α:Type} {L:Lay α} {sz:Nat} (hL:L.Local) {x:AV} {xs:List α} {G G':Heap} {D:List Nat} (h:RN L sz x xs G D) (hf:∀y∈D,∀b,G y=some b→G' y=some b):RN L sz x xs G' D:=by
 rcases h with h | h
 ·exact .inl h
 ·exact .inr (h.local hL hf)
theorem RN.has {α:Type} {L:Lay α} {sz:Nat} (hL:L.Has) {x:AV} {xs:List α} {G:Heap} {D:List Nat} (h:RN L sz x xs G D):∀y∈D,G y≠none:=by
 rcases h with ⟨h1,h2,rfl⟩ | h
 ·intro y hy;cases hy
 ·exact h.has hL
theorem RN.sl {α:Type} {L:Lay α} {sz:Nat} {x:AV} {xs:List α} {G:Heap} {D:List Nat} (h:RN L sz x xs G D):x=.p .nil∨∃q,x=.sl q sz 0 xs.length:=by
 rcases h with ⟨h1,_⟩ | ⟨q,cs,D',h1,_⟩
 ·exact .inl h1
 ·exact .inr ⟨q,h1⟩
def rnT {α:Type} {L:Lay α} (hL:L.Local) (hh:L.Has) (sz:Nat) (x:AV) (xs:List α) (D:List Nat):Th:=⟨D,fun G=>RN L sz x xs G D,fun h f=>h.local hL f,fun h=>h.has hh⟩
theorem LL.plain' {α:Type} {e:α→List PV} {G:Heap}:∀{xs:List α} {cs:List AV} {D:List Nat},LL (LPl e) xs cs G D→cs=cells (xs.map e)∧D=[]
 | [],_,_,⟨h1,h2⟩=>⟨h1,h2⟩
 | a::xs,_,_,⟨c1,c2,D1,D2,e1,e2,h1,h2⟩=>by
  obtain ⟨f1,f2⟩:=LL.plain' h2
  rw [e1,e2,h1.1,h1.2,f1,f2]
  exact ⟨by simp [cells],rfl⟩
theorem RN.app {tab:Tab} {t0 t1 e0 e1 sz:Nat} {d d1 ed:TD} {α:Type} {e:α→List PV} (h1:tab t0=some d) (h2:d.k=.slice e0) (h3:tab e0=some ed) (h4:tab t1=some d1) (h5:d1.k=.slice e1) (h6:ed.size=sz) {bz:Nat} (h7:ed.bytes=bz)
  (hsz:∀a,(e a).length=sz) {H G:Heap} {Ts:List Th} {x y:AV} {xs ys:List α} {D:List Nat} {hL:(LPl e).Local} {hh:(LPl e).Has} (s:St H Ts G) (i:Nat) (hi:Ts[i]?=some (rnT hL hh sz x xs D)) (hy:y=.p (.sl (ys.map e)))
  (hl:(xs.length+ys.length)*bz≤140737488355328) (hl2:xs.length+ys.length≤9223372036854775807) {K:AV→Heap→Prop}
  (h:∀q' G',G q'=none→St H (Ts.set i (rnT hL hh sz (.sl q' sz 0 (xs++ys).length) (xs++ys) [q'])) G'→K (.sl q' sz 0 (xs++ys).length) G'):aP_ tab t0 t1 x y G (wkK K):=by
 subst hy
 have hrz:RN (LPl e) sz x xs G D:=s.get i hi
 rcases hrz with ⟨rfl,rfl,rfl⟩ | ⟨q,cs,D',rfl,hq,hll,rfl⟩
 ·refine app_nil h1 h2 h3 h4 h5 h6 h7 (.inl rfl) (.inl rfl) (sized_map hsz ys) (by simpa using hl) (by simpa using hl2) fun q' hq'=>?_
  have:=h q' _ hq' (s.repl i hi (rnT hL hh sz (.sl q' sz 0 ([]++ys).length) ([]++ys) [q']) (by simp [rnT]) (fun y hy=>by
   simp only [rnT,List.mem_singleton] at hy;subst hy;exact .inr hq') (G':=G.set q' (cells (ys.map e))) (fun y b hb _=>Heap.le_set hq' y b hb) (.inr ⟨q',_,[],rfl,Heap.set_same _ _ _,LL.plain _,rfl⟩))
  simpa [Go.Sep.own] using this
 ·obtain ⟨rfl,rfl⟩:=LL.plain' hll
  have:=app_own (x:=.p (.sl (ys.map e))) (r:=q) (es:=xs.map e) (fs:=ys.map e) (H:=G) (K:=K) h1 h2 h3 h4 h5 h6 h7 (.inl rfl) hq (sized_map hsz xs) (sized_map hsz ys)
   (by simpa using hl) (by simpa using hl2) fun q' hq'=>by
    have:=h q' ((G.del q).set q' (cells ((xs++ys).map e))) hq' (s.repl i hi (rnT hL hh sz (.sl q' sz 0 (xs++ys).length) (xs++ys) [q']) (by simp [rnT]) (fun y hy=>by
     simp only [rnT,List.mem_singleton] at hy;subst hy;exact .inr hq') (fun y b hb hy=>by
      simp only [rnT,List.mem_singleton] at hy
      rw [Heap.set_other (fun e=>by rw [e,hq'] at hb;cases hb),Heap.del_other hy];exact hb) (.inr ⟨q',_,[],rfl,Heap.set_same _ _ _,LL.plain _,rfl⟩))
    simpa only [Go.Sep.own,List.length_map,List.map_append,List.length_append] using this
  simpa only [Go.Sep.own,List.length_map] using this
end Go.Sep
namespace Go.Proofs.YtohkciilfkhomaaGreat
open Go Go.Sep Go.Pt
attribute [local irreducible] CallT
def LIn:Lay (List Int):=fun l cs G D=>∃x,cs=[x]∧RN (LPl eI) 1 x l G D
theorem LIn.local:Lay.Local LIn:=by
 rintro c cs G G' D ⟨x,e,h⟩ hf
 exact ⟨x,e,h.local (LPl.local eI) hf⟩
theorem LIn.has:Lay.Has LIn:=by
 rintro c cs G D ⟨x,e,h⟩
 exact h.has (LPl.has eI)
theorem LIn.size:Lay.Size LIn 1:=by
 rintro c cs G D ⟨x,rfl,h⟩;rfl
abbrev rnI (x:AV) (l:List Int) (D:List Nat):Th:=rnT (LPl.local eI) (LPl.has eI) 1 x l D
def tabT (q:Nat) (rows:List (List Int)) (D:List Nat):Th:=⟨D,fun G=>LRow LIn 1 rows (.sl q 1 0 rows.length) G D,fun h f=>h.local LIn.local f,fun h=>h.has LIn.has⟩
def holeT (q:Nat) (pre:List AV) (c:AV) (post:List AV) (rows:List (List Int)) (i:Nat) (D:List Nat):Th:=
 ⟨D,fun G=>G q=some (pre++(c::post))∧∃Dp Dq,D=q::(Dp++Dq)∧LL LIn (rows.take i) pre G Dp∧LL LIn (rows.drop (i+1)) post G Dq,by
  rintro G G' ⟨h1,Dp,Dq,rfl,h2,h3⟩ hf
  exact ⟨hf q (by simp) _ h1,Dp,Dq,rfl,LL.local LIn.local h2 fun y hy b hb=>hf y (by simp [hy]) b hb,LL.local LIn.local h3 fun y hy b hb=>hf y (by simp [hy]) b hb⟩,by
  rintro G ⟨h1,Dp,Dq,rfl,h2,h3⟩ y hy
  simp only [List.mem_cons,List.mem_append] at hy
  rcases hy with rfl | hy | hy
  ·rw [h1];simp
  ·exact LL.has LIn.has h2 y hy
  ·exact LL.has LIn.has h3 y hy⟩
theorem tab_take {H G:Heap} {Ts:List Th} {q:Nat} {rows:List (List Int)} {D:List Nat} (s:St H Ts G) (k:Nat) (hk:Ts[k]?=some (tabT q rows D)) {i:Nat} (hi:i < rows.length) :
  ∃pre c post Di Dr,pre.length=i∧pre.length+(post.length+1)=rows.length∧St H (rnI c (rows.getD i default) Di::holeT q pre c post rows i Dr::Ts.eraseIdx k) G:=by
 have s1:=s.pick k hk
 have hr:LRow LIn 1 rows (.sl q 1 0 rows.length) G D:=s1.get 0 rfl
 obtain ⟨q',cs,D',e1,e2,e3,rfl⟩:=hr
 injection e1 with e1
 subst e1
 obtain ⟨c1,c,c2,D1,Di,D2,rfl,rfl,h1,⟨x,rfl,h2⟩,h3,h4⟩:=LL.split LIn.size e3 hi
 have h5:=LL.size LIn.size h4
 rw [List.length_drop] at h5
 refine ⟨c1,x,c2,Di,q::(D1++D2),by omega,by omega,?_⟩
 have nd:=s1.ndT 0 rfl
 simp only [tabT] at nd
 refine St.step (old:=[tabT q rows (q::(D1++(Di++D2)))]) s1 [rnI x _ Di,holeT q c1 x c2 rows i (q::(D1++D2))] ?_ (fun t ht y hy=>?_) (fun y b hb _=>hb) (fun t ht=>?_)
 ·simp only [List.flatMap_cons,List.flatMap_nil,List.append_nil,rnT,holeT]
  rw [List.nodup_append]
  rw [List.nodup_cons,List.nodup_append,List.nodup_append] at nd
  simp only [List.mem_append,not_or] at nd
  obtain ⟨⟨n1,n2,n3⟩,n4,⟨n5,n6,n7⟩,n8⟩:=nd
  refine ⟨n5,?_,fun a ha b hb e=>?_⟩
  ·rw [List.nodup_cons,List.nodup_append]
   simp only [List.mem_append,not_or]
   exact ⟨⟨n1,n3⟩,n4,n6,fun a ha b hb=>n8 a ha b (.inr hb)⟩
  ·subst e
   simp only [List.mem_cons,List.mem_append] at hb
   rcases hb with rfl | hb | hb
   ·exact n2 ha
   ·exact n8 a hb a (.inl ha) rfl
   ·exact n7 a ha a hb rfl
 ·refine .inl ⟨_,List.mem_singleton.2 rfl,?_⟩
  simp only [List.mem_cons,List.not_mem_nil,or_false] at ht
  rcases ht with rfl | rfl
  ·simp only [rnT] at hy;simp [tabT,hy]
  ·simp only [holeT,List.mem_cons,List.mem_append] at hy
   simp only [tabT,List.mem_cons,List.mem_append]
   rcases hy with hy | hy | hy
   ·exact .inl hy
   ·exact .inr (.inl hy)
   ·exact .inr (.inr (.inr hy))
 ·simp only [List.mem_cons,List.not_mem_nil,or_false] at ht
  rcases ht with rfl | rfl
  ·exact h2
  ·exact ⟨e2,D1,D2,rfl,h3,h4⟩
theorem tab_rd {pre post:List AV} {c:AV} {i:Nat} (h:pre.length=i):(List.take 1 (List.drop (i*1) (pre++(c::post)))).headD Q_=c:=by
 rw [List.drop_append,List.drop_of_length_le (by omega)]
 simp [h]
theorem tab_sp {pre post:List AV} {c c':AV} {i:Nat} (h:pre.length=i):List.take (i*1) (pre++(c::post))++[c']++List.drop (i*1+1) (pre++(c::post))=pre++(c'::post):=
 splice_at (c:=[c]) (c':=[c']) (by omega) rfl rfl
theorem tab_put {H G:Heap} {Ts:List Th} {q:Nat} {pre post:List AV} {c c':AV} {rows:List (List Int)} {l':List Int} {i:Nat} {Di Dr:List Nat} (s:St H (rnI c' l' Di::holeT q pre c post rows i Dr::Ts) G) (hi:i < rows.length) :
  ∃D,St H (tabT q (rows.set i l') D::Ts) (G.set q (pre++(c'::post))):=by
 have h2:RN (LPl eI) 1 c' l' G Di:=s.get 0 rfl
 obtain ⟨hq,D1,D2,rfl,h3,h4⟩:=s.get 1 rfl
 have nd0:=s.ndT 0 rfl
 have nd1:=s.ndT 1 rfl
 have dj:=s.disjI 0 1 rfl rfl (by decide)
 simp only [rnT] at nd0
 simp only [holeT,List.nodup_cons,List.nodup_append,List.mem_append,not_or] at nd1
 simp only [rnT,holeT,List.mem_cons,List.mem_append,not_or] at dj
 have hf:∀y b,G y=some b→y≠q→(G.set q (pre++(c'::post))) y=some b:=fun y b hb hy=>by rw [Heap.set_other hy];exact hb
 refine ⟨q::(D1++(Di++D2)),?_⟩
 refine St.step (old:=[rnI c' l' Di,holeT q pre c post rows i (q::(D1++D2))]) s [tabT q (rows.set i l') (q::(D1++(Di++D2)))] ?_ (fun t ht y hy=>?_) (fun y b hb hy=>hf y b hb fun e=>hy (holeT q pre c post rows i (q::(D1++D2))) (by simp) (by simp [holeT,e])) (fun t ht=>?_)
 ·simp only [List.flatMap_cons,List.flatMap_nil,List.append_nil,tabT]
  rw [List.nodup_cons,List.nodup_append,List.nodup_append]
  simp only [List.mem_append,not_or]
  refine ⟨⟨nd1.1.1,fun h=>(dj q h).1 rfl,nd1.1.2⟩,nd1.2.1,⟨nd0,nd1.2.2.1,fun a ha b hb e=>(dj a ha).2.2 (e ▸ hb)⟩,fun a ha b hb e=>?_⟩
  rcases hb with hb | hb
  ·exact (dj b hb).2.1 (e ▸ ha)
  ·exact nd1.2.2.2 a ha b hb e
 ·rw [List.mem_singleton] at ht;subst ht
  simp only [tabT,List.mem_cons,List.mem_append] at hy
  refine .inl ?_
  rcases hy with hy | hy | hy | hy
  ·exact ⟨holeT q pre c post rows i (q::(D1++D2)),by simp,by simp [holeT,hy]⟩
  ·exact ⟨holeT q pre c post rows i (q::(D1++D2)),by simp,by simp [holeT,hy]⟩
  ·exact ⟨rnI c' l' Di,by simp,by simp [rnT,hy]⟩
  ·exact ⟨holeT q pre c post rows i (q::(D1++D2)),by simp,by simp [holeT,hy]⟩
 ·rw [List.mem_singleton] at ht;subst ht
  have a1:=LL.local LIn.local h3 (G':=G.set q (pre++(c'::post))) fun y hy b hb=>hf y b hb fun e=>nd1.1.1 (e ▸ hy)
  have a2:=LL.local LIn.local h4 (G':=G.set q (pre++(c'::post))) fun y hy b hb=>hf y b hb fun e=>nd1.1.2 (e ▸ hy)
  have a3:=h2.local (LPl.local eI) (G':=G.set q (pre++(c'::post))) fun y hy b hb=>hf y b hb (dj y hy).1
  have e:rows.set i l'=rows.take i++(l'::rows.drop (i+1)):=by rw [List.set_eq_take_append_cons_drop,if_pos hi]
  refine ⟨q,pre++(c'::post),D1++(Di++D2),rfl,Heap.set_same _ _ _,?_,rfl⟩
  rw [e]
  exact LL.join a1 ⟨[c'],post,Di,D2,rfl,rfl,⟨c',rfl,a3⟩,a2⟩
theorem tab_new {H G:Heap} {Ts:List Th} {q n:Nat} (s:St H Ts G) (hq:G q=none):St H (tabT q (List.replicate n []) [q]::Ts) (G.set q (zA_ n [.p .nil])):=by
 refine s.push (tabT q (List.replicate n []) [q]) (New.cell hq) ⟨q,zA_ n [.p .nil],[],rfl,Heap.set_same _ _ _,?_,rfl⟩
 generalize G.set q (zA_ n [.p .nil])=G1
 induction n with
 | zero=>exact ⟨rfl,rfl⟩
 | succ n ih=>exact ⟨[.p .nil],zA_ n [.p .nil],[],[],by rw [zerosA_succ],rfl,⟨_,rfl,.inl ⟨rfl,rfl,rfl⟩⟩,ih⟩
theorem tab_whole {K:AV→Heap→Prop} {v:AV} {H:Heap} {Ts:List Th} {q:Nat} {rows:List (List Int)} (h:∀G D,St H (⟨D,fun G=>LII rows (.sl q 1 0 rows.length) G D,fun h f=>LRow.local LIc.local h f,fun h=>LRow.has LIc.has h⟩::Ts) G→FinK K v G) :
  ∀{G:Heap} {D:List Nat},St H (tabT q rows D::Ts) G→FinK K v G:=by
 have key:∀(n:Nat) (i:Nat) (G:Heap) (pre post:List AV) (D1 D2:List Nat),n+i=rows.length→G q=some (pre++post)→LL LIc (rows.take i) pre G D1→LL LIn (rows.drop i) post G D2→(q::(D1++D2)).Nodup→(∀y∈q::(D1++D2),H y=none)→St H Ts G→(∀y∈q::(D1++D2),∀t∈Ts,y∉t.D)→FinK K v G:=by
  intro n
  induction n with
  | zero=>
   intro i G pre post D1 D2 hi hq h1 h2 hnd hfr s hd
   rw [List.take_of_length_le (by omega)] at h1
   rw [List.drop_of_length_le (by omega)] at h2
   obtain ⟨rfl,rfl⟩:=h2
   simp only [List.append_nil] at hq hnd hfr hd
   refine h G (q::D1) ⟨s.le,?_,?_,?_⟩
   ·rw [List.flatMap_cons,List.nodup_append]
    refine ⟨hnd,s.nd,fun a ha b hb e=>?_⟩
    obtain ⟨t,ht,hbt⟩:=List.mem_flatMap.1 hb
    exact hd a ha t ht (e ▸ hbt)
   ·intro t ht
    rcases List.mem_cons.1 ht with rfl | ht
    ·exact hfr
    ·exact s.fr t ht
   ·intro t ht
    rcases List.mem_cons.1 ht with rfl | ht
    ·exact ⟨q,pre,D1,rfl,hq,h1,rfl⟩
    ·exact s.ok t ht
  | succ n ih=>
   intro i G pre post D1 D2 hi hq h1 h2 hnd hfr s hd
   have hlt:i < rows.length:=by omega
   rw [drop_cons hlt] at h2
   obtain ⟨c,c2,Da,Db,rfl,rfl,⟨x,rfl,hx⟩,h3⟩:=h2
   rcases hx with ⟨rfl,hr,rfl⟩ | hx
   ·refine .ghost fun z hz=>?_
    have nz:∀y b,G y=some b→y≠z:=fun y b hb e=>by rw [e,hz] at hb;cases hb
    have hqz:q≠z:=nz q _ hq
    have le1:=Heap.le_set (b:=[]) hz
    have hq1:=le1 _ _ hq
    refine .wk (.cell (cs':=pre++(.sl z 1 0 0::c2)) hq1 (by simp) fun j a a' e1 e2=>?_) ?_
    ·rw [List.getElem?_append] at e1 e2
     split at e1
     ·rename_i hlt'
      rw [if_pos hlt'] at e2
      rw [e1] at e2;cases e2;exact .refl _
     ·rename_i hge
      rw [if_neg hge] at e2
      cases hj:j - pre.length with
      | zero=>rw [hj] at e1 e2;simp at e1 e2;subst e1;subst e2;exact .nilo _ _ _
      | succ m=>rw [hj] at e1 e2;simp at e1 e2;rw [e1] at e2;cases e2;exact .refl _
    ·have old:∀y b,G y=some b→y≠q→((G.set z []).set q (pre++(.sl z 1 0 0::c2))) y=some b:=fun y b hb hy=>by rw [Heap.set_other hy];exact le1 y b hb
     have hzq:((G.set z []).set q (pre++(.sl z 1 0 0::c2))) z=some []:=by rw [Heap.set_other (Ne.symm hqz),Heap.set_same]
     simp only [List.nil_append] at h3 hnd hfr hd
     have hnd':=hnd
     rw [List.nodup_cons,List.nodup_append] at hnd'
     simp only [List.mem_append,not_or] at hnd'
     have zD1:z∉D1:=fun hm=>LL.has LIc.has h1 z hm hz
     have zDb:z∉Db:=fun hm=>LL.has LIn.has h3 z hm hz
     have hHz:H z=none:=by
      cases hh:H z with
      | none=>rfl
      | some b=>rw [s.le z b hh] at hz;cases hz
     refine ih (i+1) _ (pre++[.sl z 1 0 0]) c2 (D1++[z]) Db (by omega) (by rw [Heap.set_same];simp) ?_ ?_ ?_ ?_ ?_ ?_
     ·rw [tS_ hlt,hr]
      exact LL.snoc ⟨_,rfl,⟨z,[],[],rfl,hzq,⟨rfl,rfl⟩,rfl⟩⟩ (LL.local LIc.local h1 fun y hy b hb=>old y b hb (fun e=>hnd'.1.1 (e ▸ hy)))
     ·exact LL.local LIn.local h3 fun y hy b hb=>old y b hb (fun e=>hnd'.1.2 (e ▸ hy))
     ·rw [List.nodup_cons,List.nodup_append,List.nodup_append]
      simp only [List.mem_append,List.mem_singleton,not_or]
      refine ⟨⟨⟨hnd'.1.1,hqz⟩,hnd'.1.2⟩,⟨hnd'.2.1,by simp,fun a ha b hb e=>zD1 (by rw [← hb,← e];exact ha)⟩,hnd'.2.2.1,fun a ha b hb e=>?_⟩
      rcases ha with ha | ha
      ·exact hnd'.2.2.2 a ha b hb e
      ·exact zDb (by rw [← ha,e];exact hb)
     ·intro y hy
      simp only [List.mem_cons,List.mem_append,List.not_mem_nil,or_false] at hy
      rcases hy with rfl | (hy | rfl) | hy
      ·exact hfr _ (by simp)
      ·exact hfr _ (by simp [hy])
      ·exact hHz
      ·exact hfr _ (by simp [hy])
     ·refine ⟨fun y b hb=>old y b (s.le y b hb) fun e=>?_,s.nd,s.fr,fun t ht=>t.loc (s.ok t ht) fun y hy b hb=>old y b hb fun e=>hd q (by simp) t ht (e ▸ hy)⟩
      have:=hfr q (by simp)
      rw [← e,hb] at this;cases this
     ·intro y hy t ht hyt
      simp only [List.mem_cons,List.mem_append,List.not_mem_nil,or_false] at hy
      rcases hy with rfl | (hy | rfl) | hy
      ·exact hd _ (by simp) t ht hyt
      ·exact hd _ (by simp [hy]) t ht hyt
      ·exact t.has (s.ok t ht) _ hyt hz
      ·exact hd _ (by simp [hy]) t ht hyt
   ·refine ih (i+1) G (pre++[x]) c2 (D1++Da) Db (by omega) (by rw [hq];simp) ?_ h3 (by rw [List.append_assoc];exact hnd) (by rw [List.append_assoc];exact hfr) s (by rw [List.append_assoc];exact hd)
    rw [tS_ hlt]
    exact LL.snoc ⟨x,rfl,hx⟩ h1
 intro G D s
 have hr:LRow LIn 1 rows (.sl q 1 0 rows.length) G D:=s.get 0 rfl
 obtain ⟨q',cs,D',e1,e2,e3,rfl⟩:=hr
 injection e1 with e1
 subst e1
 refine key rows.length 0 G [] cs [] D' rfl e2 ⟨by simp,rfl⟩ (by simpa using e3) (by have:=s.ndT 0 rfl;simpa [tabT] using this) (by have:=s.fr _ (List.mem_cons_self ..);simpa [tabT] using this) s.drop fun y hy t ht=>?_
 obtain ⟨j,hj⟩:=List.mem_iff_getElem?.1 ht
 exact s.disjI 0 (j+1) rfl (by simpa using hj) (by omega) y (by simpa [tabT] using hy)
theorem st_appI {H G:Heap} {Ts:List Th} {q:Nat} {xs ys:List Int} (s:St H Ts G) (i:Nat) (hi:Ts[i]?=some (cT_ q (cP fI xs))) (hl:xs.length+ys.length≤1000000000) {K:AV→Heap→Prop}
  (h:∀q' G',G q'=none→St H (Ts.set i (cT_ q' (cP fI (xs++ys)))) G'→K (rowP q' (xs++ys)) G'):aP_ tab 24 24 (rowP q xs) (Is ys) G (wkK K):=by
 have hq:G q=some (cP fI xs):=s.get i hi
 exact app_intsX (ex:=[]) (by rw [hq,List.append_nil]) hl fun q' hq' hne=>h q' _ hq' (s.moved i hi hq')
abbrev eBo (b:Bool):List PV:=[.bool b]
abbrev fB (b:Bool):PV:=.bool b
theorem mapB_rd {l:List Bool} {i:Nat} (h:i < l.length):(List.take 1 (List.drop (i*1) (cP fB l))).headD Q_=B (l.getD i default):=by
 rw [Nat.mul_one,cP,← List.map_drop,drop_cons h];rfl
abbrev Bls (xs:List Bool):AV:=.p (.sl (xs.map eBo))
theorem frz_rowB {q:Nat} {xs:List Bool}:FrzR q 1 (xs.map eBo) (rowP q xs) (Bls xs):=by
 have:FrzR q 1 (xs.map eBo) (.sl q 1 0 (xs.map eBo).length) (.p (.sl (xs.map eBo))):=.here
 rwa [List.length_map] at this
theorem wkB {q:Nat} {xs:List Bool} {G:Heap} (hq:G q=some (cP fB xs)) (C:AV→AV) (hC:∀{q sz es a a'},FrzR q sz es a a'→FrzR q sz es (C a) (C a')):Wk (C (rowP q xs)) G (C (Bls xs)) (G.del q):=by
 have e:cells (xs.map eBo)=cP fB xs:=cells_P fB xs
 exact Wk.frz (r:=q) (sz:=1) (es:=xs.map eBo) (by omega) (by have h:=hq;rw [← e] at h;exact h) (sized_map (f:=eBo) (fun _=>rfl) xs) (hC frz_rowB)
theorem cB_set {l:List Bool} {t:Nat} (h:t < l.length) (b:Bool):List.take (t*1) (cP fB l)++[B b]++List.drop (t*1+1) (cP fB l)=cP fB (l.set t b):=by
 rw [List.set_eq_take_append_cons_drop,if_pos h,Nat.mul_one]
 simp [cP,List.map_take,List.map_drop]
theorem cB_zero (n:Nat):zA_ n [B false]=cP fB ((List.range n).map fun _=>false):=by
 induction n with
 | zero=>rfl
 | succ n ih=>rw [zerosA_succ,ih,List.range_succ_eq_map];simp [cP]
end Go.Proofs.YtohkciilfkhomaaGreat
namespace Go.Sep
open Go Go.RowKit Go.Sort Go.Proofs.YtohkciilfkhomaaGreat
theorem Sim.ahead {Z:Fro} {φ:Pm} {B0:Nat} {w0 w:World} {H:Heap} (s:Sim Z φ B0 w0 H w) (n:Nat):Sim Z φ B0 w0 H (Go.Sort.ahead w n):=
 ⟨s.b0,⟨⟨s.below.os,s.below.tape,s.below.output,s.below.size,s.below.block⟩,s.below.drawn.trans (.of (Nat.le_add_right _ _))⟩,s.bnd,fun r blk e=>let ⟨pl,hp,hl⟩:=s.live r blk e;⟨pl,hp,hl.world fun _ h=>h⟩,s.disj,fun b i v hz=>s.froz b i v hz,s.zsep⟩
theorem mapBlock_setRow {w:World} {b:Nat} {cur:Array Value} {e:TypeId} {fr:Nat×Nat} (h:w.heap[b]?=some (.cells cur e fr)) (f:Array Value→Array Value):mapBlock w b f=w.setRow b (f cur):=by
 unfold mapBlock World.setRow
 congr 1
 apply Array.ext_getElem?
 intro k
 simp only [Array.getElem?_modify]
 by_cases hk:b=k
 ·subst hk;simp [h,onCells]
 ·simp [hk]
theorem Sim.grow {Z:Fro} {φ:Pm} {B0:Nat} {w0 w:World} {H:Heap} (s:Sim Z φ B0 w0 H w) (os:Array Obj):Sim Z φ B0 w0 H (Go.Sort.grow w os):=
 s.later ⟨⟨rfl,rfl,rfl,by simp,fun k hk=>heap_grow_old w os hk⟩,.of (Nat.le_refl _)⟩
theorem Sim.putInts {Z:Fro} {φ:Pm} {B0:Nat} {w0 w:World} {H:Heap} (s:Sim Z φ B0 w0 H w) {r:Nat} {zs zs':List Int} (hr:H r=some (zs.map fun n=>AV.p (.int .i64 n))) (hl:zs'.length=zs.length) (hpos:0 < zs.length) {pl:Place} (hp:φ r=some pl) (n:Nat) (os:Array Obj) :
  Sim Z φ B0 w0 (H.set r (zs'.map fun n=>AV.p (.int .i64 n))) (Go.Sort.grow (putRow (Value.int .i64) (Go.Sort.ahead w n) pl.b pl.o zs'.toArray) os):=by
 obtain ⟨pl',hp',hlive⟩:=s.live r _ hr
 rw [hp] at hp';cases hp'
 rcases hlive with ⟨_,h0⟩ | ⟨cur,e,h1,h2,h3,h4,h5⟩
 ·cases zs with
  | nil=>simp at hpos
  | cons a zs=>simp at h0
 rw [List.length_map] at h3
 refine Sim.grow ?_ os
 have s1:=s.ahead n
 have h1':(Go.Sort.ahead w n).heap[pl.b]?=some (.cells cur e (0,0)):=h1
 rw [putRow,mapBlock_setRow h1']
 refine s1.setRow hr hp h1' (by omega) _ (by simp [putCells]) ?_ _ (by rw [List.length_map];omega) ?_
 ·intro i hi
  simp only [putCells,Array.getElem?_mapIdx]
  cases cur[i]? with
  | none=>rfl
  | some v=>simp only [Option.map_some];rw [if_neg (by simp;omega)]
 ·intro i av hi
  rw [List.getElem?_map] at hi
  cases hz:zs'[i]? with
  | none=>rw [hz] at hi;cases hi
  | some x=>
   rw [hz] at hi
   cases hi
   have hlt:i < zs'.length:=(List.getElem?_eq_some_iff.1 hz).1
   refine ⟨.int .i64 x,?_,.p (.int _ _)⟩
   have hc:pl.o+i < cur.size:=by omega
   simp only [putCells,Array.getElem?_mapIdx,Array.getElem?_eq_getElem hc,Option.map_some]
   rw [if_pos (by simp;omega)]
   have:(List.toArray zs')[pl.o+i - pl.o]! = x:=by
    rw [Nat.add_sub_cancel_left]
    have:=(List.getElem?_eq_some_iff.1 hz).2
    simp [hlt,this]
   rw [this]
theorem Sim.holdsInts {Z:Fro} {φ:Pm} {B0:Nat} {w0 w:World} {H:Heap} (s:Sim Z φ B0 w0 H w) {r:Nat} {zs:List Int} (hr:H r=some (zs.map fun n=>AV.p (.int .i64 n))) (hpos:0 < zs.length) {pl:Place} (hp:φ r=some pl) :
  Holds (Value.int .i64) w pl.b pl.o zs.toArray∧pl.b < w.heap.size:=by
 obtain ⟨pl',hp',hlive⟩:=s.live r _ hr
 rw [hp] at hp';cases hp'
 rcases hlive with ⟨_,h0⟩ | ⟨cur,e,h1,h2,h3,h4,h5⟩
 ·cases zs with
  | nil=>simp at hpos
  | cons a zs=>simp at h0
 refine ⟨fun j hj=>⟨?_,?_⟩,(Array.getElem?_eq_some_iff.1 h1).1⟩
 ·have hj':j < zs.length:=by simpa using hj
  have hz:zs[j]?=some zs[j]:=List.getElem?_eq_getElem hj'
  obtain ⟨x,hx,hc⟩:=h5 j (.p (.int .i64 zs[j])) (by rw [List.getElem?_map,hz];rfl)
  have ex:x=.int .i64 zs[j]:=by
   cases hc with
   | p h=>cases h;rfl
  rw [cell_of_row w pl.b _ cur e _ h1,hx,ex]
  simp [hj']
 ·unfold World.frozen?
  rw [h1];simp
theorem CallT.inPlace {P:Program} {f:Nat} (hb:HasBody P f) {H:Heap} {q:Nat} {zs:List Int} (hq:H q=some (zs.map fun n=>AV.p (.int .i64 n))) (g:List Int) (hg:g.length=zs.length)
  (hc:∀blk off cap w,zs.length≤cap→Holds (Value.int .i64) w blk off zs.toArray→blk < w.heap.size→Calls P f #[.slice (some ⟨blk,off,none⟩) zs.length cap] w fun e w'=>
   e=.returned (.tuple #[])∧∃n os,w'=Go.Sort.grow (putRow (Value.int .i64) (Go.Sort.ahead w n) blk off g.toArray) os)
  (hn:zs=[]→∀p cap w,Calls P f #[.slice p 0 cap] w fun e w'=>e=.returned (.tuple #[])∧w'=w)
  {K:AV→Heap→Prop} (h:K (.tup []) (H.set q (g.map fun n=>AV.p (.int .i64 n)))):CallT P f [.sl q 1 0 zs.length] H K:=by
 refine ⟨hb,?_⟩
 intro B0 w0 F Z φ w xs hd hs ha
 obtain ⟨hsz,hrel⟩:=ha
 obtain ⟨x,rfl⟩:∃x,xs=#[x]:=by
  have h1:xs.size=1:=hsz
  exact ⟨xs[0],by
   apply Array.ext
   ·simp [h1]
   ·intro i hi1 hi2
    have:i=0:=by simp at hi2;omega
    subst this;simp⟩
 have hx:=hrel 0 (.sl q 1 0 zs.length) x rfl rfl
 have hq':(H.or F) q=some (zs.map fun n=>AV.p (.int .i64 n)):=Heap.or_left hq
 have hFq:F q=none:=hd q (by rw [hq];simp)
 have empty:zs=[]→∀a c,x=.slice a 0 c→Calls P f #[x] w (fun e w'=>∃x,e=.returned x∧UpV B0 w0 F Z φ K x w'):=by
  rintro rfl a c rfl
  refine (hn rfl a c w).mono ?_
  rintro e w' ⟨rfl,rfl⟩
  have hg0:g=[]:=List.eq_nil_of_length_eq_zero hg
  subst hg0
  have hset:H.set q []=H:=by
   funext y
   by_cases e:y=q
   ·subst e;rw [Heap.set_same];exact hq.symm
   ·rw [Heap.set_other e]
  refine ⟨_,rfl,.tup [],H,Z,φ,?_,Fro.le_refl _,Pm.le_refl _,hd,hs,.tup [] #[] rfl (fun i av x h=>by simp at h)⟩
  rw [← hset];exact h
 generalize hm:zs.length=m at hx
 cases hx with
 | slz _ _ _ a=>exact empty (List.eq_nil_of_length_eq_zero hm) a 0 rfl
 | sl hp hl hC=>
  rename_i c pl
  subst hm
  by_cases h0:zs.length=0
  ·exact empty (List.eq_nil_of_length_eq_zero h0) _ _ (by rw [h0])
  have hh:=hs.holdsInts hq' (by omega) hp
  refine (hc pl.b pl.o c w hl hh.1 hh.2).mono ?_
  rintro e w' ⟨rfl,n,os,rfl⟩
  have s2:=hs.putInts (zs':=g) hq' hg (by omega) hp n os
  refine ⟨_,rfl,.tup [],H.set q (g.map fun n=>AV.p (.int .i64 n)),Z,φ,h,Fro.le_refl _,Pm.le_refl _,hd.set hFq,?_,.tup [] #[] rfl (fun i av x h=>by simp at h)⟩
  rw [Heap.or_set];exact s2
theorem CallT.inPlaceC {P:Program} {f:Nat} (hb:HasBody P f) {H:Heap} {q:Nat} {zs:List Int} (hq:H q=some (zs.map fun n=>AV.p (.int .i64 n))) (g tl:List Int) (hg:(g++tl).length=zs.length)
  (hc:∀blk off cap w,zs.length≤cap→Holds (Value.int .i64) w blk off zs.toArray→blk < w.heap.size→Calls P f #[.slice (some ⟨blk,off,none⟩) zs.length cap] w fun e w'=>
   e=.returned (.slice (some ⟨blk,off,none⟩) g.length cap)∧∃n,w'=putRow (Value.int .i64) (Go.Sort.ahead w n) blk off (g++tl).toArray)
  (hn:zs=[]→∀p cap w,Calls P f #[.slice p 0 cap] w fun e w'=>e=.returned (.slice p 0 cap)∧w'=w)
  {K:AV→Heap→Prop} (h:K (.sl q 1 0 g.length) (H.set q ((g++tl).map fun n=>AV.p (.int .i64 n)))):CallT P f [.sl q 1 0 zs.length] H K:=by
 refine ⟨hb,?_⟩
 intro B0 w0 F Z φ w xs hd hs ha
 obtain ⟨hsz,hrel⟩:=ha
 obtain ⟨x,rfl⟩:∃x,xs=#[x]:=by
  have h1:xs.size=1:=hsz
  exact ⟨xs[0],by
   apply Array.ext
   ·simp [h1]
   ·intro i hi1 hi2
    have:i=0:=by simp at hi2;omega
    subst this;simp⟩
 have hx:=hrel 0 (.sl q 1 0 zs.length) x rfl rfl
 have hq':(H.or F) q=some (zs.map fun n=>AV.p (.int .i64 n)):=Heap.or_left hq
 have hFq:F q=none:=hd q (by rw [hq];simp)
 have empty:zs=[]→∀a c,x=.slice a 0 c→Cv Z φ (.sl q 1 0 0) x→Calls P f #[x] w (fun e w'=>∃x,e=.returned x∧UpV B0 w0 F Z φ K x w'):=by
  rintro rfl a c rfl hcv
  refine (hn rfl a c w).mono ?_
  rintro e w' ⟨rfl,rfl⟩
  have hg0:=List.eq_nil_of_length_eq_zero hg
  rw [List.append_eq_nil_iff] at hg0
  obtain ⟨rfl,rfl⟩:=hg0
  have hset:H.set q []=H:=by
   funext y
   by_cases e:y=q
   ·subst e;rw [Heap.set_same];exact hq.symm
   ·rw [Heap.set_other e]
  refine ⟨_,rfl,_,H,Z,φ,?_,Fro.le_refl _,Pm.le_refl _,hd,hs,hcv⟩
  rw [← hset];exact h
 have hx0:=hx
 generalize hm:zs.length=m at hx
 cases hx with
 | slz _ _ _ a=>exact empty (List.eq_nil_of_length_eq_zero hm) a 0 rfl (.slz _ _ _ _)
 | sl hp hl hC=>
  rename_i c pl
  subst hm
  by_cases h0:zs.length=0
  ·exact empty (List.eq_nil_of_length_eq_zero h0) _ _ (by rw [h0]) (by rw [h0] at hx0;rw [h0];exact hx0)
  have hh:=hs.holdsInts hq' (by omega) hp
  refine (hc pl.b pl.o c w hl hh.1 hh.2).mono ?_
  rintro e w' ⟨rfl,n,rfl⟩
  have s2:=hs.putInts (zs':=g++tl) hq' hg (by omega) hp n #[]
  rw [Go.Sort.grow_empty] at s2
  rw [List.length_append] at hg
  refine ⟨_,rfl,.sl q 1 0 g.length,H.set q ((g++tl).map fun n=>AV.p (.int .i64 n)),Z,φ,h,Fro.le_refl _,Pm.le_refl _,hd.set hFq,?_,.sl hp (by omega) hC⟩
  rw [Heap.or_set];exact s2
theorem CallT.nilArg {P:Program} {f:Nat} (hb:HasBody P f) {v:AV} {r:Value} (hr:∀Z φ,Cv Z φ v r) (hn:∀w,Calls P f #[.slice none 0 0] w fun e w'=>e=.returned r∧w'=w) {H:Heap} {K:AV→Heap→Prop} (h:K v H):CallT P f [.p .nil] H K:=by
 refine ⟨hb,?_⟩
 intro B0 w0 F Z φ w xs hd hs ha
 obtain ⟨hsz,hrel⟩:=ha
 obtain ⟨x,rfl⟩:∃x,xs=#[x]:=by
  have h1:xs.size=1:=hsz
  exact ⟨xs[0],by
   apply Array.ext
   ·simp [h1]
   ·intro i hi1 hi2
    have:i=0:=by simp at hi2;omega
    subst this;simp⟩
 have hx:=hrel 0 (.p .nil) x rfl rfl
 have ex:x=.slice none 0 0:=by
  cases hx with
  | p h=>cases h;rfl
 subst ex
 refine (hn w).mono ?_
 rintro e w' ⟨rfl,rfl⟩
 exact ⟨_,rfl,v,H,Z,φ,h,Fro.le_refl _,Pm.le_refl _,hd,hs,hr _ _⟩
end Go.Sep
/-
 DERIVED: THE SHELF's CONTRACTS AT THIS DUMP,IN PLAIN WORDS (tools/lay-plain.mjs out of 'YtohkciilfkhomaaGreatLay.lean',which tools/lay-shelf.mjs wrote): THE SAME DECLARATIONS UNDER THE SAME NAMES: 'import','namespace','open','def','theorem' AND NOTHING ELSE: no command of the shelf's: FOR A HAND-IN. Each laying: the table of numbers ('.._ren') and one theorem,a field a fact of the dump's own or the kernel's comparison;each contract: ONE APPLICATION.
-/
namespace Go.Proofs
open Go.Shelf
def Tryz.laySort_ren:Go.Shelf.Ren:=⟨fun | 53=>82 | 64=>117 | 63=>116 | 78=>136 | 79=>137 | 70=>127 | 71=>128 | 72=>129 | 73=>130 | 74=>131 | 75=>132 | 59=>133 | 76=>134 | 77=>135 | 88=>138 | 89=>139 | 90=>140 | 91=>141 | 92=>142 | 68=>125 | 96=>143 | n=>n,fun | 22=>24 | 23=>3 | 3=>3 | 51=>109 | 0=>0 | 67=>127 | 69=>69 | 4=>4 | 61=>135 | 60=>134 | 44=>139 | 5=>5 | 9=>9 | 75=>143 | 79=>147 | 83=>149 | 84=>150 | n=>n,fun | n=>n⟩
theorem Tryz.laySort:Go.Proofs.SlLaysN.n53 Tryz.prog Tryz.laySort_ren:={
 mixed:=by kernel_rfl
 f53:=⟨Tryz.f82.name,by decide,Tryz.func82.trans (congrArg some (by kernel_rfl))⟩
 f59:=⟨Tryz.f133.name,by decide,Tryz.func133.trans (congrArg some (by kernel_rfl))⟩
 f63:=⟨Tryz.f116.name,by decide,Tryz.func116.trans (congrArg some (by kernel_rfl))⟩
 f64:=Tryz.func117.trans (congrArg some (by kernel_rfl))
 f68:=⟨Tryz.f125.name,by decide,Tryz.func125.trans (congrArg some (by kernel_rfl))⟩
 f70:=⟨Tryz.f127.name,by decide,Tryz.func127.trans (congrArg some (by kernel_rfl))⟩
 f71:=⟨Tryz.f128.name,by decide,Tryz.func128.trans (congrArg some (by kernel_rfl))⟩
 f72:=⟨Tryz.f129.name,by decide,Tryz.func129.trans (congrArg some (by kernel_rfl))⟩
 f73:=⟨Tryz.f130.name,by decide,Tryz.func130.trans (congrArg some (by kernel_rfl))⟩
 f74:=⟨Tryz.f131.name,by decide,Tryz.func131.trans (congrArg some (by kernel_rfl))⟩
 f75:=⟨Tryz.f132.name,by decide,Tryz.func132.trans (congrArg some (by kernel_rfl))⟩
 f76:=⟨Tryz.f134.name,by decide,Tryz.func134.trans (congrArg some (by kernel_rfl))⟩
 f77:=⟨Tryz.f135.name,by decide,Tryz.func135.trans (congrArg some (by kernel_rfl))⟩
 f78:=Tryz.func136.trans (congrArg some (by kernel_rfl))
 f79:=Tryz.func137.trans (congrArg some (by kernel_rfl))
 f88:=⟨Tryz.f138.name,by decide,Tryz.func138.trans (congrArg some (by kernel_rfl))⟩
 f89:=Tryz.func139.trans (congrArg some (by kernel_rfl))
 f90:=Tryz.func140.trans (congrArg some (by kernel_rfl))
 f91:=⟨Tryz.f141.name,by decide,Tryz.func141.trans (congrArg some (by kernel_rfl))⟩
 f92:=⟨Tryz.f142.name,by decide,Tryz.func142.trans (congrArg some (by kernel_rfl))⟩
 f96:=⟨Tryz.f143.name,by decide,Tryz.func143.trans (congrArg some (by kernel_rfl))⟩
 t0:=Tryz.underlying0
 a0:=Tryz.isAgg0
 z0:=Tryz.sizeOf0
 v0:=Tryz.zeroValue0
 t3:=Tryz.underlying3
 a3:=Tryz.isAgg3
 z3:=Tryz.sizeOf3
 v3:=Tryz.zeroValue3
 t4:=Tryz.underlying4
 a4:=Tryz.isAgg4
 z4:=Tryz.sizeOf4
 v4:=Tryz.zeroValue4
 t5:=Tryz.underlying5
 a5:=Tryz.isAgg5
 z5:=Tryz.sizeOf5
 v5:=Tryz.zeroValue5
 t9:=Tryz.underlying9
 a9:=Tryz.isAgg9
 z9:=Tryz.sizeOf9
 v9:=Tryz.zeroValue9
 t22:=Tryz.underlying24
 a22:=Tryz.isAgg24
 z22:=Tryz.sizeOf24
 v22:=Tryz.zeroValue24
 t23:=Tryz.underlying3
 a23:=Tryz.isAgg3
 z23:=Tryz.sizeOf3
 v23:=Tryz.zeroValue3
 t44:=Tryz.underlying139
 a44:=Tryz.isAgg139
 z44:=Tryz.sizeOf139
 v44:=Tryz.zeroValue139
 t51:=Tryz.underlying109
 a51:=Tryz.isAgg109
 z51:=Tryz.sizeOf109
 v51:=Tryz.zeroValue109
 t60:=Tryz.underlying134
 a60:=Tryz.isAgg134
 z60:=Tryz.sizeOf134
 v60:=Tryz.zeroValue134
 t61:=Tryz.underlying135
 a61:=Tryz.isAgg135
 z61:=Tryz.sizeOf135
 v61:=Tryz.zeroValue135
 t67:=Tryz.underlying127
 a67:=Tryz.isAgg127
 z67:=Tryz.sizeOf127
 v67:=Tryz.zeroValue127
 t69:=Tryz.underlying69
 a69:=Tryz.isAgg69
 z69:=Tryz.sizeOf69
 v69:=Tryz.zeroValue69
 t75:=Tryz.underlying143
 a75:=Tryz.isAgg143
 z75:=Tryz.sizeOf143
 v75:=Tryz.zeroValue143
 t79:=Tryz.underlying147
 a79:=Tryz.isAgg147
 z79:=Tryz.sizeOf147
 v79:=Tryz.zeroValue147
 t83:=Tryz.underlying149
 a83:=Tryz.isAgg149
 z83:=Tryz.sizeOf149
 v83:=Tryz.zeroValue149
 t84:=Tryz.underlying150
 a84:=Tryz.isAgg150
 z84:=Tryz.sizeOf150
 v84:=Tryz.zeroValue150 }
def Tryz.layCompact_ren:Go.Shelf.Ren:=⟨fun | 43=>83 | n=>n,fun | 22=>24 | 23=>3 | 3=>3 | 4=>4 | 0=>0 | n=>n,fun | n=>n⟩
theorem Tryz.layCompact:Go.Proofs.SlLaysN.n43 Tryz.prog Tryz.layCompact_ren:={
 mixed:=by kernel_rfl
 f43:=⟨Tryz.f83.name,by decide,Tryz.func83.trans (congrArg some (by kernel_rfl))⟩
 t0:=Tryz.underlying0
 a0:=Tryz.isAgg0
 z0:=Tryz.sizeOf0
 v0:=Tryz.zeroValue0
 t3:=Tryz.underlying3
 a3:=Tryz.isAgg3
 z3:=Tryz.sizeOf3
 v3:=Tryz.zeroValue3
 t4:=Tryz.underlying4
 a4:=Tryz.isAgg4
 z4:=Tryz.sizeOf4
 v4:=Tryz.zeroValue4
 t22:=Tryz.underlying24
 a22:=Tryz.isAgg24
 z22:=Tryz.sizeOf24
 v22:=Tryz.zeroValue24
 t23:=Tryz.underlying3
 a23:=Tryz.isAgg3
 z23:=Tryz.sizeOf3
 v23:=Tryz.zeroValue3
 i23:=by kernel_rfl }
end Go.Proofs
namespace Go.Proofs.YtohkciilfkhomaaGreat
open Go Go.Sep Go.Pt Go.RowKit
abbrev srt (zs:List Int):List Int:=zs.mergeSort fun x y=>decide (x≤y)
theorem Sort_hb:HasBody Tryz.prog 82:=⟨_,bO_ Tryz.f82,Tryz.func82,by kernel_rfl,rfl⟩
theorem Compact_hb:HasBody Tryz.prog 83:=⟨_,bO_ Tryz.f83,Tryz.func83,by kernel_rfl,rfl⟩
theorem Sort_row {H:Heap} {q:Nat} {zs:List Int} {K:AV→Heap→Prop} (hq:H q=some (zs.map fun n=>AV.p (.int .i64 n))) (hl:zs.length≤1000000000) (h:K (.tup []) (H.set q ((srt zs).map fun n=>AV.p (.int .i64 n)))):CallT Tryz.prog 82 [.sl q 1 0 zs.length] H K:=
 CallT.inPlace Sort_hb hq (srt zs) (List.length_mergeSort ..) (fun blk off cap w _ hH hb=>AnyG.slices_Sort_int Tryz.laySort blk off cap zs w hH hb (by omega)) (fun _ p cap w=>AnyG.slices_Sort_int_none Tryz.laySort p cap w) h
theorem Sort_nil {H:Heap} {K:AV→Heap→Prop} (h:K (.tup []) H):CallT Tryz.prog 82 [.p .nil] H K:=
 CallT.nilArg Sort_hb (fun Z φ=>.tup [] #[] rfl (fun i av x h=>by simp at h)) (fun w=>AnyG.slices_Sort_int_none Tryz.laySort none 0 w) h
theorem Compact_row {H:Heap} {q:Nat} {zs:List Int} {K:AV→Heap→Prop} (hq:H q=some (zs.map fun n=>AV.p (.int .i64 n))) (hl:zs.length≤1000000000) (h:K (.sl q 1 0 (Lib.compact zs).length) (H.set q ((Lib.compact zs).map fun n=>AV.p (.int .i64 n)))):CallT Tryz.prog 83 [.sl q 1 0 zs.length] H K:=by
 refine CallT.fin ?_
 refine CallT.inPlaceC Compact_hb hq (Lib.compact zs) (List.replicate (zs.length - (Lib.compact zs).length) 0) (by have:=compact_len zs;rw [List.length_append,List.length_replicate];omega) (fun blk off cap w hc hH hb=>AnyG.slices_Compact_int Tryz.layCompact blk off cap zs w hH (by omega) hc) (fun _ p cap w=>AnyG.slices_Compact_int_empty Tryz.layCompact p cap w) ?_
 refine ⟨_,_,.cell (cs':=(Lib.compact zs).map fun n=>AV.p (.int .i64 n)) (Heap.set_same _ _ _) (by rw [List.map_append,List.length_append];omega) (fun i a a' h1 h2=>?_),?_⟩
 ·rw [List.map_append,List.getElem?_append_left (List.getElem?_eq_some_iff.1 h2).1,h2] at h1
  cases h1;exact .refl _
 ·rw [Heap.set_set];exact h
theorem Compact_nil {H:Heap} {K:AV→Heap→Prop} (h:K (.p .nil) H):CallT Tryz.prog 83 [.p .nil] H K:=
 CallT.nilArg Compact_hb (fun Z φ=>.p .nil) (fun w=>AnyG.slices_Compact_int_empty Tryz.layCompact none 0 w) h
end Go.Proofs.YtohkciilfkhomaaGreat
namespace Go.Proofs.YtohkciilfkhomaaGreat
open Go Go.Sep Go.Pt
attribute [local irreducible] CallT
theorem rn_appI {H G:Heap} {Ts:List Th} {x:AV} {xs ys:List Int} {D:List Nat} (s:St H Ts G) (i:Nat) (hi:Ts[i]?=some (rnI x xs D)) (hl:xs.length+ys.length≤1000000) {K:AV→Heap→Prop}
  (h:∀q' G',G q'=none→St H (Ts.set i (rnI (rowP q' (xs++ys)) (xs++ys) [q'])) G'→K (rowP q' (xs++ys)) G'):aP_ tab 24 24 x (Is ys) G (wkK K):=
 RN.app (bz:=8) tab_24 rfl tab_3 tab_24 rfl rfl rfl (fun _=>rfl) s i hi rfl (by omega) (by omega) h
theorem rnI_cases {x:AV} {l:List Int} {G:Heap} {D:List Nat} (h:RN (LPl eI) 1 x l G D):(x=.p .nil∧l=[]∧D=[])∨∃q,x=rowP q l∧G q=some (cP fI l)∧D=[q]:=by
 rcases h with h | ⟨q,cs,D',rfl,hq,hll,rfl⟩
 ·exact .inl h
 ·obtain ⟨rfl,rfl⟩:=LL.plain' hll
  refine .inr ⟨q,rfl,?_,rfl⟩
  have e:cells (l.map eI)=cP fI l:=cells_P fI l
  rw [← e];exact hq
theorem rnI_mk {l:List Int} {G:Heap} {q:Nat} (h:G q=some (cP fI l)):RN (LPl eI) 1 (rowP q l) l G [q]:=.inr (LI_mk' h)
theorem rn_sort {H G:Heap} {Ts:List Th} {x:AV} {l:List Int} {D:List Nat} (s:St H Ts G) (i:Nat) (hi:Ts[i]?=some (rnI x l D)) (hl:l.length≤1000000) {K:AV→Heap→Prop}
  (h:∀G',St H (Ts.set i (rnI x (srt l) D)) G'→K (.tup []) G'):CallT Tryz.prog 82 [x] G K:=by
 have hsl:(srt l).length=l.length:=List.length_mergeSort ..
 rcases rnI_cases (s.get i hi) with ⟨rfl,rfl,rfl⟩ | ⟨q,rfl,hq,rfl⟩
 ·refine Sort_nil (h G ?_)
  exact s.repl i hi _ (by simp [rnT]) (fun y hy=>.inl hy) (fun y b hb _=>hb) (.inl ⟨rfl,by simp [srt],rfl⟩)
 ·refine Sort_row hq (by omega) (h _ ?_)
  refine s.repl i hi _ (by simp [rnT]) (fun y hy=>.inl hy) (fun y b hb hy=>?_) ?_
  ·simp only [rnT,List.mem_singleton] at hy
   rw [Heap.set_other hy];exact hb
  ·have:=rnI_mk (l:=srt l) (q:=q) (G:=G.set q (cP fI (srt l))) (Heap.set_same _ _ _)
   rw [rowP,hsl] at this
   exact this
theorem rn_compact {H G:Heap} {Ts:List Th} {x:AV} {l:List Int} {D:List Nat} (s:St H Ts G) (i:Nat) (hi:Ts[i]?=some (rnI x l D)) (hl:l.length≤1000000) {K:AV→Heap→Prop}
  (h:∀x' G',(x'=.p .nil∨∃q,x'=.sl q 1 0 (Lib.compact l).length)→St H (Ts.set i (rnI x' (Lib.compact l) D)) G'→K x' G'):CallT Tryz.prog 83 [x] G K:=by
 rcases rnI_cases (s.get i hi) with ⟨rfl,rfl,rfl⟩ | ⟨q,rfl,hq,rfl⟩
 ·refine Compact_nil (h _ G (.inl rfl) ?_)
  exact s.repl i hi _ (by simp [rnT]) (fun y hy=>.inl hy) (fun y b hb _=>hb) (.inl ⟨rfl,by simp [Lib.compact,Lib.compactUpTo],rfl⟩)
 ·refine Compact_row hq (by omega) (h _ _ (.inr ⟨q,rfl⟩) ?_)
  refine s.repl i hi _ (by simp [rnT]) (fun y hy=>.inl hy) (fun y b hb hy=>?_) (rnI_mk (Heap.set_same _ _ _))
  simp only [rnT,List.mem_singleton] at hy
  rw [Heap.set_other hy];exact hb
end Go.Proofs.YtohkciilfkhomaaGreat
namespace Go.Proofs.YtohkciilfkhomaaGreat
open Go Go.Sep Go.Pt
attribute [local irreducible] CallT
end Go.Proofs.YtohkciilfkhomaaGreat
namespace Go.Proofs.YtohkciilfkhomaaGreat
open Go Go.Sep Go.Pt
attribute [local irreducible] CallT
def outN (a:Au) (k s:Nat):List Int:=((a.edges.take k).filter fun e=>decide (e.src=(s:Int))).map (·.dst)
def outR (a:Au) (k:Nat):List (List Int):=(List.range a.states.toNat).map (outN a k)
theorem outR_len (a:Au) (k:Nat):(outR a k).length=a.states.toNat:=by simp [outR]
theorem outR_zero (a:Au):outR a 0=List.replicate a.states.toNat []:=by
 rw [outR]
 apply List.ext_getElem
 ·simp
 ·intro i h1 h2;simp [outN]
theorem outR_get (a:Au) (k:Nat) {s:Nat} (h:s < a.states.toNat):(outR a k).getD s default=outN a k s:=by simp [outR,List.getD,h]
theorem outN_len (a:Au) (k s:Nat):(outN a k s).length≤a.edges.length:=by
 rw [outN,List.length_map]
 exact Nat.le_trans (List.length_filter_le _ _) (by rw [List.length_take];omega)
theorem outR_succ (a:Au) {k:Nat} (hk:k < a.edges.length) (h0:0≤(a.edges.getD k default).src) (h1:(a.edges.getD k default).src < a.states) :
  outR a (k+1)=(outR a k).set (a.edges.getD k default).src.toNat (outN a k (a.edges.getD k default).src.toNat++[(a.edges.getD k default).dst]):=by
 have hs:=tS_ hk
 generalize a.edges.getD k default=e at hs h0 h1 ⊢
 apply List.ext_getElem
 ·simp [outR]
 ·intro s h2 h3
  simp only [outR,List.getElem_map,List.getElem_range,List.getElem_set]
  simp only [outN,hs,List.filter_append,List.map_append]
  by_cases he:e.src.toNat=s
  ·subst he
   rw [if_pos rfl]
   have:e.src=(e.src.toNat:Int):=by omega
   simp [← this]
  ·rw [if_neg he]
   have:¬e.src=(s:Int):=by omega
   simp [this]
def nextR (a:Au) (i:Nat):List (List Int):=(List.range a.states.toNat).map fun s=>if s < i then sc (outN a a.edges.length s) else outN a a.edges.length s
def nextG (a:Au):List (List Int):=(List.range a.states.toNat).map fun s=>sc (outN a a.edges.length s)
theorem nextR_len (a:Au) (i:Nat):(nextR a i).length=a.states.toNat:=by simp [nextR]
theorem nextG_len (a:Au):(nextG a).length=a.states.toNat:=by simp [nextG]
theorem nextR_zero (a:Au):nextR a 0=outR a a.edges.length:=by simp [nextR,outR]
theorem nextR_all (a:Au):nextR a a.states.toNat=nextG a:=by
 rw [nextR,nextG]
 apply List.map_congr_left
 intro s hs
 rw [if_pos (List.mem_range.1 hs)]
theorem nextR_get (a:Au) {i:Nat} (h:i < a.states.toNat):(nextR a i).getD i default=outN a a.edges.length i:=by simp [nextR,List.getD,h]
theorem nextR_succ (a:Au) {i:Nat} (h:i < a.states.toNat):nextR a (i+1)=(nextR a i).set i (sc (outN a a.edges.length i)):=by
 apply List.ext_getElem
 ·simp [nextR]
 ·intro s h2 h3
  simp only [nextR,List.getElem_map,List.getElem_range,List.getElem_set]
  by_cases he:i=s
  ·subst he;simp
  ·rw [if_neg he]
   by_cases hs:s < i
   ·rw [if_pos hs,if_pos (by omega)]
   ·rw [if_neg hs,if_neg (by omega)]
structure GoodX (a:Au):Prop where
 st:1≤a.states∧a.states≤100000
 ed:a.edges.length≤400000
 ei:∀e∈a.edges,edIn a.states e=true
theorem GoodF.x {a:Au} (f:GoodF a):GoodX a:=⟨by have:=f.st;omega,by have:=f.ed;omega,f.ei⟩
theorem next_liveX (a:Au) (fa:GoodX a) {H:Heap} {K:AV→Heap→Prop} (h:∀x G D,LII (nextG a) x G D→New H G D→K x G):CallT Tryz.prog 31 [aAu a] H K:=by
 have hst:=fa.st
 have hed:=fa.ed
 refine CallT.finish ?_
 have hz:((a.states.toNat:Nat):Int)=a.states:=by omega
 refine W31_ok ?_;simp (maxSteps:=1000000) (disch:=first | assumption | (apply ν6;assumption)) only [W31,vz,vu,vv,eqS,eF_,↓c1_,↓c2_,tabs,reduceCtorEq,ι5,↓reduceIte,ν1,ν2,ν3,ν4,ν5,ι1,ι2,ι3,ι4,mS_]
 intro r hr
 refine ⟨by omega,by omega,by omega,by omega,fun q hq1 hq=>?_⟩
 have st:=(St.nil H).cell hr [I a.states,Is a.first,Es a.edges,Ls a.goals]
 replace st:=tab_new (n:=a.states.toNat) st (q:=q) (by rw [Heap.set_other hq1];exact hq)
 rw [← outR_zero] at st
 generalize (H.set r [I a.states,Is a.first,Es a.edges,Ls a.goals]).set q (zA_ a.states.toNat [.p .nil])=G1 at st ⊢
 (try simp (maxSteps:=1000000) (disch:=first | assumption | (apply ν6;assumption)) only [vz,vu,vv,eqS,eF_,↓c1_,↓c2_,tabs,reduceCtorEq,ι5,↓reduceIte,ν1,ν2,ν3,ν4,ν5,ι1,ι2,ι3,ι4,lA_ (st.get 1 rfl)])
 refine L31_0_rule ((0:Nat),[q],G1) (fun s=>I s.1) (fun s=>s.2.2) (fun s=>s.1≤a.edges.length∧St H [tabT q (outR a s.1) s.2.1,cT_ r [I a.states,Is a.first,Es a.edges,Ls a.goals]] s.2.2) (fun s=>a.edges.length - s.1)
  ⟨⟨by simp,st⟩,.refl _,Heap.le_refl _⟩ ?_
 clear st
 rintro ⟨k,D,G⟩ ⟨hk,st⟩
 dsimp only at hk st
 (try simp (maxSteps:=1000000) (disch:=first | assumption | (apply ν6;assumption)) only [vz,vu,vv,eqS,eF_,↓c1_,↓c2_,tabs,reduceCtorEq,ι5,↓reduceIte,ν1,ν2,ν3,ν4,ν5,ι1,ι2,ι3,ι4,B31_0])
 refine ⟨fun h1=>⟨by omega,h1,?_⟩,fun h1=>?_⟩
 ·have hlt:k < a.edges.length:=by omega
  have hm:a.edges.getD k default∈a.edges:=getD_all (p:=fun x=>x∈a.edges) (fun _ h=>h) hlt
  have hei:=edIn_iff.1 (fa.ei _ hm)
  have hsucc:=outR_succ a hlt (by omega) (by omega)
  generalize a.edges.getD k default=e at hei hsucc ⊢
  intro r5 hr5
  replace st:=st.cell hr5 [I e.src,I e.lt,I e.dst]
  generalize G.set r5 [I e.src,I e.lt,I e.dst]=G2 at st ⊢
  have hi:e.src.toNat < (outR a k).length:=by rw [outR_len];omega
  obtain ⟨pre,c,post,Di,Dr,hpl,hpp,st⟩:=tab_take st 1 rfl hi
  rw [outR_get a k (by omega)] at st
  rw [outR_len] at hpp
  simp only [List.eraseIdx_cons_succ,List.eraseIdx_cons_zero] at st
  have hG:=(st.get 1 rfl:(holeT q pre c post _ _ Dr).P G2).1
  have hrd:=tab_rd (c:=c) (post:=post) hpl
  have hb:e.src.toNat*1+1≤pre.length+(post.length+1):=by omega
  have hsp:∀c',List.take (e.src.toNat*1) (pre++(c::post))++[c']++List.drop (e.src.toNat*1+1) (pre++(c::post))=pre++(c'::post):=fun c'=>tab_sp hpl
  (try simp (maxSteps:=1000000) (disch:=first | assumption | (apply ν6;assumption)) only [vz,vu,vv,eqS,eF_,↓c1_,↓c2_,tabs,reduceCtorEq,ι5,↓reduceIte,ν1,ν2,ν3,ν4,ν5,ι1,ι2,ι3,ι4,lA_ (st.get 2 rfl)])
  refine ⟨by omega,by omega,?_⟩
  (try simp (maxSteps:=1000000) (disch:=first | assumption | (apply ν6;assumption)) only [vz,vu,vv,eqS,eF_,↓c1_,↓c2_,tabs,reduceCtorEq,ι5,↓reduceIte,ν1,ν2,ν3,ν4,ν5,ι1,ι2,ι3,ι4,lA_ hG,hrd])
  refine ⟨hb,?_⟩
  refine lit1 tab_24 rfl tab_3 ⟨rfl,rfl⟩ ?_
  (try simp (maxSteps:=1000000) (disch:=first | assumption | (apply ν6;assumption)) only [vz,vu,vv,eqS,eF_,↓c1_,↓c2_,tabs,reduceCtorEq,ι5,↓reduceIte,ν1,ν2,ν3,ν4,ν5,ι1,ι2,ι3,ι4,lA_ (st.get 2 rfl),lA_ hG,hrd])
  refine ⟨hb,?_⟩
  have hol:=outN_len a k e.src.toNat
  refine rn_appI (ys:=[e.dst]) st 0 rfl (by simp only [List.length_cons,List.length_nil];omega) fun q' G' hq' st=>?_
  simp only [List.set_cons_zero] at st
  have hG:=(st.get 1 rfl:(holeT q pre c post _ _ Dr).P G').1
  (try simp (maxSteps:=1000000) (disch:=first | assumption | (apply ν6;assumption)) only [vz,vu,vv,eqS,eF_,↓c1_,↓c2_,tabs,reduceCtorEq,ι5,↓reduceIte,ν1,ν2,ν3,ν4,ν5,ι1,ι2,ι3,ι4,lA_ (st.get 2 rfl),sA_ hG])
  refine ⟨by omega,by omega,hb,?_⟩
  obtain ⟨D',st⟩:=tab_put st hi
  rw [← hsucc] at st
  rw [hsp]
  simp only [rowP,List.length_append,List.length_singleton] at st
  refine ⟨(k+1,D',_),⟨by simp only;omega,st.erase 1⟩,by simp only;omega,?_,Heap.le_refl _⟩
  rw [wk_int,i6_ (by omega) (by omega)];simp
 ·have:k=a.edges.length:=by omega
  subst this
  rw [← nextR_zero] at st
  (try simp (maxSteps:=1000000) (disch:=first | assumption | (apply ν6;assumption)) only [vz,vu,vv,eqS,eF_,↓c1_,↓c2_,tabs,reduceCtorEq,ι5,↓reduceIte,ν1,ν2,ν3,ν4,ν5,ι1,ι2,ι3,ι4])
  refine L31_1_rule ((0:Nat),D,G) (fun s=>I s.1) (fun s=>s.2.2) (fun s=>s.1≤a.states.toNat∧St H [tabT q (nextR a s.1) s.2.1,cT_ r [I a.states,Is a.first,Es a.edges,Ls a.goals]] s.2.2) (fun s=>a.states.toNat - s.1)
   ⟨⟨by simp,st⟩,.refl _,Heap.le_refl _⟩ ?_
  clear st D
  rintro ⟨i,D,G⟩ ⟨hi,st⟩
  dsimp only at hi st
  (try simp (maxSteps:=1000000) (disch:=first | assumption | (apply ν6;assumption)) only [vz,vu,vv,eqS,eF_,↓c1_,↓c2_,tabs,reduceCtorEq,ι5,↓reduceIte,ν1,ν2,ν3,ν4,ν5,ι1,ι2,ι3,ι4,B31_1])
  refine ⟨fun h1=>?_,fun h1=>?_⟩
  ·have hlt:i < a.states.toNat:=by omega
   have hsucc:=nextR_succ a hlt
   have hol:=outN_len a a.edges.length i
   obtain ⟨pre,c,post,Di,Dr,hpl,hpp,st⟩:=tab_take st 0 rfl (by rw [nextR_len];exact hlt)
   rw [nextR_get a hlt] at st
   rw [nextR_len] at hpp
   simp only [List.eraseIdx_cons_zero] at st
   have hrd:=tab_rd (c:=c) (post:=post) hpl
   have hb:i*1+1≤pre.length+(post.length+1):=by omega
   have hsp:∀c',List.take (i*1) (pre++(c::post))++[c']++List.drop (i*1+1) (pre++(c::post))=pre++(c'::post):=fun c'=>tab_sp hpl
   have hG:=(st.get 1 rfl:(holeT q pre c post _ _ Dr).P G).1
   generalize outN a a.edges.length i=l at st hsucc hol
   (try simp (maxSteps:=1000000) (disch:=first | assumption | (apply ν6;assumption)) only [vz,vu,vv,eqS,eF_,↓c1_,↓c2_,tabs,reduceCtorEq,ι5,↓reduceIte,ν1,ν2,ν3,ν4,ν5,ι1,ι2,ι3,ι4,lA_ hG,hrd])
   refine ⟨by omega,h1,hb,?_⟩
   refine rn_sort st 0 rfl (by omega) fun G2 st=>?_
   simp only [List.set_cons_zero] at st
   have hsl:(srt l).length=l.length:=List.length_mergeSort ..
   have hG:=(st.get 1 rfl:(holeT q pre c post _ _ Dr).P G2).1
   (try simp (maxSteps:=1000000) (disch:=first | assumption | (apply ν6;assumption)) only [vz,vu,vv,eqS,eF_,↓c1_,↓c2_,tabs,reduceCtorEq,ι5,↓reduceIte,ν1,ν2,ν3,ν4,ν5,ι1,ι2,ι3,ι4,lA_ hG,hrd])
   refine ⟨by omega,h1,hb,?_⟩
   refine rn_compact st 0 rfl (by omega) fun x' G3 hx' st=>?_
   simp only [List.set_cons_zero] at st
   have hG:=(st.get 1 rfl:(holeT q pre c post _ _ Dr).P G3).1
   obtain ⟨D',st⟩:=tab_put st (by rw [nextR_len];exact hlt)
   have esc:Lib.compact (srt l)=sc l:=rfl
   rw [esc,← hsucc] at st
   rcases hx' with rfl | ⟨qx,rfl⟩
   ·(try simp (maxSteps:=1000000) (disch:=first | assumption | (apply ν6;assumption)) only [vz,vu,vv,eqS,eF_,↓c1_,↓c2_,tabs,reduceCtorEq,ι5,↓reduceIte,ν1,ν2,ν3,ν4,ν5,ι1,ι2,ι3,ι4,sA_ hG])
    refine ⟨by omega,h1,hb,?_⟩
    rw [hsp]
    refine ⟨(i+1,D',_),⟨by simp only;omega,st⟩,by simp only;omega,?_,Heap.le_refl _⟩
    rw [wk_int,i6_ (by omega) (by omega)];simp
   ·(try simp (maxSteps:=1000000) (disch:=first | assumption | (apply ν6;assumption)) only [vz,vu,vv,eqS,eF_,↓c1_,↓c2_,tabs,reduceCtorEq,ι5,↓reduceIte,ν1,ν2,ν3,ν4,ν5,ι1,ι2,ι3,ι4,sA_ hG])
    refine ⟨by omega,h1,hb,?_⟩
    rw [hsp]
    refine ⟨(i+1,D',_),⟨by simp only;omega,st⟩,by simp only;omega,?_,Heap.le_refl _⟩
    rw [wk_int,i6_ (by omega) (by omega)];simp
  ·have:i=a.states.toNat:=by omega
   subst this
   rw [nextR_all] at st
   have e:(nextG a).length=a.states.toNat:=nextG_len a
   rw [← e]
   refine tab_whole (fun G D s=>.done (h _ _ _ (s.get 0 rfl) ⟨s.ndT 0 rfl,s.fr _ (List.mem_cons_self ..),s.le⟩)) st
theorem next_live (a:Au) (fa:GoodF a) {H:Heap} {K:AV→Heap→Prop} (h:∀x G D,LII (nextG a) x G D→New H G D→K x G):CallT Tryz.prog 31 [aAu a] H K:=next_liveX a fa.x h
end Go.Proofs.YtohkciilfkhomaaGreat
namespace Go.Pt
inductive Rch (E:Nat→Nat→Prop):Nat→Nat→Prop
 | refl (a:Nat):Rch E a a
 | step {a b c:Nat} (h:E a b) (t:Rch E b c):Rch E a c
theorem Rch.trans {E:Nat→Nat→Prop} {a b c:Nat} (h:Rch E a b) (k:Rch E b c):Rch E a c:=by
 induction h with
 | refl=>exact k
 | step h t ih=>exact .step h (ih k)
theorem Rch.one {E:Nat→Nat→Prop} {a b:Nat} (h:E a b):Rch E a b:=.step h (.refl _)
theorem Rch.snoc {E:Nat→Nat→Prop} {a b c:Nat} (h:Rch E a b) (k:E b c):Rch E a c:=h.trans (.one k)
theorem Rch.leave {E:Nat→Nat→Prop} {P:Nat→Prop} {a b:Nat} (h:Rch E a b) (ha:P a) (hb:¬P b):∃x y,P x∧¬P y∧E x y∧Rch E a x∧Rch E y b:=by
 induction h with
 | refl=>exact absurd ha hb
 | @step a c b h t ih=>
  by_cases hc:P c
  ·obtain ⟨x,y,h1,h2,h3,h4,h5⟩:=ih hc hb
   exact ⟨x,y,h1,h2,h3,.step h h4,h5⟩
  ·exact ⟨a,c,ha,hc,h,.refl _,t⟩
theorem Rch.keep {E:Nat→Nat→Prop} {P:Nat→Prop} {a b:Nat} (h:Rch E a b) (ha:P a) (hk:∀x y,P x→E x y→P y):P b:=by
 induction h with
 | refl=>exact ha
 | step h t ih=>exact ih (hk _ _ ha h)
theorem Rch.rev {E:Nat→Nat→Prop} {a b:Nat} (h:Rch E a b):Rch (fun x y=>E y x) b a:=by
 induction h with
 | refl=>exact .refl _
 | step h t ih=>exact ih.snoc h
theorem Rch.mono {E F:Nat→Nat→Prop} {a b:Nat} (h:Rch E a b) (hk:∀x y,E x y→F x y):Rch F a b:=by
 induction h with
 | refl=>exact .refl _
 | step h t ih=>exact .step (hk _ _ h) ih
def Con (E:Nat→Nat→Prop) (a b:Nat):Prop:=Rch E a b∧Rch E b a
theorem Con.refl {E:Nat→Nat→Prop} (a:Nat):Con E a a:=⟨.refl _,.refl _⟩
theorem Con.symm {E:Nat→Nat→Prop} {a b:Nat} (h:Con E a b):Con E b a:=⟨h.2,h.1⟩
theorem Con.trans {E:Nat→Nat→Prop} {a b c:Nat} (h:Con E a b) (k:Con E b c):Con E a c:=⟨h.1.trans k.1,k.2.trans h.2⟩
theorem Con.rev {E:Nat→Nat→Prop} {a b:Nat} (h:Con E a b):Con (fun x y=>E y x) a b:=⟨h.2.rev,h.1.rev⟩
def Least (E:Nat→Nat→Prop) (a m:Nat):Prop:=Con E a m∧∀u,Con E a u→m≤u
theorem Least.uniq {E:Nat→Nat→Prop} {a m k:Nat} (h:Least E a m) (h':Least E a k):m=k:=Nat.le_antisymm (h.2 _ h'.1) (h'.2 _ h.1)
theorem Least.ex (E:Nat→Nat→Prop) (a:Nat):∃m,Least E a m:=by
 suffices h:∀n,(∃u,Con E a u∧u≤n)→∃m,Least E a m from h a ⟨a,.refl a,Nat.le_refl _⟩
 intro n
 induction n with
 | zero=>rintro ⟨u,h1,h2⟩;exact ⟨u,h1,fun w _=>by omega⟩
 | succ n ih=>
  rintro ⟨u,h1,h2⟩
  by_cases h:∃u,Con E a u∧u≤n
  ·exact ih h
  ·exact ⟨u,h1,fun w hw=>Nat.le_of_not_lt fun hl=>h ⟨w,hw,by omega⟩⟩
noncomputable def partF (E:Nat→Nat→Prop) (a:Nat):Nat:=Classical.choose (Least.ex E a)
theorem partF_least (E:Nat→Nat→Prop) (a:Nat):Least E a (partF E a):=Classical.choose_spec (Least.ex E a)
theorem partF_of {E:Nat→Nat→Prop} {a m:Nat} (h:Least E a m):partF E a=m:=(partF_least E a).uniq h
theorem Least.of_con {E:Nat→Nat→Prop} {a b m:Nat} (h:Least E a m) (hc:Con E a b):Least E b m:=⟨hc.symm.trans h.1,fun u hu=>h.2 u (hc.trans hu)⟩
theorem partF_iff {E:Nat→Nat→Prop} {a b:Nat}:partF E a=partF E b↔Con E a b:=by
 constructor
 ·intro h
  have h1:=(partF_least E a).1
  rw [h] at h1
  exact h1.trans (partF_least E b).1.symm
 ·intro h
  exact partF_of ((partF_least E b).of_con h.symm)
theorem partF_le (E:Nat→Nat→Prop) (a:Nat):partF E a≤a:=(partF_least E a).2 a (.refl a)
end Go.Pt
