/- Texts laid together: Mf2 Mf3 Mf4 Mf5 Mf6 Mh0 Mh2 Mh3. -/
import Derived.Test.YtolffbcnbcjeaaaGreatPkb10
set_option linter.unusedVariables false
set_option linter.unusedSimpArgs false
open Nat renaming reduceAdd→ν1,reduceLeDiff→ν2,reduceLT→ν3,reduceMul→ν4,reduceSub→ν5
open Int renaming reduceToNat→ι1,reduceSub→ι2,reduceAdd→ι3,reduceNeg→ι4
open Array renaming toList→ι5
open Ne renaming symm→ν6
open List renaming forall_mem_cons→ν7
namespace Go.Proofs.YtolffbcnbcjeaaaGreat
open Go Go.Sep Go.Pt
attribute [local irreducible] CallT
theorem lit0G {G:Heap} {K:AV→Heap→Prop} (h:∀q,G q=none→K (.sl q 1 0 0) (G.set q [])):buildSliceV tab 24 0 [] G (wkK K):=by
  simp only [buildSliceV,tab_24,tab_22]
  refine ⟨by omega,?_⟩
  simp only [fillV,zerosA,List.replicate_zero,List.flatten_nil]
  exact fun r hr=>wkK.keep (h r hr)
theorem rg_new {H G:Heap} {Ts:List Th} {q:Nat} (s:St H Ts G) (hq:G q=none):St H (rnG (.sl q 1 0 0) [] [q]::Ts) (G.set q []):=
  s.push (rnG (.sl q 1 0 0) [] [q]) (New.cell hq) (.inr ⟨q,[],[],rfl,Heap.set_same _ _ _,⟨rfl,rfl⟩,rfl⟩)
theorem fin_rows {H G:Heap} {Ts:List Th} {x:AV} {gs:List (List Int)} {D:List Nat} (s:St H Ts G) (i:Nat) (hi:Ts[i]?=some (rnG x gs D)):wkK (fun r H'=>r=Ls gs∧H'=H) x G:=by
  have hr:RN LIc 1 x gs G D:=s.get i hi
  rcases hr with ⟨rfl,rfl,rfl⟩ | hr
  · exact ⟨_,_,.trans (.val .nil) (.forget s.le),rfl,rfl⟩
  · obtain ⟨q,rfl⟩:=LRow.sl hr
    obtain ⟨G',w,f⟩:=LRow.frzV (e:=eL) (sz:=1) (v:=.sl q 1 0 gs.length) (v':=Ls gs) (by omega) (fun _=>rfl) LIc.local LIc.frz hr (s.ndT i hi) (fun q _ hr=>hr)
    refine ⟨_,_,.trans w (.forget (H':=H) fun y b hb=>?_),rfl,rfl⟩
    rw [f y (fun hm=>by have:=s.fr _ (List.mem_of_getElem? hi) y hm;rw [this] at hb;cases hb)]
    exact s.le y b hb
def RowR (l:List Int) (r:AV) (G:Heap) (D:List Nat):Prop:=∃q,r=rowP q l∧G q=some (cP fI l)∧D=[q]
theorem RowR.res (l:List Int):ResT (RowR l):=by
  refine ⟨?_,?_,?_⟩
  · rintro r G G' D ⟨q,rfl,hq,rfl⟩ hf
    exact ⟨q,rfl,hf q (by simp) _ hq,rfl⟩
  · rintro r G D ⟨q,rfl,hq,rfl⟩
    refine ⟨.inr ⟨.inr ⟨.inl ⟨_,_,_,_,rfl⟩,fun _=>rfl⟩,fun _=>rfl⟩,fun y hy bs hb c hc=>?_⟩
    rw [List.mem_singleton.1 hy,hq] at hb
    cases hb
    obtain ⟨x,_,rfl⟩:=List.mem_map.1 hc
    exact .p (.int _ _)
  · rintro r G D n G0 h0 ⟨q,rfl,hq,rfl⟩
    refine ⟨q+n,rfl,?_,rfl⟩
    have hr:=LRow.sh (LPl.sh eI) h0 (LI_mk' hq)
    obtain ⟨q',cs,D',e1,e2,e3,e4⟩:=hr
    obtain ⟨rfl,-⟩:=LL.plain' e3
    have e:q'=q+n:=by
      have h1:shC n (rowP q l)=.sl (q+n) 1 0 l.length:=rfl
      rw [h1] at e1
      injection e1 with e1;exact e1.symm
    subst e
    have e5:cells (l.map eI)=cP fI l:=cells_P fI l
    rw [← e5];exact e2
theorem Clone_part {q off n:Nat} {l:List Int} {G:Heap} (hq:G q=some (cP fI l)) (hb:off+n≤l.length) (hl:l.length≤100000) {K:AV→Heap→Prop} (h:∀qn G',RowR ((l.drop off).take n) (rowP qn ((l.drop off).take n)) G' [qn]→New G G' [qn]→K (rowP qn ((l.drop off).take n)) G'):CallT Tryz.prog 82 [.sl q 1 off n] G K:=by
  refine thawR (R:=RowR ((l.drop off).take n)) (RowR.res _) (args':=[Is ((l.drop off).take n)]) (G1:=G.del q) (fun {K} h=>CloneI_row _ (by rw [List.length_take,List.length_drop];omega) fun q hq=>h _ _ [q] ⟨q,rfl,Heap.set_same _ _ _,rfl⟩ (New.cell hq)) ?_ ?_
  · refine Wk.frzS (es:=l.map fI) (by rw [hq,List.map_map];rfl) (.tup (.cons ?_ .nil))
    have:=FrzS.part (r:=q) (es:=l.map fI) off n (by rw [List.length_map];exact hb)
    have e:(((l.map fI).drop off).take n).map (fun v=>[v])=((l.drop off).take n).map eI:=by rw [← List.map_drop,← List.map_take,List.map_map];rfl
    rw [e] at this
    exact this
  · rintro r G' D ⟨qn,rfl,h1,rfl⟩ hn
    exact h qn G' ⟨qn,rfl,h1,rfl⟩ hn
def opsA (f:List Sd) (i:Nat):List (List Int):=(List.range i).map (opsF f)
theorem opsA_succ (f:List Sd) (i:Nat):opsA f (i+1)=opsA f i++[opsF f i]:=by simp [opsA,List.range_succ]
theorem opsA_len (f:List Sd) (i:Nat):(opsA f i).length=i:=by simp [opsA]
theorem opsA_get (f:List Sd) {n i:Nat} (h:i < n):(opsA f n).getD i default=opsF f i:=by simp [opsA,List.getD,h]
theorem roots_len {f:List Sd} (g:GoodFm f) (i:Nat) (hi:i≤f.length):(roots f i).length=(vals f i).toNat∧vals f i≤16∧0≤vals f i:=by
  have h:=stk_len g i hi
  have h2:vals f i≤i:=(vals_bd i fun j hj=>by
    have:=g.ok j (by omega)
    rw [sdAt,this.1,decide_eq_true this.2];rfl).2
  have:=g.l1
  rw [roots,List.length_map,List.length_reverse]
  omega
theorem operandIndexes_spec (f:List Sd) (g:GoodFm f):Pu Tryz.prog 127 [Ds f] (Ls (opsA f f.length)):=by
  have hl:=g.l1
  refine ⟨fun H=>CallT.fin ?_⟩
  refine W127_ok ?_;simp (maxSteps:=1000000) (disch:=first | assumption | (apply ν6;assumption)) only [W127,vz,vu,vv,eqS,eF_,↓c1_,↓c2_,tabs,reduceCtorEq,ι5,↓reduceIte,ν1,ν2,ν3,ν4,ν5,ι1,ι2,ι3,ι4]
  refine lit0G fun q0 hq0=>?_
  have st:=rg_new (St.nil H) hq0
  generalize H.set q0 []=G at st ⊢
  refine lit0I fun q1 hq1=>?_
  replace st:=st.cell hq1 (cP fI [])
  generalize G.set q1 (cP fI [])=G1 at st ⊢
  (try simp (maxSteps:=1000000) (disch:=first | assumption | (apply ν6;assumption)) only [vz,vu,vv,eqS,eF_,↓c1_,↓c2_,tabs,reduceCtorEq,ι5,↓reduceIte,ν1,ν2,ν3,ν4,ν5,ι1,ι2,ι3,ι4])
  refine L127_0_rule ((0:Nat),(.sl q0 1 0 0:AV),[q0],q1,G1) (fun s=>s.2.1) (fun s=>rowP s.2.2.2.1 (roots f s.1)) (fun s=>I s.1) (fun s=>s.2.2.2.2)
    (fun s=>s.1≤f.length∧St H [cellT s.2.2.2.1 (cP fI (roots f s.1)),rnG s.2.1 (opsA f s.1) s.2.2.1] s.2.2.2.2) (fun s=>f.length - s.1)
    ⟨⟨by simp,st⟩,.refl _,.refl _,.refl _,Heap.le_refl _⟩ ?_
  clear st
  rintro ⟨i,x,D,q,G⟩ ⟨hi,st⟩
  dsimp only at hi st
  (try simp (maxSteps:=1000000) (disch:=first | assumption | (apply ν6;assumption)) only [vz,vu,vv,eqS,eF_,↓c1_,↓c2_,tabs,reduceCtorEq,ι5,↓reduceIte,ν1,ν2,ν3,ν4,ν5,ι1,ι2,ι3,ι4,B127_0])
  refine ⟨fun h1=>⟨by omega,h1,?_⟩,fun h1=>?_⟩
  · have hlt:i < f.length:=by omega
    obtain ⟨rr,e1,e2,e3⟩:=roots_succ g hlt
    have hok:=g.ok i hlt
    have hnd:=sdOk_need hok.1
    have hrl:=roots_len g i hi
    have hlen:(roots f i).length=rr.length+(opsF f i).length:=by rw [e1,List.length_append]
    have hsucc:=opsA_succ f i
    generalize f.getD i default=y at e3 hok hnd ⊢
    intro r hr
    replace st:=st.cell hr [I y.op,I y.n]
    generalize G.set r [I y.op,I y.n]=G2 at st ⊢
    (try simp (maxSteps:=1000000) (disch:=first | assumption | (apply ν6;assumption)) only [vz,vu,vv,eqS,eF_,↓c1_,↓c2_,tabs,reduceCtorEq,ι5,↓reduceIte,ν1,ν2,ν3,ν4,ν5,ι1,ι2,ι3,ι4,load_at (st.get 0 rfl)])
    refine Pu.use (need_impl.operandsOfSaid_spec y.op) ?_
    have ew:IntKind.i64.wrap ((roots f i).length - need y.op)=(rr.length:Nat):=by rw [i64_id (by omega) (by omega)];omega
    (try simp (maxSteps:=1000000) (disch:=first | assumption | (apply ν6;assumption)) only [vz,vu,vv,eqS,eF_,↓c1_,↓c2_,tabs,reduceCtorEq,ι5,↓reduceIte,ν1,ν2,ν3,ν4,ν5,ι1,ι2,ι3,ι4,sliceV,ew])
    refine ⟨by omega,by omega,by omega,?_⟩
    have en:((roots f i).length - (rr.length:Int)).toNat=(opsF f i).length:=by omega
    have ep:((roots f i).drop (rr.length*1)).take (opsF f i).length=opsF f i:=by rw [e1,Nat.mul_one,List.drop_left,List.take_length]
    rw [en]
    refine Clone_part (st.get 1 rfl) (by omega) (by omega) fun qn G3 hrow hn=>?_
    rw [ep] at hrow ⊢
    obtain ⟨qn',e4,hqn,_⟩:=hrow
    injection e4 with e4;subst e4
    replace st:=st.push (cellT qn (cP fI (opsF f i))) hn hqn
    refine lit_live1 fun ql hql=>?_
    replace st:=st.cell hql [rowP qn (opsF f i)]
    generalize G3.set ql [.sl qn 1 0 (opsF f i).length]=G4 at st ⊢
    refine rn_pushL st 2 rfl (by rw [opsA_len];omega) fun q' D' G5 hq' st=>?_
    rw [← hsucc] at st
    simp only [List.set_cons_succ,List.set_cons_zero] at st
    have hq5:=(st.get 1 rfl:G5 q=_)
    rw [e1,cI_app] at hq5
    refine ⟨by omega,by omega,by omega,?_⟩
    refine lit1 tab_22 rfl tab_3 ⟨rfl,rfl⟩ ?_
    refine app_intsX (xs:=rr) (ys:=[(i:Int)]) hq5 (by simp only [List.length_singleton];omega) fun q2 hq2 hne=>?_
    rw [← e2]
    refine ⟨(i+1,.sl q' 1 0 ((opsA f i).length+1),D',q2,_),⟨by simp only;omega,(st.moved 1 rfl hq2 (c:=cP fI (roots f (i+1)))).drop⟩,by simp only;omega,.refl _,.refl _,?_,Heap.le_refl _⟩
    rw [wk_int,i64_id (by omega) (by omega)];simp
  · have:i=f.length:=by omega
    subst this
    exact fin_rows st 1 rfl
theorem lit1r {G:Heap} {K:AV→Heap→Prop} {n:Int} (h:∀q,G q=none→K (rowP q [n]) (G.set q (cP fI [n]))):buildSliceV tab 22 1 [(0,I n)] G (wkK K):=by
  simp only [buildSliceV,tab_22,tab_3]
  refine ⟨by omega,?_⟩
  simp only [fillV,zerosA,List.replicate_succ,List.replicate_zero,List.flatten_cons,List.flatten_nil,List.append_nil,AV.cells,splice]
  simp only [List.length_cons,List.length_nil,Nat.reduceAdd,Nat.zero_mul,Nat.zero_add,Nat.le_refl,and_self,if_true,List.take_zero,List.nil_append,List.drop_succ_cons,List.drop_zero,List.append_nil]
  exact fun r hr=>wkK.keep (h r hr)
def tr (f:List Sd):List Int:=sc (trL f f.length)
theorem tr_len (f:List Sd):(tr f).length≤2*f.length+1:=Nat.le_trans (sc_len _) (trL_len f f.length)
theorem tracked_row (f:List Sd) (g:GoodFm f) {H:Heap} {K:AV→Heap→Prop} (h:∀q G,RowR (tr f) (rowP q (tr f)) G [q]→New H G [q]→K (rowP q (tr f)) G):CallT Tryz.prog 100 [Ds f] H K:=by
  have hl:=g.l1
  have hl0:=g.l0
  refine CallT.fin ?_
  have e0:IntKind.i64.wrap ((f.length:Int) - 1)=f.length - 1:=i64_id (by omega) (by omega)
  refine W100_ok ?_;simp (maxSteps:=1000000) (disch:=first | assumption | (apply ν6;assumption)) only [W100,vz,vu,vv,eqS,eF_,↓c1_,↓c2_,tabs,reduceCtorEq,ι5,↓reduceIte,ν1,ν2,ν3,ν4,ν5,ι1,ι2,ι3,ι4,e0]
  refine lit1r (n:=(f.length:Int) - 1) fun q0 hq0=>?_
  have st:=(St.nil H).cell hq0 (cP fI (trL f 0))
  have ez:[(f.length:Int) - 1]=trL f 0:=by simp [trL]
  rw [ez]
  generalize H.set q0 (cP fI (trL f 0))=G at st ⊢
  refine Pu.use (operandIndexes_spec f g) ?_
  (try simp (maxSteps:=1000000) (disch:=first | assumption | (apply ν6;assumption)) only [vz,vu,vv,eqS,eF_,↓c1_,↓c2_,tabs,reduceCtorEq,ι5,↓reduceIte,ν1,ν2,ν3,ν4,ν5,ι1,ι2,ι3,ι4])
  refine L100_0_rule ((0:Nat),q0,G) (fun s=>rowP s.2.1 (trL f s.1)) (fun s=>I s.1) (fun s=>s.2.2)
    (fun s=>s.1≤f.length∧St H [cellT s.2.1 (cP fI (trL f s.1))] s.2.2) (fun s=>f.length - s.1)
    ⟨⟨by simp,st⟩,.refl _,.refl _,Heap.le_refl _⟩ ?_
  clear st
  rintro ⟨i,q,G⟩ ⟨hi,st⟩
  dsimp only at hi st
  have htl:=trL_len f i
  (try simp (maxSteps:=1000000) (disch:=first | assumption | (apply ν6;assumption)) only [vz,vu,vv,eqS,eF_,↓c1_,↓c2_,tabs,reduceCtorEq,ι5,↓reduceIte,ν1,ν2,ν3,ν4,ν5,ι1,ι2,ι3,ι4,B100_0])
  refine ⟨fun h1=>⟨by omega,h1,?_⟩,fun h1=>?_⟩
  · have hlt:i < f.length:=by omega
    have hok:=g.ok i hlt
    have hsucc:=trL_succ f i
    have e5:IntKind.i64.wrap ((i:Int)+1)=((i+1:Nat):Int):=by rw [i64_id (by omega) (by omega)];simp
    have hog:=opsA_get f hlt
    have hol:=opsA_len f f.length
    have hat:trAt f i=if (f.getD i default).op=7∨(f.getD i default).op=8 then [(i:Int),(i:Int) - 1] else if (f.getD i default).op=4 then [(i:Int) - 1] else []:=rfl
    have hop2:(f.getD i default).op=7∨(f.getD i default).op=8→opsF f i=[(tst f (i - 1):Int) - 1,(i:Int) - 1]:=fun h=>by
      have:need (f.getD i default).op=2:=by rcases h with h | h<;>rw [h]<;>rfl
      rw [opsF,if_neg (by omega),if_neg (by omega)]
    have hop1:(f.getD i default).op=4→opsF f i=[(i:Int) - 1]:=fun h=>by
      have:need (f.getD i default).op=1:=by rw [h];rfl
      rw [opsF,if_neg (by omega),if_pos this]
    generalize f.getD i default=y at hat hop1 hop2 hok ⊢
    intro r hr
    replace st:=st.cell hr [I y.op,I y.n]
    generalize G.set r [I y.op,I y.n]=G2 at st ⊢
    (try simp (maxSteps:=1000000) (disch:=first | assumption | (apply ν6;assumption)) only [vz,vu,vv,eqS,eF_,↓c1_,↓c2_,tabs,reduceCtorEq,ι5,↓reduceIte,ν1,ν2,ν3,ν4,ν5,ι1,ι2,ι3,ι4,load_at (st.get 0 rfl)])
    have key:∀b:Bool,(b=true↔(y.op=7∨y.op=8))→∀N:AV→AV→Heap→Prop,(∀q' G',St H [cellT q' (cP fI (trL f (i+1)))] G'→N (rowP q' (trL f (i+1))) (I ((i+1:Nat):Int)) G')→
        J100_1 (wkK K) N (rowP q (trL f i)) (Ls (opsA f f.length)) (I i) (Ds f) (I f.length) (I i) (I y.op) (B b) G2:=by
      intro b hb N hN
      (try simp (maxSteps:=1000000) (disch:=first | assumption | (apply ν6;assumption)) only [vz,vu,vv,eqS,eF_,↓c1_,↓c2_,tabs,reduceCtorEq,ι5,↓reduceIte,ν1,ν2,ν3,ν4,ν5,ι1,ι2,ι3,ι4,J100_1,e5])
      have e6:trL f i++trAt f i=trL f (i+1):=hsucc.symm
      refine ⟨fun h2=>?_,fun h2=>⟨fun h4=>?_,fun h4=>?_⟩⟩
      · have h7:=hb.1 h2
        have ho:=hop2 h7
        rw [hat,if_pos h7] at e6
        rw [hog,ho]
        refine ⟨by omega,by rw [hol];omega,by omega,by simp,?_⟩
        refine lit2 tab_22 rfl tab_3 ⟨rfl,rfl⟩ ?_
        refine st_appI (ys:=[(i:Int),(i:Int) - 1]) st 1 rfl (by simp only [List.length_cons,List.length_nil];omega) fun q' G' hq' st=>?_
        rw [e6] at st ⊢
        exact hN _ _ st.drop
      · have h7:¬(y.op=7∨y.op=8):=fun h=>by rw [hb.2 h] at h2;cases h2
        rw [hat,if_neg h7,if_pos h4] at e6
        rw [hog,hop1 h4]
        refine ⟨by omega,by rw [hol];omega,by omega,by simp,?_⟩
        refine lit1 tab_22 rfl tab_3 ⟨rfl,rfl⟩ ?_
        refine st_appI (ys:=[(i:Int) - 1]) st 1 rfl (by simp only [List.length_cons,List.length_nil];omega) fun q' G' hq' st=>?_
        rw [e6] at st ⊢
        exact hN _ _ st.drop
      · have h7:¬(y.op=7∨y.op=8):=fun h=>by rw [hb.2 h] at h2;cases h2
        rw [hat,if_neg h7,if_neg h4,List.append_nil] at e6
        rw [e6] at st ⊢
        exact hN _ _ st.drop
    refine ⟨fun h7=>key (decide (y.op=7)) (by simp [h7]) _ fun q' G' st=>⟨(i+1,q',G'),⟨by simp only;omega,st⟩,by simp only;omega,.refl _,.refl _,Heap.le_refl _⟩,fun h7=>key (decide (y.op=8)) (by simp [h7]) _ fun q' G' st=>⟨(i+1,q',G'),⟨by simp only;omega,st⟩,by simp only;omega,.refl _,.refl _,Heap.le_refl _⟩⟩
  · have:i=f.length:=by omega
    subst this
    have hq:G q=some (cP fI (trL f f.length)):=st.get 0 rfl
    have hsl:(srt (trL f f.length)).length=(trL f f.length).length:=List.length_mergeSort ..
    refine Sort_row hq (by omega) ?_
    replace st:=st.put 0 rfl (cP fI (srt (trL f f.length)))
    have hq:(G.set q (cP fI (srt (trL f f.length)))) q=some (cP fI (srt (trL f f.length))):=Heap.set_same _ _ _
    generalize G.set q (cP fI (srt (trL f f.length)))=G2 at st hq ⊢
    rw [show rowP q (trL f f.length)=rowP q (srt (trL f f.length)) by simp only [rowP,hsl]]
    refine Compact_row hq (by omega) ?_
    replace st:=st.put 0 rfl (cP fI (tr f))
    exact wkK.keep (h q _ ⟨q,rfl,st.get 0 rfl,rfl⟩ ⟨st.ndT 0 rfl,st.fr _ (List.mem_cons_self ..),st.le⟩)
end Go.Proofs.YtolffbcnbcjeaaaGreat
namespace Go.Proofs.YtolffbcnbcjeaaaGreat
open Go Go.Sep Go.Pt
attribute [local irreducible] CallT
def trQ (f:List Sd) (i:Nat):List Int:=(((List.range i).map (trAt f)).flatten).foldl put [(f.length:Int) - 1]
theorem trQ_succ (f:List Sd) (i:Nat):trQ f (i+1)=(trAt f i).foldl put (trQ f i):=by simp [trQ,List.range_succ,List.foldl_append]
theorem trQ_lt (f:List Sd) (i:Nat):(trQ f i).Pairwise (· < ·):=(foldl_put _ _ (by simp)).1
theorem foldl_putlen (xs:List Int):∀l,(xs.foldl put l).length≤l.length+xs.length:=by
  induction xs with
  | nil=>intro l;simp
  | cons a xs ih=>intro l;have:=ih (put l a);have:=put_len l a;rw [List.foldl_cons,List.length_cons];omega
theorem trQ_len (f:List Sd) (i:Nat):(trQ f i).length≤2*i+1:=by
  have h1:=foldl_putlen (((List.range i).map (trAt f)).flatten) [(f.length:Int) - 1]
  have h2:=trL_len f i
  rw [trL,List.length_cons] at h2
  rw [List.length_singleton] at h1
  unfold trQ;omega
theorem trQ_all (f:List Sd):trQ f f.length=tr f:=by
  have h:=foldl_put (((List.range f.length).map (trAt f)).flatten) [(f.length:Int) - 1] (by simp)
  refine rise_ext h.1 (sc_lt _) fun x=>?_
  unfold trQ tr
  rw [h.2,sc_mem,trL,List.mem_cons]
  simp
theorem l13Tracked_spec (f:List Sd) (g:GoodFm f):Pu Tryz.prog 92 [Ds f] (Is (tr f)):=by
  have hl:=g.l1
  have hl0:=g.l0
  refine Pu.of fun H=>?_
  have e0:IntKind.i64.wrap ((f.length:Int) - 1)=f.length - 1:=i64_id (by omega) (by omega)
  refine W92_ok ?_;simp (maxSteps:=1000000) (disch:=first | assumption | (apply ν6;assumption)) only [W92,vz,vu,vv,eqS,eF_,↓c1_,↓c2_,tabs,reduceCtorEq,ι5,↓reduceIte,ν1,ν2,ν3,ν4,ν5,ι1,ι2,ι3,ι4,e0]
  refine lit1 tab_22 rfl tab_3 ⟨rfl,rfl⟩ ?_
  (try simp (maxSteps:=1000000) (disch:=first | assumption | (apply ν6;assumption)) only [vz,vu,vv,eqS,eF_,↓c1_,↓c2_,tabs,reduceCtorEq,ι5,↓reduceIte,ν1,ν2,ν3,ν4,ν5,ι1,ι2,ι3,ι4])
  refine L92_0_rule (0:Nat) (fun i=>Is (trQ f i)) (fun i=>I i) (fun _=>H) (fun i=>i≤f.length) (fun i=>f.length - i) ⟨by omega,.refl _,.refl _,Heap.le_refl _⟩ ?_
  intro i hi
  have htl:=trQ_len f i
  have hlt:=trQ_lt f i
  (try simp (maxSteps:=1000000) (disch:=first | assumption | (apply ν6;assumption)) only [vz,vu,vv,eqS,eF_,↓c1_,↓c2_,tabs,reduceCtorEq,ι5,↓reduceIte,ν1,ν2,ν3,ν4,ν5,ι1,ι2,ι3,ι4,B92_0])
  refine ⟨fun h1=>⟨by omega,h1,?_⟩,fun h1=>?_⟩
  · have hlt:i < f.length:=by omega
    have e5:IntKind.i64.wrap ((i:Int)+1)=((i+1:Nat):Int):=by rw [i64_id (by omega) (by omega)];simp
    have e7:IntKind.i64.wrap ((i:Int) - 1)=(i:Int) - 1:=i64_id (by omega) (by omega)
    have hsucc:=trQ_succ f i
    have hat:trAt f i=if (f.getD i default).op=7∨(f.getD i default).op=8 then [(i:Int),(i:Int) - 1] else if (f.getD i default).op=4 then [(i:Int) - 1] else []:=rfl
    generalize f.getD i default=y at hat ⊢
    intro r hr
    have hle:=Heap.le_set (b:=[I y.op,I y.n]) hr
    generalize H.set r [I y.op,I y.n]=G at hle ⊢
    have key:∀b:Bool,(b=true↔(y.op=7∨y.op=8))→∀(K N),(∀G',Heap.le G G'→N (Is (trQ f (i+1))) (I ((i+1:Nat):Int)) G')→
        J92_1 K N (Is (trQ f i)) (I i) (Ds f) (I f.length) (I i) (I y.op) (B b) G:=by
      intro b hb K N hN
      (try simp (maxSteps:=1000000) (disch:=first | assumption | (apply ν6;assumption)) only [vz,vu,vv,eqS,eF_,↓c1_,↓c2_,tabs,reduceCtorEq,ι5,↓reduceIte,ν1,ν2,ν3,ν4,ν5,ι1,ι2,ι3,ι4,J92_1,e5,e7])
      refine ⟨fun h2=>?_,fun h2=>⟨fun h4=>?_,fun h4=>?_⟩⟩
      · rw [hat,if_pos (hb.1 h2)] at hsucc
        refine Pu.use (l1Put_spec _ (i:Int) ‹_› (by omega)) ?_
        have hpl:=put_len (trQ f i) (i:Int)
        refine Pu.use (l1Put_spec _ ((i:Int) - 1) (put_lt _ ‹_›) (by omega)) ?_
        rw [show put (put (trQ f i) i) (i - 1)=trQ f (i+1) by rw [hsucc];rfl]
        (try simp (maxSteps:=1000000) (disch:=first | assumption | (apply ν6;assumption)) only [vz,vu,vv,eqS,eF_,↓c1_,↓c2_,tabs,reduceCtorEq,ι5,↓reduceIte,ν1,ν2,ν3,ν4,ν5,ι1,ι2,ι3,ι4,e5])
        exact hN G (Heap.le_refl _)
      · have h7:¬(y.op=7∨y.op=8):=fun h=>by rw [hb.2 h] at h2;cases h2
        rw [hat,if_neg h7,if_pos h4] at hsucc
        refine Pu.use (l1Put_spec _ ((i:Int) - 1) ‹_› (by omega)) ?_
        rw [show put (trQ f i) (i - 1)=trQ f (i+1) by rw [hsucc];rfl]
        (try simp (maxSteps:=1000000) (disch:=first | assumption | (apply ν6;assumption)) only [vz,vu,vv,eqS,eF_,↓c1_,↓c2_,tabs,reduceCtorEq,ι5,↓reduceIte,ν1,ν2,ν3,ν4,ν5,ι1,ι2,ι3,ι4,e5])
        exact hN G (Heap.le_refl _)
      · have h7:¬(y.op=7∨y.op=8):=fun h=>by rw [hb.2 h] at h2;cases h2
        rw [hat,if_neg h7,if_neg h4] at hsucc
        rw [show trQ f i=trQ f (i+1) by rw [hsucc];rfl]
        exact hN G (Heap.le_refl _)
    refine ⟨fun h7=>key (decide (y.op=7)) (by simp [h7]) _ _ fun G' hg=>⟨i+1,by omega,by omega,.refl _,.refl _,Heap.le_trans hle hg⟩,fun h7=>key (decide (y.op=8)) (by simp [h7]) _ _ fun G' hg=>⟨i+1,by omega,by omega,.refl _,.refl _,Heap.le_trans hle hg⟩⟩
  · have:i=f.length:=by omega
    subst this
    rw [trQ_all]
def goodT (f:List Sd):Bool:=goodF f && decide ((tr f).length≤5)
theorem isTracked_spec (f:List Sd) (hl:f.length≤1048576):Pu Tryz.prog 60 [Ds f] (B (goodT f)):=by
  refine Pu.of fun H=>?_
  refine W60_ok ?_;simp (maxSteps:=1000000) (disch:=first | assumption | (apply ν6;assumption)) only [W60,vz,vu,vv,eqS,eF_,↓c1_,↓c2_,tabs,reduceCtorEq,ι5,↓reduceIte,ν1,ν2,ν3,ν4,ν5,ι1,ι2,ι3,ι4]
  refine Pu.use (GoodSaid_impl f hl) ?_
  cases hg:goodF f
  · (try simp (maxSteps:=1000000) (disch:=first | assumption | (apply ν6;assumption)) only [vz,vu,vv,eqS,eF_,↓c1_,↓c2_,tabs,reduceCtorEq,ι5,↓reduceIte,ν1,ν2,ν3,ν4,ν5,ι1,ι2,ι3,ι4])
    rw [goodT,hg]
    first | rfl | exact ⟨rfl,Heap.le_refl _⟩
  · (try simp (maxSteps:=1000000) (disch:=first | assumption | (apply ν6;assumption)) only [vz,vu,vv,eqS,eF_,↓c1_,↓c2_,tabs,reduceCtorEq,ι5,↓reduceIte,ν1,ν2,ν3,ν4,ν5,ι1,ι2,ι3,ι4])
    refine tracked_row f (goodF_iff.1 hg) fun q G hr hn=>?_
    (try simp (maxSteps:=1000000) (disch:=first | assumption | (apply ν6;assumption)) only [vz,vu,vv,eqS,eF_,↓c1_,↓c2_,tabs,reduceCtorEq,ι5,↓reduceIte,ν1,ν2,ν3,ν4,ν5,ι1,ι2,ι3,ι4])
    refine ⟨?_,hn.le⟩
    refine congrArg (fun b:Bool=>B b) ?_
    rw [goodT,hg,Bool.true_and]
    rw [Bool.eq_iff_iff];simp only [decide_eq_true_eq];omega
theorem l13Good_spec (f:List Sd) (hl:f.length≤1048576):Pu Tryz.prog 51 [Ds f] (B (goodT f)):=by
  refine Pu.of fun H=>?_
  refine W51_ok ?_;simp (maxSteps:=1000000) (disch:=first | assumption | (apply ν6;assumption)) only [W51,vz,vu,vv,eqS,eF_,↓c1_,↓c2_,tabs,reduceCtorEq,ι5,↓reduceIte,ν1,ν2,ν3,ν4,ν5,ι1,ι2,ι3,ι4]
  refine Pu.use (GoodSaid_spec f hl) ?_
  cases hg:goodF f
  · (try simp (maxSteps:=1000000) (disch:=first | assumption | (apply ν6;assumption)) only [vz,vu,vv,eqS,eF_,↓c1_,↓c2_,tabs,reduceCtorEq,ι5,↓reduceIte,ν1,ν2,ν3,ν4,ν5,ι1,ι2,ι3,ι4])
    rw [goodT,hg]
    first | rfl | exact ⟨rfl,Heap.le_refl _⟩
  · (try simp (maxSteps:=1000000) (disch:=first | assumption | (apply ν6;assumption)) only [vz,vu,vv,eqS,eF_,↓c1_,↓c2_,tabs,reduceCtorEq,ι5,↓reduceIte,ν1,ν2,ν3,ν4,ν5,ι1,ι2,ι3,ι4])
    refine Pu.use (l13Tracked_spec f (goodF_iff.1 hg)) ?_
    (try simp (maxSteps:=1000000) (disch:=first | assumption | (apply ν6;assumption)) only [vz,vu,vv,eqS,eF_,↓c1_,↓c2_,tabs,reduceCtorEq,ι5,↓reduceIte,ν1,ν2,ν3,ν4,ν5,ι1,ι2,ι3,ι4])
    refine congrArg (fun b:Bool=>B b) ?_
    rw [goodT,hg,Bool.true_and]
    rw [Bool.eq_iff_iff];simp only [decide_eq_true_eq];omega
theorem goodT_facts {f:List Sd} (h:goodT f=true):GoodFm f∧(tr f).length≤5:=by
  rw [goodT,Bool.and_eq_true,decide_eq_true_eq] at h
  exact ⟨goodF_iff.1 h.1,h.2⟩
theorem tracked_spec (f:List Sd) (g:GoodFm f):Pu Tryz.prog 100 [Ds f] (Is (tr f)):=by
  refine ⟨fun H=>CallT.fin (tracked_row f g fun q G hr hn=>?_)⟩
  obtain ⟨q',e,hq,_⟩:=hr
  injection e with e;subst e
  have hHq:=hn.fr q (by simp)
  refine fin_int hHq fun y b hb=>?_
  by_cases e:y=q
  · subst e;rw [Heap.set_same] at hb;rw [hq];exact hb
  · rw [Heap.set_other e] at hb;exact hn.le y b hb
def RowB (l:List Int) (ok:Bool) (r:AV) (G:Heap) (D:List Nat):Prop:=∃q,r=.tup [rowP q l,B ok]∧G q=some (cP fI l)∧D=[q]
theorem RowB.res (l:List Int) (ok:Bool):ResT (RowB l ok):=by
  refine ⟨?_,?_,?_⟩
  · rintro r G G' D ⟨q,rfl,hq,rfl⟩ hf
    exact ⟨q,rfl,hf q (by simp) _ hq,rfl⟩
  · rintro r G D ⟨q,rfl,hq,rfl⟩
    refine ⟨.inl ⟨_,rfl,fun u hu=>?_⟩,fun y hy bs hb c hc=>?_⟩
    · rcases List.mem_cons.1 hu with rfl | hu
      · exact .inr ⟨.inl ⟨_,_,_,_,rfl⟩,fun _=>rfl⟩
      · rw [List.mem_singleton] at hu;rw [hu];exact .inr ⟨.p (.bool ok),fun _=>rfl⟩
    · rw [List.mem_singleton.1 hy,hq] at hb
      cases hb
      obtain ⟨x,_,rfl⟩:=List.mem_map.1 hc
      exact .p (.int _ _)
  · rintro r G D n G0 h0 ⟨q,rfl,hq,rfl⟩
    obtain ⟨q',e,h1,_⟩:=(RowR.res l).sh h0 ⟨q,rfl,hq,rfl⟩
    have e2:q'=q+n:=by
      have h1:sh2 n (rowP q l)=.sl (q+n) 1 0 l.length:=rfl
      rw [h1] at e
      injection e with e;exact e.symm
    subst e2
    exact ⟨q+n,rfl,h1,rfl⟩
end Go.Proofs.YtolffbcnbcjeaaaGreat
namespace Go.Proofs.YtolffbcnbcjeaaaGreat
open Go Go.Sep Go.Pt
attribute [local irreducible] CallT
end Go.Proofs.YtolffbcnbcjeaaaGreat
namespace Go.Proofs.YtolffbcnbcjeaaaGreat
open Go Go.Sep Go.Pt
attribute [local irreducible] CallT
def bitF (g:Int) (i:Nat):Bool:=decide (bitsI .and .i64 (Int.fdiv g (2^(min i 64))) 1=1)
def saysF (t:List Int) (g node:Int):Bool:=if node∈t then bitF g (t.idxOf node) else false
def lft (f:List Sd) (i:Nat):Nat:=tst f (i - 1) - 1
def evV (f:List Sd) (t:List Int) (lt nx:Int) (out:List Bool) (i:Nat):Bool:=
  if (f.getD i default).op=1 then bitF lt (f.getD i default).n.toNat
  else if (f.getD i default).op=2 then decide ((f.getD i default).n=1)
  else if (f.getD i default).op=3 then !out.getD (i - 1) default
  else if (f.getD i default).op=4 then saysF t nx ((i:Int) - 1)
  else if (f.getD i default).op=5 then out.getD (lft f i) default && out.getD (i - 1) default
  else if (f.getD i default).op=6 then out.getD (lft f i) default || out.getD (i - 1) default
  else if (f.getD i default).op=7 then out.getD (i - 1) default || (out.getD (lft f i) default && saysF t nx i)
  else out.getD (i - 1) default && (out.getD (lft f i) default || saysF t nx i)
def evL (f:List Sd) (t:List Int) (lt nx:Int):Nat→List Bool
  | 0=>[]
  | i+1=>evL f t lt nx i++[evV f t lt nx (evL f t lt nx i) i]
theorem evL_len (f:List Sd) (t:List Int) (lt nx:Int) (i:Nat):(evL f t lt nx i).length=i:=by
  induction i with
  | zero=>rfl
  | succ i ih=>rw [evL,List.length_append,ih];rfl
abbrev rnB (x:AV) (l:List Bool) (D:List Nat):Th:=rnT (LPl.local eBo) (LPl.has eBo) 1 x l D
theorem rnB_cases {x:AV} {l:List Bool} {G:Heap} {D:List Nat} (h:RN (LPl eBo) 1 x l G D):(x=.p .nil∧l=[]∧D=[])∨∃q,x=rowP q l∧G q=some (cP fB l)∧D=[q]:=by
  rcases h with h | ⟨q,cs,D',rfl,hq,hll,rfl⟩
  · exact .inl h
  · obtain ⟨rfl,rfl⟩:=LL.plain' hll
    refine .inr ⟨q,rfl,?_,rfl⟩
    have e:cells (l.map eBo)=cP fB l:=cells_P fB l
    rw [← e];exact hq
theorem rn_appB {H G:Heap} {Ts:List Th} {x:AV} {xs ys:List Bool} {D:List Nat} (s:St H Ts G) (i:Nat) (hi:Ts[i]?=some (rnB x xs D)) (hl:xs.length+ys.length≤1000000) {K:AV→Heap→Prop}
    (h:∀q' G',G q'=none→St H (Ts.set i (rnB (rowP q' (xs++ys)) (xs++ys) [q'])) G'→K (rowP q' (xs++ys)) G'):appendV tab 116 116 x (.p (.sl (ys.map eBo))) G (wkK K):=
  RN.app (bz:=1) tab_116 rfl tab_4 tab_116 rfl rfl rfl (fun _=>rfl) s i hi rfl (by omega) (by omega) h
theorem lit0B {G:Heap} {K:AV→Heap→Prop} (h:∀q,G q=none→K (.sl q 1 0 0) (G.set q [])):buildSliceV tab 116 0 [] G (wkK K):=by
  simp only [buildSliceV,tab_116,tab_4]
  refine ⟨by omega,?_⟩
  simp only [fillV,zerosA,List.replicate_zero,List.flatten_nil]
  exact fun r hr=>wkK.keep (h r hr)
theorem tr_mem0 {f:List Sd}:∀{i:Nat},i < f.length→∀x∈trAt f i,x∈tr f:=by
  intro i hi x hx
  rw [tr,sc_mem,trL,List.mem_cons,List.mem_flatten]
  exact .inr ⟨trAt f i,List.mem_map.2 ⟨i,List.mem_range.2 hi,rfl⟩,hx⟩
theorem assumes_spec (t:List Int) (g node:Int) (hl:t.length≤1000) (hm:node∈t):Pu Tryz.prog 131 [Is t,I g,I node] (B (saysF t g node)):=by
  refine Pu.of fun H=>?_
  refine W131_ok ?_;simp (maxSteps:=1000000) (disch:=first | assumption | (apply ν6;assumption)) only [W131,vz,vu,vv,eqS,eF_,↓c1_,↓c2_,tabs,reduceCtorEq,ι5,↓reduceIte,ν1,ν2,ν3,ν4,ν5,ι1,ι2,ι3,ι4]
  refine Pu.use (IndexI_spec t node (by omega)) ?_
  rw [if_pos hm]
  (try simp (maxSteps:=1000000) (disch:=first | assumption | (apply ν6;assumption)) only [vz,vu,vv,eqS,eF_,↓c1_,↓c2_,tabs,reduceCtorEq,ι5,↓reduceIte,ν1,ν2,ν3,ν4,ν5,ι1,ι2,ι3,ι4])
  refine ⟨by omega,?_⟩
  rw [saysF,if_pos hm];rfl
theorem l13Says_spec (t:List Int) (g node:Int) (hl:t.length≤1000):Pu Tryz.prog 94 [Is t,I g,I node] (B (saysF t g node)):=by
  refine Pu.of fun H=>?_
  refine W94_ok ?_;simp (maxSteps:=1000000) (disch:=first | assumption | (apply ν6;assumption)) only [W94,vz,vu,vv,eqS,eF_,↓c1_,↓c2_,tabs,reduceCtorEq,ι5,↓reduceIte,ν1,ν2,ν3,ν4,ν5,ι1,ι2,ι3,ι4]
  refine L94_0_rule (0:Nat) (fun i=>I i) (fun _=>H) (fun i=>i≤t.length∧∀j,j < i→t.getD j default≠node) (fun i=>t.length - i) ⟨⟨by omega,by intros;omega⟩,.refl _,Heap.le_refl _⟩ ?_
  rintro i ⟨hi,ha⟩
  (try simp (maxSteps:=1000000) (disch:=first | assumption | (apply ν6;assumption)) only [vz,vu,vv,eqS,eF_,↓c1_,↓c2_,tabs,reduceCtorEq,ι5,↓reduceIte,ν1,ν2,ν3,ν4,ν5,ι1,ι2,ι3,ι4,B94_0])
  refine ⟨fun h1=>⟨by omega,h1,fun h2=>?_,fun h2=>⟨i+1,⟨by omega,fun j hj=>?_⟩,by omega,?_⟩⟩,fun h1=>?_⟩
  · have hlt:i < t.length:=by omega
    have hm:node∈t:=by rw [← h2];exact getD_all (p:=fun x=>x∈t) (fun _ h=>h) hlt
    have hix:t.idxOf node=i:=by
      rw [List.idxOf,List.findIdx_eq hlt]
      refine ⟨by rw [← getD_lt (d:=default) hlt,h2];simp,fun j hj=>?_⟩
      have:=ha j hj
      rw [getD_lt (by omega:j < t.length)] at this
      simpa using this
    have eu:IntKind.u64.wrap (i:Int)=i:=by rw [IntKind.wrap_u64];omega
    rw [eu]
    refine ⟨by omega,?_⟩
    rw [saysF,if_pos hm,hix];rfl
  · rcases Nat.lt_succ_iff_lt_or_eq.1 hj with h | rfl
    · exact ha j h
    · exact h2
  · rw [wk_int,i64_id (by omega) (by omega)];simp
  · have hm:node∉t:=by
      intro hm
      obtain ⟨j,hj,e⟩:=List.mem_iff_getElem.1 hm
      exact ha j (by omega) (by rw [getD_lt hj];exact e)
    rw [saysF,if_neg hm]
def frJ (f:List Sd) (k j:Nat):Nat:=if j=0 then k else if j=1 then tst f (k - 1) else tst f (tst f (k - 1) - 1)
theorem l10From_spec (f:List Sd) (g:GoodFm f):∀k,k < f.length→Pu Tryz.prog 152 [Ds f,I k] (I (tst f k)):=by
  intro k
  induction k using Nat.strongRecOn with
  | ind k ih=>
    intro hk
    have hl:=g.l1
    have hok:=g.ok k hk
    have hnd:=sdOk_need hok.1
    refine Pu.of fun H=>?_
    refine W152_ok ?_;simp (maxSteps:=1000000) (disch:=first | assumption | (apply ν6;assumption)) only [W152,vz,vu,vv,eqS,eF_,↓c1_,↓c2_,tabs,reduceCtorEq,ι5,↓reduceIte,ν1,ν2,ν3,ν4,ν5,ι1,ι2,ι3,ι4]
    refine ⟨by omega,by omega,?_⟩
    refine Pu.use (need_spec.l10Need_spec (f.getD k default).op) ?_
    have t0:need (f.getD k default).op=0→tst f k=k:=fun h=>tst0 h
    have t1:need (f.getD k default).op=1→1≤k∧tst f k=tst f (k - 1):=fun h=>tst1 g hk h
    have t2:need (f.getD k default).op=2→1≤k∧1≤tst f (k - 1)∧tst f (k - 1)≤k - 1∧tst f k=tst f (tst f (k - 1) - 1):=fun h=>by
      obtain ⟨a,b,c,d,_⟩:=tst2 g hk h;exact ⟨a,b,c,d⟩
    generalize need (f.getD k default).op=m at hnd t0 t1 t2 ⊢
    refine L152_0_rule (0:Nat) (fun j=>I (frJ f k j)) (fun j=>I (m - j)) (fun _=>H) (fun j=>(j:Int)≤m) (fun j=>m.toNat - j) ⟨by omega,.refl _,by rw [wk_int];omega,Heap.le_refl _⟩ ?_
    intro j hj
    (try simp (maxSteps:=1000000) (disch:=first | assumption | (apply ν6;assumption)) only [vz,vu,vv,eqS,eF_,↓c1_,↓c2_,tabs,reduceCtorEq,ι5,↓reduceIte,ν1,ν2,ν3,ν4,ν5,ι1,ι2,ι3,ι4,B152_0])
    refine ⟨fun h1=>?_,fun h1=>?_⟩
    · have e1:IntKind.i64.wrap ((frJ f k j:Int) - 1)=((frJ f k j - 1:Nat):Int)∧frJ f k j - 1 < k∧tst f (frJ f k j - 1)=frJ f k (j+1):=by
        rcases (by omega:(j=0∧m=1)∨(j=0∧m=2)∨(j=1∧m=2)) with ⟨rfl,hm⟩ | ⟨rfl,hm⟩ | ⟨rfl,hm⟩
        · have:=t1 hm
          simp only [frJ,if_true]
          rw [i64_id (by omega) (by omega)]
          exact ⟨by omega,by omega,rfl⟩
        · have:=t2 hm
          simp only [frJ,if_true]
          rw [i64_id (by omega) (by omega)]
          exact ⟨by omega,by omega,rfl⟩
        · have:=t2 hm
          have h9:frJ f k 1=tst f (k - 1):=by simp [frJ]
          have h8:frJ f k 2=tst f (tst f (k - 1) - 1):=by simp [frJ]
          rw [h9,h8,i64_id (by omega) (by omega)]
          exact ⟨by omega,by omega,rfl⟩
      rw [e1.1]
      refine Pu.use (ih _ e1.2.1 (by omega)) ?_
      rw [e1.2.2]
      (try simp (maxSteps:=1000000) (disch:=first | assumption | (apply ν6;assumption)) only [vz,vu,vv,eqS,eF_,↓c1_,↓c2_,tabs,reduceCtorEq,ι5,↓reduceIte,ν1,ν2,ν3,ν4,ν5,ι1,ι2,ι3,ι4])
      refine ⟨j+1,by omega,by omega,.refl _,?_⟩
      rw [wk_int,i64_id (by omega) (by omega)];omega
    · refine congrArg (fun n:Int=>I n) ?_
      rcases (by omega:(j=0∧m=0)∨(j=1∧m=1)∨(j=2∧m=2)) with ⟨rfl,hm⟩ | ⟨rfl,hm⟩ | ⟨rfl,hm⟩
      · rw [t0 hm];simp [frJ]
      · rw [(t1 hm).2];simp [frJ]
      · rw [(t2 hm).2.2.2];simp [frJ]
structure Rd (f:List Sd) (out:List Bool) (i:Nat):Prop where
  i1:1≤i
  il:i - 1 < out.length
theorem evalNow_row (f:List Sd) (g:GoodFm f) (lt nx:Int) (hlt0:0≤lt) {H:Heap} {K:AV→Heap→Prop} (h:∀q G,New H G [q]→G q=some (cP fB (evL f (tr f) lt nx f.length))→K (rowP q (evL f (tr f) lt nx f.length)) G):CallT Tryz.prog 133 [Ds f,I lt,I nx] H K:=by
  have hl:=g.l1
  have htl:=tr_len f
  refine CallT.fin ?_
  refine W133_ok ?_;simp (maxSteps:=1000000) (disch:=first | assumption | (apply ν6;assumption)) only [W133,vz,vu,vv,eqS,eF_,↓c1_,↓c2_,tabs,reduceCtorEq,ι5,↓reduceIte,ν1,ν2,ν3,ν4,ν5,ι1,ι2,ι3,ι4]
  refine lit0B fun q0 hq0=>?_
  have st:=(St.nil H).push (rnB (.sl q0 1 0 0) [] [q0]) (New.cell hq0 (b:=[])) (.inr ⟨q0,[],[],rfl,Heap.set_same _ _ _,⟨rfl,rfl⟩,rfl⟩)
  generalize H.set q0 []=G at st ⊢
  refine Pu.use (operandIndexes_spec f g) ?_
  (try simp (maxSteps:=1000000) (disch:=first | assumption | (apply ν6;assumption)) only [vz,vu,vv,eqS,eF_,↓c1_,↓c2_,tabs,reduceCtorEq,ι5,↓reduceIte,ν1,ν2,ν3,ν4,ν5,ι1,ι2,ι3,ι4])
  refine Pu.use (tracked_spec f g) ?_
  (try simp (maxSteps:=1000000) (disch:=first | assumption | (apply ν6;assumption)) only [vz,vu,vv,eqS,eF_,↓c1_,↓c2_,tabs,reduceCtorEq,ι5,↓reduceIte,ν1,ν2,ν3,ν4,ν5,ι1,ι2,ι3,ι4])
  refine L133_0_rule ((0:Nat),(.sl q0 1 0 0:AV),[q0],G) (fun s=>s.2.1) (fun s=>I s.1) (fun s=>s.2.2.2)
    (fun s=>s.1≤f.length∧(s.2.1≠.p .nil)∧St H [rnB s.2.1 (evL f (tr f) lt nx s.1) s.2.2.1] s.2.2.2) (fun s=>f.length - s.1)
    ⟨⟨by simp,by simp,st⟩,.refl _,.refl _,Heap.le_refl _⟩ ?_
  clear st
  rintro ⟨i,x,D,G⟩ ⟨hi,hx,st⟩
  dsimp only at hi st hx
  obtain ⟨q,rfl,hq,rfl⟩:∃q,x=rowP q (evL f (tr f) lt nx i)∧G q=some (cP fB (evL f (tr f) lt nx i))∧D=[q]:=by
    rcases rnB_cases (st.get 0 rfl) with ⟨h,_⟩ | h
    · exact absurd h hx
    · exact h
  have hel:=evL_len f (tr f) lt nx i
  (try simp (maxSteps:=1000000) (disch:=first | assumption | (apply ν6;assumption)) only [vz,vu,vv,eqS,eF_,↓c1_,↓c2_,tabs,reduceCtorEq,ι5,↓reduceIte,ν1,ν2,ν3,ν4,ν5,ι1,ι2,ι3,ι4,B133_0])
  refine ⟨fun h1=>⟨by omega,h1,?_⟩,fun h1=>?_⟩
  · have hlt:i < f.length:=by omega
    have hok:=g.ok i hlt
    have hev:evL f (tr f) lt nx (i+1)=evL f (tr f) lt nx i++[evV f (tr f) lt nx (evL f (tr f) lt nx i) i]:=rfl
    have hval:=evV.eq_1 f (tr f) lt nx (evL f (tr f) lt nx i) i
    have hog:=opsA_get f hlt
    have hol:=opsA_len f f.length
    have e5:IntKind.i64.wrap ((i:Int)+1)=((i+1:Nat):Int):=by rw [i64_id (by omega) (by omega)];simp
    have k1:(f.getD i default).op=3∨(f.getD i default).op=4→1≤i∧opsF f i=[(i:Int) - 1]:=fun h=>by
      have hn:need (f.getD i default).op=1:=by rcases h with h | h<;>rw [h]<;>rfl
      exact ⟨(tst1 g hlt hn).1,by rw [opsF,if_neg (by omega),if_pos hn]⟩
    have k2:(f.getD i default).op=5∨(f.getD i default).op=6∨(f.getD i default).op=7∨(f.getD i default).op=8→1≤i∧lft f i < i∧opsF f i=[(lft f i:Int),(i:Int) - 1]:=fun h=>by
      have hn:need (f.getD i default).op=2:=by rcases h with h | h | h | h<;>rw [h]<;>rfl
      obtain ⟨a,b,c,_⟩:=tst2 g hlt hn
      exact ⟨a,by unfold lft;omega,by rw [opsF,if_neg (by omega),if_neg (by omega),lft];congr 1;omega⟩
    have m7:(f.getD i default).op=7∨(f.getD i default).op=8→(i:Int)∈tr f:=fun h=>tr_mem0 hlt _ (by rw [trAt,if_pos h];simp)
    have m4:(f.getD i default).op=4→(i:Int) - 1∈tr f:=fun h=>tr_mem0 hlt _ (by rw [trAt,if_neg (by omega),if_pos h];simp)
    generalize hy:f.getD i default=y at hok hval k1 k2 m7 m4 ⊢
    generalize evL f (tr f) lt nx i=out at hq st hel hev hval ⊢
    generalize evV f (tr f) lt nx out i=b0 at hev hval
    intro r hr
    replace st:=st.cell hr [I y.op,I y.n]
    have hq:=Heap.le_set (b:=[I y.op,I y.n]) hr _ _ hq
    generalize G.set r [I y.op,I y.n]=G2 at st hq ⊢
    (try simp (maxSteps:=1000000) (disch:=first | assumption | (apply ν6;assumption)) only [vz,vu,vv,eqS,eF_,↓c1_,↓c2_,tabs,reduceCtorEq,ι5,↓reduceIte,ν1,ν2,ν3,ν4,ν5,ι1,ι2,ι3,ι4,load_at (st.get 0 rfl)])
    have key:∀b,b=b0→∀N:AV→AV→Heap→Prop,(∀q' G',St H [rnB (rowP q' (evL f (tr f) lt nx (i+1))) (evL f (tr f) lt nx (i+1)) [q']] G'→N (rowP q' (evL f (tr f) lt nx (i+1))) (I ((i+1:Nat):Int)) G')→
        J133_1 (wkK K) N (I lt) (I nx) (rowP q out) (Ls (opsA f f.length)) (Is (tr f)) (B b) (Ds f) (I f.length) (I i) G2:=by
      intro b hb N hN
      rw [← hb] at hev
      (try simp (maxSteps:=1000000) (disch:=first | assumption | (apply ν6;assumption)) only [vz,vu,vv,eqS,eF_,↓c1_,↓c2_,tabs,reduceCtorEq,ι5,↓reduceIte,ν1,ν2,ν3,ν4,ν5,ι1,ι2,ι3,ι4,J133_1,e5])
      refine lit1 tab_116 rfl tab_4 ⟨rfl,rfl⟩ ?_
      refine rn_appB (ys:=[b]) st 1 rfl (by simp only [List.length_singleton];omega) fun q' G' hq' st=>?_
      rw [← hev] at st ⊢
      exact hN _ _ st.drop
    have done:∀b,b=b0→J133_1 (wkK K) (fun w7 w20 H'=>∃s':Nat×AV×List Nat×Heap,(s'.1≤f.length∧(s'.2.1≠.p .nil)∧St H [rnB s'.2.1 (evL f (tr f) lt nx s'.1) s'.2.2.1] s'.2.2.2)∧f.length - s'.1 < f.length - i∧AV.wk w7 s'.2.1∧AV.wk w20 (I s'.1)∧Heap.le s'.2.2.2 H') (I lt) (I nx) (rowP q out) (Ls (opsA f f.length)) (Is (tr f)) (B b) (Ds f) (I f.length) (I i) G2:=
      fun b hb=>key b hb _ fun q' G' st=>⟨(i+1,rowP q' (evL f (tr f) lt nx (i+1)),[q'],G'),⟨by simp only;omega,by simp,st⟩,by simp only;omega,.refl _,.refl _,Heap.le_refl _⟩
    have en:1≤i→((i:Int) - 1).toNat=i - 1:=fun _=>by omega
    have r1:1≤i→(List.take 1 (List.drop ((i - 1)*1) (cP fB out))).headD AV.any=B (out.getD (i - 1) default):=fun h=>mapB_rd (by omega)
    have r2:lft f i < i→(List.take 1 (List.drop (lft f i*1) (cP fB out))).headD AV.any=B (out.getD (lft f i) default):=fun h=>mapB_rd (by omega)
    have bd:∀k,k < i→k*1+1≤out.length:=fun k h=>by omega
    refine ⟨fun h1=>?_,fun h1=>⟨fun h3=>?_,fun h3=>⟨fun h4=>?_,fun h4=>⟨fun h5=>?_,fun h5=>⟨fun h6=>?_,fun h6=>⟨fun h7=>?_,fun h7=>⟨fun h8=>?_,fun h8=>?_⟩⟩⟩⟩⟩⟩⟩
    · rw [if_pos h1] at hval
      have hn:=hok.1
      rw [sdOk,if_pos h1,Bool.and_eq_true,decide_eq_true_eq,decide_eq_true_eq] at hn
      exact ⟨hn.1,done _ hval.symm⟩
    · obtain ⟨i1,ho⟩:=k1 (.inl h3)
      rw [if_neg h1,if_neg (by omega),if_pos h3] at hval
      have b1:=bd (i - 1) (by omega)
      (try simp (maxSteps:=1000000) (disch:=first | assumption | (apply ν6;assumption)) only [vz,vu,vv,eqS,eF_,↓c1_,↓c2_,tabs,reduceCtorEq,ι5,↓reduceIte,ν1,ν2,ν3,ν4,ν5,ι1,ι2,ι3,ι4,hog,ho,hol,List.getD_cons_zero,en i1,load_at hq,r1 i1])
      generalize out.getD (i - 1) default=ob at hval ⊢
      repeat' (with_reducible (first | apply And.intro | intro hh))
      all_goals first | omega | (refine done _ ?_;(first | exact hval.symm | (rw [hval];(first | rfl | simp [*])));done) | (refine done false ?_;(first | exact hval.symm | (rw [hval];(first | rfl | simp [*])));done) | (refine done true ?_;(first | exact hval.symm | (rw [hval];(first | rfl | simp [*])));done)
    · obtain ⟨i1,ho⟩:=k1 (.inr h4)
      rw [if_neg h1,if_neg (by omega),if_neg h3,if_pos h4] at hval
      (try simp (maxSteps:=1000000) (disch:=first | assumption | (apply ν6;assumption)) only [vz,vu,vv,eqS,eF_,↓c1_,↓c2_,tabs,reduceCtorEq,ι5,↓reduceIte,ν1,ν2,ν3,ν4,ν5,ι1,ι2,ι3,ι4,hog,ho,hol,List.getD_cons_zero])
      repeat' (with_reducible (first | apply And.intro | intro hh))
      all_goals first | omega | (refine Pu.use (assumes_spec (tr f) nx ((i:Int) - 1) (by omega) (m4 h4)) ?_;exact done _ hval.symm)
    · obtain ⟨i1,i2,ho⟩:=k2 (.inl h5)
      rw [if_neg h1,if_neg (by omega),if_neg h3,if_neg h4,if_pos h5] at hval
      have b1:=bd (i - 1) (by omega)
      have b2:=bd (lft f i) i2
      (try simp (maxSteps:=1000000) (disch:=first | assumption | (apply ν6;assumption)) only [vz,vu,vv,eqS,eF_,↓c1_,↓c2_,tabs,reduceCtorEq,ι5,↓reduceIte,ν1,ν2,ν3,ν4,ν5,ι1,ι2,ι3,ι4,hog,ho,hol,List.getD_cons_zero,List.getD_cons_succ,Int.toNat_natCast,en i1,load_at hq,r1 i1,r2 i2])
      generalize out.getD (i - 1) default=ob at hval ⊢
      generalize out.getD (lft f i) default=oa at hval ⊢
      repeat' (with_reducible (first | apply And.intro | intro hh))
      all_goals first | omega | (refine done _ ?_;(first | exact hval.symm | (rw [hval];(first | rfl | simp [*])));done) | (refine done false ?_;(first | exact hval.symm | (rw [hval];(first | rfl | simp [*])));done) | (refine done true ?_;(first | exact hval.symm | (rw [hval];(first | rfl | simp [*])));done)
    · obtain ⟨i1,i2,ho⟩:=k2 (.inr (.inl h6))
      rw [if_neg h1,if_neg (by omega),if_neg h3,if_neg h4,if_neg h5,if_pos h6] at hval
      have b1:=bd (i - 1) (by omega)
      have b2:=bd (lft f i) i2
      (try simp (maxSteps:=1000000) (disch:=first | assumption | (apply ν6;assumption)) only [vz,vu,vv,eqS,eF_,↓c1_,↓c2_,tabs,reduceCtorEq,ι5,↓reduceIte,ν1,ν2,ν3,ν4,ν5,ι1,ι2,ι3,ι4,hog,ho,hol,List.getD_cons_zero,List.getD_cons_succ,Int.toNat_natCast,en i1,load_at hq,r1 i1,r2 i2])
      generalize out.getD (i - 1) default=ob at hval ⊢
      generalize out.getD (lft f i) default=oa at hval ⊢
      repeat' (with_reducible (first | apply And.intro | intro hh))
      all_goals first | omega | (refine done _ ?_;(first | exact hval.symm | (rw [hval];(first | rfl | simp [*])));done) | (refine done false ?_;(first | exact hval.symm | (rw [hval];(first | rfl | simp [*])));done) | (refine done true ?_;(first | exact hval.symm | (rw [hval];(first | rfl | simp [*])));done)
    · obtain ⟨i1,i2,ho⟩:=k2 (.inr (.inr (.inl h7)))
      rw [if_neg h1,if_neg (by omega),if_neg h3,if_neg h4,if_neg h5,if_neg h6,if_pos h7] at hval
      have b1:=bd (i - 1) (by omega)
      have b2:=bd (lft f i) i2
      (try simp (maxSteps:=1000000) (disch:=first | assumption | (apply ν6;assumption)) only [vz,vu,vv,eqS,eF_,↓c1_,↓c2_,tabs,reduceCtorEq,ι5,↓reduceIte,ν1,ν2,ν3,ν4,ν5,ι1,ι2,ι3,ι4,hog,ho,hol,List.getD_cons_zero,List.getD_cons_succ,Int.toNat_natCast,en i1,load_at hq,r1 i1,r2 i2])
      generalize out.getD (i - 1) default=ob at hval ⊢
      generalize out.getD (lft f i) default=oa at hval ⊢
      repeat' (with_reducible (first | apply And.intro | intro hh))
      all_goals first | omega | (refine Pu.use (assumes_spec (tr f) nx i (by omega) (m7 (.inl h7))) ?_;refine done _ ?_;(first | exact hval.symm | (rw [hval];(first | rfl | simp [*])));done) | (refine done false ?_;(first | exact hval.symm | (rw [hval];(first | rfl | simp [*])));done) | (refine done true ?_;(first | exact hval.symm | (rw [hval];(first | rfl | simp [*])));done)
    · obtain ⟨i1,i2,ho⟩:=k2 (.inr (.inr (.inr h8)))
      rw [if_neg h1,if_neg (by omega),if_neg h3,if_neg h4,if_neg h5,if_neg h6,if_neg h7] at hval
      have b1:=bd (i - 1) (by omega)
      have b2:=bd (lft f i) i2
      (try simp (maxSteps:=1000000) (disch:=first | assumption | (apply ν6;assumption)) only [vz,vu,vv,eqS,eF_,↓c1_,↓c2_,tabs,reduceCtorEq,ι5,↓reduceIte,ν1,ν2,ν3,ν4,ν5,ι1,ι2,ι3,ι4,hog,ho,hol,List.getD_cons_zero,List.getD_cons_succ,Int.toNat_natCast,en i1,load_at hq,r1 i1,r2 i2])
      generalize out.getD (i - 1) default=ob at hval ⊢
      generalize out.getD (lft f i) default=oa at hval ⊢
      repeat' (with_reducible (first | apply And.intro | intro hh))
      all_goals first | omega | (refine Pu.use (assumes_spec (tr f) nx i (by omega) (m7 (.inr h8))) ?_;refine done _ ?_;(first | exact hval.symm | (rw [hval];(first | rfl | simp [*])));done) | (refine done false ?_;(first | exact hval.symm | (rw [hval];(first | rfl | simp [*])));done) | (refine done true ?_;(first | exact hval.symm | (rw [hval];(first | rfl | simp [*])));done)
    · have h2:y.op=2:=by
        have hn:=sdOk_need hok.1
        rcases need_cases y.op with h | h | h | h
        · omega
        · omega
        · omega
        · omega
      rw [if_neg h1,if_pos h2] at hval
      exact done _ hval.symm
  · have:i=f.length:=by omega
    subst this
    exact wkK.keep (h q G ⟨st.ndT 0 rfl,st.fr _ (List.mem_cons_self ..),st.le⟩ hq)
theorem l13Now_row (f:List Sd) (g:GoodFm f) (t:List Int) (lt nx:Int) (htl:t.length≤1000) (hlt0:0≤lt) {H:Heap} {K:AV→Heap→Prop} (h:∀q G,New H G [q]→G q=some (cP fB (evL f t lt nx f.length))→K (rowP q (evL f t lt nx f.length)) G):CallT Tryz.prog 124 [Ds f,Is t,I lt,I nx] H K:=by
  have hl:=g.l1
  have hl0:=g.l0
  refine CallT.fin ?_
  refine W124_ok ?_;simp (maxSteps:=1000000) (disch:=first | assumption | (apply ν6;assumption)) only [W124,vz,vu,vv,eqS,eF_,↓c1_,↓c2_,tabs,reduceCtorEq,ι5,↓reduceIte,ν1,ν2,ν3,ν4,ν5,ι1,ι2,ι3,ι4]
  have st:=(St.nil H).push (rnB (.p .nil) [] []) (⟨List.nodup_nil,fun y hy=>(by cases hy),Heap.le_refl _⟩:New H H []) (.inl ⟨rfl,rfl,rfl⟩)
  refine L124_0_rule ((0:Nat),(.p .nil:AV),([]:List Nat),H) (fun s=>s.2.1) (fun s=>I s.1) (fun s=>s.2.2.2)
    (fun s=>s.1≤f.length∧St H [rnB s.2.1 (evL f t lt nx s.1) s.2.2.1] s.2.2.2) (fun s=>f.length - s.1)
    ⟨⟨by simp,st⟩,.refl _,.refl _,Heap.le_refl _⟩ ?_
  clear st
  rintro ⟨i,x,D,G⟩ ⟨hi,st⟩
  dsimp only at hi st
  have hel:=evL_len f t lt nx i
  have hx:1≤i→∃q,x=rowP q (evL f t lt nx i)∧G q=some (cP fB (evL f t lt nx i))∧D=[q]:=fun h1=>by
    rcases rnB_cases (st.get 0 rfl) with ⟨_,h,_⟩ | h
    · rw [h] at hel;simp at hel;omega
    · exact h
  (try simp (maxSteps:=1000000) (disch:=first | assumption | (apply ν6;assumption)) only [vz,vu,vv,eqS,eF_,↓c1_,↓c2_,tabs,reduceCtorEq,ι5,↓reduceIte,ν1,ν2,ν3,ν4,ν5,ι1,ι2,ι3,ι4,B124_0])
  refine ⟨fun h1=>⟨by omega,h1,?_⟩,fun h1=>?_⟩
  · have hlt:i < f.length:=by omega
    have hok:=g.ok i hlt
    have hev:evL f t lt nx (i+1)=evL f t lt nx i++[evV f t lt nx (evL f t lt nx i) i]:=rfl
    have hval:=evV.eq_1 f t lt nx (evL f t lt nx i) i
    have e5:IntKind.i64.wrap ((i:Int)+1)=((i+1:Nat):Int):=by rw [i64_id (by omega) (by omega)];simp
    have e1:IntKind.i64.wrap ((i:Int) - 1)=(i:Int) - 1:=i64_id (by omega) (by omega)
    have e2:1≤i→IntKind.i64.wrap ((i:Int) - 1)=((i - 1:Nat):Int):=fun h=>by rw [e1];omega
    have k1:(f.getD i default).op=3∨(f.getD i default).op=4→1≤i:=fun h=>by
      have hn:need (f.getD i default).op=1:=by rcases h with h | h<;>rw [h]<;>rfl
      exact (tst1 g hlt hn).1
    have k2:(f.getD i default).op=5∨(f.getD i default).op=6∨(f.getD i default).op=7∨(f.getD i default).op=8→1≤i∧lft f i < i∧IntKind.i64.wrap ((tst f (i - 1):Int) - 1)=(lft f i:Nat):=fun h=>by
      have hn:need (f.getD i default).op=2:=by rcases h with h | h | h | h<;>rw [h]<;>rfl
      obtain ⟨a,b,c,_⟩:=tst2 g hlt hn
      exact ⟨a,by unfold lft;omega,by unfold lft;rw [i64_id (by omega) (by omega)];omega⟩
    have hfr:1≤i→Pu Tryz.prog 152 [Ds f,I ((i - 1:Nat):Int)] (I (tst f (i - 1))):=fun h=>l10From_spec f g (i - 1) (by omega)
    generalize hy:f.getD i default=y at hok hval k1 k2 ⊢
    generalize evL f t lt nx i=out at st hel hev hval hx ⊢
    generalize evV f t lt nx out i=b0 at hev hval
    intro r hr
    replace st:=st.cell hr [I y.op,I y.n]
    have hx:=fun h1=>Exists.imp (fun q (h:x=rowP q out∧G q=some (cP fB out)∧D=[q])=>And.intro h.1 (Heap.le_set (b:=[I y.op,I y.n]) hr _ _ h.2.1)) (hx h1)
    generalize G.set r [I y.op,I y.n]=G2 at st hx ⊢
    (try simp (maxSteps:=1000000) (disch:=first | assumption | (apply ν6;assumption)) only [vz,vu,vv,eqS,eF_,↓c1_,↓c2_,tabs,reduceCtorEq,ι5,↓reduceIte,ν1,ν2,ν3,ν4,ν5,ι1,ι2,ι3,ι4,load_at (st.get 0 rfl)])
    have key:∀b,b=b0→∀N:AV→AV→Heap→Prop,(∀q' G',St H [rnB (rowP q' (evL f t lt nx (i+1))) (evL f t lt nx (i+1)) [q']] G'→N (rowP q' (evL f t lt nx (i+1))) (I ((i+1:Nat):Int)) G')→
        J124_1 (wkK K) N (Ds f) (Is t) (I lt) (I nx) x (B b) (Ds f) (I f.length) (I i) G2:=by
      intro b hb N hN
      rw [← hb] at hev
      (try simp (maxSteps:=1000000) (disch:=first | assumption | (apply ν6;assumption)) only [vz,vu,vv,eqS,eF_,↓c1_,↓c2_,tabs,reduceCtorEq,ι5,↓reduceIte,ν1,ν2,ν3,ν4,ν5,ι1,ι2,ι3,ι4,J124_1,e5])
      refine lit1 tab_116 rfl tab_4 ⟨rfl,rfl⟩ ?_
      refine rn_appB (ys:=[b]) st 1 rfl (by simp only [List.length_singleton];omega) fun q' G' hq' st=>?_
      rw [← hev] at st ⊢
      exact hN _ _ st.drop
    have done:∀b,b=b0→J124_1 (wkK K) (fun w7 w20 H'=>∃s':Nat×AV×List Nat×Heap,(s'.1≤f.length∧St H [rnB s'.2.1 (evL f t lt nx s'.1) s'.2.2.1] s'.2.2.2)∧f.length - s'.1 < f.length - i∧AV.wk w7 s'.2.1∧AV.wk w20 (I s'.1)∧Heap.le s'.2.2.2 H') (Ds f) (Is t) (I lt) (I nx) x (B b) (Ds f) (I f.length) (I i) G2:=
      fun b hb=>key b hb _ fun q' G' st=>⟨(i+1,rowP q' (evL f t lt nx (i+1)),[q'],G'),⟨by simp only;omega,st⟩,by simp only;omega,.refl _,.refl _,Heap.le_refl _⟩
    have r1:1≤i→(List.take 1 (List.drop ((i - 1)*1) (cP fB out))).headD AV.any=B (out.getD (i - 1) default):=fun h=>mapB_rd (by omega)
    have r2:lft f i < i→(List.take 1 (List.drop (lft f i*1) (cP fB out))).headD AV.any=B (out.getD (lft f i) default):=fun h=>mapB_rd (by omega)
    have bd:∀k,k < i→k*1+1≤out.length:=fun k h=>by omega
    refine ⟨fun h1=>?_,fun h1=>⟨fun h2=>?_,fun h2=>⟨fun h3=>?_,fun h3=>⟨fun h4=>?_,fun h4=>⟨fun h5=>?_,fun h5=>⟨fun h6=>?_,fun h6=>⟨fun h7=>?_,fun h7=>⟨fun h8=>?_,fun h8=>?_⟩⟩⟩⟩⟩⟩⟩⟩
    · rw [if_pos h1] at hval
      have hn:=hok.1
      rw [sdOk,if_pos h1,Bool.and_eq_true,decide_eq_true_eq,decide_eq_true_eq] at hn
      have eu:IntKind.u64.wrap y.n=y.n:=by rw [IntKind.wrap_u64];omega
      rw [eu]
      exact ⟨hn.1,done _ hval.symm⟩
    · rw [if_neg h1,if_pos h2] at hval
      exact done _ hval.symm
    · have i1:=k1 (.inl h3)
      obtain ⟨q,rfl,hq⟩:=hx i1
      rw [if_neg h1,if_neg h2,if_pos h3] at hval
      have b1:=bd (i - 1) (by omega)
      (try simp (maxSteps:=1000000) (disch:=first | assumption | (apply ν6;assumption)) only [vz,vu,vv,eqS,eF_,↓c1_,↓c2_,tabs,reduceCtorEq,ι5,↓reduceIte,ν1,ν2,ν3,ν4,ν5,ι1,ι2,ι3,ι4,e2 i1,Int.toNat_natCast,load_at hq,r1 i1])
      generalize out.getD (i - 1) default=ob at hval ⊢
      repeat' (with_reducible (first | apply And.intro | intro hh))
      all_goals first | omega | (refine done _ ?_;(first | exact hval.symm | (rw [hval];(first | rfl | simp [*])));done) | (refine done false ?_;(first | exact hval.symm | (rw [hval];(first | rfl | simp [*])));done) | (refine done true ?_;(first | exact hval.symm | (rw [hval];(first | rfl | simp [*])));done)
    · have i1:=k1 (.inr h4)
      obtain ⟨q,rfl,hq⟩:=hx i1
      rw [if_neg h1,if_neg h2,if_neg h3,if_pos h4] at hval
      (try simp (maxSteps:=1000000) (disch:=first | assumption | (apply ν6;assumption)) only [vz,vu,vv,eqS,eF_,↓c1_,↓c2_,tabs,reduceCtorEq,ι5,↓reduceIte,ν1,ν2,ν3,ν4,ν5,ι1,ι2,ι3,ι4,e1])
      refine Pu.use (l13Says_spec t nx ((i:Int) - 1) htl) ?_
      exact done _ hval.symm
    · obtain ⟨i1,i2,i3⟩:=k2 (.inl h5)
      obtain ⟨q,rfl,hq⟩:=hx i1
      rw [if_neg h1,if_neg h2,if_neg h3,if_neg h4,if_pos h5] at hval
      have b1:=bd (i - 1) (by omega)
      have b2:=bd (lft f i) i2
      (try simp (maxSteps:=1000000) (disch:=first | assumption | (apply ν6;assumption)) only [vz,vu,vv,eqS,eF_,↓c1_,↓c2_,tabs,reduceCtorEq,ι5,↓reduceIte,ν1,ν2,ν3,ν4,ν5,ι1,ι2,ι3,ι4,e2 i1])
      refine Pu.use (hfr i1) ?_
      (try simp (maxSteps:=1000000) (disch:=first | assumption | (apply ν6;assumption)) only [vz,vu,vv,eqS,eF_,↓c1_,↓c2_,tabs,reduceCtorEq,ι5,↓reduceIte,ν1,ν2,ν3,ν4,ν5,ι1,ι2,ι3,ι4,e2 i1,i3,Int.toNat_natCast,load_at hq,r1 i1,r2 i2])
      generalize out.getD (i - 1) default=ob at hval ⊢
      generalize out.getD (lft f i) default=oa at hval ⊢
      repeat' (with_reducible (first | apply And.intro | intro hh))
      all_goals first | omega | (refine done _ ?_;(first | exact hval.symm | (rw [hval];(first | rfl | simp [*])));done) | (refine done false ?_;(first | exact hval.symm | (rw [hval];(first | rfl | simp [*])));done) | (refine done true ?_;(first | exact hval.symm | (rw [hval];(first | rfl | simp [*])));done)
    · obtain ⟨i1,i2,i3⟩:=k2 (.inr (.inl h6))
      obtain ⟨q,rfl,hq⟩:=hx i1
      rw [if_neg h1,if_neg h2,if_neg h3,if_neg h4,if_neg h5,if_pos h6] at hval
      have b1:=bd (i - 1) (by omega)
      have b2:=bd (lft f i) i2
      (try simp (maxSteps:=1000000) (disch:=first | assumption | (apply ν6;assumption)) only [vz,vu,vv,eqS,eF_,↓c1_,↓c2_,tabs,reduceCtorEq,ι5,↓reduceIte,ν1,ν2,ν3,ν4,ν5,ι1,ι2,ι3,ι4,e2 i1])
      refine Pu.use (hfr i1) ?_
      (try simp (maxSteps:=1000000) (disch:=first | assumption | (apply ν6;assumption)) only [vz,vu,vv,eqS,eF_,↓c1_,↓c2_,tabs,reduceCtorEq,ι5,↓reduceIte,ν1,ν2,ν3,ν4,ν5,ι1,ι2,ι3,ι4,e2 i1,i3,Int.toNat_natCast,load_at hq,r1 i1,r2 i2])
      generalize out.getD (i - 1) default=ob at hval ⊢
      generalize out.getD (lft f i) default=oa at hval ⊢
      repeat' (with_reducible (first | apply And.intro | intro hh))
      all_goals first | omega | (refine done _ ?_;(first | exact hval.symm | (rw [hval];(first | rfl | simp [*])));done) | (refine done false ?_;(first | exact hval.symm | (rw [hval];(first | rfl | simp [*])));done) | (refine done true ?_;(first | exact hval.symm | (rw [hval];(first | rfl | simp [*])));done)
    · obtain ⟨i1,i2,i3⟩:=k2 (.inr (.inr (.inl h7)))
      obtain ⟨q,rfl,hq⟩:=hx i1
      rw [if_neg h1,if_neg h2,if_neg h3,if_neg h4,if_neg h5,if_neg h6,if_pos h7] at hval
      have b1:=bd (i - 1) (by omega)
      have b2:=bd (lft f i) i2
      (try simp (maxSteps:=1000000) (disch:=first | assumption | (apply ν6;assumption)) only [vz,vu,vv,eqS,eF_,↓c1_,↓c2_,tabs,reduceCtorEq,ι5,↓reduceIte,ν1,ν2,ν3,ν4,ν5,ι1,ι2,ι3,ι4,e2 i1,Int.toNat_natCast,load_at hq,r1 i1])
      generalize out.getD (i - 1) default=ob at hval ⊢
      repeat' (with_reducible (first | apply And.intro | intro hh))
      all_goals first | omega | (refine done false ?_;(first | exact hval.symm | (rw [hval];(first | rfl | simp [*])));done) | (refine done true ?_;(first | exact hval.symm | (rw [hval];(first | rfl | simp [*])));done) | skip
      refine Pu.use (hfr i1) ?_
      (try simp (maxSteps:=1000000) (disch:=first | assumption | (apply ν6;assumption)) only [vz,vu,vv,eqS,eF_,↓c1_,↓c2_,tabs,reduceCtorEq,ι5,↓reduceIte,ν1,ν2,ν3,ν4,ν5,ι1,ι2,ι3,ι4,i3,Int.toNat_natCast,load_at hq,r2 i2])
      generalize out.getD (lft f i) default=oa at hval ⊢
      repeat' (with_reducible (first | apply And.intro | intro hh))
      all_goals first | omega | (refine Pu.use (l13Says_spec t nx i htl) ?_;refine done _ ?_;(first | exact hval.symm | (rw [hval];(first | rfl | simp [*])));done) | (refine done false ?_;(first | exact hval.symm | (rw [hval];(first | rfl | simp [*])));done) | (refine done true ?_;(first | exact hval.symm | (rw [hval];(first | rfl | simp [*])));done)
    · obtain ⟨i1,i2,i3⟩:=k2 (.inr (.inr (.inr h8)))
      obtain ⟨q,rfl,hq⟩:=hx i1
      rw [if_neg h1,if_neg h2,if_neg h3,if_neg h4,if_neg h5,if_neg h6,if_neg h7] at hval
      have b1:=bd (i - 1) (by omega)
      have b2:=bd (lft f i) i2
      (try simp (maxSteps:=1000000) (disch:=first | assumption | (apply ν6;assumption)) only [vz,vu,vv,eqS,eF_,↓c1_,↓c2_,tabs,reduceCtorEq,ι5,↓reduceIte,ν1,ν2,ν3,ν4,ν5,ι1,ι2,ι3,ι4,e2 i1,Int.toNat_natCast,load_at hq,r1 i1])
      generalize out.getD (i - 1) default=ob at hval ⊢
      repeat' (with_reducible (first | apply And.intro | intro hh))
      all_goals first | omega | (refine done false ?_;(first | exact hval.symm | (rw [hval];(first | rfl | simp [*])));done) | (refine done true ?_;(first | exact hval.symm | (rw [hval];(first | rfl | simp [*])));done) | skip
      refine Pu.use (hfr i1) ?_
      (try simp (maxSteps:=1000000) (disch:=first | assumption | (apply ν6;assumption)) only [vz,vu,vv,eqS,eF_,↓c1_,↓c2_,tabs,reduceCtorEq,ι5,↓reduceIte,ν1,ν2,ν3,ν4,ν5,ι1,ι2,ι3,ι4,i3,Int.toNat_natCast,load_at hq,r2 i2])
      generalize out.getD (lft f i) default=oa at hval ⊢
      repeat' (with_reducible (first | apply And.intro | intro hh))
      all_goals first | omega | (refine Pu.use (l13Says_spec t nx i htl) ?_;refine done _ ?_;(first | exact hval.symm | (rw [hval];(first | rfl | simp [*])));done) | (refine done false ?_;(first | exact hval.symm | (rw [hval];(first | rfl | simp [*])));done) | (refine done true ?_;(first | exact hval.symm | (rw [hval];(first | rfl | simp [*])));done)
    · exfalso
      have hn:=sdOk_need hok.1
      rcases need_cases y.op with h | h | h | h<;>omega
  · have:i=f.length:=by omega
    subst this
    obtain ⟨q,rfl,hq,rfl⟩:=hx hl0
    exact wkK.keep (h q G ⟨st.ndT 0 rfl,st.fr _ (List.mem_cons_self ..),st.le⟩ hq)
end Go.Proofs.YtolffbcnbcjeaaaGreat
namespace Go.Proofs.YtolffbcnbcjeaaaGreat
open Go Go.Sep Go.Pt
attribute [local irreducible] CallT
theorem tr_bd {f:List Sd} (g:GoodFm f):∀x∈tr f,0≤x∧x < f.length:=by
  intro x hx
  have hl0:=g.l0
  rw [tr,sc_mem,trL,List.mem_cons,List.mem_flatten] at hx
  rcases hx with rfl | ⟨l,hl,hx⟩
  · omega
  · obtain ⟨i,hi,rfl⟩:=List.mem_map.1 hl
    rw [List.mem_range] at hi
    unfold trAt at hx
    split at hx
    · rename_i h
      have hn:need (f.getD i default).op=2:=by rcases h with h | h<;>rw [h]<;>rfl
      have:=(tst2 g hi hn).1
      simp only [List.mem_cons,List.not_mem_nil,or_false] at hx
      omega
    · split at hx
      · rename_i h
        have hn:need (f.getD i default).op=1:=by rw [h];rfl
        have:=(tst1 g hi hn).1
        simp only [List.mem_cons,List.not_mem_nil,or_false] at hx
        omega
      · cases hx
def guK (vs:List Bool) (t:List Int):Nat→Int
  | 0=>0
  | k+1=>if vs.getD (t.getD k default).toNat default=true then bitsI .or .i64 (guK vs t k) (IntKind.i64.wrap (1*2^(min k 64))) else guK vs t k
def guF (f:List Sd) (lt nx:Int):Int:=guK (evL f (tr f) lt nx f.length) (tr f) (tr f).length
theorem guessOf_spec (f:List Sd) (g:GoodFm f) (lt nx:Int) (h0:0≤lt):Pu Tryz.prog 105 [Ds f,I lt,I nx] (I (guF f lt nx)):=by
  have hl:=g.l1
  have htl:=tr_len f
  refine Pu.of fun H=>?_
  refine W105_ok ?_;simp (maxSteps:=1000000) (disch:=first | assumption | (apply ν6;assumption)) only [W105,vz,vu,vv,eqS,eF_,↓c1_,↓c2_,tabs,reduceCtorEq,ι5,↓reduceIte,ν1,ν2,ν3,ν4,ν5,ι1,ι2,ι3,ι4]
  refine evalNow_row f g lt nx h0 fun q G hn hq=>?_
  (try simp (maxSteps:=1000000) (disch:=first | assumption | (apply ν6;assumption)) only [vz,vu,vv,eqS,eF_,↓c1_,↓c2_,tabs,reduceCtorEq,ι5,↓reduceIte,ν1,ν2,ν3,ν4,ν5,ι1,ι2,ι3,ι4])
  refine Pu.use (tracked_spec f g) ?_
  (try simp (maxSteps:=1000000) (disch:=first | assumption | (apply ν6;assumption)) only [vz,vu,vv,eqS,eF_,↓c1_,↓c2_,tabs,reduceCtorEq,ι5,↓reduceIte,ν1,ν2,ν3,ν4,ν5,ι1,ι2,ι3,ι4])
  have hel:=evL_len f (tr f) lt nx f.length
  unfold guF
  have hbd:=tr_bd g
  generalize evL f (tr f) lt nx f.length=vs at hq hel ⊢
  generalize tr f=t at htl hbd ⊢
  refine L105_0_rule (0:Nat) (fun i=>I (guK vs t i)) (fun i=>I i) (fun _=>G) (fun i=>i≤t.length) (fun i=>t.length - i) ⟨by omega,.refl _,.refl _,Heap.le_refl _⟩ ?_
  intro i hi
  (try simp (maxSteps:=1000000) (disch:=first | assumption | (apply ν6;assumption)) only [vz,vu,vv,eqS,eF_,↓c1_,↓c2_,tabs,reduceCtorEq,ι5,↓reduceIte,ν1,ν2,ν3,ν4,ν5,ι1,ι2,ι3,ι4,B105_0])
  refine ⟨fun h1=>⟨by omega,h1,?_⟩,fun h1=>?_⟩
  · have hlt:i < t.length:=by omega
    have hb:=getD_all (p:=fun x=>0≤x∧x < (f.length:Int)) (d:=default) hbd hlt
    have hsucc:guK vs t (i+1)=if vs.getD (t.getD i default).toNat default=true then bitsI .or .i64 (guK vs t i) (IntKind.i64.wrap (1*2^(min i 64))) else guK vs t i:=rfl
    generalize t.getD i default=n at hb hsucc ⊢
    have hrd:=mapB_rd (l:=vs) (i:=n.toNat) (by omega)
    have hb2:n.toNat*1+1≤vs.length:=by omega
    have e5:IntKind.i64.wrap ((i:Int)+1)=((i+1:Nat):Int):=by rw [i64_id (by omega) (by omega)];simp
    (try simp (maxSteps:=1000000) (disch:=first | assumption | (apply ν6;assumption)) only [vz,vu,vv,eqS,eF_,↓c1_,↓c2_,tabs,reduceCtorEq,ι5,↓reduceIte,ν1,ν2,ν3,ν4,ν5,ι1,ι2,ι3,ι4,load_at hq,hrd,e5])
    refine ⟨hb.1,by omega,hb2,fun h2=>⟨by omega,?_⟩,fun h2=>?_⟩
    · rw [if_pos h2] at hsucc
      refine ⟨i+1,by omega,by omega,?_,.refl _⟩
      rw [hsucc];exact .refl _
    · rw [if_neg (by rw [h2];simp)] at hsucc
      refine ⟨i+1,by omega,by omega,?_,.refl _⟩
      rw [hsucc];exact .refl _
  · have:i=t.length:=by omega
    subst this
    exact ⟨rfl,hn.le⟩
theorem l13Guess_spec (f:List Sd) (g:GoodFm f) (lt nx:Int) (h0:0≤lt):Pu Tryz.prog 95 [Ds f,Is (tr f),I lt,I nx] (I (guF f lt nx)):=by
  have hl:=g.l1
  have htl:=tr_len f
  refine Pu.of fun H=>?_
  refine W95_ok ?_;simp (maxSteps:=1000000) (disch:=first | assumption | (apply ν6;assumption)) only [W95,vz,vu,vv,eqS,eF_,↓c1_,↓c2_,tabs,reduceCtorEq,ι5,↓reduceIte,ν1,ν2,ν3,ν4,ν5,ι1,ι2,ι3,ι4]
  refine l13Now_row f g (tr f) lt nx (by omega) h0 fun q G hn hq=>?_
  (try simp (maxSteps:=1000000) (disch:=first | assumption | (apply ν6;assumption)) only [vz,vu,vv,eqS,eF_,↓c1_,↓c2_,tabs,reduceCtorEq,ι5,↓reduceIte,ν1,ν2,ν3,ν4,ν5,ι1,ι2,ι3,ι4])
  have hel:=evL_len f (tr f) lt nx f.length
  unfold guF
  have hbd:=tr_bd g
  generalize evL f (tr f) lt nx f.length=vs at hq hel ⊢
  generalize tr f=t at htl hbd ⊢
  refine L95_0_rule (0:Nat) (fun i=>I (guK vs t i)) (fun i=>I i) (fun _=>G) (fun i=>i≤t.length) (fun i=>t.length - i) ⟨by omega,.refl _,.refl _,Heap.le_refl _⟩ ?_
  intro i hi
  (try simp (maxSteps:=1000000) (disch:=first | assumption | (apply ν6;assumption)) only [vz,vu,vv,eqS,eF_,↓c1_,↓c2_,tabs,reduceCtorEq,ι5,↓reduceIte,ν1,ν2,ν3,ν4,ν5,ι1,ι2,ι3,ι4,B95_0])
  refine ⟨fun h1=>⟨by omega,h1,?_⟩,fun h1=>?_⟩
  · have hlt:i < t.length:=by omega
    have hb:=getD_all (p:=fun x=>0≤x∧x < (f.length:Int)) (d:=default) hbd hlt
    have hsucc:guK vs t (i+1)=if vs.getD (t.getD i default).toNat default=true then bitsI .or .i64 (guK vs t i) (IntKind.i64.wrap (1*2^(min i 64))) else guK vs t i:=rfl
    generalize t.getD i default=n at hb hsucc ⊢
    have hrd:=mapB_rd (l:=vs) (i:=n.toNat) (by omega)
    have hb2:n.toNat*1+1≤vs.length:=by omega
    have e5:IntKind.i64.wrap ((i:Int)+1)=((i+1:Nat):Int):=by rw [i64_id (by omega) (by omega)];simp
    have eu:IntKind.u64.wrap (i:Int)=i:=by rw [IntKind.wrap_u64];omega
    (try simp (maxSteps:=1000000) (disch:=first | assumption | (apply ν6;assumption)) only [vz,vu,vv,eqS,eF_,↓c1_,↓c2_,tabs,reduceCtorEq,ι5,↓reduceIte,ν1,ν2,ν3,ν4,ν5,ι1,ι2,ι3,ι4,load_at hq,hrd,e5,eu])
    refine ⟨hb.1,by omega,hb2,fun h2=>⟨by omega,?_⟩,fun h2=>?_⟩
    · rw [if_pos h2] at hsucc
      refine ⟨i+1,by omega,by omega,?_,.refl _⟩
      rw [hsucc];exact .refl _
    · rw [if_neg (by rw [h2];simp)] at hsucc
      refine ⟨i+1,by omega,by omega,?_,.refl _⟩
      rw [hsucc];exact .refl _
  · have:i=t.length:=by omega
    subst this
    exact ⟨rfl,hn.le⟩
theorem pow_small {k:Nat} (h:k≤5):(1:Int)≤2^k∧(2:Int)^k≤32:=by
  rcases (by omega:k=0∨k=1∨k=2∨k=3∨k=4∨k=5) with rfl | rfl | rfl | rfl | rfl | rfl<;>decide
theorem guesses_spec (f:List Sd) (g:GoodFm f) (ht:(tr f).length≤5):Pu Tryz.prog 102 [Ds f] (I (2^(tr f).length)):=by
  refine Pu.of fun H=>?_
  refine W102_ok ?_;simp (maxSteps:=1000000) (disch:=first | assumption | (apply ν6;assumption)) only [W102,vz,vu,vv,eqS,eF_,↓c1_,↓c2_,tabs,reduceCtorEq,ι5,↓reduceIte,ν1,ν2,ν3,ν4,ν5,ι1,ι2,ι3,ι4]
  refine Pu.use (tracked_spec f g) ?_
  (try simp (maxSteps:=1000000) (disch:=first | assumption | (apply ν6;assumption)) only [vz,vu,vv,eqS,eF_,↓c1_,↓c2_,tabs,reduceCtorEq,ι5,↓reduceIte,ν1,ν2,ν3,ν4,ν5,ι1,ι2,ι3,ι4])
  have hp:=pow_small ht
  refine ⟨by omega,?_⟩
  refine congrArg (fun n:Int=>I n) ?_
  rw [Nat.min_eq_left (by show (tr f).length≤64;omega),Int.one_mul,i64_id (by omega) (by omega)]
end Go.Proofs.YtolffbcnbcjeaaaGreat
namespace Go.Proofs.YtolffbcnbcjeaaaGreat
open Go Go.Sep Go.Pt
def nF (f:List Sd):Nat:=2^(tr f).length
theorem nF_bd {f:List Sd} (h:(tr f).length≤5):1≤nF f∧nF f≤32:=by
  unfold nF
  rcases (by omega:(tr f).length=0∨(tr f).length=1∨(tr f).length=2∨(tr f).length=3∨(tr f).length=4∨(tr f).length=5) with h | h | h | h | h | h<;>rw [h]<;>decide
theorem nF_int (f:List Sd):(2:Int)^(tr f).length=(nF f:Int):=by
  unfold nF;rw [Int.natCast_pow];rfl
def rootP (f:List Sd) (g:Nat):Bool:=saysF (tr f) g ((f.length:Int) - 1)
def rooB (f:List Sd) (b:Bool) (g:Nat):Bool:=rootP f g==b
def goalP (f:List Sd) (i g:Nat):Bool:=
  (decide ((f.getD i default).op=7) && (!saysF (tr f) g i || saysF (tr f) g ((i:Int) - 1))) || (decide ((f.getD i default).op=8) && (saysF (tr f) g i || !saysF (tr f) g ((i:Int) - 1)))
def isUR (f:List Sd) (i:Nat):Bool:=decide ((f.getD i default).op=7) || decide ((f.getD i default).op=8)
def goalsK (f:List Sd) (i:Nat):List (List Int):=((List.range i).filter (isUR f)).map fun j=>gw (nF f) (goalP f j)
theorem goalsK_succ (f:List Sd) (i:Nat):goalsK f (i+1)=if isUR f i=true then goalsK f i++[gw (nF f) (goalP f i)] else goalsK f i:=by
  unfold goalsK
  rw [List.range_succ,List.filter_append,List.map_append]
  by_cases h:isUR f i=true
  · simp [h]
  · simp [h]
theorem goalsK_len (f:List Sd) (i:Nat):(goalsK f i).length≤i:=by
  unfold goalsK
  rw [List.length_map]
  have:=List.length_filter_le (isUR f) (List.range i)
  rwa [List.length_range] at this
theorem goalsK_tr (f:List Sd):(goalsK f f.length).length≤(tr f).length:=by
  unfold goalsK
  rw [List.length_map]
  have h1:(((List.range f.length).filter (isUR f)).map fun (i:Nat)=>(i:Int)).Nodup:=by
    unfold List.Nodup
    rw [List.pairwise_map]
    exact (List.pairwise_lt_range.filter _).imp fun h=>by omega
  have h2:=h1.length_le_of_subset (l₂:=tr f) fun x hx=>by
    obtain ⟨i,hi,rfl⟩:=List.mem_map.1 hx
    obtain ⟨h3,h4⟩:=List.mem_filter.1 hi
    rw [List.mem_range] at h3
    refine tr_mem0 h3 _ ?_
    unfold isUR at h4
    rw [Bool.or_eq_true,decide_eq_true_eq,decide_eq_true_eq] at h4
    rw [trAt,if_pos h4];simp
  rwa [List.length_map] at h2
theorem or_bd:∀j:Nat,j < 5→∀a:Nat,a < 2^j→0≤bitsI .or .i64 (a:Int) (IntKind.i64.wrap (1*2^(min j 64)))∧bitsI .or .i64 (a:Int) (IntKind.i64.wrap (1*2^(min j 64))) < 2^(j+1):=by
  decide +kernel
theorem guK_bd (vs:List Bool) (t:List Int):∀j:Nat,j≤5→0≤guK vs t j∧guK vs t j < 2^j:=by
  intro j
  induction j with
  | zero=>intro _;rw [guK];exact ⟨Int.le_refl _,by decide +kernel⟩
  | succ j ih=>
    intro hj
    have h1:=ih (by omega)
    rw [guK]
    split
    · have h2:=or_bd j (by omega) (guK vs t j).toNat (by
        have:((guK vs t j).toNat:Int) < ((2^j:Nat):Int):=by rw [Int.toNat_of_nonneg h1.1,Int.natCast_pow];exact h1.2
        omega)
      rw [Int.toNat_of_nonneg h1.1] at h2
      exact h2
    · have:(2:Int)^j≤2^(j+1):=by rw [Int.pow_succ];omega
      omega
theorem guF_bd {f:List Sd} (h:(tr f).length≤5) (lt nx:Int):0≤guF f lt nx∧guF f lt nx < nF f:=by
  have:=guK_bd (evL f (tr f) lt nx f.length) (tr f) _ h
  rw [← nF_int];exact this
def edI (f:List Sd) (l n:Nat):Ed:=⟨guF f l n,l,n⟩
def eI0 (f:List Sd) (l:Nat) (n:Nat):List Ed:=(List.range n).map (edI f l)
theorem eI0_succ (f:List Sd) (l n:Nat):eI0 f l (n+1)=eI0 f l n++[edI f l n]:=by simp [eI0,List.range_succ]
def eIs (f:List Sd) (l:Nat):List Ed:=(List.range l).flatMap fun k=>eI0 f k (nF f)
theorem eIs_succ (f:List Sd) (l:Nat):eIs f (l+1)=eIs f l++eI0 f l (nF f):=by simp [eIs,List.range_succ,List.flatMap_append]
theorem eI0_len (f:List Sd) (l n:Nat):(eI0 f l n).length=n:=by simp [eI0]
theorem eIs_len (f:List Sd) (l:Nat):(eIs f l).length=l*nF f:=by
  induction l with
  | zero=>simp [eIs]
  | succ l ih=>rw [eIs_succ,List.length_append,ih,eI0_len,Nat.add_mul,Nat.one_mul]
def cell0 (f:List Sd) (g l n:Nat):List Ed:=((List.range n).filter fun (k:Nat)=>decide (guF f l k=g)).map fun (k:Nat)=>⟨g,l,k⟩
theorem cell0_succ (f:List Sd) (g l n:Nat):cell0 f g l (n+1)=if guF f l n=g then cell0 f g l n++[⟨g,l,n⟩] else cell0 f g l n:=by
  unfold cell0
  rw [List.range_succ,List.filter_append,List.map_append]
  by_cases h:guF f l n=g
  · simp [h]
  · simp [h]
def row0 (f:List Sd) (g l:Nat):List Ed:=(List.range l).flatMap fun k=>cell0 f g k (nF f)
theorem row0_succ (f:List Sd) (g l:Nat):row0 f g (l+1)=row0 f g l++cell0 f g l (nF f):=by simp [row0,List.range_succ,List.flatMap_append]
def all0 (f:List Sd) (g:Nat):List Ed:=(List.range g).flatMap fun k=>row0 f k 8
theorem all0_succ (f:List Sd) (g:Nat):all0 f (g+1)=all0 f g++row0 f g 8:=by simp [all0,List.range_succ,List.flatMap_append]
theorem all0_lt (f:List Sd):(all0 f (nF f)).Pairwise (fun a b=>edLt a b=true):=by
  unfold all0
  rw [List.pairwise_flatMap]
  refine ⟨fun g hg=>?_,List.Pairwise.imp (fun hgh x hx y hy=>?_) List.pairwise_lt_range⟩
  · unfold row0
    rw [List.pairwise_flatMap]
    refine ⟨fun l hl=>?_,List.Pairwise.imp (fun hlm x hx y hy=>?_) List.pairwise_lt_range⟩
    · unfold cell0
      rw [List.pairwise_map]
      refine List.Pairwise.imp (fun h=>?_) (List.pairwise_lt_range.filter _)
      rw [edLt_iff];exact .inr ⟨rfl,.inr ⟨rfl,Int.ofNat_lt.2 h⟩⟩
    · obtain ⟨k1,_,rfl⟩:=List.mem_map.1 hx
      obtain ⟨k2,_,rfl⟩:=List.mem_map.1 hy
      rw [edLt_iff];exact .inr ⟨rfl,.inl (Int.ofNat_lt.2 hlm)⟩
  · obtain ⟨l1,_,hx⟩:=List.mem_flatMap.1 hx
    obtain ⟨l2,_,hy⟩:=List.mem_flatMap.1 hy
    obtain ⟨k1,_,rfl⟩:=List.mem_map.1 hx
    obtain ⟨k2,_,rfl⟩:=List.mem_map.1 hy
    rw [edLt_iff];exact .inl (Int.ofNat_lt.2 hgh)
theorem all0_mem {f:List Sd} (e:Ed):e∈all0 f (nF f)↔∃g l k:Nat,g < nF f∧l < 8∧k < nF f∧guF f l k=g∧e=⟨g,l,k⟩:=by
  simp only [all0,row0,cell0,List.mem_flatMap,List.mem_map,List.mem_filter,List.mem_range,decide_eq_true_eq]
  constructor
  · rintro ⟨g,hg,l,hl,k,⟨hk,e1⟩,rfl⟩
    exact ⟨g,l,k,hg,hl,hk,e1,rfl⟩
  · rintro ⟨g,l,k,hg,hl,hk,e1,rfl⟩
    exact ⟨g,hg,l,hl,k,⟨hk,e1⟩,rfl⟩
theorem eIs_nd (f:List Sd):(eIs f 8).Nodup:=by
  unfold eIs List.Nodup
  rw [List.pairwise_flatMap]
  refine ⟨fun l hl=>?_,List.Pairwise.imp (fun hlm x hx y hy e=>?_) List.pairwise_lt_range⟩
  · unfold eI0
    rw [List.pairwise_map]
    refine List.Pairwise.imp (fun h e=>?_) List.pairwise_lt_range
    simp only [edI,Ed.mk.injEq] at e;omega
  · obtain ⟨k1,_,rfl⟩:=List.mem_map.1 hx
    obtain ⟨k2,_,rfl⟩:=List.mem_map.1 hy
    simp only [edI,Ed.mk.injEq] at e;omega
theorem srt_eIs {f:List Sd} (h:(tr f).length≤5):srtE (eIs f 8)=all0 f (nF f):=by
  refine srtE_ext (eIs_nd f) (all0_lt f) fun e=>?_
  rw [all0_mem]
  simp only [eIs,eI0,List.mem_flatMap,List.mem_map,List.mem_range]
  constructor
  · rintro ⟨l,hl,k,hk,rfl⟩
    have hb:=guF_bd h l k
    exact ⟨(guF f l k).toNat,l,k,by omega,hl,hk,by omega,by simp only [edI,Ed.mk.injEq,and_true];omega⟩
  · rintro ⟨g,l,k,hg,hl,hk,e1,rfl⟩
    exact ⟨l,hl,k,hk,by simp only [edI,Ed.mk.injEq,and_true];omega⟩
def autoB (f:List Sd) (b:Bool):Au:=⟨nF f,gw (nF f) (rooB f b),all0 f (nF f),goalsK f f.length⟩
theorem all0_len {f:List Sd} (h:(tr f).length≤5):(all0 f (nF f)).length≤256:=by
  rw [← srt_eIs h,srtE_len,eIs_len]
  have:=nF_bd h
  omega
theorem autoB_good {f:List Sd} {b:Bool} (h:(tr f).length≤5):goodA (autoB f b)=true:=by
  have hb:=nF_bd h
  have h1:=all0_len h
  have h2:=goalsK_tr f
  unfold goodA autoB
  simp only [Bool.and_eq_true,decide_eq_true_eq,List.all_eq_true]
  refine ⟨⟨by omega,by omega⟩,gw_rising _ _,by omega,⟨by omega,fun g hg=>?_⟩,edsOk_of (all0_lt f) fun e he=>?_⟩
  · obtain ⟨i,_,rfl⟩:=List.mem_map.1 hg
    exact gw_rising _ _
  · obtain ⟨g,l,k,hg,hl,hk,_,rfl⟩:=(all0_mem e).1 he
    simp only [edIn,Bool.and_eq_true,decide_eq_true_eq]
    omega
theorem autoB_sm {f:List Sd} {b:Bool} (h:(tr f).length≤5):smAu (autoB f b):=by
  have hb:=nF_bd h
  have h1:=all0_len h
  have h2:=goalsK_tr f
  refine ⟨?_,?_,?_,fun c hc=>?_⟩
  · have:=gw_len (nF f) (rooB f b);show (gw (nF f) (rooB f b)).length≤_;omega
  · show (all0 f (nF f)).length≤_;omega
  · show (goalsK f f.length).length≤_;omega
  · obtain ⟨i,_,rfl⟩:=List.mem_map.1 hc
    have:=gw_len (nF f) (goalP f i);omega
end Go.Proofs.YtolffbcnbcjeaaaGreat
namespace Go.Proofs.YtolffbcnbcjeaaaGreat
open Go Go.Sep Go.Pt
attribute [local irreducible] CallT
theorem guessesWith_at (f:List Sd) (g:GoodFm f) (ht:(tr f).length≤5) (fn:Nat) (caps:List AV) (p:Nat→Bool) {H:Heap} (hp:∀x G,x < nF f→Heap.le H G→PuAt Tryz.prog fn (I x::caps) G (B (p x))) {K:AV→Heap→Prop}
    (h:∀q G,G q=some (cP fI (gw (nF f) p))→New H G [q]→K (rowP q (gw (nF f) p)) G):CallT Tryz.prog 129 [Ds f,.fn fn caps] H K:=by
  have hb:=nF_bd ht
  refine CallT.fin ?_
  refine W129_ok ?_;simp (maxSteps:=1000000) (disch:=first | assumption | (apply ν6;assumption)) only [W129,vz,vu,vv,eqS,eF_,↓c1_,↓c2_,tabs,reduceCtorEq,ι5,↓reduceIte,ν1,ν2,ν3,ν4,ν5,ι1,ι2,ι3,ι4]
  refine lit0I fun q0 hq0=>?_
  have st:=(St.nil H).cell hq0 (cP fI [])
  generalize H.set q0 (cP fI [])=G at st ⊢
  refine Pu.use (guesses_spec f g ht) ?_
  rw [nF_int]
  refine L129_0_rule ((0:Nat),q0,G) (fun s=>rowP s.2.1 (gw s.1 p)) (fun s=>I s.1) (fun s=>s.2.2)
    (fun s=>s.1≤nF f∧St H [cellT s.2.1 (cP fI (gw s.1 p))] s.2.2) (fun s=>nF f - s.1) ⟨⟨by simp,st⟩,.refl _,.refl _,Heap.le_refl _⟩ ?_
  clear st
  rintro ⟨i,q,G⟩ ⟨hi,st⟩
  dsimp only at hi st
  have e5:IntKind.i64.wrap ((i:Int)+1)=((i+1:Nat):Int):=by rw [i64_id (by omega) (by omega)];simp
  (try simp (maxSteps:=1000000) (disch:=first | assumption | (apply ν6;assumption)) only [vz,vu,vv,eqS,eF_,↓c1_,↓c2_,tabs,reduceCtorEq,ι5,↓reduceIte,ν1,ν2,ν3,ν4,ν5,ι1,ι2,ι3,ι4,B129_0])
  refine ⟨fun h1=>?_,fun h1=>?_⟩
  · have hlt:i < nF f:=by omega
    refine PuAt.use (hp i G hlt st.le) ?_
    have hgl:=gw_len i p
    have hsucc:=gw_succ i p
    (try simp (maxSteps:=1000000) (disch:=first | assumption | (apply ν6;assumption)) only [vz,vu,vv,eqS,eF_,↓c1_,↓c2_,tabs,reduceCtorEq,ι5,↓reduceIte,ν1,ν2,ν3,ν4,ν5,ι1,ι2,ι3,ι4,e5])
    refine ⟨fun h2=>?_,fun h2=>?_⟩
    · rw [if_pos h2] at hsucc
      refine lit1 tab_22 rfl tab_3 ⟨rfl,rfl⟩ ?_
      refine st_appI (ys:=[(i:Int)]) st 0 rfl (by simp only [List.length_singleton];omega) fun q' G' hq' st=>?_
      rw [← hsucc] at st ⊢
      exact ⟨(i+1,q',G'),⟨by simp only;omega,st⟩,by simp only;omega,.refl _,.refl _,Heap.le_refl _⟩
    · rw [if_neg (by rw [h2];simp)] at hsucc
      refine ⟨(i+1,q,G),⟨by simp only;omega,by rw [hsucc];exact st⟩,by simp only;omega,?_,.refl _,Heap.le_refl _⟩
      rw [hsucc];exact .refl _
  · have:i=nF f:=by omega
    subst this
    exact wkK.keep (h q G (st.get 0 rfl) (by simpa [cellT] using st.new))
theorem tr_root {f:List Sd}:(f.length:Int) - 1∈tr f:=by rw [tr,sc_mem,trL];simp
theorem rooted1_at {f:List Sd} {b:Bool} (g:GoodFm f) {H:Heap} {r5 r2 r3:Nat} (h5:H r5=some [Is (tr f)]) (h2:H r2=some [Ds f]) (h3:H r3=some [B b]) (x:Nat) :
    PuAt Tryz.prog 130 [I x,.ptr r5 0,.ptr r2 0,.ptr r3 0] H (B (rooB f b x)):=by
  have hl:=g.l1
  have htl:=tr_len f
  intro K hK
  have e1:IntKind.i64.wrap ((f.length:Int) - 1)=(f.length:Int) - 1:=i64_id (by omega) (by omega)
  refine W130_ok ?_;simp (maxSteps:=1000000) (disch:=first | assumption | (apply ν6;assumption)) only [W130,vz,vu,vv,eqS,eF_,↓c1_,↓c2_,tabs,reduceCtorEq,ι5,↓reduceIte,ν1,ν2,ν3,ν4,ν5,ι1,ι2,ι3,ι4,load_at h5,load_at h2,load_at h3,e1]
  refine Pu.use (assumes_spec (tr f) x _ (by omega) tr_root) ?_
  (try simp (maxSteps:=1000000) (disch:=first | assumption | (apply ν6;assumption)) only [vz,vu,vv,eqS,eF_,↓c1_,↓c2_,tabs,reduceCtorEq,ι5,↓reduceIte,ν1,ν2,ν3,ν4,ν5,ι1,ι2,ι3,ι4,load_at h5,load_at h2,load_at h3])
  have e2:rooB f b x=(saysF (tr f) x ((f.length:Int) - 1)==b):=rfl
  rw [e2] at hK
  first | exact hK | simpa using hK
theorem rooted_row (f:List Sd) (b:Bool) (g:GoodFm f) (ht:(tr f).length≤5) {H:Heap} {K:AV→Heap→Prop}
    (h:∀q G,G q=some (cP fI (gw (nF f) (rooB f b)))→New H G [q]→K (rowP q (gw (nF f) (rooB f b))) G):CallT Tryz.prog 103 [Ds f,B b] H K:=by
  refine W103_ok ?_;simp (maxSteps:=1000000) (disch:=first | assumption | (apply ν6;assumption)) only [W103,vz,vu,vv,eqS,eF_,↓c1_,↓c2_,tabs,reduceCtorEq,ι5,↓reduceIte,ν1,ν2,ν3,ν4,ν5,ι1,ι2,ι3,ι4]
  intro r2 hr2 r3 n3 hr3
  have st:=((St.nil H).cell hr2 [Ds f]).cell (r:=r3) (by rw [Heap.set_other n3];exact hr3) [B b]
  generalize (H.set r2 [Ds f]).set r3 [B b]=G at st ⊢
  clear hr2 hr3 n3
  (try simp (maxSteps:=1000000) (disch:=first | assumption | (apply ν6;assumption)) only [vz,vu,vv,eqS,eF_,↓c1_,↓c2_,tabs,reduceCtorEq,ι5,↓reduceIte,ν1,ν2,ν3,ν4,ν5,ι1,ι2,ι3,ι4,load_at (st.get 1 rfl)])
  refine Pu.use (tracked_spec f g) ?_
  (try simp (maxSteps:=1000000) (disch:=first | assumption | (apply ν6;assumption)) only [vz,vu,vv,eqS,eF_,↓c1_,↓c2_,tabs,reduceCtorEq,ι5,↓reduceIte,ν1,ν2,ν3,ν4,ν5,ι1,ι2,ι3,ι4])
  intro r5 hr5
  replace st:=st.cell hr5 [Is (tr f)]
  generalize G.set r5 [Is (tr f)]=G1 at st ⊢
  (try simp (maxSteps:=1000000) (disch:=first | assumption | (apply ν6;assumption)) only [vz,vu,vv,eqS,eF_,↓c1_,↓c2_,tabs,reduceCtorEq,ι5,↓reduceIte,ν1,ν2,ν3,ν4,ν5,ι1,ι2,ι3,ι4,load_at (st.get 2 rfl)])
  refine guessesWith_at f g ht 130 _ (rooB f b) (fun x G2 hx hle=>rooted1_at g (hle _ _ (st.get 0 rfl)) (hle _ _ (st.get 2 rfl)) (hle _ _ (st.get 1 rfl)) x) fun q G2 hq hn=>?_
  have st2:=(st.push (cellT q _) hn hq).sub (Us:=[cellT q (cP fI (gw (nF f) (rooB f b)))]) (by simp)
  exact h q G2 hq (by simpa [cellT] using st2.new)
theorem goals1_at {f:List Sd} (g:GoodFm f) {i:Nat} (hi:i < f.length) (hop:isUR f i=true) {H:Heap} {r5 r6 r4 r7:Nat} (h5:H r5=some [Is (tr f)]) (h6:H r6=some [I i]) (h4:H r4=some [Ls (opsA f f.length)]) (h7:H r7=some [I (f.getD i default).op,I (f.getD i default).n]) (x:Nat) :
    PuAt Tryz.prog 132 [I x,.ptr r5 0,.ptr r6 0,.ptr r4 0,.ptr r7 0] H (B (goalP f i x)):=by
  have hl:=g.l1
  have htl:=tr_len f
  have hop':(f.getD i default).op=7∨(f.getD i default).op=8:=by
    unfold isUR at hop
    rwa [Bool.or_eq_true,decide_eq_true_eq,decide_eq_true_eq] at hop
  have hn2:need (f.getD i default).op=2:=by rcases hop' with h | h<;>rw [h]<;>rfl
  obtain ⟨a,b,c,_⟩:=tst2 g hi hn2
  have hog:=opsA_get f hi
  have hops:opsF f i=[(lft f i:Int),(i:Int) - 1]:=by rw [opsF,if_neg (by omega),if_neg (by omega),lft];congr 1;omega
  have hl2:(opsF f i).length=2:=by rw [hops];rfl
  have hg1:(opsF f i).getD 1 default=(i:Int) - 1:=by rw [hops];rfl
  clear hops
  generalize opsF f i=ops at hog hl2 hg1
  have hol:=opsA_len f f.length
  have m1:(i:Int)∈tr f:=tr_mem0 hi _ (by rw [trAt,if_pos hop'];simp)
  have m2:(i:Int) - 1∈tr f:=tr_mem0 hi _ (by rw [trAt,if_pos hop'];simp)
  have hg:goalP f i x=((decide ((f.getD i default).op=7) && (!saysF (tr f) x i || saysF (tr f) x ((i:Int) - 1))) || (decide ((f.getD i default).op=8) && (saysF (tr f) x i || !saysF (tr f) x ((i:Int) - 1)))):=rfl
  intro K hK
  rw [hg] at hK
  clear hg hn2
  generalize f.getD i default=y at h7 hop' hK
  refine W132_ok ?_;simp (maxSteps:=1000000) (disch:=first | assumption | (apply ν6;assumption)) only [W132,vz,vu,vv,eqS,eF_,↓c1_,↓c2_,tabs,reduceCtorEq,ι5,↓reduceIte,ν1,ν2,ν3,ν4,ν5,ι1,ι2,ι3,ι4,load_at h5,load_at h6,load_at h4,load_at h7,hog,hg1]
  refine ⟨by omega,by omega,by omega,by omega,?_⟩
  refine Pu.use (assumes_spec (tr f) x _ (by omega) m1) ?_
  (try simp (maxSteps:=1000000) (disch:=first | assumption | (apply ν6;assumption)) only [vz,vu,vv,eqS,eF_,↓c1_,↓c2_,tabs,reduceCtorEq,ι5,↓reduceIte,ν1,ν2,ν3,ν4,ν5,ι1,ι2,ι3,ι4,load_at h5,load_at h6,load_at h4,load_at h7,hog,hg1])
  refine Pu.use (assumes_spec (tr f) x _ (by omega) m2) ?_
  generalize saysF (tr f) x i=own at hK ⊢
  generalize saysF (tr f) x ((i:Int) - 1)=sec at hK ⊢
  (try simp (maxSteps:=1000000) (disch:=first | assumption | (apply ν6;assumption)) only [vz,vu,vv,eqS,eF_,↓c1_,↓c2_,tabs,reduceCtorEq,ι5,↓reduceIte,ν1,ν2,ν3,ν4,ν5,ι1,ι2,ι3,ι4,load_at h7])
  rcases hop' with h | h<;>rw [h] at hK ⊢<;>cases own<;>cases sec<;>simpa using hK
theorem goalsOf_row (f:List Sd) (g:GoodFm f) (ht:(tr f).length≤5) {H:Heap} {K:AV→Heap→Prop}
    (h:∀q G D,LII (goalsK f f.length) (.sl q 1 0 (goalsK f f.length).length) G D→New H G D→K (.sl q 1 0 (goalsK f f.length).length) G):CallT Tryz.prog 104 [Ds f] H K:=by
  have hl:=g.l1
  refine CallT.fin ?_
  refine W104_ok ?_;simp (maxSteps:=1000000) (disch:=first | assumption | (apply ν6;assumption)) only [W104,vz,vu,vv,eqS,eF_,↓c1_,↓c2_,tabs,reduceCtorEq,ι5,↓reduceIte,ν1,ν2,ν3,ν4,ν5,ι1,ι2,ι3,ι4]
  refine lit0G fun q0 hq0=>?_
  have st:=rg_new (St.nil H) hq0
  generalize H.set q0 []=G at st ⊢
  refine Pu.use (operandIndexes_spec f g) ?_
  (try simp (maxSteps:=1000000) (disch:=first | assumption | (apply ν6;assumption)) only [vz,vu,vv,eqS,eF_,↓c1_,↓c2_,tabs,reduceCtorEq,ι5,↓reduceIte,ν1,ν2,ν3,ν4,ν5,ι1,ι2,ι3,ι4])
  refine Pu.use (tracked_spec f g) ?_
  (try simp (maxSteps:=1000000) (disch:=first | assumption | (apply ν6;assumption)) only [vz,vu,vv,eqS,eF_,↓c1_,↓c2_,tabs,reduceCtorEq,ι5,↓reduceIte,ν1,ν2,ν3,ν4,ν5,ι1,ι2,ι3,ι4])
  intro r4 hr4 r5 n5 hr5
  replace st:=(st.cell hr4 [.p .nil]).cell (r:=r5) (by rw [Heap.set_other n5];exact hr5) [.p .nil]
  generalize (G.set r4 [.p .nil]).set r5 [.p .nil]=G0 at st ⊢
  clear hr4 hr5 n5
  (try simp (maxSteps:=1000000) (disch:=first | assumption | (apply ν6;assumption)) only [vz,vu,vv,eqS,eF_,↓c1_,↓c2_,tabs,reduceCtorEq,ι5,↓reduceIte,ν1,ν2,ν3,ν4,ν5,ι1,ι2,ι3,ι4,store_at (st.get 1 rfl)])
  replace st:=st.put 1 rfl [Ls (opsA f f.length)]
  generalize G0.set r4 [Ls (opsA f f.length)]=G0 at st ⊢
  (try simp (maxSteps:=1000000) (disch:=first | assumption | (apply ν6;assumption)) only [vz,vu,vv,eqS,eF_,↓c1_,↓c2_,tabs,reduceCtorEq,ι5,↓reduceIte,ν1,ν2,ν3,ν4,ν5,ι1,ι2,ι3,ι4,store_at (st.get 0 rfl)])
  replace st:=st.put 0 rfl [Is (tr f)]
  generalize G0.set r5 [Is (tr f)]=G1 at st ⊢
  refine L104_0_rule ((0:Nat),(.sl q0 1 0 0:AV),[q0],G1) (fun s=>s.2.1) (fun s=>I s.1) (fun s=>s.2.2.2)
    (fun s=>s.1≤f.length∧(s.2.1≠.p .nil)∧St H [cellT r5 [Is (tr f)],cellT r4 [Ls (opsA f f.length)],rnG s.2.1 (goalsK f s.1) s.2.2.1] s.2.2.2) (fun s=>f.length - s.1)
    ⟨⟨by simp,by simp,st⟩,.refl _,.refl _,Heap.le_refl _⟩ ?_
  clear st
  rintro ⟨i,x,D,G⟩ ⟨hi,hx,st⟩
  dsimp only at hi st hx
  have e5:IntKind.i64.wrap ((i:Int)+1)=((i+1:Nat):Int):=by rw [i64_id (by omega) (by omega)];simp
  (try simp (maxSteps:=1000000) (disch:=first | assumption | (apply ν6;assumption)) only [vz,vu,vv,eqS,eF_,↓c1_,↓c2_,tabs,reduceCtorEq,ι5,↓reduceIte,ν1,ν2,ν3,ν4,ν5,ι1,ι2,ι3,ι4,B104_0])
  refine ⟨fun h1=>⟨by omega,h1,?_⟩,fun h1=>?_⟩
  · have hlt:i < f.length:=by omega
    have hsucc:=goalsK_succ f i
    have hgl:=goalsK_len f i
    intro r6 hr6 r7 n7 hr7
    replace st:=(st.cell hr6 [I 0]).cell (r:=r7) (by rw [Heap.set_other n7];exact hr7) [I 0,I 0]
    generalize (G.set r6 [I 0]).set r7 [I 0,I 0]=G2 at st ⊢
    clear hr6 hr7 n7
    (try simp (maxSteps:=1000000) (disch:=first | assumption | (apply ν6;assumption)) only [vz,vu,vv,eqS,eF_,↓c1_,↓c2_,tabs,reduceCtorEq,ι5,↓reduceIte,ν1,ν2,ν3,ν4,ν5,ι1,ι2,ι3,ι4,store_at (st.get 1 rfl)])
    replace st:=st.put 1 rfl [I i]
    generalize G2.set r6 [I i]=G2 at st ⊢
    (try simp (maxSteps:=1000000) (disch:=first | assumption | (apply ν6;assumption)) only [vz,vu,vv,eqS,eF_,↓c1_,↓c2_,tabs,reduceCtorEq,ι5,↓reduceIte,ν1,ν2,ν3,ν4,ν5,ι1,ι2,ι3,ι4,store_at (st.get 0 rfl)])
    replace st:=st.put 0 rfl [I (f.getD i default).op,I (f.getD i default).n]
    generalize G2.set r7 [I (f.getD i default).op,I (f.getD i default).n]=G2 at st ⊢
    have key:∀N:AV→AV→Heap→Prop,isUR f i=true→(∀q' D' G',St H [cellT r5 [Is (tr f)],cellT r4 [Ls (opsA f f.length)],rnG (.sl q' 1 0 ((goalsK f i).length+1)) (goalsK f (i+1)) D'] G'→N (.sl q' 1 0 ((goalsK f i).length+1)) (I ((i+1:Nat):Int)) G')→
        J104_1 (wkK K) N (Ds f) x (.ptr r4 0) (.ptr r5 0) (.ptr r6 0) (.ptr r7 0) (Ds f) (I f.length) (I i) G2:=by
      intro N hur hN
      rw [if_pos hur] at hsucc
      (try simp (maxSteps:=1000000) (disch:=first | assumption | (apply ν6;assumption)) only [vz,vu,vv,eqS,eF_,↓c1_,↓c2_,tabs,reduceCtorEq,ι5,↓reduceIte,ν1,ν2,ν3,ν4,ν5,ι1,ι2,ι3,ι4,J104_1,e5])
      refine guessesWith_at f g ht 132 _ (goalP f i) (fun y G3 hy hle=>goals1_at g hlt hur (hle _ _ (st.get 2 rfl)) (hle _ _ (st.get 1 rfl)) (hle _ _ (st.get 3 rfl)) (hle _ _ (st.get 0 rfl)) y) fun qn G3 hqn hn=>?_
      replace st:=st.push (cellT qn _) hn hqn
      refine lit_live1 fun ql hql=>?_
      replace st:=st.cell hql [rowP qn (gw (nF f) (goalP f i))]
      generalize G3.set ql [.sl qn 1 0 (gw (nF f) (goalP f i)).length]=G4 at st ⊢
      refine rn_pushL st 4 rfl (by omega) fun q' D' G5 hq' st=>?_
      rw [← hsucc] at st
      exact hN _ _ _ st.drop.drop
    have fin:isUR f i=true→J104_1 (wkK K) (fun w3 w15 H'=>∃s':Nat×AV×List Nat×Heap,(s'.1≤f.length∧¬(s'.2.1=.p .nil)∧St H [cellT r5 [Is (tr f)],cellT r4 [Ls (opsA f f.length)],rnG s'.2.1 (goalsK f s'.1) s'.2.2.1] s'.2.2.2)∧f.length - s'.1 < f.length - i∧AV.wk w3 s'.2.1∧AV.wk w15 (I s'.1)∧Heap.le s'.2.2.2 H') (Ds f) x (.ptr r4 0) (.ptr r5 0) (.ptr r6 0) (.ptr r7 0) (Ds f) (I f.length) (I i) G2:=
      fun hur=>key _ hur fun q' D' G' st=>⟨(i+1,_,D',G'),⟨by simp only;omega,by simp,st⟩,by simp only;omega,.refl _,.refl _,Heap.le_refl _⟩
    (try simp (maxSteps:=1000000) (disch:=first | assumption | (apply ν6;assumption)) only [vz,vu,vv,eqS,eF_,↓c1_,↓c2_,tabs,reduceCtorEq,ι5,↓reduceIte,ν1,ν2,ν3,ν4,ν5,ι1,ι2,ι3,ι4,load_at (st.get 0 rfl),e5])
    refine ⟨fun h7=>⟨fun h8=>?_,fun h8=>fin (by unfold isUR;rw [h8];rfl)⟩,fun h7=>fin (by unfold isUR;rw [h7];rfl)⟩
    rw [if_neg (by unfold isUR;rw [decide_eq_false h7,decide_eq_false h8];decide)] at hsucc
    exact ⟨(i+1,x,D,G2),⟨by simp only;omega,hx,by rw [hsucc];exact st.drop.drop⟩,by simp only;omega,.refl _,.refl _,Heap.le_refl _⟩
  · have:i=f.length:=by omega
    subst this
    have hr:RN LIc 1 x (goalsK f f.length) G D:=st.get 2 rfl
    rcases hr with ⟨h2,_⟩ | hr
    · exact absurd h2 hx
    · obtain ⟨q,rfl⟩:=LRow.sl hr
      have st2:=st.sub (Us:=[rnG (.sl q 1 0 (goalsK f f.length).length) (goalsK f f.length) D]) (by simp)
      exact wkK.keep (h q G D hr (by simpa [rnT] using st2.new))
theorem autoFor_live (f:List Sd) (b:Bool) (g:GoodFm f) (ht:(tr f).length≤5) {H:Heap} {K:AV→Heap→Prop}
    (h:∀v G D,LAu (autoB f b) v G D→New H G D→K v G):CallT Tryz.prog 62 [Ds f,B b] H K:=by
  have hb:=nF_bd ht
  refine CallT.fin ?_
  refine CallT.ghost W62_hb fun z hz=>?_
  have st:=lent (LPl.local eE) (LPl.has eE) 3 ((St.nil H).cell hz []) 0 rfl
  generalize H.set z []=G at st ⊢
  refine W62_ok ?_;simp (maxSteps:=1000000) (disch:=first | assumption | (apply ν6;assumption)) only [W62,vz,vu,vv,eqS,eF_,↓c1_,↓c2_,tabs,reduceCtorEq,ι5,↓reduceIte,ν1,ν2,ν3,ν4,ν5,ι1,ι2,ι3,ι4]
  intro r4 hr4
  replace st:=st.cell hr4 [I 0,.p .nil,.p .nil,.p .nil]
  generalize G.set r4 [I 0,.p .nil,.p .nil,.p .nil]=G1 at st ⊢
  refine Pu.use (guesses_spec f g ht) ?_
  rw [nF_int]
  (try simp (maxSteps:=1000000) (disch:=first | assumption | (apply ν6;assumption)) only [vz,vu,vv,eqS,eF_,↓c1_,↓c2_,tabs,reduceCtorEq,ι5,↓reduceIte,ν1,ν2,ν3,ν4,ν5,ι1,ι2,ι3,ι4])
  refine rooted_row f b g ht fun q1 G2 hq1 hn1=>?_
  replace st:=st.push (cellT q1 _) hn1 hq1
  (try simp (maxSteps:=1000000) (disch:=first | assumption | (apply ν6;assumption)) only [vz,vu,vv,eqS,eF_,↓c1_,↓c2_,tabs,reduceCtorEq,ι5,↓reduceIte,ν1,ν2,ν3,ν4,ν5,ι1,ι2,ι3,ι4])
  refine goalsOf_row f g ht fun q3 G3 D3 hl3 hn3=>?_
  replace st:=st.push (rgT 0 _ (goalsK f f.length) D3) hn3 (.inr hl3)
  (try simp (maxSteps:=1000000) (disch:=first | assumption | (apply ν6;assumption)) only [vz,vu,vv,eqS,eF_,↓c1_,↓c2_,tabs,reduceCtorEq,ι5,↓reduceIte,ν1,ν2,ν3,ν4,ν5,ι1,ι2,ι3,ι4])
  intro r5 hr5
  replace st:=st.cell hr5 [I (nF f),rowP q1 (gw (nF f) (rooB f b)),.p .nil,.sl q3 1 0 (goalsK f f.length).length]
  generalize G3.set r5 _=G4 at st ⊢
  clear hr4 hq1 hn1 hl3 hn3 hr5
  refine L62_0_rule ((0:Nat),(.p .nil:AV),[z],G4) (fun s=>I s.1) (fun s=>s.2.2.2)
    (fun s=>s.1≤8∧St H [cellT r5 [I (nF f),rowP q1 (gw (nF f) (rooB f b)),s.2.1,.sl q3 1 0 (goalsK f f.length).length],rgT 0 (.sl q3 1 0 (goalsK f f.length).length) (goalsK f f.length) D3,cellT q1 (cP fI (gw (nF f) (rooB f b))),cellT r4 [I 0,.p .nil,.p .nil,.p .nil],reT z s.2.1 (eIs f s.1) s.2.2.1] s.2.2.2) (fun s=>8 - s.1)
    ⟨⟨by simp,st⟩,.refl _,Heap.le_refl _⟩ ?_
  clear st
  rintro ⟨l,x,D,G⟩ ⟨hl,st⟩
  dsimp only at hl st
  have hel:=eIs_len f l
  have hlm:l*nF f≤8*32:=Nat.mul_le_mul hl hb.2
  have e5:IntKind.i64.wrap ((l:Int)+1)=((l+1:Nat):Int):=by rw [i64_id (by omega) (by omega)];simp
  (try simp (maxSteps:=1000000) (disch:=first | assumption | (apply ν6;assumption)) only [vz,vu,vv,eqS,eF_,↓c1_,↓c2_,tabs,reduceCtorEq,ι5,↓reduceIte,ν1,ν2,ν3,ν4,ν5,ι1,ι2,ι3,ι4,B62_0,load_at (st.get 0 rfl)])
  refine ⟨fun h1=>?_,fun h1=>?_⟩
  · refine L62_1_rule ((0:Nat),x,D,G) (fun s=>I s.1) (fun s=>s.2.2.2)
      (fun s=>s.1≤nF f∧St H [cellT r5 [I (nF f),rowP q1 (gw (nF f) (rooB f b)),s.2.1,.sl q3 1 0 (goalsK f f.length).length],rgT 0 (.sl q3 1 0 (goalsK f f.length).length) (goalsK f f.length) D3,cellT q1 (cP fI (gw (nF f) (rooB f b))),cellT r4 [I 0,.p .nil,.p .nil,.p .nil],reT z s.2.1 (eIs f l++eI0 f l s.1) s.2.2.1] s.2.2.2) (fun s=>nF f - s.1)
      ⟨⟨by simp,by simpa [eI0] using st⟩,.refl _,Heap.le_refl _⟩ ?_
    clear st x D
    rintro ⟨n,x,D,G⟩ ⟨hn,st⟩
    dsimp only at hn st
    have e6:IntKind.i64.wrap ((n:Int)+1)=((n+1:Nat):Int):=by rw [i64_id (by omega) (by omega)];simp
    (try simp (maxSteps:=1000000) (disch:=first | assumption | (apply ν6;assumption)) only [vz,vu,vv,eqS,eF_,↓c1_,↓c2_,tabs,reduceCtorEq,ι5,↓reduceIte,ν1,ν2,ν3,ν4,ν5,ι1,ι2,ι3,ι4,B62_1,load_at (st.get 0 rfl)])
    refine ⟨fun h2=>?_,fun h2=>?_⟩
    · refine Pu.use (guessOf_spec f g l n (by omega)) ?_
      (try simp (maxSteps:=1000000) (disch:=first | assumption | (apply ν6;assumption)) only [vz,vu,vv,eqS,eF_,↓c1_,↓c2_,tabs,reduceCtorEq,ι5,↓reduceIte,ν1,ν2,ν3,ν4,ν5,ι1,ι2,ι3,ι4,load_at (st.get 0 rfl)])
      refine lit_edge (x:=edI f l n) ?_
      have hl0:=eI0_len f l n
      (try simp (maxSteps:=1000000) (disch:=first | assumption | (apply ν6;assumption)) only [vz,vu,vv,eqS,eF_,↓c1_,↓c2_,tabs,reduceCtorEq,ι5,↓reduceIte,ν1,ν2,ν3,ν4,ν5,ι1,ι2,ι3,ι4,load_at (st.get 0 rfl)])
      refine rz_appE (ys:=[edI f l n]) st 4 rfl (by simp only [List.length_cons,List.length_nil,List.length_append];omega) fun q' G' hq' st=>?_
      rw [List.append_assoc,← eI0_succ] at st ⊢
      obtain ⟨es',hes⟩:∃es',eIs f l++eI0 f l (n+1)=es':=⟨_,rfl⟩
      rw [hes] at st ⊢
      (try simp (maxSteps:=1000000) (disch:=first | assumption | (apply ν6;assumption)) only [vz,vu,vv,eqS,eF_,↓c1_,↓c2_,tabs,reduceCtorEq,ι5,↓reduceIte,ν1,ν2,ν3,ν4,ν5,ι1,ι2,ι3,ι4,store_at (st.get 0 rfl),e6])
      replace st:=st.put 0 rfl [I (nF f),rowP q1 (gw (nF f) (rooB f b)),rowE q' es',.sl q3 1 0 (goalsK f f.length).length]
      rw [← hes] at st
      exact ⟨(n+1,_,[q'],_),⟨by simp only;omega,st⟩,by simp only;omega,.refl _,by rw [hes];exact Heap.le_refl _⟩
    · have:n=nF f:=by omega
      subst this
      rw [← eIs_succ] at st
      (try simp (maxSteps:=1000000) (disch:=first | assumption | (apply ν6;assumption)) only [vz,vu,vv,eqS,eF_,↓c1_,↓c2_,tabs,reduceCtorEq,ι5,↓reduceIte,ν1,ν2,ν3,ν4,ν5,ι1,ι2,ι3,ι4,e5])
      exact ⟨(l+1,x,D,G),⟨by simp only;omega,st⟩,by simp only;omega,.refl _,Heap.le_refl _⟩
  · have:l=8:=by omega
    subst this
    refine rz_sortE st 4 rfl (by omega) fun G' st=>?_
    rw [srt_eIs ht] at st
    have hx:=RZ.sl (st.get 4 rfl:RZ (LPl eE) 3 z x _ G' D)
    (try simp (maxSteps:=1000000) (disch:=first | assumption | (apply ν6;assumption)) only [vz,vu,vv,eqS,eF_,↓c1_,↓c2_,tabs,reduceCtorEq,ι5,↓reduceIte,ν1,ν2,ν3,ν4,ν5,ι1,ι2,ι3,ι4,load_at (st.get 0 rfl),store_at (st.get 3 rfl)])
    replace st:=st.put 3 rfl [I (nF f),rowP q1 (gw (nF f) (rooB f b)),x,.sl q3 1 0 (goalsK f f.length).length]
    obtain ⟨x',y',w',hw,hl,hn⟩:=rz_auto (nF f) (owned_i st 2 rfl) 2 4 1 rfl rfl rfl (by decide) (by decide) (by decide)
    refine ⟨by rcases hx with rfl | ⟨q,rfl⟩<;>rfl,?_⟩
    exact ⟨_,_,.val hw,h _ _ _ hl hn⟩
end Go.Proofs.YtolffbcnbcjeaaaGreat
namespace Go.Proofs.YtolffbcnbcjeaaaGreat
open Go Go.Sep Go.Pt
attribute [local irreducible] CallT
def afR (f:List Sd):Au×Bool:=if goodT f then (autoB f true,true) else (zeroA,false)
theorem AutoFor_impl (f:List Sd) (hl:f.length≤1048576) {H:Heap} {K:AV→Heap→Prop} (h:∀v G D,LAu (afR f).1 v G D→New H G D→K (.tup [v,B (afR f).2]) G):CallT Tryz.prog 55 [Ds f] H K:=by
  refine CallT.fin ?_
  refine lend3 (St.nil H) W55_hb fun z1 z2 z3 G st=>?_
  refine W55_ok ?_;simp (maxSteps:=1000000) (disch:=first | assumption | (apply ν6;assumption)) only [W55,vz,vu,vv,eqS,eF_,↓c1_,↓c2_,tabs,reduceCtorEq,ι5,↓reduceIte,ν1,ν2,ν3,ν4,ν5,ι1,ι2,ι3,ι4]
  intro r hr
  replace st:=st.cell hr [I 0,.p .nil,.p .nil,.p .nil]
  generalize G.set r [I 0,.p .nil,.p .nil,.p .nil]=G at st ⊢
  refine Pu.use (isTracked_spec f hl) ?_
  cases ht:goodT f
  · have er:afR f=(zeroA,false):=by simp [afR,ht]
    rw [er] at h
    (try simp (maxSteps:=1000000) (disch:=first | assumption | (apply ν6;assumption)) only [vz,vu,vv,eqS,eF_,↓c1_,↓c2_,tabs,reduceCtorEq,ι5,↓reduceIte,ν1,ν2,ν3,ν4,ν5,ι1,ι2,ι3,ι4,store_at (st.get 0 rfl)])
    exact zero_st (st.put 0 rfl [I 0,.p .nil,.p .nil,.p .nil]) 1 2 3 rfl rfl rfl (by decide) (by decide) (by decide) h
  obtain ⟨g,h5⟩:=goodT_facts ht
  have er:afR f=(autoB f true,true):=by simp [afR,ht]
  rw [er] at h
  (try simp (maxSteps:=1000000) (disch:=first | assumption | (apply ν6;assumption)) only [vz,vu,vv,eqS,eF_,↓c1_,↓c2_,tabs,reduceCtorEq,ι5,↓reduceIte,ν1,ν2,ν3,ν4,ν5,ι1,ι2,ι3,ι4])
  refine autoFor_live f true g h5 fun v G1 D lv nv=>?_
  have hsm:=autoB_sm (b:=true) h5
  have hgo:=autoB_good (b:=true) h5
  dsimp only at h
  generalize autoB f true=a at h lv hsm hgo
  replace st:=st.push (auT a v D) nv lv
  refine checkedAuto_live (o:=a) (st.get 0 rfl) (st.ndT 0 rfl) hsm (fun _=>?_) (fun hg=>by rw [hgo] at hg;cases hg)
  obtain ⟨o1,o2,o3,rfl⟩:=aAu_cells lv
  (try simp (maxSteps:=1000000) (disch:=first | assumption | (apply ν6;assumption)) only [vz,vu,vv,eqS,eF_,↓c1_,↓c2_,tabs,reduceCtorEq,ι5,↓reduceIte,ν1,ν2,ν3,ν4,ν5,ι1,ι2,ι3,ι4,store_at (st.get 1 rfl)])
  obtain ⟨hl,hn⟩:=au_new (st.put 1 rfl [I a.states,.sl o1 1 0 a.first.length,.sl o2 3 0 a.edges.length,.sl o3 1 0 a.goals.length]) 0 rfl
  exact wkK.keep (h _ _ _ hl hn)
theorem l13Goals_spec (f:List Sd) (g:GoodFm f) (ht:(tr f).length≤5):Pu Tryz.prog 93 [Ds f,Is (tr f)] (Ls (goalsK f f.length)):=by
  have hl:=g.l1
  have hb:=nF_bd ht
  refine ⟨fun H=>CallT.fin ?_⟩
  refine W93_ok ?_;simp (maxSteps:=1000000) (disch:=first | assumption | (apply ν6;assumption)) only [W93,vz,vu,vv,eqS,eF_,↓c1_,↓c2_,tabs,reduceCtorEq,ι5,↓reduceIte,ν1,ν2,ν3,ν4,ν5,ι1,ι2,ι3,ι4]
  have st:=(St.nil H).push (rnG (.p .nil) [] []) (G':=H) ⟨by simp [rnT],fun y hy=>by simp [rnT] at hy,Heap.le_refl _⟩ (.inl ⟨rfl,rfl,rfl⟩)
  refine L93_0_ruleG ((0:Nat),(.p .nil:AV),([]:List Nat),H) (fun s=>s.2.1) (fun s=>I s.1) (fun s=>s.2.2.2)
    (fun s=>s.1≤f.length∧St H [rnG s.2.1 (goalsK f s.1) s.2.2.1] s.2.2.2) (fun s=>f.length - s.1)
    ⟨⟨by simp,st⟩,.refl _,.refl _,Heap.le_refl _⟩ ?_
  clear st
  rintro ⟨i,x,D,G⟩ ⟨hi,st⟩ z hz
  dsimp only at hi st hz ⊢
  replace st:=st.cell hz (cP fI [])
  change St H (cellT z (cP fI [])::_) (G.set z []) at st
  generalize G.set z []=G at st ⊢
  have e5:IntKind.i64.wrap ((i:Int)+1)=((i+1:Nat):Int):=by rw [i64_id (by omega) (by omega)];simp
  have e6:IntKind.i64.wrap ((i:Int) - 1)=(i:Int) - 1:=i64_id (by omega) (by omega)
  (try simp (maxSteps:=1000000) (disch:=first | assumption | (apply ν6;assumption)) only [vz,vu,vv,eqS,eF_,↓c1_,↓c2_,tabs,reduceCtorEq,ι5,↓reduceIte,ν1,ν2,ν3,ν4,ν5,ι1,ι2,ι3,ι4,B93_0])
  refine ⟨fun h1=>⟨by omega,h1,?_⟩,fun h1=>?_⟩
  · have hlt:i < f.length:=by omega
    have hsucc:=goalsK_succ f i
    have hgl:=goalsK_len f i
    have hur:isUR f i=(decide ((f.getD i default).op=7) || decide ((f.getD i default).op=8)):=rfl
    have hgp:∀y,goalP f i y=((decide ((f.getD i default).op=7) && (!saysF (tr f) y i || saysF (tr f) y ((i:Int) - 1))) || (decide ((f.getD i default).op=8) && (saysF (tr f) y i || !saysF (tr f) y ((i:Int) - 1)))):=fun y=>rfl
    generalize f.getD i default=y at hur hgp ⊢
    intro r7 hr7
    replace st:=st.cell hr7 [I y.op,I y.n]
    generalize G.set r7 [I y.op,I y.n]=G2 at st ⊢
    clear hr7
    have htl:(tr f).length≤1000:=by omega
    have eu:IntKind.u64.wrap ((tr f).length:Int)=(tr f).length:=by rw [IntKind.wrap_u64];omega
    have hN:=nF_int f
    have ew:IntKind.i64.wrap (1*2^(min (tr f).length IntKind.i64.bits))=(nF f:Int):=by
      rw [Nat.min_eq_left (by show (tr f).length≤64;omega),Int.one_mul,hN,i64_id (by omega) (by omega)]
    have key:∀N:AV→AV→Heap→Prop,y.op=7∨y.op=8→(∀q' D' G',St H [rnG (.sl q' 1 0 ((goalsK f i).length+1)) (goalsK f (i+1)) D'] G'→N (.sl q' 1 0 ((goalsK f i).length+1)) (I ((i+1:Nat):Int)) G')→
        L93_1 (wkK fun r H'=>r=Ls (goalsK f f.length)∧H'=H) N (Is (tr f)) x (I i) (.ptr r7 0) (.p .nil) (I 0) (Ds f) (I f.length) (I i) G2:=by
      intro N hop hN
      rw [if_pos (by rw [hur,Bool.or_eq_true,decide_eq_true_eq,decide_eq_true_eq];exact hop)] at hsucc
      generalize y.op=o at hop st hur hgp
      refine L93_1_rule ((0:Nat),z,G2) (fun s=>rowP s.2.1 (gw s.1 (goalP f i))) (fun s=>I s.1) (fun s=>s.2.2)
        (fun s=>s.1≤nF f∧St H [cellT r7 [I o,I y.n],cellT s.2.1 (cP fI (gw s.1 (goalP f i))),rnG x (goalsK f i) D] s.2.2) (fun s=>nF f - s.1) ⟨⟨by simp,st⟩,.nilo _ _ _,.refl _,Heap.le_refl _⟩ ?_
      clear st
      rintro ⟨n,q,G⟩ ⟨hn,st⟩
      dsimp only at hn st
      have e7:IntKind.i64.wrap ((n:Int)+1)=((n+1:Nat):Int):=by rw [i64_id (by omega) (by omega)];simp
      have hq:=gw_succ n (goalP f i)
      have hql:=gw_len n (goalP f i)
      rw [hgp n] at hq
      have yes:∀N2:AV→AV→Heap→Prop,(∀q' G',St H [cellT r7 [I o,I y.n],cellT q' (cP fI (gw n (goalP f i)++[(n:Int)])),rnG x (goalsK f i) D] G'→N2 (rowP q' (gw n (goalP f i)++[(n:Int)])) (I ((n+1:Nat):Int)) G')→
          J93_2 (wkK fun r H'=>r=Ls (goalsK f f.length)∧H'=H) N N2 (Is (tr f)) x (I i) (.ptr r7 0) (rowP q (gw n (goalP f i))) (I n) (Ds f) (I f.length) (I i) G:=by
        intro N2 h2
        (try simp (maxSteps:=1000000) (disch:=first | assumption | (apply ν6;assumption)) only [vz,vu,vv,eqS,eF_,↓c1_,↓c2_,tabs,reduceCtorEq,ι5,↓reduceIte,ν1,ν2,ν3,ν4,ν5,ι1,ι2,ι3,ι4,J93_2,e7])
        refine lit1 tab_22 rfl tab_3 ⟨rfl,rfl⟩ ?_
        exact st_appI (ys:=[(n:Int)]) st 1 rfl (by simp only [List.length_singleton];omega) fun q' G' hq' st=>h2 _ _ st
      (try simp (maxSteps:=1000000) (disch:=first | assumption | (apply ν6;assumption)) only [vz,vu,vv,eqS,eF_,↓c1_,↓c2_,tabs,reduceCtorEq,ι5,↓reduceIte,ν1,ν2,ν3,ν4,ν5,ι1,ι2,ι3,ι4,B93_1,eu,Int.toNat_natCast,ew])
      refine ⟨by omega,fun h2=>?_,fun h2=>?_⟩
      · refine Pu.use (l13Says_spec (tr f) n i htl) ?_
        (try simp (maxSteps:=1000000) (disch:=first | assumption | (apply ν6;assumption)) only [vz,vu,vv,eqS,eF_,↓c1_,↓c2_,tabs,reduceCtorEq,ι5,↓reduceIte,ν1,ν2,ν3,ν4,ν5,ι1,ι2,ι3,ι4,e6])
        refine Pu.use (l13Says_spec (tr f) n ((i:Int) - 1) htl) ?_
        generalize saysF (tr f) n i=own at hq ⊢
        generalize saysF (tr f) n ((i:Int) - 1)=sec at hq ⊢
        have ok:gw (n+1) (goalP f i)=gw n (goalP f i)++[(n:Int)]→∀(q':Nat) (G':Heap),St H [cellT r7 [I o,I y.n],cellT q' (cP fI (gw n (goalP f i)++[(n:Int)])),rnG x (goalsK f i) D] G'→∃s':Nat×Nat×Heap,(s'.1≤nF f∧St H [cellT r7 [I o,I y.n],cellT s'.2.1 (cP fI (gw s'.1 (goalP f i))),rnG x (goalsK f i) D] s'.2.2)∧nF f - s'.1 < nF f - n∧AV.wk (rowP q' (gw n (goalP f i)++[(n:Int)])) (rowP s'.2.1 (gw s'.1 (goalP f i)))∧AV.wk (I ((n+1:Nat):Int)) (I s'.1)∧Heap.le s'.2.2 G':=fun e q' G' st=>by
          rw [← e] at st ⊢
          exact ⟨(n+1,q',G'),⟨by simp only;omega,st⟩,by simp only;omega,.refl _,.refl _,Heap.le_refl _⟩
        have no:gw (n+1) (goalP f i)=gw n (goalP f i)→∃s':Nat×Nat×Heap,(s'.1≤nF f∧St H [cellT r7 [I o,I y.n],cellT s'.2.1 (cP fI (gw s'.1 (goalP f i))),rnG x (goalsK f i) D] s'.2.2)∧nF f - s'.1 < nF f - n∧AV.wk (rowP q (gw n (goalP f i))) (rowP s'.2.1 (gw s'.1 (goalP f i)))∧AV.wk (I ((n+1:Nat):Int)) (I s'.1)∧Heap.le s'.2.2 G:=fun e=>
          ⟨(n+1,q,G),⟨by simp only;omega,by rw [e];exact st⟩,by simp only;omega,by rw [e];exact .refl _,.refl _,Heap.le_refl _⟩
        clear hur hgp
        have e78:((7:Int)=8)=False:=by simp
        have e87:((8:Int)=7)=False:=by simp
        rcases hop with rfl | rfl<;>cases own<;>cases sec<;>((try simp (maxSteps:=1000000) (disch:=first | assumption | (apply ν6;assumption)) only [vz,vu,vv,eqS,eF_,↓c1_,↓c2_,tabs,reduceCtorEq,ι5,↓reduceIte,ν1,ν2,ν3,ν4,ν5,ι1,ι2,ι3,ι4,e78,e87,load_at (st.get 0 rfl),J93_3,e7]))
        · exact yes _ (ok (hq.trans (if_pos rfl)))
        · exact yes _ (ok (hq.trans (if_pos rfl)))
        · exact no (hq.trans (if_neg (by decide)))
        · exact yes _ (ok (hq.trans (if_pos rfl)))
        · refine lit1 tab_22 rfl tab_3 ⟨rfl,rfl⟩ ?_
          exact st_appI (ys:=[(n:Int)]) st 1 rfl (by simp only [List.length_singleton];omega) fun q' G' hq' st=>ok (hq.trans (if_pos rfl)) _ _ st
        · exact no (hq.trans (if_neg (by decide)))
        · exact yes _ (ok (hq.trans (if_pos rfl)))
        · exact yes _ (ok (hq.trans (if_pos rfl)))
      · have:n=nF f:=by omega
        subst this
        clear yes
        (try simp (maxSteps:=1000000) (disch:=first | assumption | (apply ν6;assumption)) only [vz,vu,vv,eqS,eF_,↓c1_,↓c2_,tabs,reduceCtorEq,ι5,↓reduceIte,ν1,ν2,ν3,ν4,ν5,ι1,ι2,ι3,ι4,e5])
        refine lit_live1 fun ql hql=>?_
        replace st:=st.drop.cell hql [rowP q (gw (nF f) (goalP f i))]
        generalize G.set ql [.sl q 1 0 (gw (nF f) (goalP f i)).length]=G4 at st ⊢
        refine rn_pushL st 0 rfl (by omega) fun q' D' G5 hq' st=>?_
        rw [← hsucc] at st
        exact hN _ _ _ st
    have fin:y.op=7∨y.op=8→L93_1 (wkK fun r H'=>r=Ls (goalsK f f.length)∧H'=H) (fun w5 w14 H'=>∃s':Nat×AV×List Nat×Heap,(s'.1≤f.length∧St H [rnG s'.2.1 (goalsK f s'.1) s'.2.2.1] s'.2.2.2)∧f.length - s'.1 < f.length - i∧AV.wk w5 s'.2.1∧AV.wk w14 (I s'.1)∧Heap.le s'.2.2.2 H') (Is (tr f)) x (I i) (.ptr r7 0) (.p .nil) (I 0) (Ds f) (I f.length) (I i) G2:=
      fun hop=>key _ hop fun q' D' G' st=>⟨(i+1,_,D',G'),⟨by simp only;omega,st⟩,by simp only;omega,.refl _,.refl _,Heap.le_refl _⟩
    (try simp (maxSteps:=1000000) (disch:=first | assumption | (apply ν6;assumption)) only [vz,vu,vv,eqS,eF_,↓c1_,↓c2_,tabs,reduceCtorEq,ι5,↓reduceIte,ν1,ν2,ν3,ν4,ν5,ι1,ι2,ι3,ι4,load_at (st.get 0 rfl),e5])
    refine ⟨fun h7=>⟨fun h8=>?_,fun h8=>fin (.inr h8)⟩,fun h7=>fin (.inl h7)⟩
    rw [if_neg (by rw [hur,decide_eq_false h7,decide_eq_false h8];decide)] at hsucc
    exact ⟨(i+1,x,D,G2),⟨by simp only;omega,by rw [hsucc];exact st.drop.drop⟩,by simp only;omega,.refl _,.refl _,Heap.le_refl _⟩
  · have:i=f.length:=by omega
    subst this
    exact fin_rows st 1 rfl
theorem fin_au {H G:Heap} {Ts:List Th} {z1 z2:Nat} {x y:AV} {l:List Int} {es:List Ed} {gs:List (List Int)} {D1 D2:List Nat} {n:Int} (s:St H Ts G) (i j:Nat) (hi:Ts[i]?=some (riT z1 x l D1)) (hj:Ts[j]?=some (reT z2 y es D2)) (hij:i≠j) :
    wkK (fun r H'=>r=.agg [I n,Is l,Es es,Ls gs]∧H'=H) (.agg [I n,x,y,Ls gs]) G:=by
  obtain ⟨x',hx,lx⟩:=(s.get i hi:RZ (LPl eI) 1 z1 x l G D1).row
  obtain ⟨y',hy,ly⟩:=(s.get j hj:RZ (LPl eE) 3 z2 y es G D2).row
  obtain ⟨q1,c1,E1,rfl,hq1,ll1,rfl⟩:=lx
  obtain ⟨q2,c2,E2,rfl,hq2,ll2,rfl⟩:=ly
  obtain ⟨rfl,rfl⟩:=LL.plain' ll1
  obtain ⟨rfl,rfl⟩:=LL.plain' ll2
  have hne:q2≠q1:=fun e=>s.disjI i j hi hj hij q1 (by simp [rzT]) (by simp [rzT,e])
  have f1:FrzR q1 1 (l.map eI) (.agg [I n,.sl q1 1 0 l.length,.sl q2 3 0 es.length,Ls gs]) (.agg [I n,Is l,.sl q2 3 0 es.length,Ls gs]):=by
    have:FrzR q1 1 (l.map eI) (.sl q1 1 0 (l.map eI).length) (.p (.sl (l.map eI))):=.here
    rw [List.length_map] at this
    exact .agg (.cons (.same _) (.cons this (.cons (.same _) (.cons (.same _) .nil))))
  have f2:FrzR q2 3 (es.map eE) (.agg [I n,Is l,.sl q2 3 0 es.length,Ls gs]) (.agg [I n,Is l,Es es,Ls gs]):=by
    have:FrzR q2 3 (es.map eE) (.sl q2 3 0 (es.map eE).length) (.p (.sl (es.map eE))):=.here
    rw [List.length_map] at this
    exact .agg (.cons (.same _) (.cons (.same _) (.cons this (.cons (.same _) .nil))))
  have w1:Wk (.agg [I n,x,y,Ls gs]) G (.agg [I n,.sl q1 1 0 l.length,.sl q2 3 0 es.length,Ls gs]) G:=.val (wk_agg ⟨.refl _,hx,hy,.refl _,trivial⟩)
  have w2:=Wk.frz (sz:=1) (by omega) hq1 (sized_map (f:=eI) (fun _=>rfl) l) f1
  have w3:=Wk.frz (H:=G.del q1) (sz:=3) (by omega) (by rw [Heap.del_other hne];exact hq2) (szE es) f2
  refine ⟨_,_,.trans w1 (.trans w2 (.trans w3 (.forget (H':=H) fun y b hb=>?_))),rfl,rfl⟩
  have n1:y≠q1:=fun e=>by have:=s.fr _ (List.mem_of_getElem? hi) q1 (by simp [rzT]);rw [← e,hb] at this;cases this
  have n2:y≠q2:=fun e=>by have:=s.fr _ (List.mem_of_getElem? hj) q2 (by simp [rzT]);rw [← e,hb] at this;cases this
  rw [Heap.del_other n2,Heap.del_other n1]
  exact s.le y b hb
end Go.Proofs.YtolffbcnbcjeaaaGreat
