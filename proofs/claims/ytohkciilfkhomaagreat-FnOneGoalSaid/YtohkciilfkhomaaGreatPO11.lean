/- Texts laid together: Tg12 Mg2 Tg13 Tp7 Lf1 Ql1 Ql2 Mk0 Mk1 Mk2 Tv1 Tv2 Tv3. -/
import Derived.Test.YtohkciilfkhomaaGreatPO10
set_option linter.unusedVariables false
set_option linter.unusedSimpArgs false
open Go.Sep.AV renaming any → Q_
open Nat renaming reduceAdd→Y1,reduceLeDiff→Y2,reduceLT→Y3,reduceMul→Y4,reduceSub→Y5
open Int renaming reduceToNat→X1,reduceSub→X2,reduceAdd→X3,reduceNeg→X4
open Array renaming toList→X5
open Ne renaming symm→Y6
open List renaming forall_mem_cons→Y7
namespace Go.Proofs.YtohkciilfkhomaaGreat
open Go Go.Sep Go.Pt
attribute [local irreducible] a_a
theorem d_t {g:List (List Nat)} (hg:GrB g):GrB (a_G g):=by
 have ht:=c_L hg.gr
 refine ⟨?_,by rw [a_L];exact hg.n,?_⟩
 ·intro l hl x hx
  obtain ⟨v,_,rfl⟩:=List.mem_map.1 hl
  rw [a_L]
  exact ht.lt v x hx
 ·rw [e_i,a_L,c_j hg.gr]
  have e:e_J (rwF g) g.length=b_N (prT g g.length 0):=by funext w;exact (prT_turn g w).symm
  rw [e,sumN_rows (prT_lt hg.gr)]
  exact hg.arcs
theorem inG_B {g:List (List Nat)} (hg:GrB g):GrB (inG g):=by
 refine ⟨?_,by rw [b_d];exact hg.n,?_⟩
 ·intro l hl x hx
  obtain ⟨v,_,rfl⟩:=List.mem_map.1 hl
  rw [b_d]
  exact hg.gr.lt v x (b_s.1 hx).1
 ·rw [e_i,b_d,f_S hg]
  refine Nat.le_trans (sumN_mono fun v=>?_) (by rw [← e_i];exact hg.arcs)
  rw [inF_cB];exact List.length_filter_le _ _
theorem st_appL {H G:Heap} {Ts:List Th} {q:Nat} {xs:List Int} (s:St H Ts G) (i:Nat) (hi:Ts[i]?=some (cT_ q (cP fI xs))) {q2 off n:Nat} {l:List Int} (hq2:G q2=some (cP fI l)) (hb:off+n≤l.length) (hl:xs.length+n≤1000000) {K:k_}
  (h:∀q' G',G q'=none→St H (Ts.set i (cT_ q' (cP fI (xs++(l.drop off).take n)))) G'→K (rowP q' (xs++(l.drop off).take n)) G'):aP_ tab 24 24 (rowP q xs) (.sl q2 1 off n) G (wkK K):=by
 have hq:G q=some (cP fI xs):=s.get i hi
 simp only [aP_,a_g,a_u,srcV,c_s,hq,hq2]
 have e1:List.take (n*1) (List.drop off (cP fI l))=cP fI ((l.drop off).take n):=by rw [Nat.mul_one,cP,← List.map_drop,← List.map_take]
 have e3:List.take (xs.length*1) (List.drop 0 (cP fI xs))=cP fI xs:=by rw [List.drop_zero,Nat.mul_one];exact List.take_of_length_le (by rw [a_R];exact Nat.le_refl _)
 rw [e1,e3,a_R,a_R]
 refine ⟨trivial,by omega,trivial,by omega,by omega,by omega,cP_all _,fun r' hr'=>wkK.keep ?_⟩
 have hl2:((l.drop off).take n).length=n:=by rw [List.length_take,List.length_drop];omega
 have:=h r' _ hr' (s.moved i hi hr')
 rw [rowP,List.length_append,hl2,d_A] at this
 exact this
theorem ownF_eq (row:Nat→List Nat) (m:Nat) (l:List Nat):ownF row m l=l.filter fun v=>decide (a_n (aO_ row) v=a_n (aO_ row) m):=by
 unfold ownF
 apply List.filter_congr
 intro v _
 rw [decide_eq_decide]
 exact ⟨fun h=>b_L.2 h.symm,fun h=>(b_L.1 h).symm⟩
noncomputable def laS (row:Nat→List Nat) (n:Nat) (some:List Nat) (goals:List (List Nat)):List Nat:=if b_S row n some goals < 0 then [] else stemF row n (b_S row n some goals).toNat some
noncomputable def laL (row:Nat→List Nat) (n:Nat) (some:List Nat) (goals:List (List Nat)):List Nat:=if b_S row n some goals < 0 then [] else ringF row n (b_S row n some goals).toNat goals
noncomputable def laB (row:Nat→List Nat) (n:Nat) (some:List Nat) (goals:List (List Nat)):Bool:=!decide (b_S row n some goals < 0)
noncomputable def e_o (row:Nat→List Nat) (n:Nat) (some:List Nat) (goals:List (List Nat)):AV:=.tup [Is (nI (laS row n some goals)),Is (nI (laL row n some goals)),B (laB row n some goals)]
theorem f_T (g:List (List Nat)) (hg:GrB g) (some:List Nat) (hs:∀v∈some,v < g.length) (hsl:some.length≤100000) (goals:List (List Nat)) (b:Nat) (hgo:GoB goals g.length) (hgb:∀l∈goals,l.length≤b) (hB:(goals.length+1)*(g.length+b+2)≤800000) :
  Pu Tryz.prog 36 [Ls (gI g),Is (nI some),Ls (gI goals)] (e_o (rwF g) g.length some goals):=by
 refine ⟨fun H=>a_a.fin ?_⟩
 have hn:=hg.n
 have hg2:=d_t hg
 have hgi:=inG_B hg
 have hgi2:=d_t hgi
 have hgl:=a_J g
 have hol:=a_J goals
 have hon:=hgo.len
 have hfl:=b_Z (a_s (rwF g) goals) g.length
 have hfn:=nL_ ((List.range g.length).filter (a_s (rwF g) goals))
 refine W36_ok ?_;simp (maxSteps:=1000000) (disch:=first|assumption|apply Y6;assumption) only [W36,vz,vu,vv,eqS,eF_,↓c1_,↓c2_,tabs,reduceCtorEq,X5,↓reduceIte,Y1,Y2,Y3,Y4,Y5,X1,X2,X3,X4,hfn]
 refine Pu.use (d_a g hg some hs hsl) ?_
 refine Pu.use (c_l g hg hg2 goals hgo) ?_
 have hmeet:a_v (farF (rwF g) g.length some) ((List.range g.length).filter (a_s (rwF g) goals))=b_S (rwF g) g.length some goals:=rfl
 have hfm:∀v∈(List.range g.length).filter (a_s (rwF g) goals),v < g.length:=fun v hv=>List.mem_range.1 (List.mem_filter.1 hv).1
 have hml:=a_f (farF (rwF g) g.length some) g.length
 have hmg:=fun v (h:v < g.length)=>a_P (farF (rwF g) g.length some) h
 have hbc:=a_8 (farF (rwF g) g.length some)
 generalize farF (rwF g) g.length some=far at hmeet hml hmg hbc
 generalize (List.range g.length).filter (a_s (rwF g) goals)=fl at hmeet hfl hfn hfm
 (try simp (disch:=first|assumption|apply Y6;assumption) only [vz,vu,vv,eqS,eF_,↓c1_,↓c2_,tabs,reduceCtorEq,X5,↓reduceIte,Y1,Y2,Y3,Y4,Y5,X1,X2,X3,X4,hfn])
 refine L36_0_rule (0:Nat) (fun k=>I (a_v far (fl.take k))) (fun k=>I k) (fun _=>H) (fun k=>k≤fl.length) (fun k=>fl.length - k) ⟨by simp,.refl _,.refl _,Heap.le_refl _⟩ ?_
 intro k hk
 have e5:IntKind.i64.wrap ((k:Int)+1)=((k+1:Nat):Int):=by rw [i6_ (by omega) (by omega)];simp
 (try simp (disch:=first|assumption|apply Y6;assumption) only [vz,vu,vv,eqS,eF_,↓c1_,↓c2_,tabs,reduceCtorEq,X5,↓reduceIte,Y1,Y2,Y3,Y4,Y5,X1,X2,X3,X4,B36_0,hfn,hml,e5])
 refine ⟨fun h1=>?_,fun h1=>?_⟩
 ·have hlt:k < fl.length:=by omega
  refine ⟨by omega,h1,?_⟩
  rw [a_D hlt,Int.toNat_natCast]
  have hv:=hfm (fl.getD k 0) (by simp [List.getD,hlt])
  have hsc:a_v far (fl.take (k+1))=b_3 far (a_v far (fl.take k)) (fl.getD k 0):=by
   rw [tS_ hlt,c_p];rfl
  have hbk:a_v far (fl.take k) < 0∨a_v far (fl.take k) < g.length:=by
   rcases hbc (fl.take k) with ⟨e,_⟩ | ⟨u,hu,e,_⟩
   ·omega
   ·have:=hfm u (List.mem_of_mem_take hu)
    omega
  generalize fl.getD k 0=w at hv hsc ⊢
  generalize a_v far (fl.take k)=mk at hsc hbk ⊢
  have yes:a_v far (fl.take (k+1))=(w:Int)→∃s':Nat,s'≤fl.length∧fl.length - s' < fl.length - k∧(I (w:Int)).wk (I (a_v far (fl.take s')))∧(I ((k+1:Nat):Int)).wk (I s'):=
   fun h=>⟨k+1,by omega,by omega,by rw [h];exact .refl _,.refl _⟩
  have no:a_v far (fl.take (k+1))=mk→∃s':Nat,s'≤fl.length∧fl.length - s' < fl.length - k∧(I mk).wk (I (a_v far (fl.take s')))∧(I ((k+1:Nat):Int)).wk (I s'):=
   fun h=>⟨k+1,by omega,by omega,by rw [h];exact .refl _,.refl _⟩
  rw [hmg w hv]
  have hp:¬mk < 0→0≤mk∧mk < g.length∧mk.toNat < g.length:=by clear yes no;omega
  refine ⟨by clear yes no;omega,by clear yes no;omega,fun h3=>⟨fun h4=>?_,fun h4=>⟨by clear yes no;omega,by clear yes no;omega,(hp h4).1,(hp h4).2.1,?_⟩⟩,fun h3=>?_⟩
  ·exact yes (by rw [hsc,b_3,if_pos ⟨h3,.inl h4⟩])
  ·rw [hmg mk.toNat (hp h4).2.2]
   refine ⟨fun h5=>yes ?_,fun h5=>no ?_⟩
   ·rw [hsc,b_3,if_pos ⟨h3,.inr h5⟩]
   ·rw [hsc,b_3,if_neg (fun h=>h5 (h.2.resolve_left h4))]
  ·exact no (by rw [hsc,b_3,if_neg (fun h=>h3 h.1)])
 ·have:k=fl.length:=by omega
  subst this
  rw [List.take_length,hmeet]
  clear hmeet hbc hmg hml hfm hfl hfn e5
  refine ⟨fun h2=>?_,fun h2=>?_⟩
  ·have e:e_o (rwF g) g.length some goals=.tup [Is [],Is [],B false]:=by
    rw [e_o,laS,laL,laB,if_pos h2,if_pos h2,decide_eq_true h2];rfl
   rw [e]
   exact ⟨_,_,.val (v':=.tup [Is [],Is [],B false]) (a_W ⟨.nil,.nil,.refl _,trivial⟩),rfl,rfl⟩
  ·obtain ⟨m,em,hm,hfair,hreach⟩:=e_f hg.gr hs h2
   have e:e_o (rwF g) g.length some goals=.tup [Is (nI (stemF (rwF g) g.length m some)),Is (nI (ringF (rwF g) g.length m goals)),B true]:=by
    rw [e_o,laS,laL,laB,if_neg h2,if_neg h2,em,Int.toNat_natCast,decide_eq_false (by omega)];rfl
   rw [e,em]
   obtain ⟨FL,hsl2,hrl2,hbst,hpos⟩:=d_q (b:=b) hg.gr hm hfair (fun l hl=>⟨hgo.lt l hl,hgb l hl⟩) hreach
   have hinv:=e_h (b:=b) hg.gr hm hfair (fun l hl=>⟨hgo.lt l hl,hgb l hl⟩)
   refine lit1 a_g rfl a_u ⟨rfl,rfl⟩ ?_
   have hmo:∀v∈[m],v < g.length:=fun v hv=>by rw [List.mem_singleton.1 hv];exact hm
   refine Pu.use (d_B g hg hg2 some [m] hs (by omega) hmo (by simp)) ?_
   unfold wayV
   (try simp (disch:=first|assumption|apply Y6;assumption) only [vz,vu,vv,eqS,eF_,↓c1_,↓c2_,tabs,reduceCtorEq,X5,↓reduceIte,Y1,Y2,Y3,Y4,Y5,X1,X2,X3,X4])
   refine Pu.use (c_9 g hg hg2) ?_
   refine Pu.use (e_m g hg) ?_
   refine lit_row fun q hq=>?_
   have st:St H [cT_ q (cP fI (nI [m]))] (H.set q (cP fI [(m:Int)])):=(St.nil H).cell hq _
   generalize H.set q (cP fI [(m:Int)])=G at st ⊢
   have hpl:=d_Q g
   have hpg:=fun v (h:v < g.length)=>d_R h
   have hil:=b_d g
   have hirow:=f_S hg
   have hilg:=a_J (inG g)
   rw [hil] at hilg
   have hst:nI (stemF (rwF g) g.length m some)=(nI (b_h (rwF g) g.length some [m])).take ((nI (b_h (rwF g) g.length some [m])).length - 1):=by
    rw [f_P,nL_,stemF,List.dropLast_eq_take]
   rw [hst]
   have hstl:(nI (b_h (rwF g) g.length some [m])).length=(b_h (rwF g) g.length some [m]).length:=nL_ _
   have hlwl:(b_h (rwF g) g.length some [m]).length≤g.length+2:=(b_M hg.gr hmo hbst).2
   generalize nI (b_h (rwF g) g.length some [m])=stm at hstl ⊢
   (try simp (disch:=first|assumption|apply Y6;assumption) only [vz,vu,vv,eqS,eF_,↓c1_,↓c2_,tabs,reduceCtorEq,X5,↓reduceIte,Y1,Y2,Y3,Y4,Y5,X1,X2,X3,X4,hol])
   clear hq
   have e0:a_w (rwF g) g.length m (goals.take 0)=[m]:=rfl
   refine L36_1_rule ((0:Nat),q,G) (fun z=>rowP z.2.1 (nI (a_w (rwF g) g.length m (goals.take z.1)))) (fun z=>I z.1) (fun z=>z.2.2) (fun z=>z.1≤goals.length∧St H [cT_ z.2.1 (cP fI (nI (a_w (rwF g) g.length m (goals.take z.1))))] z.2.2) (fun z=>goals.length - z.1)
    ⟨⟨by simp,st⟩,.refl _,.refl _,Heap.le_refl _⟩ ?_
   clear st q G
   rintro ⟨t,q,G⟩ ⟨ht,st⟩
   dsimp only at ht st
   have hli:=hinv t ht
   have hll:=hli.len
   have hlast:=hli.last
   have hne:=hli.ne
   have hmul:(goals.take t).length*(g.length+b)≤goals.length*(g.length+b):=Nat.mul_le_mul_right _ (by rw [List.length_take];omega)
   have hB2:(goals.length+1)*(g.length+b+2)=goals.length*(g.length+b)+goals.length*2+(g.length+b+2):=by rw [Nat.add_mul,Nat.one_mul,Nat.mul_add]
   have e5:IntKind.i64.wrap ((t:Int)+1)=((t+1:Nat):Int):=by rw [i6_ (by omega) (by omega)];simp
   generalize hacc:a_w (rwF g) g.length m (goals.take t)=acc at st hli hll hlast hne
   have hal:(nI acc).length=acc.length:=nL_ acc
   simp only [hacc]
   (try simp (disch:=first|assumption|apply Y6;assumption) only [vz,vu,vv,eqS,eF_,↓c1_,↓c2_,tabs,reduceCtorEq,X5,↓reduceIte,Y1,Y2,Y3,Y4,Y5,X1,X2,X3,X4,B36_1,hol,hal])
   refine ⟨fun h3=>?_,fun h3=>?_⟩
   ·have hlt:t < goals.length:=by omega
    refine ⟨by omega,h3,?_⟩
    rw [b_b hlt]
    obtain ⟨hsz,hxlt⟩:=hgo.get hlt
    have hnl:=nL_ (rwF goals t)
    have hmem:rwF goals t∈goals:=by simp [rwF,List.getD,hlt]
    (try simp (disch:=first|assumption|apply Y6;assumption) only [vz,vu,vv,eqS,eF_,↓c1_,↓c2_,tabs,reduceCtorEq,X5,↓reduceIte,Y1,Y2,Y3,Y4,Y5,X1,X2,X3,X4,hnl])
    have st:=st.push (rnI (.p .nil) (nI (((rwF goals t).take 0).filter fun v=>decide (a_n (aO_ (rwF g)) v=a_n (aO_ (rwF g)) m))) []) ⟨.nil,fun y hy=>(by cases hy),Heap.le_refl _⟩ (.inl ⟨rfl,rfl,rfl⟩)
    refine L36_2_rule ((0:Nat),(.p .nil:AV),([]:List Nat),G) (fun z=>z.2.1) (fun z=>I z.1) (fun z=>z.2.2.2)
     (fun z=>z.1≤(rwF goals t).length∧St H [rnI z.2.1 (nI (((rwF goals t).take z.1).filter fun v=>decide (a_n (aO_ (rwF g)) v=a_n (aO_ (rwF g)) m))) z.2.2.1,cT_ q (cP fI (nI acc))] z.2.2.2) (fun z=>(rwF goals t).length - z.1)
     ⟨⟨by simp,st⟩,.refl _,.refl _,Heap.le_refl _⟩ ?_
    clear st
    rintro ⟨j,x,D,G⟩ ⟨hj,st⟩
    dsimp only at hj st
    have e6:IntKind.i64.wrap ((j:Int)+1)=((j+1:Nat):Int):=by rw [i6_ (by omega) (by omega)];simp
    have hpm:=hpg m hm
    (try simp (disch:=first|assumption|apply Y6;assumption) only [vz,vu,vv,eqS,eF_,↓c1_,↓c2_,tabs,reduceCtorEq,X5,↓reduceIte,Y1,Y2,Y3,Y4,Y5,X1,X2,X3,X4,B36_2,hnl,hpl,hpm,Int.toNat_natCast])
    refine ⟨fun h4=>?_,fun h4=>?_⟩
    ·have hlj:j < (rwF goals t).length:=by omega
     refine ⟨by omega,h4,?_⟩
     rw [a_D hlj]
     have hx:=hxlt j hlj
     have htk:(rwF goals t).take (j+1)=(rwF goals t).take j++[(rwF goals t).getD j 0]:=tS_ hlj
     have hfl:(((rwF goals t).take j).filter fun v=>decide (a_n (aO_ (rwF g)) v=a_n (aO_ (rwF g)) m)).length≤100000:=Nat.le_trans (List.length_filter_le _ _) (by rw [List.length_take];omega)
     generalize (rwF goals t).getD j 0=w at hx htk ⊢
     rw [Int.toNat_natCast,hpg w hx,e6]
     refine ⟨by omega,by omega,by omega,by omega,fun h5=>?_,fun h5=>?_⟩
     ·have hd:decide (a_n (aO_ (rwF g)) w=a_n (aO_ (rwF g)) m)=true:=by rw [decide_eq_true_eq];omega
      refine lit1 a_g rfl a_u ⟨rfl,rfl⟩ ?_
      refine d_m (ys:=[(w:Int)]) st 0 rfl (by rw [nL_];simp only [List.length_cons,List.length_nil];omega) fun q' G' hq' st=>?_
      simp only [List.set_cons_zero] at st
      rw [← f_f,← a_X] at st ⊢
      have ef:((rwF goals t).take (j+1)).filter (fun v=>decide (a_n (aO_ (rwF g)) v=a_n (aO_ (rwF g)) m))=((rwF goals t).take j).filter (fun v=>decide (a_n (aO_ (rwF g)) v=a_n (aO_ (rwF g)) m))++[w]:=by
       rw [htk,List.filter_append,List.filter_cons,if_pos hd];rfl
      rw [← ef] at st ⊢
      exact ⟨(j+1,_,[q'],G'),⟨by simp only;omega,st⟩,by simp only;omega,.refl _,.refl _,Heap.le_refl _⟩
     ·have hd:¬decide (a_n (aO_ (rwF g)) w=a_n (aO_ (rwF g)) m)=true:=by rw [decide_eq_true_eq];omega
      have ef:((rwF goals t).take (j+1)).filter (fun v=>decide (a_n (aO_ (rwF g)) v=a_n (aO_ (rwF g)) m))=((rwF goals t).take j).filter (fun v=>decide (a_n (aO_ (rwF g)) v=a_n (aO_ (rwF g)) m)):=by
       rw [htk,List.filter_append,List.filter_cons,if_neg hd];simp
      exact ⟨(j+1,x,D,G),⟨by simp only;omega,by simp only [ef];exact st⟩,by simp only;omega,.refl _,.refl _,Heap.le_refl _⟩
    ·have:j=(rwF goals t).length:=by omega
     subst this
     rw [List.take_length,← ownF_eq] at st
     obtain ⟨hbest,hleg,hlp⟩:=loop_leg hg.gr hli (hfair.2 _ hmem) (hgo.lt _ hmem) (hgb _ hmem)
     have hown:∀v∈ownF (rwF g) m (rwF goals t),v < g.length:=fun v hv=>hgo.lt _ hmem v (c_6.1 hv).1
     have hol2:(ownF (rwF g) m (rwF goals t)).length≤100000:=Nat.le_trans (List.length_filter_le _ _) hsz
     have hlegd:legF (rwF g) g.length m acc (rwF goals t)=acc++(b_h (inF (rwF g)) g.length [a_4 acc] (ownF (rwF g) m (rwF goals t))).tail:=rfl
     have hwl2:=(b_M (e_g hg.gr) hown hbest).2
     have hown0:ownF (rwF g) m (rwF goals t)≠[]:=by
      obtain ⟨y,y1,y2⟩:=hfair.2 _ hmem
      exact List.ne_nil_of_mem (c_6.2 ⟨y1,y2⟩)
     have hnext:a_w (rwF g) g.length m (goals.take (t+1))=legF (rwF g) g.length m acc (rwF goals t):=by
      have:goals.take (t+1)=goals.take t++[rwF goals t]:=tS_ hlt
      rw [this,f_e,hacc]
     generalize ownF (rwF g) m (rwF goals t)=own at st hbest hleg hlp hown hol2 hlegd hwl2 hown0
     rcases b_p (st.get 0 rfl) with ⟨_,h0,_⟩ | ⟨q4,rfl,hq4,rfl⟩
     ·exact absurd (List.map_eq_nil_iff.1 h0) hown0
     have e7:IntKind.i64.wrap ((acc.length:Int) - 1)=((acc.length - 1:Nat):Int):=by rw [i6_ (by omega) (by omega)];omega
     have e8:((acc.length:Int) - ((acc.length - 1:Nat):Int)).toNat=1:=by omega
     (try simp (disch:=first|assumption|apply Y6;assumption) only [vz,vu,vv,eqS,eF_,↓c1_,↓c2_,tabs,reduceCtorEq,X5,↓reduceIte,Y1,Y2,Y3,Y4,Y5,X1,X2,X3,X4,hal,e7,e8,Int.toNat_natCast])
     refine ⟨by omega,by omega,by omega,?_⟩
     have hqa:G q=Option.some (cP fI (nI acc)):=st.get 1 rfl
     have hne4:q≠q4:=fun e=>st.disjI 0 1 rfl rfl (by decide) q4 (by simp [rnT]) (by simp [cT_,e])
     have hlastI:((nI acc).drop (acc.length - 1)).take 1=nI [a_4 acc]:=by
      rw [nI_drop,f_P]
      congr 1
      have:acc.length - 1 < acc.length:=by omega
      rw [a_K this];rfl
     have hwk:Wk (.tup [Ls (gI (inG g)),.sl q 1 ((acc.length - 1)*1) 1,rowP q4 (nI own)]) G (.tup [Ls (gI (inG g)),Is (nI [a_4 acc]),Is (nI own)]) ((G.del q).del q4):=by
      refine .trans (Wk.frzS (r:=q) (es:=(nI acc).map fI) (v':=.tup [Ls (gI (inG g)),Is (nI [a_4 acc]),rowP q4 (nI own)]) (by rw [hqa,List.map_map];rfl) (.tup (.cons (.same _) (.cons ?_ (.cons (.same _) .nil)))))
       (Wk.frzS (r:=q4) (es:=(nI own).map fI) (by rw [Heap.del_other (Ne.symm hne4),hq4,List.map_map];rfl) (.tup (.cons (.same _) (.cons (.same _) (.cons ?_ .nil)))))
      ·have:=FrzS.part (r:=q) (es:=(nI acc).map fI) (acc.length - 1) 1 (by rw [List.length_map,nL_];omega)
       have e:((((nI acc).map fI).drop (acc.length - 1)).take 1).map (fun v=>[v])=(nI [a_4 acc]).map eI:=by
        rw [← List.map_drop,← List.map_take,hlastI,List.map_map];rfl
       rw [e] at this
       rw [Nat.mul_one];exact this
      ·have:=FrzS.part (r:=q4) (es:=(nI own).map fI) 0 (nI own).length (by simp)
       have e:((((nI own).map fI).drop 0).take (nI own).length).map (fun v=>[v])=(nI own).map eI:=by
        rw [List.drop_zero,List.take_of_length_le (by simp),List.map_map];rfl
       rw [e] at this
       exact this
     have hrow:=fun {H:Heap} {K:k_}=>e_n (inG g) hgi hgi2 [a_4 acc] own (fun v hv=>by rw [b_d,List.mem_singleton.1 hv];exact hlast.2) (by simp) (fun v hv=>by rw [b_d];exact hown v hv) hol2 (H:=H) (K:=K)
     rw [hirow,hil] at hrow
     generalize b_h (inF (rwF g)) g.length [a_4 acc] own=leg at hrow hlegd hlp hwl2
     refine thawU (RPt.res leg _) (fun hK=>hrow fun v G D h1 h2=>hK _ _ _ ⟨v,rfl,h1⟩ h2) hwk fun rr G7 D7 hr7 hn7=>?_
     obtain ⟨vr,rfl,hrs⟩:=hr7
     replace st:=st.push (rnI vr (nI leg) D7) hn7 hrs
     rcases b_p (st.get 0 rfl) with ⟨_,h0,_⟩ | ⟨q5,rfl,hq5,rfl⟩
     ·have:=congrArg List.length h0
      rw [nL_,List.length_nil] at this
      omega
     have hnleg:=nL_ leg
     have e9:((leg.length:Int) - 1).toNat=leg.length - 1:=by omega
     (try simp (disch:=first|assumption|apply Y6;assumption) only [vz,vu,vv,eqS,eF_,↓c1_,↓c2_,tabs,reduceCtorEq,X5,↓reduceIte,Y1,Y2,Y3,Y4,Y5,X1,X2,X3,X4,hnleg,e9,e5])
     refine ⟨by omega,by omega,by omega,?_⟩
     refine st_appL st 2 rfl hq5 (by rw [nL_];omega) (by rw [nL_];omega) fun q' G' hq' st=>?_
     have et:((nI leg).drop 1).take (leg.length - 1)=nI leg.tail:=by
      rw [List.take_of_length_le (by rw [List.length_drop,nL_];omega),nI_drop,List.drop_one]
     rw [et,← a_X,← hlegd,← hnext] at st ⊢
     exact ⟨(t+1,q',G'),⟨by simp only;omega,st.drop.drop⟩,by simp only;omega,.refl _,.refl _,Heap.le_refl _⟩
   ·have:t=goals.length:=by omega
    subst this
    rw [List.take_length] at hacc hli
    obtain ⟨hbest,hlw,hbl⟩:=loop_back hg.gr hli hfair.1
    have e7:IntKind.i64.wrap ((acc.length:Int) - 1)=((acc.length - 1:Nat):Int):=by rw [i6_ (by omega) (by omega)];omega
    have e8:IntKind.i64.wrap ((stm.length:Int) - 1)=((stm.length - 1:Nat):Int):=by rw [i6_ (by omega) (by omega)];omega
    have hrl:=c_u (l:=nI acc) (i:=acc.length - 1) (by rw [nL_];omega)
    rw [a_D (by omega)] at hrl
    have hlr:acc.getD (acc.length - 1) 0=a_4 acc:=rfl
    rw [hlr] at hrl
    have hrow:=f_S hg
    have hgl2:(gI (inG g)).getD (a_4 acc) default=nI (inF (rwF g) (a_4 acc)):=by rw [b_b (by rw [b_d];exact hlast.2),hrow]
    (try simp (disch:=first|assumption|apply Y6;assumption) only [vz,vu,vv,eqS,eF_,↓c1_,↓c2_,tabs,reduceCtorEq,X5,↓reduceIte,Y1,Y2,Y3,Y4,Y5,X1,X2,X3,X4,lA_ (st.get 0 rfl),e7,e8,hrl,a_R,hal,hilg,hgl2,Int.toNat_natCast])
    refine ⟨by omega,by omega,by omega,by omega,by omega,?_⟩
    refine lit1 a_g rfl a_u ⟨rfl,rfl⟩ ?_
    have hin:(inF (rwF g) (a_4 acc)).length≤500000:=by
     rw [inF_cB];exact Nat.le_trans (List.length_filter_le _ _) (hg.row hlast.2)
    have hps:=d_B (inG g) hgi hgi2 (inF (rwF g) (a_4 acc)) [m] (fun v hv=>by rw [b_d];exact hg.gr.lt _ v (b_s.1 hv).1) hin (fun v hv=>by rw [b_d];exact hmo v hv) (by simp)
    rw [hirow,hil] at hps
    refine Pu.use hps ?_
    unfold wayV
    have hring:ringF (rwF g) g.length m goals=acc++(backF (rwF g) g.length m acc).dropLast:=by rw [ringF,hacc]
    have hback:b_h (inF (rwF g)) g.length (inF (rwF g) (a_4 acc)) [m]=backF (rwF g) g.length m acc:=rfl
    rw [hback,hring]
    have hbp:=hlw.pos
    generalize backF (rwF g) g.length m acc=back at hbp hbl
    have hbkl:=nL_ back
    have e9:IntKind.i64.wrap ((back.length:Int) - 1)=((back.length - 1:Nat):Int):=by rw [i6_ (by omega) (by omega)];omega
    (try simp (disch:=first|assumption|apply Y6;assumption) only [vz,vu,vv,eqS,eF_,↓c1_,↓c2_,tabs,reduceCtorEq,X5,↓reduceIte,Y1,Y2,Y3,Y4,Y5,X1,X2,X3,X4,hbkl,e9,Int.toNat_natCast])
    refine ⟨by omega,by omega,by omega,fun e he=>?_,by omega,by omega,by omega,fun e he=>?_,?_⟩
    ·obtain ⟨x,_,rfl⟩:=List.mem_map.1 he;rfl
    ·obtain ⟨x,_,rfl⟩:=List.mem_map.1 he;rfl
    have ed:(nI back).take (back.length - 1)=nI back.dropLast:=by rw [f_P,List.dropLast_eq_take]
    rw [ed]
    refine c_J st 0 rfl (by rw [nL_,nL_,List.length_dropLast];omega) fun q' G' hq' st=>?_
    rw [← a_X] at st ⊢
    simp only [List.set_cons_zero] at st
    have hg':G' q'=Option.some (cP fI (nI (acc++back.dropLast))):=st.get 0 rfl
    refine ⟨_,H,.trans (Wk.frzS (r:=q') (es:=(nI (acc++back.dropLast)).map fI) (v':=.tup [Is (stm.take (stm.length - 1)),Is (nI (acc++back.dropLast)),B true]) (by rw [hg',List.map_map];rfl) (.tup (.cons (.same _) (.cons ?_ (.cons (.same _) .nil))))) (.forget fun y z hz=>?_),rfl,rfl⟩
    ·have:=FrzS.part (r:=q') (es:=(nI (acc++back.dropLast)).map fI) 0 (nI (acc++back.dropLast)).length (by simp)
     have e:((((nI (acc++back.dropLast)).map fI).drop 0).take (nI (acc++back.dropLast)).length).map (fun v=>[v])=(nI (acc++back.dropLast)).map eI:=by
      rw [List.drop_zero,List.take_of_length_le (by simp),List.map_map];rfl
     rw [e] at this
     exact this
    ·have hfr:=st.fr _ (List.mem_cons_self ..) q' (by simp [cT_])
     rw [Heap.del_other (fun e=>by rw [e,hfr] at hz;cases hz)]
     exact st.le y z hz
end Go.Proofs.YtohkciilfkhomaaGreat
namespace Go.Proofs.YtohkciilfkhomaaGreat
open Go Go.Sep Go.Pt
attribute [local irreducible] a_a
def cellV (l:List Int):PV:=if l=[] then .nil else .sl (l.map eI)
def refN (a:Au) (k s:Nat):List Int:=(outN a k s).foldl put []
def refR (a:Au) (k:Nat):List (List Int):=(List.range a.states.toNat).map (refN a k)
theorem f_U (a:Au) (k:Nat):(refR a k).length=a.states.toNat:=by simp [refR]
theorem refR_zero (a:Au):refR a 0=List.replicate a.states.toNat []:=by
 rw [refR]
 apply List.ext_getElem
 ·simp
 ·intro i h1 h2;simp [refN,outN]
theorem refR_get (a:Au) (k:Nat) {s:Nat} (h:s < a.states.toNat):(refR a k).getD s default=refN a k s:=by simp [refR,List.getD,h]
theorem refN_lt (a:Au) (k s:Nat):(refN a k s).Pairwise (· < ·):=(foldl_put _ [] List.Pairwise.nil).1
theorem foldl_len (xs:List Int):∀l,(xs.foldl put l).length≤l.length+xs.length:=by
 induction xs with
 | nil=>intro l;simp
 | cons a xs ih=>intro l;have:=ih (put l a);have:=f_H l a;rw [List.foldl_cons,List.length_cons];omega
theorem refN_len (a:Au) (k s:Nat):(refN a k s).length≤a.edges.length:=by
 have:=foldl_len (outN a k s) []
 have h2:=d_M a k s
 rw [List.length_nil] at this
 unfold refN;omega
theorem refR_succ (a:Au) {k:Nat} (hk:k < a.edges.length) (h0:0≤(a.edges.getD k default).src) (h1:(a.edges.getD k default).src < a.states) :
  refR a (k+1)=(refR a k).set (a.edges.getD k default).src.toNat (put (refN a k (a.edges.getD k default).src.toNat) (a.edges.getD k default).dst):=by
 have hs:=tS_ hk
 generalize a.edges.getD k default=e at hs h0 h1 ⊢
 apply List.ext_getElem
 ·simp [refR]
 ·intro s h2 h3
  simp only [refR,List.getElem_map,List.getElem_range,List.getElem_set]
  simp only [refN,outN,hs,List.filter_append,List.map_append]
  by_cases he:e.src.toNat=s
  ·subst he
   rw [if_pos rfl]
   have:e.src=(e.src.toNat:Int):=by omega
   simp [← this]
  ·rw [if_neg he]
   have:¬e.src=(s:Int):=by omega
   simp [this]
theorem refR_all (a:Au):refR a a.edges.length=b_q a:=by
 rw [refR,b_q]
 apply List.map_congr_left
 intro s _
 rw [refN,puts_sc]
theorem put_ne (l:List Int) (n:Int):put l n≠[]:=by
 intro h
 have:=(put_mem l n n).2 (.inl rfl)
 rw [h] at this;cases this
theorem map_rd {α:Type} [Inhabited α] {f:α→AV} {rows:List α} {i:Nat} (h:i < rows.length):(List.take 1 (List.drop (i*1) (rows.map f))).headD Q_=f (rows.getD i default):=by
 rw [Nat.mul_one,← List.map_drop,a_K h];rfl
theorem map_sp {α:Type} {f:α→AV} {rows:List α} {i:Nat} {l:α} (h:i < rows.length):List.take (i*1) (rows.map f)++[f l]++List.drop (i*1+1) (rows.map f)=(rows.set i l).map f:=by
 rw [Nat.mul_one,List.set_eq_take_append_cons_drop,if_pos h,List.map_append,List.map_cons,List.map_take,List.map_drop];simp
theorem cellV_wk (l:List Int):AV.wk (.p (cellV l)) (Is l):=by
 unfold cellV
 split
 ·rename_i h;subst h;exact .nil
 ·exact .refl _
abbrev cG (rows:List (List Int)):List AV:=rows.map fun l=>AV.p (cellV l)
theorem fin_tab {q:Nat} {rows:List (List Int)} {H G:Heap} (hq:H q=none) (hG:G q=some (cG rows)) (hle:Heap.le H G):wkK (fun r H'=>r=Ls rows∧H'=H) (.sl q 1 0 rows.length) G:=by
 have e:cells (rows.map eL)=rows.map fun l=>AV.p (.sl (l.map eI)):=b_o (fun l:List Int=>PV.sl (l.map eI)) rows
 have w1:Wk (.sl q 1 0 rows.length) G (.sl q 1 0 rows.length) (G.set q (cells (rows.map eL))):=.cell hG (by rw [e];simp) fun i a a' h1 h2=>by
  rw [e] at h2
  rw [List.getElem?_map] at h1 h2
  cases hr:rows[i]? with
  | none=>rw [hr] at h1;cases h1
  | some l=>
   rw [hr] at h1 h2
   cases h1;cases h2
   exact cellV_wk l
 have:=f_x (sz:=1) (es:=rows.map eL) (q:=q) (H:=H) (H':=G.set q (cells (rows.map eL))) (K:=fun r H'=>r=Ls rows∧H'=H) (by omega) (a_q (f:=eL) (fun _=>rfl) rows) hq (Heap.set_le hle) ⟨rfl,rfl⟩
 obtain ⟨v',H',w2,h2⟩:=this
 simp only [Go.Sep.own,List.length_map] at w2
 exact ⟨v',H',.trans w1 w2,h2⟩
theorem b_U (a:Au) (fa:GoodF a):Pu Tryz.prog 37 [aAu a] (Ls (b_q a)):=by
 have hst:=fa.st
 have hed:=fa.ed
 refine ⟨fun H=>a_a.fin ?_⟩
 have hz:((a.states.toNat:Nat):Int)=a.states:=by omega
 refine W37_ok ?_;simp (maxSteps:=1000000) (disch:=first|assumption|apply Y6;assumption) only [W37,vz,vu,vv,eqS,eF_,↓c1_,↓c2_,tabs,reduceCtorEq,X5,↓reduceIte,Y1,Y2,Y3,Y4,Y5,X1,X2,X3,X4,mS_]
 intro r hr
 refine ⟨by omega,by omega,by omega,by omega,fun q hq1 hq=>?_⟩
 have st:=(St.nil H).cell hr [I a.states,Is a.first,Es a.edges,Ls a.goals]
 replace st:=st.cell (r:=q) (by rw [Heap.set_other hq1];exact hq) (zA_ a.states.toNat [.p .nil])
 have ez:zA_ a.states.toNat [.p .nil]=cG (refR a 0):=by
  rw [refR_zero]
  apply List.ext_getElem
  ·simp [a_V]
  ·intro i h1 h2
   have:∀(n i:Nat) (h:i < (zA_ n [AV.p .nil]).length),(zA_ n [AV.p .nil])[i]=.p .nil:=by
    intro n
    induction n with
    | zero=>intro i h;simp [zA_] at h
    | succ n ih=>
     intro i h
     cases i with
     | zero=>simp [a_5]
     | succ i=>simp [a_5,ih]
   rw [this];simp [cellV]
 rw [ez] at st ⊢
 generalize (H.set r [I a.states,Is a.first,Es a.edges,Ls a.goals]).set q (cG (refR a 0))=G1 at st ⊢
 (try simp (disch:=first|assumption|apply Y6;assumption) only [vz,vu,vv,eqS,eF_,↓c1_,↓c2_,tabs,reduceCtorEq,X5,↓reduceIte,Y1,Y2,Y3,Y4,Y5,X1,X2,X3,X4,lA_ (st.get 1 rfl)])
 refine L37_0_rule ((0:Nat),G1) (fun s=>I s.1) (fun s=>s.2) (fun s=>s.1≤a.edges.length∧St H [cT_ q (cG (refR a s.1)),cT_ r [I a.states,Is a.first,Es a.edges,Ls a.goals]] s.2) (fun s=>a.edges.length - s.1)
  ⟨⟨by simp,st⟩,.refl _,Heap.le_refl _⟩ ?_
 clear st
 rintro ⟨k,G⟩ ⟨hk,st⟩
 dsimp only at hk st
 (try simp (disch:=first|assumption|apply Y6;assumption) only [vz,vu,vv,eqS,eF_,↓c1_,↓c2_,tabs,reduceCtorEq,X5,↓reduceIte,Y1,Y2,Y3,Y4,Y5,X1,X2,X3,X4,B37_0])
 refine ⟨fun h1=>⟨by omega,h1,?_⟩,fun h1=>?_⟩
 ·have hlt:k < a.edges.length:=by omega
  have hm:a.edges.getD k default∈a.edges:=a_e (p:=fun x=>x∈a.edges) (fun _ h=>h) hlt
  have hei:=a_h.1 (fa.ei _ hm)
  have hsucc:=refR_succ a hlt (by omega) (by omega)
  generalize a.edges.getD k default=e at hei hsucc ⊢
  intro r5 hr5
  replace st:=st.cell hr5 [I e.src,I e.lt,I e.dst]
  generalize G.set r5 [I e.src,I e.lt,I e.dst]=G2 at st ⊢
  have hi:e.src.toNat < (refR a k).length:=by rw [f_U];omega
  have hrd:=map_rd (f:=fun l=>AV.p (cellV l)) hi
  rw [refR_get a k (by omega)] at hrd
  have hln:(refR a k).length=a.states.toNat:=f_U a k
  have hol:=refN_len a k e.src.toNat
  have hsp:∀l',List.take (e.src.toNat*1) (cG (refR a k))++[AV.p (cellV l')]++List.drop (e.src.toNat*1+1) (cG (refR a k))=cG ((refR a k).set e.src.toNat l'):=fun l'=>map_sp hi
  (try simp (disch:=first|assumption|apply Y6;assumption) only [vz,vu,vv,eqS,eF_,↓c1_,↓c2_,tabs,reduceCtorEq,X5,↓reduceIte,Y1,Y2,Y3,Y4,Y5,X1,X2,X3,X4,lA_ (st.get 0 rfl)])
  refine ⟨by omega,by omega,?_⟩
  (try simp (disch:=first|assumption|apply Y6;assumption) only [vz,vu,vv,eqS,eF_,↓c1_,↓c2_,tabs,reduceCtorEq,X5,↓reduceIte,Y1,Y2,Y3,Y4,Y5,X1,X2,X3,X4,lA_ (st.get 0 rfl),lA_ (st.get 1 rfl),hrd,hln])
  refine ⟨by omega,?_⟩
  refine a_a.args (args':=[Is (refN a k e.src.toNat),I e.dst]) ?_ ⟨cellV_wk _,.refl _,trivial⟩
  refine Pu.use (c_o _ e.dst (refN_lt a k _) (by omega)) ?_
  have ec:Is (put (refN a k e.src.toNat) e.dst)=.p (cellV (put (refN a k e.src.toNat) e.dst)):=by rw [cellV,if_neg (put_ne _ _)]
  rw [ec]
  generalize put (refN a k e.src.toNat) e.dst=l' at hsucc ⊢
  (try simp (disch:=first|assumption|apply Y6;assumption) only [vz,vu,vv,eqS,eF_,↓c1_,↓c2_,tabs,reduceCtorEq,X5,↓reduceIte,Y1,Y2,Y3,Y4,Y5,X1,X2,X3,X4,lA_ (st.get 0 rfl),sA_ (st.get 1 rfl),hln])
  refine ⟨by omega,by omega,by omega,?_⟩
  rw [hsp,← hsucc]
  refine ⟨(k+1,_),⟨by simp only;omega,(st.put 1 rfl (cG (refR a (k+1)))).drop⟩,by simp only;omega,?_,Heap.le_refl _⟩
  rw [a_r,i6_ (by omega) (by omega)];simp
 ·have:k=a.edges.length:=by omega
  subst this
  have hg:G q=some (cG (refR a a.edges.length)):=st.get 0 rfl
  have:=fin_tab (H:=H) hq hg st.le
  rw [f_U] at this
  rw [refR_all] at this
  exact this
end Go.Proofs.YtohkciilfkhomaaGreat
namespace Go.Proofs.YtohkciilfkhomaaGreat
open Go Go.Sep Go.Pt
attribute [local irreducible] a_a
theorem next_spec (a:Au) (fa:GoodF a):Pu Tryz.prog 31 [aAu a] (Ls (b_q a)):=
 ⟨fun H=>a_a.fin (next_live a fa fun x G D hx hn=>f_Q hx hn)⟩
def nN (l:List Int):List Nat:=l.map Int.toNat
theorem b_0 (l:List Int):(nN l).length=l.length:=by simp [nN]
theorem c_v {l:List Int} {n:Nat} (h:∀x∈l,0≤x∧x < n):∀v∈nN l,v < n:=by
 intro v hv
 obtain ⟨x,hx,rfl⟩:=List.mem_map.1 hv
 have:=h x hx;omega
theorem e_K {l:List Int} {n:Nat} (h:∀x∈l,0≤x∧x < n):nI (nN l)=l:=nI_nN fun x hx=>(h x hx).1
def gA (a:Au):List (List Nat):=(b_q a).map nN
theorem gI_of {g:List (List Int)} {n:Nat} (h:∀l∈g,∀x∈l,0≤x∧x < n):gI (g.map nN)=g:=by
 unfold gI
 rw [List.map_map]
 conv=>rhs;rw [← List.map_id g]
 apply List.map_congr_left
 intro l hl
 exact e_K (h l hl)
theorem c_A (a:Au):(gA a).length=a.states.toNat:=by simp [gA,c_4]
theorem d_S {a:Au} (fa:GoodF a):∀l∈b_q a,(∀x∈l,0≤x∧x < a.states.toNat)∧l.length≤2400:=by
 intro l hl
 obtain ⟨s,_,rfl⟩:=List.mem_map.1 hl
 have hed:=fa.ed
 refine ⟨fun x hx=>?_,?_⟩
 ·rw [sc_mem] at hx
  simp only [outN,List.mem_map,List.mem_filter] at hx
  obtain ⟨e,⟨he,_⟩,rfl⟩:=hx
  have:=a_h.1 (fa.ei e (List.mem_of_mem_take he))
  omega
 ·have:=sc_len (outN a a.edges.length s)
  have:=d_M a a.edges.length s
  omega
theorem sumN_le {f:Nat→Nat} {b:Nat} (h:∀v,f v≤b) (n:Nat):sumN f n≤n*b:=by
 induction n with
 | zero=>simp [sumN]
 | succ n ih=>rw [a_t,Nat.add_mul];have:=h n;omega
theorem GrB_of {g:List (List Nat)} {b:Nat} (h1:∀l∈g,∀x∈l,x < g.length) (h2:∀l∈g,l.length≤b) (hn:g.length≤100000) (hb:g.length*b≤500000):GrB g:=by
 refine ⟨h1,hn,?_⟩
 rw [e_i]
 refine Nat.le_trans (sumN_le (b:=b) (fun v=>?_) _) hb
 by_cases hv:v < g.length
 ·refine h2 _ ?_
  simp [rwF,List.getD,hv]
 ·rw [c_i (by omega)];simp
theorem gA_B {a:Au} (fa:GoodF a):GrB (gA a):=by
 have hst:=fa.st
 have hl:=c_A a
 refine GrB_of (b:=2400) (fun l hl2 x hx=>?_) (fun l hl2=>?_) (by omega) (by rw [hl];exact Nat.le_trans (Nat.mul_le_mul_right 2400 (show a.states.toNat≤96 by omega)) (by decide))
 ·obtain ⟨r,hr,rfl⟩:=List.mem_map.1 hl2
  rw [hl]
  exact c_v (d_S fa r hr).1 x hx
 ·obtain ⟨r,hr,rfl⟩:=List.mem_map.1 hl2
  rw [b_0];exact (d_S fa r hr).2
theorem gA_I {a:Au} (fa:GoodF a):gI (gA a)=b_q a:=gI_of fun l hl=>(d_S fa l hl).1
theorem rising_in {l:List Int} {n:Int} (h:a_x l n=true):∀x∈l,0≤x∧x < n:=by
 intro x hx
 obtain ⟨i,hi,rfl⟩:=List.mem_iff_getElem.1 hx
 have:=c_f h i hi
 rw [a_k hi] at this
 omega
structure AutoN (a:Au):Prop where
 f:GoodF a
 fr:∀x∈a.first,0≤x∧x < a.states.toNat
 go:∀l∈a.goals,∀x∈l,0≤x∧x < a.states.toNat
theorem d_u {a:Au} (h:a_l a=true):AutoN a:=by
 have f:=a_B h
 have hst:=f.st
 rw [b_J] at h
 simp only [a_1,Bool.and_eq_true,decide_eq_true_eq,List.all_eq_true] at h
 obtain ⟨h1,h2,h3,⟨h4,h5⟩,h6⟩:=h
 refine ⟨f,fun x hx=>?_,fun l hl x hx=>?_⟩
 ·have:=rising_in h2 x hx;omega
 ·have:=rising_in (h5 l hl) x hx;omega
def goN (gs:List (List Int)):List (List Nat):=gs.map nN
theorem AutoN.gob {a:Au} (h:AutoN a):GoB (goN a.goals) (gA a).length∧(∀l∈goN a.goals,l.length≤96)∧((goN a.goals).length+1)*((gA a).length+96+2)≤800000:=by
 have hgl:=h.f.gl
 have hst:=h.f.st
 have hl:=c_A a
 have e:(goN a.goals).length=a.goals.length:=by simp [goN]
 have h96:∀l∈goN a.goals,l.length≤96:=by
  intro l hl2
  obtain ⟨r,hr,rfl⟩:=List.mem_map.1 hl2
  rw [b_0];exact (h.f.gi r hr).2
 refine ⟨⟨fun l hl2 x hx=>?_,by omega,fun l hl2=>by have:=h96 l hl2;omega⟩,h96,?_⟩
 ·obtain ⟨r,hr,rfl⟩:=List.mem_map.1 hl2
  rw [hl];exact c_v (h.go r hr) x hx
 ·rw [e,hl]
  exact Nat.le_trans (Nat.mul_le_mul (show a.goals.length+1≤7 by omega) (show a.states.toNat+96+2≤194 by omega)) (by decide)
noncomputable def fairA (a:Au):Bool:=laB (rwF (gA a)) (gA a).length (nN a.first) (goN a.goals)
theorem lasso_A {a:Au} (h:AutoN a):Pu Tryz.prog 36 [Ls (b_q a),Is a.first,Ls a.goals] (e_o (rwF (gA a)) (gA a).length (nN a.first) (goN a.goals)):=by
 obtain ⟨h1,h2,h3⟩:=h.gob
 have hl:=c_A a
 have hf:=h.f.fi
 have:=f_T (gA a) (gA_B h.f) (nN a.first) (by rw [hl];exact c_v h.fr) (by rw [b_0];omega) (goN a.goals) 96 h1 h2 h3
 rwa [gA_I h.f,e_K h.fr,goN,gI_of h.go] at this
noncomputable def ieR (a:Au):Bool×Bool:=if a_l a then (!fairA a,true) else (false,false)
end Go.Proofs.YtohkciilfkhomaaGreat
namespace Go.Proofs.YtohkciilfkhomaaGreat
open Go Go.Sep Go.Pt
attribute [local irreducible] a_a
theorem filt_sum (L:List Ed) (n:Nat):sumN (fun v=>(L.filter fun e=>decide (e.src=(v:Int))).length) n≤L.length:=by
 induction L with
 | nil=>
  have:∀n,sumN (fun _=>0) n=0:=fun n=>by
   induction n with
   | zero=>rfl
   | succ n ih=>rw [a_t,ih]
  simp only [List.filter_nil,List.length_nil,this];exact Nat.le_refl _
 | cons e L ih=>
  have h1:∀n,sumN (fun v=>((e::L).filter fun e=>decide (e.src=(v:Int))).length) n=sumN (fun v=>(L.filter fun e=>decide (e.src=(v:Int))).length) n+sumN (fun v=>if e.src=(v:Int) then 1 else 0) n:=by
   intro n
   induction n with
   | zero=>rfl
   | succ n ih2=>
    rw [a_t,a_t,a_t,ih2,List.filter_cons]
    by_cases h:e.src=(n:Int)
    ·simp only [h,decide_true,if_true,List.length_cons];omega
    ·simp only [h,decide_false,if_false,Bool.false_eq_true];omega
  have h2:∀n:Nat,sumN (fun v=>if e.src=(v:Int) then 1 else 0) n≤if e.src < (n:Int) then 1 else 0:=by
   intro n
   induction n with
   | zero=>simp [sumN]
   | succ n ih2=>
    rw [a_t]
    by_cases h:e.src=(n:Int)
    ·rw [if_pos h,if_pos (by omega)];rw [if_neg (by omega)] at ih2;omega
    ·rw [if_neg h]
     by_cases h3:e.src < (n:Int)
     ·rw [if_pos h3] at ih2;rw [if_pos (by omega)];omega
     ·rw [if_neg h3] at ih2;rw [if_neg (by omega)];omega
  rw [h1,List.length_cons]
  have:=h2 n
  split at this<;>omega
def gO (a:Au):List (List Nat):=(outR a a.edges.length).map nN
theorem c_B (a:Au):(gO a).length=a.states.toNat:=by simp [gO,c_3]
theorem gO_row (a:Au) {s:Nat} (h:s < a.states.toNat):rwF (gO a) s=nN (outN a a.edges.length s):=by
 simp [rwF,gO,outR,List.getD,h]
theorem gA_row (a:Au) {s:Nat} (h:s < a.states.toNat):rwF (gA a) s=nN (sc (outN a a.edges.length s)):=by
 simp [rwF,gA,b_q,List.getD,h]
theorem outN_bd {a:Au} (fa:GoodX a) {s:Nat}:∀x∈outN a a.edges.length s,0≤x∧x < a.states.toNat:=by
 intro x hx
 simp only [outN,List.mem_map,List.mem_filter] at hx
 obtain ⟨e,⟨he,_⟩,rfl⟩:=hx
 have:=a_h.1 (fa.ei e (List.mem_of_mem_take he))
 have:=fa.st
 omega
theorem GrB_sum {g:List (List Nat)} (h1:∀v,v < g.length→∀x∈rwF g v,x < g.length) (hn:g.length≤100000) (hs:sumN (fun v=>(rwF g v).length) g.length≤500000):GrB g:=by
 refine ⟨fun l hl x hx=>?_,hn,?_⟩
 ·obtain ⟨v,hv,rfl⟩:=List.mem_iff_getElem.1 hl
  refine h1 v hv x ?_
  simpa [rwF,List.getD,hv] using hx
 ·rw [e_i];exact hs
theorem sumN_monoLt {f g:Nat→Nat} {n:Nat} (h:∀v,v < n→f v≤g v):sumN f n≤sumN g n:=by
 induction n with
 | zero=>exact Nat.le_refl _
 | succ n ih=>rw [a_t,a_t];have:=ih fun v hv=>h v (by omega);have:=h n (by omega);omega
theorem gO_B {a:Au} (fa:GoodX a):GrB (gO a):=by
 have hst:=fa.st
 have hed:=fa.ed
 have hl:=c_B a
 refine GrB_sum (fun v hv x hx=>?_) (by omega) ?_
 ·rw [hl] at hv ⊢
  rw [gO_row a hv] at hx
  exact c_v (outN_bd fa) x hx
 ·refine Nat.le_trans (sumN_monoLt (g:=fun v=>(a.edges.filter fun e=>decide (e.src=(v:Int))).length) fun v hv=>?_) (Nat.le_trans (filt_sum _ _) (by omega))
  rw [gO_row a (by omega),b_0,outN,List.take_length,List.length_map];exact Nat.le_refl _
theorem gO_gA {a:Au} (v w:Nat):w∈rwF (gO a) v↔w∈rwF (gA a) v:=by
 by_cases h:v < a.states.toNat
 ·rw [gO_row a h,gA_row a h]
  simp only [nN,List.mem_map,sc_mem]
 ·rw [c_i (by rw [c_B];omega),c_i (by rw [c_A];omega)]
structure PrB (p:Au):Prop where
 x:GoodX p
 n:p.states≤4608
 fr:∀x∈p.first,0≤x∧x < p.states.toNat
 fl:p.first.length≤9216
 gl:p.goals.length≤12
 go:∀l∈p.goals,∀x∈l,0≤x∧x < p.states.toNat
 gs:∀l∈p.goals,l.length≤9216
theorem PrB.gob {p:Au} (h:PrB p) {n:Nat} (hn:n=p.states.toNat):GoB (goN p.goals) n∧(∀l∈goN p.goals,l.length≤9216)∧((goN p.goals).length+1)*(n+9216+2)≤800000:=by
 have hgl:=h.gl
 have hst:=h.x.st
 have hs:=h.n
 have e:(goN p.goals).length=p.goals.length:=by simp [goN]
 have h96:∀l∈goN p.goals,l.length≤9216:=by
  intro l hl2
  obtain ⟨r,hr,rfl⟩:=List.mem_map.1 hl2
  rw [b_0];exact h.gs r hr
 refine ⟨⟨fun l hl2 x hx=>?_,by omega,fun l hl2=>by have:=h96 l hl2;omega⟩,h96,?_⟩
 ·obtain ⟨r,hr,rfl⟩:=List.mem_map.1 hl2
  rw [hn];exact c_v (h.go r hr) x hx
 ·rw [e]
  exact Nat.le_trans (Nat.mul_le_mul (show p.goals.length+1≤13 by omega) (show n+9216+2≤13826 by omega)) (by decide)
noncomputable def impF (p:Au):Bool:=decide (b_S (rwF (gA p)) (gA p).length (nN p.first) (goN p.goals) < 0)
theorem arc_iff {p:Au} (h:GoodX p) {v w:Nat}:w∈rwF (gA p) v↔∃e∈p.edges,e.src=(v:Int)∧e.dst=(w:Int):=by
 have hst:=h.st
 by_cases hv:v < p.states.toNat
 ·rw [gA_row p hv]
  simp only [nN,List.mem_map,sc_mem,outN,List.take_length,List.mem_filter,decide_eq_true_eq]
  constructor
  ·rintro ⟨x,⟨e,⟨he,h1⟩,rfl⟩,h2⟩
   have:=a_h.1 (h.ei e he)
   exact ⟨e,he,h1,by omega⟩
  ·rintro ⟨e,he,h1,h2⟩
   exact ⟨e.dst,⟨e,⟨he,h1⟩,rfl⟩,by omega⟩
 ·rw [c_i (by rw [c_A];omega)]
  constructor
  ·intro hx;cases hx
  ·rintro ⟨e,he,h1,h2⟩
   have:=a_h.1 (h.ei e he)
   omega
theorem gO_I {p:Au} (h:GoodX p):gI (gO p)=outR p p.edges.length:=gI_of (n:=p.states.toNat) fun l hl x hx=>by
 obtain ⟨s,hs,rfl⟩:=List.mem_map.1 hl
 exact outN_bd h x hx
theorem meeting_O {p:Au} (h:PrB p):Pu Tryz.prog 41 [Ls (outR p p.edges.length),Is p.first,Ls p.goals] (I (b_S (rwF (gO p)) (gO p).length (nN p.first) (goN p.goals))):=by
 have hl:=c_B p
 obtain ⟨h1,h2,h3⟩:=h.gob hl
 have hf:=h.fl
 have:=meeting_spec (gO p) (gO_B h.x) (nN p.first) (by rw [hl];exact c_v h.fr) (by rw [b_0];omega) (goN p.goals) h1
 rwa [gO_I h.x,e_K h.fr,goN,gI_of h.go] at this
theorem fair_O {p:Au} (h:PrB p):Pu Tryz.prog 66 [Ls (outR p p.edges.length),Ls p.goals] (Is (nI ((List.range (gO p).length).filter (a_s (rwF (gO p)) (goN p.goals))))):=by
 have hl:=c_B p
 obtain ⟨h1,h2,h3⟩:=h.gob hl
 have:=c_l (gO p) (gO_B h.x) (d_t (gO_B h.x)) (goN p.goals) h1
 rwa [gO_I h.x,goN,gI_of h.go] at this
theorem far_O {p:Au} (h:PrB p):Pu Tryz.prog 89 [Ls (outR p p.edges.length),Is p.first] (Is (mpI (farF (rwF (gO p)) (gO p).length (nN p.first)) (gO p).length)):=by
 have hl:=c_B p
 have hf:=h.fl
 have:=d_a (gO p) (gO_B h.x) (nN p.first) (by rw [hl];exact c_v h.fr) (by rw [b_0];omega)
 rwa [gO_I h.x,e_K h.fr] at this
end Go.Proofs.YtohkciilfkhomaaGreat
namespace Go.Proofs.YtohkciilfkhomaaGreat
open Go Go.Sep
attribute [local irreducible] a_a
theorem IndexFunc_at (xs:List Int) (g:Nat) (caps:List AV) (p:Int→Bool) {H:Heap} (hl:xs.length≤1000000000) (hp:∀x∈xs,PuAt Tryz.prog g (I x::caps) H (B (p x))) :
  PuAt Tryz.prog 113 [Is xs,.fn g caps] H (I (if xs.any p then (xs.findIdx p:Int) else -1)):=by
 intro K hK
 refine a_a.fin ?_
 refine W113_ok ?_;simp (maxSteps:=1000000) (disch:=first|assumption|apply Y6;assumption) only [W113,vz,vu,vv,eqS,eF_,↓c1_,↓c2_,tabs,reduceCtorEq,X5,↓reduceIte,Y1,Y2,Y3,Y4,Y5,X1,X2,X3,X4]
 refine L113_0_rule (0:Nat) (fun i=>I i) (fun _=>H) (fun i=>i≤xs.length∧∀j (hj:j < xs.length),j < i→p xs[j]=false) (fun i=>xs.length - i) ⟨⟨by omega,by intros;omega⟩,.refl _,Heap.le_refl _⟩ ?_
 rintro i ⟨hi1,ha⟩
 (try simp (disch:=first|assumption|apply Y6;assumption) only [vz,vu,vv,eqS,eF_,↓c1_,↓c2_,tabs,reduceCtorEq,X5,↓reduceIte,Y1,Y2,Y3,Y4,Y5,X1,X2,X3,X4,B113_0])
 refine ⟨fun h=>⟨by omega,h,?_⟩,fun h=>?_⟩
 ·have hlt:i < xs.length:=by omega
  rw [a_k hlt]
  refine PuAt.use (hp _ (List.getElem_mem hlt)) ?_
  (try simp (disch:=first|assumption|apply Y6;assumption) only [vz,vu,vv,eqS,eF_,↓c1_,↓c2_,tabs,reduceCtorEq,X5,↓reduceIte,Y1,Y2,Y3,Y4,Y5,X1,X2,X3,X4])
  refine ⟨fun h1=>?_,fun h1=>⟨i+1,⟨by omega,fun j hj hji=>?_⟩,by omega,?_⟩⟩
  ·have h2:xs.any p=true:=List.any_eq_true.2 ⟨xs[i],List.getElem_mem hlt,h1⟩
   have h3:xs.findIdx p=i:=by
    rw [List.findIdx_eq hlt];exact ⟨h1,fun j hj=>ha j (by omega) hj⟩
   rw [h2,h3] at hK;exact wkK.keep (by simpa using hK)
  ·rcases Nat.lt_succ_iff_lt_or_eq.1 hji with h2 | rfl
   ·exact ha j hj h2
   ·exact h1
  ·rw [a_r,i6_ (by omega) (by omega)];simp
 ·have hi:i=xs.length:=by omega
  have h2:xs.any p=false:=by
   rw [List.any_eq_false]
   intro x hx
   obtain ⟨j,hj,rfl⟩:=List.mem_iff_getElem.1 hx
   rw [ha j hj (by omega)];simp
  rw [h2] at hK;exact wkK.keep (by simpa using hK)
theorem e_p (xs:List Int) (g:Nat) (caps:List AV) (p:Int→Bool) {H:Heap} (hl:xs.length≤1000000000) (hp:∀x∈xs,PuAt Tryz.prog g (I x::caps) H (B (p x))) :
  PuAt Tryz.prog 119 [Is xs,.fn g caps] H (B (xs.any p)):=by
 intro K hK
 refine W119_ok ?_;simp (maxSteps:=1000000) (disch:=first|assumption|apply Y6;assumption) only [W119,vz,vu,vv,eqS,eF_,↓c1_,↓c2_,tabs,reduceCtorEq,X5,↓reduceIte,Y1,Y2,Y3,Y4,Y5,X1,X2,X3,X4]
 refine PuAt.use (IndexFunc_at xs g caps p hl hp) ?_
 (try simp (disch:=first|assumption|apply Y6;assumption) only [vz,vu,vv,eqS,eF_,↓c1_,↓c2_,tabs,reduceCtorEq,X5,↓reduceIte,Y1,Y2,Y3,Y4,Y5,X1,X2,X3,X4])
 cases h:xs.any p<;>simp [h] at hK ⊢<;>exact hK
end Go.Proofs.YtohkciilfkhomaaGreat
namespace Go.Proofs.YtohkciilfkhomaaGreat
open Go Go.Sep Go.Pt
attribute [local irreducible] a_a
theorem l1In_BQ (a lo hi:Int):Pu Tryz.prog 48 [I a,I lo,I hi] (B (inB a lo hi)):=b_a a lo hi
theorem l1AllQ (xs:List Int) (lo hi:Int) (hl:xs.length≤1000000000):Pu Tryz.prog 49 [Is xs,I lo,I hi] (B (xs.all fun a=>decide (lo≤a) && decide (a≤hi))):=by
 refine Pu.of fun H=>?_
 refine W49_ok ?_;simp (maxSteps:=1000000) (disch:=first|assumption|apply Y6;assumption) only [W49,vz,vu,vv,eqS,eF_,↓c1_,↓c2_,tabs,reduceCtorEq,X5,↓reduceIte,Y1,Y2,Y3,Y4,Y5,X1,X2,X3,X4]
 refine L49_0_rule (0:Nat) (fun i=>I i) (fun _=>H) (fun i=>i≤xs.length∧(xs.take i).all (fun a=>decide (lo≤a) && decide (a≤hi))=true) (fun i=>xs.length - i) ⟨⟨by omega,by simp⟩,.refl _,Heap.le_refl _⟩ ?_
 rintro i ⟨hi1,ha⟩
 (try simp (disch:=first|assumption|apply Y6;assumption) only [vz,vu,vv,eqS,eF_,↓c1_,↓c2_,tabs,reduceCtorEq,X5,↓reduceIte,Y1,Y2,Y3,Y4,Y5,X1,X2,X3,X4,B49_0])
 refine ⟨fun h=>⟨by omega,h,?_⟩,fun h=>?_⟩
 ·have hlt:i < xs.length:=by omega
  refine Pu.use (b_a ..) ?_
  (try simp (disch:=first|assumption|apply Y6;assumption) only [vz,vu,vv,eqS,eF_,↓c1_,↓c2_,tabs,reduceCtorEq,X5,↓reduceIte,Y1,Y2,Y3,Y4,Y5,X1,X2,X3,X4])
  have e:=c_W (p:=fun a=>decide (lo≤a) && decide (a≤hi)) hlt
  rw [a_k hlt]
  refine ⟨fun h1=>?_,fun h1=>?_⟩
  ·congr 2
   symm
   rw [List.all_eq_false]
   exact ⟨xs[i],by simp,by simpa using h1⟩
  ·refine ⟨i+1,⟨by omega,by rw [e,ha];simpa using h1⟩,by omega,?_⟩
   rw [a_r,i6_ (by omega) (by omega)];simp
 ·have:i=xs.length:=by omega
  subst this
  rw [List.take_length] at ha;simp [ha]
def letB (n:Int):Bool:=decide (0≤n) && decide (n≤7)
def b_e (s l:List Int):Bool:=(decide (s.length≤24) && (decide (1≤l.length) && decide (l.length≤24))) && (s.all letB && l.all letB)
theorem areLetters1Q (n:Int) {H:Heap}:PuAt Tryz.prog 120 [I n] H (B (!letB n)):=by
 intro K hK
 refine W120_ok ?_;simp (maxSteps:=1000000) (disch:=first|assumption|apply Y6;assumption) only [W120,vz,vu,vv,eqS,eF_,↓c1_,↓c2_,tabs,reduceCtorEq,X5,↓reduceIte,Y1,Y2,Y3,Y4,Y5,X1,X2,X3,X4]
 refine ⟨fun h=>?_,fun h=>?_⟩
 ·have e:letB n=false:=by simp [letB];omega
  rw [e] at hK;exact hK
 ·by_cases h2:8≤n
  ·have e:letB n=false:=by simp [letB];omega
   have e2:decide (8≤n)=true:=by simpa using h2
   rw [e] at hK;simpa [e2] using hK
  ·have e:letB n=true:=by simp [letB];omega
   have e2:decide (8≤n)=false:=by simpa using h2
   rw [e] at hK;simpa [e2] using hK
theorem e_q (xs:List Int) (hl:xs.length≤1000000000):Pu Tryz.prog 95 [Is xs] (B (xs.all letB)):=by
 refine Pu.of fun H=>?_
 refine W95_ok ?_;simp (maxSteps:=1000000) (disch:=first|assumption|apply Y6;assumption) only [W95,vz,vu,vv,eqS,eF_,↓c1_,↓c2_,tabs,reduceCtorEq,X5,↓reduceIte,Y1,Y2,Y3,Y4,Y5,X1,X2,X3,X4]
 refine PuAt.use (e_p xs _ _ (fun n=>!letB n) hl fun x _=>areLetters1Q x) ?_
 (try simp (disch:=first|assumption|apply Y6;assumption) only [vz,vu,vv,eqS,eF_,↓c1_,↓c2_,tabs,reduceCtorEq,X5,↓reduceIte,Y1,Y2,Y3,Y4,Y5,X1,X2,X3,X4])
 rw [List.all_eq_not_any_not]
theorem GoodLassoI (s l:List Int) (h1:s.length≤1000000000) (h2:l.length≤1000000000):Pu Tryz.prog 42 [.agg [Is s,Is l]] (B (b_e s l)):=by
 refine Pu.of fun H=>?_
 refine W42_ok ?_;simp (maxSteps:=1000000) (disch:=first|assumption|apply Y6;assumption) only [W42,vz,vu,vv,eqS,eF_,↓c1_,↓c2_,tabs,reduceCtorEq,X5,↓reduceIte,Y1,Y2,Y3,Y4,Y5,X1,X2,X3,X4]
 intro r hr
 have hle:∀z,Heap.le H (H.set r z):=fun z=>Heap.le_set hr
 (try simp (disch:=first|assumption|apply Y6;assumption) only [vz,vu,vv,eqS,eF_,↓c1_,↓c2_,tabs,reduceCtorEq,X5,↓reduceIte,Y1,Y2,Y3,Y4,Y5,X1,X2,X3,X4])
 have fls:(¬(s.length≤24∧1≤l.length∧l.length≤24))→b_e s l=false:=fun h=>by
  rw [Bool.eq_false_iff];intro hh
  simp only [b_e,Bool.and_eq_true,decide_eq_true_eq] at hh
  exact h ⟨hh.1.1,hh.1.2.1,hh.1.2.2⟩
 refine ⟨fun a1=>⟨fun a2=>⟨fun a3=>?_,fun a3=>⟨by rw [fls (by omega)],hle _⟩⟩,fun a2=>⟨by rw [fls (by omega)],hle _⟩⟩,fun a1=>⟨by rw [fls (by omega)],hle _⟩⟩
 have e:b_e s l=(s.all letB && l.all letB):=by
  have b1:s.length≤24:=by omega
  have b2:1≤l.length:=by omega
  have b3:l.length≤24:=by omega
  simp only [b_e,b1,b2,b3,decide_true,Bool.true_and]
 rw [e]
 refine Pu.use (e_q s h1) ?_
 cases s.all letB
 ·(try simp (disch:=first|assumption|apply Y6;assumption) only [vz,vu,vv,eqS,eF_,↓c1_,↓c2_,tabs,reduceCtorEq,X5,↓reduceIte,Y1,Y2,Y3,Y4,Y5,X1,X2,X3,X4])
  exact hle _
 ·(try simp (disch:=first|assumption|apply Y6;assumption) only [vz,vu,vv,eqS,eF_,↓c1_,↓c2_,tabs,reduceCtorEq,X5,↓reduceIte,Y1,Y2,Y3,Y4,Y5,X1,X2,X3,X4])
  refine Pu.use (e_q l h2) ?_
  (try simp (disch:=first|assumption|apply Y6;assumption) only [vz,vu,vv,eqS,eF_,↓c1_,↓c2_,tabs,reduceCtorEq,X5,↓reduceIte,Y1,Y2,Y3,Y4,Y5,X1,X2,X3,X4])
  exact hle _
theorem f_j (s l:List Int) (h1:s.length≤1000000000) (h2:l.length≤1000000000):Pu Tryz.prog 14 [.agg [Is s,Is l]] (B (b_e s l)):=by
 refine Pu.of fun H=>?_
 refine W14_ok ?_;simp (maxSteps:=1000000) (disch:=first|assumption|apply Y6;assumption) only [W14,vz,vu,vv,eqS,eF_,↓c1_,↓c2_,tabs,reduceCtorEq,X5,↓reduceIte,Y1,Y2,Y3,Y4,Y5,X1,X2,X3,X4]
 intro r hr
 have hle:∀z,Heap.le H (H.set r z):=fun z=>Heap.le_set hr
 (try simp (disch:=first|assumption|apply Y6;assumption) only [vz,vu,vv,eqS,eF_,↓c1_,↓c2_,tabs,reduceCtorEq,X5,↓reduceIte,Y1,Y2,Y3,Y4,Y5,X1,X2,X3,X4])
 refine ⟨fun a1=>?_,fun a1=>?_⟩
 rotate_left
 ·refine ⟨?_,hle _⟩
  have:b_e s l=false:=by
   rw [Bool.eq_false_iff];intro hh
   simp only [b_e,Bool.and_eq_true,decide_eq_true_eq] at hh
   have:=hh.1.1;omega
  rw [this]
 refine Pu.use (l1In_BQ l.length 1 24) ?_
 cases hin:inB l.length 1 24
 ·(try simp (disch:=first|assumption|apply Y6;assumption) only [vz,vu,vv,eqS,eF_,↓c1_,↓c2_,tabs,reduceCtorEq,X5,↓reduceIte,Y1,Y2,Y3,Y4,Y5,X1,X2,X3,X4])
  refine ⟨?_,hle _⟩
  have:b_e s l=false:=by
   rw [Bool.eq_false_iff];intro hh
   simp only [b_e,Bool.and_eq_true,decide_eq_true_eq] at hh
   rw [inB_iff.2 (by have:=hh.1.2;omega)] at hin;cases hin
  rw [this]
 rw [inB_iff] at hin
 have e:b_e s l=(s.all letB && l.all letB):=by
  have b1:s.length≤24:=by omega
  have b2:1≤l.length:=by omega
  have b3:l.length≤24:=by omega
  simp only [b_e,b1,b2,b3,decide_true,Bool.true_and]
 rw [e]
 (try simp (disch:=first|assumption|apply Y6;assumption) only [vz,vu,vv,eqS,eF_,↓c1_,↓c2_,tabs,reduceCtorEq,X5,↓reduceIte,Y1,Y2,Y3,Y4,Y5,X1,X2,X3,X4])
 refine Pu.use (l1AllQ s 0 7 h1) ?_
 have e3:∀xs:List Int,(xs.all fun a=>decide (0≤a) && decide (a≤7))=xs.all letB:=fun xs=>rfl
 rw [e3]
 cases s.all letB
 ·(try simp (disch:=first|assumption|apply Y6;assumption) only [vz,vu,vv,eqS,eF_,↓c1_,↓c2_,tabs,reduceCtorEq,X5,↓reduceIte,Y1,Y2,Y3,Y4,Y5,X1,X2,X3,X4])
  exact hle _
 ·(try simp (disch:=first|assumption|apply Y6;assumption) only [vz,vu,vv,eqS,eF_,↓c1_,↓c2_,tabs,reduceCtorEq,X5,↓reduceIte,Y1,Y2,Y3,Y4,Y5,X1,X2,X3,X4])
  refine Pu.use (l1AllQ l 0 7 h2) ?_
  rw [e3]
  (try simp (disch:=first|assumption|apply Y6;assumption) only [vz,vu,vv,eqS,eF_,↓c1_,↓c2_,tabs,reduceCtorEq,X5,↓reduceIte,Y1,Y2,Y3,Y4,Y5,X1,X2,X3,X4])
  exact hle _
abbrev aL2 (s l:List Int):AV:=.agg [Is s,Is l]
theorem l9Made_spec (s l:List Int) (h1:s.length≤1000000000) (h2:l.length≤1000000000):Pu Tryz.prog 40 [aL2 s l] (.tup [aL2 (if b_e s l then s else []) (if b_e s l then l else []),B (b_e s l)]):=by
 refine ⟨fun H=>a_a.fin ?_⟩
 refine W40_ok ?_;simp (maxSteps:=1000000) (disch:=first|assumption|apply Y6;assumption) only [W40,vz,vu,vv,eqS,eF_,↓c1_,↓c2_,tabs,reduceCtorEq,X5,↓reduceIte,Y1,Y2,Y3,Y4,Y5,X1,X2,X3,X4]
 intro r1 hr1 r2 n21 hr2
 have n12:=Ne.symm n21
 have hle:∀z,Heap.le H ((H.set r1 [Is s,Is l]).set r2 z):=fun z=>Heap.le_setN (Heap.le_set hr1) hr2
 (try simp (disch:=first|assumption|apply Y6;assumption) only [vz,vu,vv,eqS,eF_,↓c1_,↓c2_,tabs,reduceCtorEq,X5,↓reduceIte,Y1,Y2,Y3,Y4,Y5,X1,X2,X3,X4])
 refine Pu.use (f_j s l h1 h2) ?_
 cases h:b_e s l
 ·(try simp (disch:=first|assumption|apply Y6;assumption) only [vz,vu,vv,eqS,eF_,↓c1_,↓c2_,tabs,reduceCtorEq,X5,↓reduceIte,Y1,Y2,Y3,Y4,Y5,X1,X2,X3,X4])
  exact ⟨_,_,.trans (.val (v':=.tup [aL2 [] [],B false]) (a_W ⟨b_9 ⟨.nil,.nil,trivial⟩,.refl _,trivial⟩)) (.forget (hle _)),rfl,rfl⟩
 ·(try simp (disch:=first|assumption|apply Y6;assumption) only [vz,vu,vv,eqS,eF_,↓c1_,↓c2_,tabs,reduceCtorEq,X5,↓reduceIte,Y1,Y2,Y3,Y4,Y5,X1,X2,X3,X4])
  exact ⟨_,_,.forget (hle _),rfl,rfl⟩
end Go.Proofs.YtohkciilfkhomaaGreat
namespace Go.Proofs.YtohkciilfkhomaaGreat
open Go Go.Sep Go.Pt
attribute [local irreducible] a_a
end Go.Proofs.YtohkciilfkhomaaGreat
namespace Go.Proofs.YtohkciilfkhomaaGreat
open Go Go.Sep Go.Pt
def prs (us bs:List Int) (m:Int):List Int:=us.flatMap fun i=>bs.map fun j=>i*m+j
theorem prs_succ (us bs:List Int) (m:Int) {i:Nat} (h:i < us.length):prs (us.take (i+1)) bs m=prs (us.take i) bs m++bs.map fun j=>us.getD i default*m+j:=by
 unfold prs
 rw [tS_ h,List.flatMap_append]
 simp
theorem prs_len (us bs:List Int) (m:Int):(prs us bs m).length=us.length*bs.length:=by
 induction us with
 | nil=>simp [prs]
 | cons a us ih=>rw [prs,List.flatMap_cons,List.length_append,List.length_map];rw [prs] at ih;rw [ih,List.length_cons,Nat.add_mul,Nat.one_mul,Nat.add_comm]
theorem prs_mem {us bs:List Int} {m x:Int}:x∈prs us bs m↔∃i∈us,∃j∈bs,i*m+j=x:=by
 simp only [prs,List.mem_flatMap,List.mem_map]
theorem f_V {m i j:Int} (hj:0≤j∧j < m):(i*m+j) / m=i∧(i*m+j) % m=j:=by
 have hm:m≠0:=by omega
 rw [Int.add_comm,Int.mul_comm]
 exact ⟨by rw [Int.add_mul_ediv_left _ _ hm,Int.ediv_eq_zero_of_lt hj.1 hj.2,Int.zero_add],by rw [Int.add_mul_emod_self_left,Int.emod_eq_of_lt hj.1 hj.2]⟩
theorem lex_bd {m n i j:Int} (hi:0≤i∧i < n) (hj:0≤j∧j < m):0≤i*m+j∧i*m+j < n*m:=by
 have h1:0≤i*m:=Int.mul_nonneg hi.1 (by omega)
 have:(i+1)*m≤n*m:=Int.mul_le_mul_of_nonneg_right (by omega) (by omega)
 rw [Int.add_mul,Int.one_mul] at this
 omega
end Go.Proofs.YtohkciilfkhomaaGreat
namespace Go.Proofs.YtohkciilfkhomaaGreat
open Go Go.Sep Go.Pt
attribute [local irreducible] a_a
def anyP {α:Type} (xs:List α) (p:α→Nat→Bool) (i n:Nat):List Bool:=(List.range n).map fun t=>(xs.take i).any fun x=>p x t
theorem b_i {α:Type} (xs:List α) (p:α→Nat→Bool) (i n:Nat):(anyP xs p i n).length=n:=by simp [anyP]
theorem e_r {α:Type} [Inhabited α] (xs:List α) (p:α→Nat→Bool) {i n:Nat} (h:i < xs.length):anyP xs p (i+1) n=(List.range n).map fun t=>p (xs.getD i default) t || (xs.take i).any fun x=>p x t:=by
 unfold anyP
 rw [tS_ h]
 congr 1
 funext t
 rw [List.any_append,Bool.or_comm]
 simp
theorem f_W {α:Type} (xs:List α) (p:α→Nat→Bool) (i:Nat) {n t:Nat} (h:t < n):(anyP xs p i n).getD t default=(xs.take i).any fun x=>p x t:=by
 simp [anyP,List.getD,h]
theorem d_C (n:Nat) (l:List Int) (hn:n≤100000) (hll:l.length≤100000) (hl:∀x∈l,0≤x∧x < n) {H:Heap} {K:k_}
  (h:∀q G,New H G [q]→G q=some (cP fB (anyP l (fun x t=>decide (x=(t:Int))) l.length n))→K (.sl q 1 0 n) G):a_a Tryz.prog 99 [I n,Is l] H K:=by
 refine a_a.fin ?_
 refine W99_ok ?_;simp (maxSteps:=1000000) (disch:=first|assumption|apply Y6;assumption) only [W99,vz,vu,vv,eqS,eF_,↓c1_,↓c2_,tabs,reduceCtorEq,X5,↓reduceIte,Y1,Y2,Y3,Y4,Y5,X1,X2,X3,X4,mS_]
 refine ⟨by omega,by omega,by omega,by omega,fun q hq=>?_⟩
 have st:=(St.nil H).cell hq (zA_ n [B false])
 generalize H.set q (zA_ n [B false])=G at st ⊢
 rw [c_K] at st
 refine L99_0_rule ((0:Nat),G) (fun s=>I s.1) (fun s=>s.2) (fun s=>s.1≤l.length∧St H [cT_ q (cP fB (anyP l (fun x t=>decide (x=(t:Int))) s.1 n))] s.2) (fun s=>l.length - s.1) ⟨⟨by simp,by simpa [anyP] using st⟩,.refl _,Heap.le_refl _⟩ ?_
 clear st
 rintro ⟨i,G⟩ ⟨hi,st⟩
 dsimp only at hi st
 (try simp (disch:=first|assumption|apply Y6;assumption) only [vz,vu,vv,eqS,eF_,↓c1_,↓c2_,tabs,reduceCtorEq,X5,↓reduceIte,Y1,Y2,Y3,Y4,Y5,X1,X2,X3,X4,B99_0])
 refine ⟨fun h1=>⟨by omega,h1,?_⟩,fun h1=>?_⟩
 ·have hlti:i < l.length:=by omega
  have hx:=a_e (p:=fun x=>0≤x∧x < (n:Int)) (d:=default) hl hlti
  have hsucc:=e_r l (fun x t=>decide (x=(t:Int))) (n:=n) hlti
  generalize l.getD i default=x at hx hsucc ⊢
  have hlen:=b_i l (fun x t=>decide (x=(t:Int))) i n
  have hset:=cB_set (l:=anyP l (fun x t=>decide (x=(t:Int))) i n) (t:=x.toNat) (by omega) true
  have hms:(anyP l (fun x t=>decide (x=(t:Int))) i n).set x.toNat true=anyP l (fun x t=>decide (x=(t:Int))) (i+1) n:=by
   rw [hsucc]
   unfold anyP
   rw [f_I]
   congr 1
   funext t
   congr 1
   rw [decide_eq_decide]
   omega
  rw [hms] at hset
  have e3:IntKind.i64.wrap ((i:Int)+1)=((i+1:Nat):Int):=by rw [i6_ (by omega) (by omega)];simp
  (try simp (disch:=first|assumption|apply Y6;assumption) only [vz,vu,vv,eqS,eF_,↓c1_,↓c2_,tabs,reduceCtorEq,X5,↓reduceIte,Y1,Y2,Y3,Y4,Y5,X1,X2,X3,X4,sA_ (st.get 0 rfl),hset,e3])
  exact ⟨hx.1,hx.2,by rw [hlen];omega,(i+1,G.set q (cP fB (anyP l (fun x t=>decide (x=(t:Int))) (i+1) n))),⟨by simp only;omega,st.put 0 rfl (cP fB (anyP l (fun x t=>decide (x=(t:Int))) (i+1) n))⟩,by simp only;omega,.refl _,Heap.le_refl _⟩
 ·have:i=l.length:=by omega
  subst this
  exact wkK.keep (h q G (by simpa [cT_] using st.new) (st.get 0 rfl))
end Go.Proofs.YtohkciilfkhomaaGreat
namespace Go.Proofs.YtohkciilfkhomaaGreat
open Go Go.Sep Go.Pt
attribute [local irreducible] a_a
theorem LIn.frz:Lay.Frz LIn eL:=by
 rintro c cs G D v s pre post ⟨x,rfl,h⟩ hD hs hG
 rcases h with ⟨rfl,rfl,rfl⟩ | h
 ·refine ⟨G.set s (pre++([.p (.sl [])]++post)),.cell hG (by simp) (fun j a a' e1 e2=>?_),Heap.set_same _ _ _,fun y hy _=>Heap.set_other hy⟩
  rw [List.getElem?_append] at e1 e2
  split at e1
  ·rename_i hlt
   rw [if_pos hlt] at e2
   rw [e1] at e2;cases e2;exact .refl _
  ·rename_i hge
   rw [if_neg hge] at e2
   cases hj:j - pre.length with
   | zero=>
    rw [hj] at e1 e2
    simp at e1 e2
    subst e1;subst e2
    exact .nil
   | succ k=>
    rw [hj] at e1 e2
    simp at e1 e2
    rw [e1] at e2;cases e2;exact .refl _
 ·obtain ⟨G',w,k,f⟩:=LRow.frzIn (e:=eI) (sz:=1) (pre:=pre) (post:=post) (v:=v) (by omega) (fun _=>rfl) (LPl.local eI) (LPl.frz eI) h hD hs (by rw [hG])
  exact ⟨G',w,by rw [k];rfl,f⟩
def outL (n:Nat) (L:List Ed):List (List Int):=(List.range n).map fun s=>(L.filter fun e=>decide (e.src=((s:Nat):Int))).map (·.dst)
theorem f_X (n:Nat) (L:List Ed):(outL n L).length=n:=by simp [outL]
theorem outL_nil (n:Nat):outL n []=List.replicate n []:=by
 apply List.ext_getElem
 ·simp [outL]
 ·intro i h1 h2;simp [outL]
theorem outL_get (n:Nat) (L:List Ed) {s:Nat} (h:s < n):(outL n L).getD s default=(L.filter fun e=>decide (e.src=(s:Int))).map (·.dst):=by simp [outL,List.getD,h]
theorem outL_push (n:Nat) (L:List Ed) (e:Ed) {w:Nat} (hw:e.src=(w:Int)) (h:w < n):outL n (L++[e])=(outL n L).set w ((outL n L).getD w default++[e.dst]):=by
 apply List.ext_getElem
 ·simp [outL]
 ·intro i h1 h2
  have hi:i < n:=by simpa [outL] using h1
  rw [List.getElem_set]
  by_cases e1:w=i
  ·subst e1
   rw [if_pos rfl,outL_get n L h]
   simp [outL,hw]
  ·rw [if_neg e1]
   have:¬e.src=(i:Int):=by omega
   simp [outL,this]
theorem outL_row (n:Nat) (L:List Ed) (s:Nat) (h:s < n):((outL n L).getD s default).length≤L.length:=by
 rw [outL_get n L h,List.length_map];exact List.length_filter_le ..
end Go.Proofs.YtohkciilfkhomaaGreat
namespace Go.Proofs.YtohkciilfkhomaaGreat
open Go Go.Sep Go.Pt
attribute [local irreducible] a_a
theorem b_O {n:Nat} {x:Int}:x∈below n↔0≤x∧x < n:=by
 simp only [below,List.mem_map,List.mem_range]
 constructor
 ·rintro ⟨a,ha,rfl⟩;omega
 ·rintro ⟨h1,h2⟩;exact ⟨x.toNat,by omega,by omega⟩
def letW (s l:List Int) (t:Nat):Int:=(s++l).getD t default
def nxW (s l:List Int) (t:Nat):Nat:=if t+1 < s.length+l.length then t+1 else s.length
theorem letW_1 {s l:List Int} {t:Nat} (h:t < s.length):letW s l t=s.getD t default:=by simp [letW,List.getD,List.getElem?_append_left h]
theorem letW_2 {s l:List Int} {t:Nat} (h:s.length≤t):letW s l t=l.getD (t - s.length) default:=by simp [letW,List.getD,List.getElem?_append_right h]
theorem l9At_spec (s l:List Int) (h1:s.length≤24) (h2:1≤l.length∧l.length≤24) {t:Nat} (ht:t < s.length+l.length):Pu Tryz.prog 121 [aL2 s l,I t] (I (letW s l t)):=by
 refine Pu.of fun H=>?_
 have e1:IntKind.i64.wrap ((t:Int) - (s.length:Int))=(t:Int) - s.length:=i6_ (by omega) (by omega)
 refine W121_ok ?_;simp (maxSteps:=1000000) (disch:=first|assumption|apply Y6;assumption) only [W121,vz,vu,vv,eqS,eF_,↓c1_,↓c2_,tabs,reduceCtorEq,X5,↓reduceIte,Y1,Y2,Y3,Y4,Y5,X1,X2,X3,X4]
 intro r hr
 have hle:=Heap.le_set (b:=[Is s,Is l]) hr
 (try simp (disch:=first|assumption|apply Y6;assumption) only [vz,vu,vv,eqS,eF_,↓c1_,↓c2_,tabs,reduceCtorEq,X5,↓reduceIte,Y1,Y2,Y3,Y4,Y5,X1,X2,X3,X4,e1])
 refine ⟨fun h=>?_,fun h=>?_⟩
 ·rw [letW_1 (by omega)]
  exact ⟨by omega,h,rfl,hle⟩
 ·have e2:((t:Int) - (s.length:Int)).tmod (l.length:Int)=(t:Int) - s.length:=Int.tmod_eq_of_lt (by omega) (by omega)
  have e3:((t:Int) - (s.length:Int)).toNat=t - s.length:=by omega
  rw [e2,e3,letW_2 (by omega)]
  exact ⟨by omega,by omega,by omega,rfl,hle⟩
theorem f_Y (s l:List Int) (h1:s.length≤24) (h2:1≤l.length∧l.length≤24) {t:Nat} (ht:t < s.length+l.length):Pu Tryz.prog 43 [aL2 s l,I t] (I (letW s l t)):=by
 refine Pu.of fun H=>?_
 have e1:IntKind.i64.wrap ((t:Int) - (s.length:Int))=(t:Int) - s.length:=i6_ (by omega) (by omega)
 refine W43_ok ?_;simp (maxSteps:=1000000) (disch:=first|assumption|apply Y6;assumption) only [W43,vz,vu,vv,eqS,eF_,↓c1_,↓c2_,tabs,reduceCtorEq,X5,↓reduceIte,Y1,Y2,Y3,Y4,Y5,X1,X2,X3,X4]
 intro r hr
 have hle:=Heap.le_set (b:=[Is s,Is l]) hr
 (try simp (disch:=first|assumption|apply Y6;assumption) only [vz,vu,vv,eqS,eF_,↓c1_,↓c2_,tabs,reduceCtorEq,X5,↓reduceIte,Y1,Y2,Y3,Y4,Y5,X1,X2,X3,X4,e1])
 refine ⟨fun h=>?_,fun h=>?_⟩
 ·rw [letW_1 (by omega)]
  exact ⟨by omega,h,rfl,hle⟩
 ·have e2:((t:Int) - (s.length:Int)).tmod (l.length:Int)=(t:Int) - s.length:=Int.tmod_eq_of_lt (by omega) (by omega)
  have e3:((t:Int) - (s.length:Int)).toNat=t - s.length:=by omega
  rw [e2,e3,letW_2 (by omega)]
  exact ⟨by omega,by omega,by omega,rfl,hle⟩
theorem e_L (s l:List Int) (h1:s.length≤24) (h2:1≤l.length∧l.length≤24) {t:Nat} (ht:t < s.length+l.length):Pu Tryz.prog 44 [aL2 s l,I t] (I (nxW s l t:Nat)):=by
 refine Pu.of fun H=>?_
 have e1:IntKind.i64.wrap ((t:Int)+1)=((t+1:Nat):Int):=by rw [i6_ (by omega) (by omega)];simp
 have e2:IntKind.i64.wrap ((s.length:Int)+(l.length:Int))=(s.length:Int)+l.length:=i6_ (by omega) (by omega)
 refine W44_ok ?_;simp (maxSteps:=1000000) (disch:=first|assumption|apply Y6;assumption) only [W44,vz,vu,vv,eqS,eF_,↓c1_,↓c2_,tabs,reduceCtorEq,X5,↓reduceIte,Y1,Y2,Y3,Y4,Y5,X1,X2,X3,X4]
 intro r hr
 have hle:=Heap.le_set (b:=[Is s,Is l]) hr
 (try simp (disch:=first|assumption|apply Y6;assumption) only [vz,vu,vv,eqS,eF_,↓c1_,↓c2_,tabs,reduceCtorEq,X5,↓reduceIte,Y1,Y2,Y3,Y4,Y5,X1,X2,X3,X4,e1,e2])
 refine ⟨fun h=>?_,fun h=>?_⟩
 ·rw [nxW,if_pos (by omega)];exact ⟨rfl,hle⟩
 ·rw [nxW,if_neg (by omega)];exact ⟨rfl,hle⟩
def wpS (m:Int) (s l:List Int) (t:Nat) (e:Ed):Ed:=⟨(t:Int)*m+e.src,e.lt,((nxW s l t:Nat):Int)*m+e.dst⟩
def wpR (m:Int) (s l:List Int) (t:Nat) (es:List Ed):List Ed:=(es.filter fun e=>decide (e.lt=letW s l t)).map (wpS m s l t)
def wpE (a:Au) (s l:List Int) (n:Nat):List Ed:=(List.range n).flatMap fun t=>wpR a.states s l t a.edges
theorem wpR_succ (m:Int) (s l:List Int) (t:Nat) (es:List Ed) {j:Nat} (h:j < es.length):wpR m s l t (es.take (j+1))=if (es.getD j default).lt=letW s l t then wpR m s l t (es.take j)++[wpS m s l t (es.getD j default)] else wpR m s l t (es.take j):=by
 unfold wpR
 rw [tS_ h,List.filter_append]
 generalize es.getD j default=e
 by_cases hc:e.lt=letW s l t
 ·rw [if_pos hc];simp [hc]
 ·rw [if_neg hc];simp [hc]
theorem f_Z (a:Au) (s l:List Int) (n:Nat):wpE a s l (n+1)=wpE a s l n++wpR a.states s l n a.edges:=by simp [wpE,List.range_succ,List.flatMap_append]
theorem wpR_len (m:Int) (s l:List Int) (t:Nat) (es:List Ed):(wpR m s l t es).length≤es.length:=by
 rw [wpR,List.length_map];exact List.length_filter_le ..
theorem wpE_len (a:Au) (s l:List Int) (n:Nat):(wpE a s l n).length≤n*a.edges.length:=by
 induction n with
 | zero=>simp [wpE]
 | succ n ih=>rw [f_Z,List.length_append,Nat.add_mul];have:=wpR_len a.states s l n a.edges;omega
def wpG (a:Au) (T k:Nat):List (List Int):=(a.goals.take k).map fun g=>prs (below T) g a.states
theorem wpG_succ (a:Au) (T:Nat) {k:Nat} (h:k < a.goals.length):wpG a T (k+1)=wpG a T k++[prs (below T) (a.goals.getD k default) a.states]:=by
 unfold wpG;rw [tS_ h,List.map_append];rfl
theorem wpG_len (a:Au) (T k:Nat):(wpG a T k).length≤k:=by rw [wpG,List.length_map,List.length_take];omega
def wpA (a:Au) (s l:List Int):Au:=⟨((s.length+l.length:Nat):Int)*a.states,a.first,wpE a s l (s.length+l.length),wpG a (s.length+l.length) a.goals.length⟩
theorem f_0 {s l:List Int} (h:b_e s l=true):s.length≤24∧(1≤l.length∧l.length≤24):=by
 simp only [b_e,Bool.and_eq_true,decide_eq_true_eq] at h
 exact ⟨h.1.1,h.1.2⟩
theorem nxW_lt {s l:List Int} {t:Nat} (h:1≤l.length) (ht:t < s.length+l.length):nxW s l t < s.length+l.length:=by
 unfold nxW;split<;>omega
theorem wpA_pr {a:Au} (ga:a_l a=true) {s l:List Int} (hs:s.length≤24) (hl:1≤l.length∧l.length≤24):PrB (wpA a s l):=by
 have fa:=a_B ga
 have na:=d_u ga
 have sa:=fa.st
 have hed:=fa.ed
 have hm:=c_e (a:=((s.length+l.length:Nat):Int)) (A:=48) (b:=a.states) (B:=96) (by omega) (by omega)
 have hpos:1*a.states≤((s.length+l.length:Nat):Int)*a.states:=Int.mul_le_mul_of_nonneg_right (by omega) (by omega)
 have hst:((wpA a s l).states.toNat:Int)=((s.length+l.length:Nat):Int)*a.states:=by show ((((s.length+l.length:Nat):Int)*a.states).toNat:Int)=_;omega
 have hgo:∀g∈(wpA a s l).goals,∃g0∈a.goals,g=prs (below (s.length+l.length)) g0 a.states:=by
  intro g hg
  obtain ⟨g0,h0,rfl⟩:=List.mem_map.1 (show g∈wpG a (s.length+l.length) a.goals.length from hg)
  exact ⟨g0,List.mem_of_mem_take h0,rfl⟩
 refine ⟨⟨⟨by show 1≤((s.length+l.length:Nat):Int)*a.states;omega,by show ((s.length+l.length:Nat):Int)*a.states≤_;omega⟩,?_,fun e he=>?_⟩,by show ((s.length+l.length:Nat):Int)*a.states≤_;omega,fun x hx=>?_,?_,?_,fun g hg x hx=>?_,fun g hg=>?_⟩
 ·show (wpE a s l (s.length+l.length)).length≤_
  have h1:=wpE_len a s l (s.length+l.length)
  have:(s.length+l.length)*a.edges.length≤48*2400:=Nat.mul_le_mul (by omega) hed
  omega
 ·simp only [wpA,wpE,wpR,List.mem_flatMap,List.mem_map,List.mem_filter,List.mem_range] at he
  obtain ⟨t,ht,e,⟨h1,h2⟩,rfl⟩:=he
  have i1:=a_h.1 (fa.ei e h1)
  have hn:=nxW_lt hl.1 ht
  have l1:=lex_bd (i:=(t:Int)) (n:=((s.length+l.length:Nat):Int)) (j:=e.src) (m:=a.states) (by omega) (by omega)
  have l2:=lex_bd (i:=((nxW s l t:Nat):Int)) (n:=((s.length+l.length:Nat):Int)) (j:=e.dst) (m:=a.states) (by omega) (by omega)
  exact a_h.2 ⟨⟨l1.1,l1.2⟩,⟨l2.1,l2.2⟩,i1.2.2⟩
 ·have:=na.fr x hx
  rw [hst];omega
 ·have:=fa.fi.2
  show a.first.length≤_;omega
 ·show (wpG a (s.length+l.length) a.goals.length).length≤_
  have:=wpG_len a (s.length+l.length) a.goals.length
  have:=fa.gl
  omega
 ·obtain ⟨g0,h0,rfl⟩:=hgo g hg
  obtain ⟨i,hi,j,hj,rfl⟩:=prs_mem.1 hx
  have:=b_O.1 hi
  have h3:=na.go g0 h0 j hj
  rw [hst]
  exact lex_bd (by omega) (by omega)
 ·obtain ⟨g0,h0,rfl⟩:=hgo g hg
  rw [prs_len,a_H]
  exact Nat.mul_le_mul (show s.length+l.length≤96 by omega) (fa.gi g0 h0).2
end Go.Proofs.YtohkciilfkhomaaGreat
namespace Go.Proofs.YtohkciilfkhomaaGreat
open Go Go.Sep Go.Pt
attribute [local irreducible] a_a
theorem tab_val {rows:List (List Int)} {q:Nat} {H G:Heap} {D:List Nat} (h:LRow LIn 1 rows (.sl q 1 0 rows.length) G D) (hn:New H G D):wkK (fun r H'=>r=Ls rows∧H'=H) (.sl q 1 0 rows.length) G:=by
 obtain ⟨G',w,f⟩:=LRow.frzV (e:=eL) (sz:=1) (v:=.sl q 1 0 rows.length) (v':=Ls rows) (by omega) (fun _=>rfl) LIn.local LIn.frz h hn.nd (fun q _ hr=>hr)
 refine ⟨_,H,.trans w (.forget fun y b hb=>?_),rfl,rfl⟩
 rw [f y (fun hy=>by rw [hn.fr y hy] at hb;cases hb)]
 exact hn.le y b hb
theorem e_M (a:Au) (ga:a_l a=true) (s l:List Int) (hs:s.length≤24) (hl:1≤l.length∧l.length≤24):Pu Tryz.prog 98 [aAu a,aL2 s l] (Ls (outR (wpA a s l) (wpA a s l).edges.length)):=by
 refine ⟨fun H=>a_a.fin ?_⟩
 have fa:=a_B ga
 have sa:=fa.st
 have hed:=fa.ed
 have e0:IntKind.i64.wrap ((s.length:Int)+(l.length:Int))=((s.length+l.length:Nat):Int):=by rw [i6_ (by omega) (by omega)];simp
 have hm:=c_e (a:=((s.length+l.length:Nat):Int)) (A:=48) (b:=a.states) (B:=96) (by omega) (by omega)
 have e1:IntKind.i64.wrap (((s.length+l.length:Nat):Int)*a.states)=((s.length+l.length:Nat):Int)*a.states:=i6_ (by omega) (by omega)
 refine W98_ok ?_;simp (maxSteps:=1000000) (disch:=first|assumption|apply Y6;assumption) only [W98,vz,vu,vv,eqS,eF_,↓c1_,↓c2_,tabs,reduceCtorEq,X5,↓reduceIte,Y1,Y2,Y3,Y4,Y5,X1,X2,X3,X4,mS_]
 intro r hr r3 n3 hr3
 have st:=((St.nil H).cell hr [I a.states,Is a.first,Es a.edges,Ls a.goals]).cell (r:=r3) (by rw [Heap.set_other n3];exact hr3) [Is s,Is l]
 have hfr:∀q,¬q=r3→¬q=r→H q=none→((H.set r [I a.states,Is a.first,Es a.edges,Ls a.goals]).set r3 [Is s,Is l]) q=none:=fun q h1 h2 h3=>by rw [Heap.set_other h1,Heap.set_other h2];exact h3
 generalize (H.set r [I a.states,Is a.first,Es a.edges,Ls a.goals]).set r3 [Is s,Is l]=G at st hfr ⊢
 clear hr hr3 n3
 (try simp (disch:=first|assumption|apply Y6;assumption) only [vz,vu,vv,eqS,eF_,↓c1_,↓c2_,tabs,reduceCtorEq,X5,↓reduceIte,Y1,Y2,Y3,Y4,Y5,X1,X2,X3,X4,lA_ (st.get 1 rfl),e0,e1,numV])
 refine ⟨by omega,by omega,by omega,by omega,fun q q1 q2 hq=>?_⟩
 replace st:=d_l (n:=(((s.length+l.length:Nat):Int)*a.states).toNat) st (q:=q) (hfr q q1 q2 hq)
 clear hfr q1 q2 hq
 rw [← outL_nil] at st
 generalize G.set q (zA_ (((s.length+l.length:Nat):Int)*a.states).toNat [.p .nil])=G3 at st ⊢
 have hwE:∀t j,t≤s.length+l.length→(wpE a s l t++wpR a.states s l t (a.edges.take j)).length≤200000:=fun t j ht=>by
  have h1:=wpE_len a s l t
  have h2:=wpR_len a.states s l t (a.edges.take j)
  rw [List.length_take] at h2
  have h3:t*a.edges.length≤48*2400:=Nat.mul_le_mul (by omega) hed
  rw [List.length_append];omega
 have hT0:outL (((s.length+l.length:Nat):Int)*a.states).toNat (wpE a s l (s.length+l.length))=outR (wpA a s l) (wpA a s l).edges.length:=by
  rw [outL,outR]
  show _=(List.range (((s.length+l.length:Nat):Int)*a.states).toNat).map (outN (wpA a s l) (wpA a s l).edges.length)
  congr 1
  funext t
  rw [outN,List.take_length];rfl
 rw [← hT0]
 clear hT0
 have hN:∀t:Nat,t < s.length+l.length→∀x:Int,0≤x∧x < a.states→0≤(t:Int)*a.states+x∧(t:Int)*a.states+x < ((s.length+l.length:Nat):Int)*a.states:=fun t ht x hx=>lex_bd (by omega) hx
 obtain ⟨N,hNe⟩:∃N,(((s.length+l.length:Nat):Int)*a.states).toNat=N:=⟨_,rfl⟩
 rw [hNe] at st ⊢
 have hNi:(N:Int)=((s.length+l.length:Nat):Int)*a.states:=by omega
 refine L98_0_rule ((0:Nat),[q],G3) (fun z=>I z.1) (fun z=>z.2.2)
  (fun z=>z.1≤s.length+l.length∧St H [tabT q (outL N (wpE a s l z.1)) z.2.1,cT_ r3 [Is s,Is l],cT_ r [I a.states,Is a.first,Es a.edges,Ls a.goals]] z.2.2) (fun z=>s.length+l.length - z.1)
  ⟨⟨by simp,by simpa [wpE] using st⟩,.refl _,Heap.le_refl _⟩ ?_
 clear st G3
 rintro ⟨t,D,G⟩ ⟨ht,st⟩
 dsimp only at ht st
 have e5:IntKind.i64.wrap ((t:Int)+1)=((t+1:Nat):Int):=by rw [i6_ (by omega) (by omega)];simp
 (try simp (disch:=first|assumption|apply Y6;assumption) only [vz,vu,vv,eqS,eF_,↓c1_,↓c2_,tabs,reduceCtorEq,X5,↓reduceIte,Y1,Y2,Y3,Y4,Y5,X1,X2,X3,X4,B98_0,e5])
 refine ⟨fun h1=>?_,fun h1=>?_⟩
 ·have hlt:t < s.length+l.length:=by omega
  have hnx:=nxW_lt (s:=s) hl.1 hlt
  have key:L98_1 (wkK fun r H'=>r=Ls (outL N (wpE a s l (s.length+l.length)))∧H'=H) (fun w7 H'=>∃z:Nat×List Nat×Heap,(z.1≤s.length+l.length∧St H [tabT q (outL N (wpE a s l z.1)) z.2.1,cT_ r3 [Is s,Is l],cT_ r [I a.states,Is a.first,Es a.edges,Ls a.goals]] z.2.2)∧s.length+l.length - z.1 < s.length+l.length - t∧AV.wk w7 (I z.1)∧Heap.le z.2.2 H') (.ptr r 0) (.ptr r3 0) (I ((s.length+l.length:Nat):Int)) (.sl q 1 0 N) (I t) (I (nxW s l t:Nat)) (Es a.edges) (I a.edges.length) (I 0) G:=by
   refine L98_1_rule ((0:Nat),D,G) (fun z=>I z.1) (fun z=>z.2.2)
    (fun z=>z.1≤a.edges.length∧St H [tabT q (outL N (wpE a s l t++wpR a.states s l t (a.edges.take z.1))) z.2.1,cT_ r3 [Is s,Is l],cT_ r [I a.states,Is a.first,Es a.edges,Ls a.goals]] z.2.2) (fun z=>a.edges.length - z.1)
    ⟨⟨by simp,by simpa [wpR] using st⟩,.refl _,Heap.le_refl _⟩ ?_
   clear st D G
   rintro ⟨j,D,G⟩ ⟨hj,st⟩
   dsimp only at hj st
   have e6:IntKind.i64.wrap ((j:Int)+1)=((j+1:Nat):Int):=by rw [i6_ (by omega) (by omega)];simp
   (try simp (disch:=first|assumption|apply Y6;assumption) only [vz,vu,vv,eqS,eF_,↓c1_,↓c2_,tabs,reduceCtorEq,X5,↓reduceIte,Y1,Y2,Y3,Y4,Y5,X1,X2,X3,X4,B98_1,e6])
   refine ⟨fun h2=>⟨by omega,h2,?_⟩,fun h2=>?_⟩
   ·have hltj:j < a.edges.length:=by omega
    have hdi:=a_h.1 (fa.ei _ (a_e (p:=fun x=>x∈a.edges) (d:=default) (fun _ h=>h) hltj))
    have hs2:=wpR_succ a.states s l t a.edges hltj
    have hbj:=hwE t j ht
    generalize a.edges.getD j default=d at hdi hs2 ⊢
    intro r12 hr12
    replace st:=st.cell hr12 [I d.src,I d.lt,I d.dst]
    generalize G.set r12 [I d.src,I d.lt,I d.dst]=G5 at st ⊢
    clear hr12
    (try simp (disch:=first|assumption|apply Y6;assumption) only [vz,vu,vv,eqS,eF_,↓c1_,↓c2_,tabs,reduceCtorEq,X5,↓reduceIte,Y1,Y2,Y3,Y4,Y5,X1,X2,X3,X4,lA_ (st.get 0 rfl),lA_ (st.get 2 rfl)])
    refine Pu.use (l9At_spec s l hs hl hlt) ?_
    (try simp (disch:=first|assumption|apply Y6;assumption) only [vz,vu,vv,eqS,eF_,↓c1_,↓c2_,tabs,reduceCtorEq,X5,↓reduceIte,Y1,Y2,Y3,Y4,Y5,X1,X2,X3,X4,lA_ (st.get 0 rfl),lA_ (st.get 2 rfl),lA_ (st.get 3 rfl),e6])
    refine ⟨fun h3=>?_,fun h3=>?_⟩
    ·rw [if_pos h3] at hs2
     have x1:=hN t hlt d.src (by omega)
     have x2:=hN (nxW s l t) hnx d.dst (by omega)
     have y1:0≤(t:Int)*a.states:=Int.mul_nonneg (by omega) (by omega)
     have y2:0≤((nxW s l t:Nat):Int)*a.states:=Int.mul_nonneg (by omega) (by omega)
     have w1:IntKind.i64.wrap ((t:Int)*a.states)=(t:Int)*a.states:=i6_ (by omega) (by omega)
     have w2:IntKind.i64.wrap ((t:Int)*a.states+d.src)=(t:Int)*a.states+d.src:=i6_ (by omega) (by omega)
     have w3:IntKind.i64.wrap (((nxW s l t:Nat):Int)*a.states)=((nxW s l t:Nat):Int)*a.states:=i6_ (by omega) (by omega)
     obtain ⟨xd,hxd⟩:∃xd,((nxW s l t:Nat):Int)*a.states+d.dst=xd:=⟨_,rfl⟩
     have w4:IntKind.i64.wrap (((nxW s l t:Nat):Int)*a.states+d.dst)=xd:=by rw [← hxd];exact i6_ (by omega) (by omega)
     obtain ⟨w,hw⟩:∃w:Nat,(t:Int)*a.states+d.src=(w:Int):=⟨((t:Int)*a.states+d.src).toNat,by omega⟩
     have hwN:w < N:=by omega
     have hpush:=outL_push N (wpE a s l t++wpR a.states s l t (a.edges.take j)) (wpS a.states s l t d) (w:=w) hw hwN
     rw [List.append_assoc,← hs2] at hpush
     have hrl:=outL_row N (wpE a s l t++wpR a.states s l t (a.edges.take j)) w hwN
     have htl:=f_X N (wpE a s l t++wpR a.states s l t (a.edges.take j))
     have hdst:(wpS a.states s l t d).dst=((nxW s l t:Nat):Int)*a.states+d.dst:=rfl
     rw [hdst,hxd] at hpush
     rw [hw] at w2
     obtain ⟨pre,c,post,Di,Dr,hpl,hpp,st⟩:=c_1 st 1 rfl (i:=w) (by omega)
     rw [htl] at hpp
     simp only [List.eraseIdx_cons_succ,List.eraseIdx_cons_zero] at st
     generalize outL N (wpE a s l t++wpR a.states s l t (a.edges.take j))=rows at st hpush hrl htl
     generalize hr0:rows.getD w default=row at st hpush hrl
     have hG:=(st.get 1 rfl:(a_7 q pre c post _ _ Dr).P G5).1
     have hrd:=tab_rd (c:=c) (post:=post) hpl
     have hb:w*1+1≤pre.length+(post.length+1):=by omega
     have hsp:∀c',List.take (w*1) (pre++(c::post))++[c']++List.drop (w*1+1) (pre++(c::post))=pre++(c'::post):=fun c'=>tab_sp hpl
     (try simp (disch:=first|assumption|apply Y6;assumption) only [vz,vu,vv,eqS,eF_,↓c1_,↓c2_,tabs,reduceCtorEq,X5,↓reduceIte,Y1,Y2,Y3,Y4,Y5,X1,X2,X3,X4,lA_ (st.get 2 rfl),lA_ (st.get 4 rfl),w1,w2,w3,w4,hw,lA_ hG,hrd,Int.toNat_natCast])
     refine ⟨by omega,by omega,hb,?_⟩
     refine lit1 a_g rfl a_u ⟨rfl,rfl⟩ ?_
     (try simp (disch:=first|assumption|apply Y6;assumption) only [vz,vu,vv,eqS,eF_,↓c1_,↓c2_,tabs,reduceCtorEq,X5,↓reduceIte,Y1,Y2,Y3,Y4,Y5,X1,X2,X3,X4,lA_ (st.get 2 rfl),lA_ (st.get 3 rfl),lA_ (st.get 4 rfl),lA_ hG,hrd])
     refine ⟨hb,?_⟩
     refine d_m (ys:=[xd]) st 0 rfl (by simp only [List.length_cons,List.length_nil];omega) fun q' G' hq' st=>?_
     simp only [List.set_cons_zero] at st
     have hG:=(st.get 1 rfl:(a_7 q pre c post _ _ Dr).P G').1
     (try simp (disch:=first|assumption|apply Y6;assumption) only [vz,vu,vv,eqS,eF_,↓c1_,↓c2_,tabs,reduceCtorEq,X5,↓reduceIte,Y1,Y2,Y3,Y4,Y5,X1,X2,X3,X4,lA_ (st.get 2 rfl),lA_ (st.get 3 rfl),lA_ (st.get 4 rfl),sA_ hG])
     refine ⟨by omega,by omega,hb,?_⟩
     obtain ⟨D',st⟩:=e_a st (by omega)
     rw [← hpush] at st
     rw [hsp]
     simp only [rowP,List.length_append,List.length_singleton] at st
     exact ⟨(j+1,D',_),⟨by simp only;omega,st.erase 1⟩,by simp only;omega,.refl _,Heap.le_refl _⟩
    ·rw [if_neg h3] at hs2
     exact ⟨(j+1,D,_),⟨by simp only;omega,by rw [hs2];exact st.drop⟩,by simp only;omega,.refl _,Heap.le_refl _⟩
   ·have:j=a.edges.length:=by omega
    subst this
    rw [List.take_length,← f_Z] at st
    (try simp (disch:=first|assumption|apply Y6;assumption) only [vz,vu,vv,eqS,eF_,↓c1_,↓c2_,tabs,reduceCtorEq,X5,↓reduceIte,Y1,Y2,Y3,Y4,Y5,X1,X2,X3,X4,e5])
    exact ⟨(t+1,D,G),⟨by simp only;omega,st⟩,by simp only;omega,.refl _,Heap.le_refl _⟩
  refine ⟨fun h3=>?_,fun h3=>?_⟩
  ·rw [nxW,if_neg (by omega)] at key
   (try simp (disch:=first|assumption|apply Y6;assumption) only [vz,vu,vv,eqS,eF_,↓c1_,↓c2_,tabs,reduceCtorEq,X5,↓reduceIte,Y1,Y2,Y3,Y4,Y5,X1,X2,X3,X4,lA_ (st.get 1 rfl),lA_ (st.get 2 rfl)])
   exact key
  ·rw [nxW,if_pos (by omega)] at key
   (try simp (disch:=first|assumption|apply Y6;assumption) only [vz,vu,vv,eqS,eF_,↓c1_,↓c2_,tabs,reduceCtorEq,X5,↓reduceIte,Y1,Y2,Y3,Y4,Y5,X1,X2,X3,X4,lA_ (st.get 1 rfl),lA_ (st.get 2 rfl)])
   exact key
 ·have:t=s.length+l.length:=by omega
  subst this
  have htl:=f_X N (wpE a s l (s.length+l.length))
  generalize outL N (wpE a s l (s.length+l.length))=T0 at st htl ⊢
  subst htl
  exact tab_val (st.get 0 rfl) ⟨st.ndT 0 rfl,st.fr _ (List.mem_of_getElem? (i:=0) rfl),st.le⟩
end Go.Proofs.YtohkciilfkhomaaGreat
namespace Go.Proofs.YtohkciilfkhomaaGreat
open Go Go.Sep Go.Pt
attribute [local irreducible] a_a
def gwB (n:Nat) (p:Nat→Bool):List Nat:=(List.range n).filter p
theorem d_b (n:Nat) (p:Nat→Bool):gwB (n+1) p=if p n then gwB n p++[n] else gwB n p:=by
 simp only [gwB,List.range_succ,List.filter_append,List.filter_cons,List.filter_nil]
 cases p n<;>simp
theorem a_3 (n:Nat) (p:Nat→Bool):(gwB n p).length≤n:=by
 have:=List.length_filter_le p (List.range n);simpa [gwB] using this
theorem reach_O {p:Au} (h:PrB p):Pu Tryz.prog 64 [Ls (outR p p.edges.length),Is p.first] (Is (nI (gwB (gO p).length fun v=>decide (0≤farF (rwF (gO p)) (gO p).length (nN p.first) v)))):=by
 refine ⟨fun H=>a_a.fin ?_⟩
 refine a_a.ghost W64_hb fun z hz=>?_
 have st:=lent (LPl.local eI) (LPl.has eI) 1 ((St.nil H).cell hz []) 0 rfl
 generalize H.set z []=G at st ⊢
 clear hz
 refine W64_ok ?_;simp (maxSteps:=1000000) (disch:=first|assumption|apply Y6;assumption) only [W64,vz,vu,vv,eqS,eF_,↓c1_,↓c2_,tabs,reduceCtorEq,X5,↓reduceIte,Y1,Y2,Y3,Y4,Y5,X1,X2,X3,X4]
 refine Pu.use (far_O h) ?_
 have hn:(gO p).length≤4608:=by have:=c_B p;have:=h.n;omega
 generalize farF (rwF (gO p)) (gO p).length (nN p.first)=F
 generalize (gO p).length=n at hn ⊢
 have hml:=a_f F n
 (try simp (disch:=first|assumption|apply Y6;assumption) only [vz,vu,vv,eqS,eF_,↓c1_,↓c2_,tabs,reduceCtorEq,X5,↓reduceIte,Y1,Y2,Y3,Y4,Y5,X1,X2,X3,X4,hml])
 refine e_5 ((0:Nat),(.p .nil:AV),[z],G) (fun s=>s.2.1) (fun s=>I s.1) (fun s=>s.2.2.2)
  (fun s=>s.1≤n∧St H [riT z s.2.1 (nI (gwB s.1 fun v=>decide (0≤F v))) s.2.2.1] s.2.2.2) (fun s=>n - s.1)
  ⟨⟨by simp,st⟩,.refl _,.refl _,Heap.le_refl _⟩ ?_
 clear st G
 rintro ⟨i,x,D,G⟩ ⟨hi,st⟩
 dsimp only at hi st
 have e5:IntKind.i64.wrap ((i:Int)+1)=((i+1:Nat):Int):=by rw [i6_ (by omega) (by omega)];simp
 have hs:=d_b i fun v=>decide (0≤F v)
 have hgl:=a_3 i fun v=>decide (0≤F v)
 have hnl:=nL_ (gwB i fun v=>decide (0≤F v))
 (try simp (disch:=first|assumption|apply Y6;assumption) only [vz,vu,vv,eqS,eF_,↓c1_,↓c2_,tabs,reduceCtorEq,X5,↓reduceIte,Y1,Y2,Y3,Y4,Y5,X1,X2,X3,X4,B64_0,hml,e5])
 refine ⟨fun h1=>⟨by omega,h1,?_⟩,fun h1=>?_⟩
 ·have hg:=a_P F (n:=n) (v:=i) (by omega)
  rw [hg]
  refine ⟨fun h2=>?_,fun h2=>?_⟩
  ·simp only [h2,decide_true,if_true] at hs
   refine lit1 a_g rfl a_u ⟨rfl,rfl⟩ ?_
   refine c_I (ys:=[(i:Int)]) st 0 rfl (by simp only [List.length_singleton];omega) fun q' G' hq' st=>?_
   have e:nI (gwB i fun v=>decide (0≤F v))++[(i:Int)]=nI (gwB (i+1) fun v=>decide (0≤F v)):=by rw [hs,a_X];rfl
   rw [e] at st ⊢
   (try simp (disch:=first|assumption|apply Y6;assumption) only [vz,vu,vv,eqS,eF_,↓c1_,↓c2_,tabs,reduceCtorEq,X5,↓reduceIte,Y1,Y2,Y3,Y4,Y5,X1,X2,X3,X4,e5])
   exact ⟨(i+1,_,[q'],_),⟨by simp only;omega,st⟩,by simp only;omega,.refl _,.refl _,Heap.le_refl _⟩
  ·simp only [h2,decide_false,Bool.false_eq_true,if_false] at hs
   exact ⟨(i+1,x,D,G),⟨by simp only;omega,by rw [hs];exact st⟩,by simp only;omega,.refl _,.refl _,Heap.le_refl _⟩
 ·have:i=n:=by omega
  subst this
  obtain ⟨x',hx,lx⟩:=(st.get 0 rfl:RZ (LPl eI) 1 z x _ G D).row
  obtain ⟨q,c,E,rfl,hq,ll,rfl⟩:=lx
  obtain ⟨rfl,rfl⟩:=LL.plain' ll
  have:=f_x (sz:=1) (es:=(nI (gwB i fun v=>decide (0≤F v))).map eI) (q:=q) (H:=H) (H':=G) (K:=fun r H'=>r=Is (nI (gwB i fun v=>decide (0≤F v)))∧H'=H) (by omega) (szI _) (st.fr _ (List.mem_of_getElem? (i:=0) rfl) q (by simp [rzT])) (fun y b hy=>by
   by_cases e:y=q
   ·subst e;rw [Heap.set_same] at hy;rw [← hy];exact hq
   ·rw [Heap.set_other e] at hy;exact st.le y b hy) ⟨rfl,rfl⟩
  obtain ⟨v,H2,w,k⟩:=this
  refine ⟨v,H2,.trans (.val hx) ?_,k⟩
  simpa only [Go.Sep.own,List.length_map] using w
noncomputable def twF (p:Au):Bool:=decide (0≤b_S (rwF (gO p)) (gO p).length (nN p.first) (goN p.goals))
theorem twF_iff (p:Au):twF p=true↔∃v,v < (gO p).length∧0≤farF (rwF (gO p)) (gO p).length (nN p.first) v∧a_s (rwF (gO p)) (goN p.goals) v=true:=by
 rw [twF,decide_eq_true_eq,b_S]
 rcases a_8 (farF (rwF (gO p)) (gO p).length (nN p.first)) ((List.range (gO p).length).filter (a_s (rwF (gO p)) (goN p.goals))) with ⟨h1,h2⟩ | ⟨v,hv,h1,h2,_⟩
 ·rw [h1]
  constructor
  ·intro h;omega
  ·rintro ⟨v,hv,h3,h4⟩
   have:=h2 v (List.mem_filter.2 ⟨List.mem_range.2 hv,h4⟩)
   omega
 ·rw [h1]
  constructor
  ·intro _
   obtain ⟨h3,h4⟩:=List.mem_filter.1 hv
   exact ⟨v,List.mem_range.1 h3,h2,h4⟩
  ·intro _;omega
theorem e_s (n:Nat) {i:Nat} (h:i≤n):(below n).take i=below i:=by
 unfold below
 rw [← List.map_take,List.take_range,Nat.min_eq_left h]
theorem f_k {n i:Nat} (h:i < n):(below n).getD i default=(i:Int):=by
 unfold below;simp [List.getD,h]
theorem goalsT (a:Au) (s l:List Int):(wpA a s l).goals=wpG a (s.length+l.length) a.goals.length:=rfl
theorem f_1 (a:Au) (ga:a_l a=true) (s l:List Int) (hs:s.length≤24) (hl:1≤l.length∧l.length≤24):Pu Tryz.prog 50 [aAu a,aL2 s l] (B (twF (wpA a s l))):=by
 refine Pu.of fun H=>?_
 have fa:=a_B ga
 have sa:=fa.st
 have hgl:=fa.gl
 have hpr:=wpA_pr ga hs hl
 have e0:IntKind.i64.wrap ((s.length:Int)+(l.length:Int))=((s.length+l.length:Nat):Int):=by rw [i6_ (by omega) (by omega)];simp
 refine a_a.ghost W50_hb fun z hz=>?_
 have st:=lent LIc.local LIc.has 1 ((St.nil H).cell hz []) 0 rfl
 generalize H.set z []=G at st ⊢
 clear hz
 refine W50_ok ?_;simp (maxSteps:=1000000) (disch:=first|assumption|apply Y6;assumption) only [W50,vz,vu,vv,eqS,eF_,↓c1_,↓c2_,tabs,reduceCtorEq,X5,↓reduceIte,Y1,Y2,Y3,Y4,Y5,X1,X2,X3,X4,e0]
 intro r hr r3 n3 hr3
 replace st:=(st.cell hr [I a.states,Is a.first,Es a.edges,Ls a.goals]).cell (r:=r3) (by rw [Heap.set_other n3];exact hr3) [Is s,Is l]
 generalize (G.set r [I a.states,Is a.first,Es a.edges,Ls a.goals]).set r3 [Is s,Is l]=G1 at st ⊢
 clear hr hr3 n3
 obtain ⟨T,hT⟩:∃T,s.length+l.length=T:=⟨_,rfl⟩
 have hgo:=goalsT a s l
 rw [hT] at hgo ⊢
 replace st:St H [cT_ r3 [Is s,Is l],cT_ r [I a.states,Is a.first,Es a.edges,Ls a.goals],rgT z (.p .nil) [] [z]] G1:=st
 (try simp (disch:=first|assumption|apply Y6;assumption) only [vz,vu,vv,eqS,eF_,↓c1_,↓c2_,tabs,reduceCtorEq,X5,↓reduceIte,Y1,Y2,Y3,Y4,Y5,X1,X2,X3,X4,lA_ (st.get 1 rfl)])
 refine L50_0_ruleG ((0:Nat),(.p .nil:AV),[z],G1) (fun s=>s.2.1) (fun s=>I s.1) (fun s=>s.2.2.2)
  (fun k=>k.1≤a.goals.length∧St H [cT_ r3 [Is s,Is l],cT_ r [I a.states,Is a.first,Es a.edges,Ls a.goals],rgT z k.2.1 (wpG a T k.1) k.2.2.1] k.2.2.2) (fun k=>a.goals.length - k.1)
  ⟨⟨by simp,by simpa [wpG] using st⟩,.refl _,.refl _,Heap.le_refl _⟩ ?_
 clear st G1 G
 rintro ⟨k,x,Dz,G⟩ ⟨hk,st⟩ z2 hz2
 dsimp only at hk st hz2 ⊢
 replace st:=st.cell hz2 (cP fI [])
 change St H (cT_ z2 (cP fI [])::_) (G.set z2 []) at st
 generalize G.set z2 []=G at st ⊢
 have e5:IntKind.i64.wrap ((k:Int)+1)=((k+1:Nat):Int):=by rw [i6_ (by omega) (by omega)];simp
 have hwl:=wpG_len a T k
 (try simp (disch:=first|assumption|apply Y6;assumption) only [vz,vu,vv,eqS,eF_,↓c1_,↓c2_,tabs,reduceCtorEq,X5,↓reduceIte,Y1,Y2,Y3,Y4,Y5,X1,X2,X3,X4,B50_0,e5])
 refine ⟨fun h1=>⟨by omega,h1,?_⟩,fun h1=>?_⟩
 ·have hltk:k < a.goals.length:=by omega
  have hgk:=a_e (p:=fun x=>smI x∧x.length≤96) (d:=default) fa.gi hltk
  have hsucc:=wpG_succ a T hltk
  generalize a.goals.getD k default=gk at hgk hsucc ⊢
  have hTb:T≤48:=by omega
  refine L50_1_rule ((0:Nat),z2,G) (fun s=>rowP s.2.1 (prs (below s.1) gk a.states)) (fun s=>I s.1) (fun s=>s.2.2)
   (fun k2=>k2.1≤T∧St H [cT_ k2.2.1 (cP fI (prs (below k2.1) gk a.states)),cT_ r3 [Is s,Is l],cT_ r [I a.states,Is a.first,Es a.edges,Ls a.goals],rgT z x (wpG a T k) Dz] k2.2.2) (fun k2=>T - k2.1)
   ⟨⟨by simp,by simpa [below,prs] using st⟩,by simp [below,prs];exact .nilo _ _ _,.refl _,Heap.le_refl _⟩ ?_
  clear st hz2
  rintro ⟨i,q,G⟩ ⟨hi,st⟩
  dsimp only at hi st
  have hpl:=prs_len (below i) gk a.states
  rw [a_H] at hpl
  have hml:i*gk.length≤48*96:=Nat.mul_le_mul (by omega) hgk.2
  (try simp (disch:=first|assumption|apply Y6;assumption) only [vz,vu,vv,eqS,eF_,↓c1_,↓c2_,tabs,reduceCtorEq,X5,↓reduceIte,Y1,Y2,Y3,Y4,Y5,X1,X2,X3,X4,B50_1])
  refine ⟨fun h2=>?_,fun h2=>?_⟩
  ·have hlti:i < T:=by omega
   have hps:prs (below (i+1)) gk a.states=prs (below i) gk a.states++gk.map fun j=>(i:Int)*a.states+j:=by
    have:=prs_succ (below (i+1)) gk a.states (i:=i) (by rw [a_H];omega)
    rw [e_s _ (Nat.le_succ i),f_k (Nat.lt_succ_self i)] at this
    rw [← this,List.take_of_length_le (by rw [a_H];omega)]
   refine L50_2_rule ((0:Nat),q,G) (fun s=>rowP s.2.1 (prs (below i) gk a.states++(gk.take s.1).map fun j=>(i:Int)*a.states+j)) (fun s=>I s.1) (fun s=>s.2.2)
    (fun k3=>k3.1≤gk.length∧St H [cT_ k3.2.1 (cP fI (prs (below i) gk a.states++(gk.take k3.1).map fun j=>(i:Int)*a.states+j)),cT_ r3 [Is s,Is l],cT_ r [I a.states,Is a.first,Es a.edges,Ls a.goals],rgT z x (wpG a T k) Dz] k3.2.2) (fun k3=>gk.length - k3.1)
    ⟨⟨by simp,by simpa using st⟩,by simp;exact .refl _,.refl _,Heap.le_refl _⟩ ?_
   clear st
   rintro ⟨j,q,G⟩ ⟨hj,st⟩
   dsimp only at hj st
   (try simp (disch:=first|assumption|apply Y6;assumption) only [vz,vu,vv,eqS,eF_,↓c1_,↓c2_,tabs,reduceCtorEq,X5,↓reduceIte,Y1,Y2,Y3,Y4,Y5,X1,X2,X3,X4,B50_2,lA_ (st.get 2 rfl)])
   refine ⟨fun h3=>⟨by omega,h3,?_⟩,fun h3=>?_⟩
   ·have hltj:j < gk.length:=by omega
    have hx:=a_e (p:=fun x=>0≤x∧x≤100000) (d:=default) hgk.1.2 hltj
    have ht:(gk.take (j+1)).map (fun j=>(i:Int)*a.states+j)=(gk.take j).map (fun j=>(i:Int)*a.states+j)++[(i:Int)*a.states+gk.getD j default]:=by
     rw [tS_ hltj,List.map_append];rfl
    have hlt:((gk.take j).map fun j=>(i:Int)*a.states+j).length≤96:=by rw [List.length_map,List.length_take];omega
    generalize gk.getD j default=e at hx ht ⊢
    have m1:=c_e (a:=i) (A:=48) (b:=a.states) (B:=96) (by omega) (by omega)
    have e1:IntKind.i64.wrap ((i:Int)*a.states)=(i:Int)*a.states:=i6_ (by omega) (by omega)
    have e2:IntKind.i64.wrap ((i:Int)*a.states+e)=(i:Int)*a.states+e:=i6_ (by omega) (by omega)
    have e3:IntKind.i64.wrap ((j:Int)+1)=((j+1:Nat):Int):=by rw [i6_ (by omega) (by omega)];simp
    (try simp (disch:=first|assumption|apply Y6;assumption) only [vz,vu,vv,eqS,eF_,↓c1_,↓c2_,tabs,reduceCtorEq,X5,↓reduceIte,Y1,Y2,Y3,Y4,Y5,X1,X2,X3,X4,e1,e2,e3])
    refine lit1 a_g rfl a_u ⟨rfl,rfl⟩ ?_
    refine c_J (ys:=[(i:Int)*a.states+e]) st 0 rfl (by rw [List.length_append];simp only [List.length_singleton];omega) fun q' G' hq' st=>?_
    rw [List.append_assoc,← ht] at st ⊢
    exact ⟨(j+1,q',G'),⟨by simp only;omega,st⟩,by simp only;omega,.refl _,.refl _,Heap.le_refl _⟩
   ·have:j=gk.length:=by omega
    subst this
    rw [List.take_length,← hps] at st ⊢
    have e3:IntKind.i64.wrap ((i:Int)+1)=((i+1:Nat):Int):=by rw [i6_ (by omega) (by omega)];simp
    (try simp (disch:=first|assumption|apply Y6;assumption) only [vz,vu,vv,eqS,eF_,↓c1_,↓c2_,tabs,reduceCtorEq,X5,↓reduceIte,Y1,Y2,Y3,Y4,Y5,X1,X2,X3,X4,e3])
    exact ⟨(i+1,q,G),⟨by simp only;omega,st⟩,by simp only;omega,.refl _,.refl _,Heap.le_refl _⟩
  ·have:i=T:=by omega
   subst this
   (try simp (disch:=first|assumption|apply Y6;assumption) only [vz,vu,vv,eqS,eF_,↓c1_,↓c2_,tabs,reduceCtorEq,X5,↓reduceIte,Y1,Y2,Y3,Y4,Y5,X1,X2,X3,X4,e5])
   refine a_2 fun ql hql=>?_
   replace st:=st.cell hql [rowP q (prs (below i) gk a.states)]
   generalize G.set ql [.sl q 1 0 (prs (below i) gk a.states).length]=G4 at st ⊢
   (try simp (disch:=first|assumption|apply Y6;assumption) only [vz,vu,vv,eqS,eF_,↓c1_,↓c2_,tabs,reduceCtorEq,X5,↓reduceIte,Y1,Y2,Y3,Y4,Y5,X1,X2,X3,X4])
   refine c_Y st 2 rfl (by omega) fun q' D' G5 hq' st=>?_
   rw [← hsucc] at st
   (try simp (disch:=first|assumption|apply Y6;assumption) only [vz,vu,vv,eqS,eF_,↓c1_,↓c2_,tabs,reduceCtorEq,X5,↓reduceIte,Y1,Y2,Y3,Y4,Y5,X1,X2,X3,X4,e5])
   exact ⟨(k+1,_,D',_),⟨by simp only;omega,st⟩,by simp only;omega,.refl _,.refl _,Heap.le_refl _⟩
 ·have:k=a.goals.length:=by omega
  subst this
  rw [← hgo] at st
  have hbe:=e_M a ga s l hs hl
  have hre:=reach_O hpr
  have hfa:=fair_O hpr
  have hfst:(wpA a s l).first=a.first:=rfl
  have hlen:(outR (wpA a s l) (wpA a s l).edges.length).length=(gO (wpA a s l)).length:=by rw [c_3,c_B]
  have hn:(gO (wpA a s l)).length≤4608:=by have:=c_B (wpA a s l);have:=hpr.n;omega
  have htw:=twF_iff (wpA a s l)
  generalize outR (wpA a s l) (wpA a s l).edges.length=T0 at hbe hre hfa hlen
  generalize hF:farF (rwF (gO (wpA a s l))) (gO (wpA a s l)).length (nN (wpA a s l).first)=F at hre htw
  rw [hfst] at hre
  generalize a_s (rwF (gO (wpA a s l))) (goN (wpA a s l).goals)=fr at hfa htw
  generalize (gO (wpA a s l)).length=n at hre hfa hlen hn htw
  generalize twF (wpA a s l)=ans at htw ⊢
  generalize (wpA a s l).goals=gs at st hfa
  (try simp (disch:=first|assumption|apply Y6;assumption) only [vz,vu,vv,eqS,eF_,↓c1_,↓c2_,tabs,reduceCtorEq,X5,↓reduceIte,Y1,Y2,Y3,Y4,Y5,X1,X2,X3,X4,lA_ (st.get 1 rfl),lA_ (st.get 2 rfl)])
  refine Pu.use hbe ?_
  obtain ⟨x',hx,lx⟩:=(st.get 3 rfl:RZ LIc 1 z x gs G Dz).row
  obtain ⟨Gw,w2,f2⟩:=LRow.frzV (e:=eL) (sz:=1) (v:=.tup [Ls T0,x']) (v':=.tup [Ls T0,Ls gs]) (by omega) (fun _=>rfl) LIc.local LIc.frz lx (st.ndT 3 rfl) (fun q _ hr=>.tup (.cons (.same _) (.cons hr .nil)))
  have hwk:Wk (.tup [Ls T0,x]) G (.tup [Ls T0,Ls gs]) Gw:=.trans (.val (v':=.tup [Ls T0,x']) (a_W ⟨.refl _,hx,trivial⟩)) w2
  have hle:Heap.le H Gw:=fun v bb hb=>by rw [f2 v (st.wkNone v bb hb _ (List.mem_of_getElem? (i:=3) rfl))];exact st.le v bb hb
  have g1:Gw r=some [I a.states,Is a.first,Es a.edges,Ls a.goals]:=by
   rw [f2 r (fun hm=>st.disjI 3 2 rfl rfl (by decide) r hm (by simp [cT_]))];exact st.get 2 rfl
  (try simp (disch:=first|assumption|apply Y6;assumption) only [vz,vu,vv,eqS,eF_,↓c1_,↓c2_,tabs,reduceCtorEq,X5,↓reduceIte,Y1,Y2,Y3,Y4,Y5,X1,X2,X3,X4,hlen])
  refine a_a.pre (Pu.use hfa ?_) hwk
  have hfl:(nI ((List.range n).filter fr)).length≤100000:=by
   rw [nL_];have:=a_3 n fr;unfold gwB at this;omega
  (try simp (disch:=first|assumption|apply Y6;assumption) only [vz,vu,vv,eqS,eF_,↓c1_,↓c2_,tabs,reduceCtorEq,X5,↓reduceIte,Y1,Y2,Y3,Y4,Y5,X1,X2,X3,X4])
  refine d_C n (nI ((List.range n).filter fr)) (by omega) hfl (fun x hx=>?_) fun q9 G9 hn9 hq9=>?_
  ·obtain ⟨v,hv,rfl⟩:=nI_mem.1 hx
   have:=List.mem_range.1 (List.mem_filter.1 hv).1
   omega
  have g2:=hn9.le _ _ g1
  have hle9:=Heap.le_trans hle hn9.le
  have hany:∀v,v < n→(anyP (nI ((List.range n).filter fr)) (fun x t=>decide (x=(t:Int))) (nI ((List.range n).filter fr)).length n).getD v default=fr v:=fun v hv=>by
   rw [f_W _ _ _ hv,List.take_length]
   cases hfv:fr v
   ·rw [List.any_eq_false]
    intro x hx
    obtain ⟨u,hu,rfl⟩:=nI_mem.1 hx
    have:=(List.mem_filter.1 hu).2
    simp only [decide_eq_true_eq]
    intro e
    have:u=v:=by omega
    subst this
    rw [hfv] at this;simp_all
   ·rw [List.any_eq_true]
    exact ⟨(v:Int),nI_mem.2 ⟨v,List.mem_filter.2 ⟨List.mem_range.2 hv,hfv⟩,rfl⟩,by simp⟩
  have hal:=b_i (nI ((List.range n).filter fr)) (fun x t=>decide (x=(t:Int))) (nI ((List.range n).filter fr)).length n
  generalize anyP (nI ((List.range n).filter fr)) (fun x t=>decide (x=(t:Int))) (nI ((List.range n).filter fr)).length n=mk at hq9 hany hal
  (try simp (disch:=first|assumption|apply Y6;assumption) only [vz,vu,vv,eqS,eF_,↓c1_,↓c2_,tabs,reduceCtorEq,X5,↓reduceIte,Y1,Y2,Y3,Y4,Y5,X1,X2,X3,X4,lA_ g2])
  refine Pu.use hre ?_
  have hll:=nL_ (gwB n fun v=>decide (0≤F v))
  have hgb:=a_3 n fun v=>decide (0≤F v)
  have hmem:∀v,v∈gwB n (fun v=>decide (0≤F v))↔v < n∧0≤F v:=fun v=>by simp [gwB]
  generalize gwB n (fun v=>decide (0≤F v))=rl at hll hgb hmem ⊢
  (try simp (disch:=first|assumption|apply Y6;assumption) only [vz,vu,vv,eqS,eF_,↓c1_,↓c2_,tabs,reduceCtorEq,X5,↓reduceIte,Y1,Y2,Y3,Y4,Y5,X1,X2,X3,X4,hll])
  refine L50_3_rule (0:Nat) (fun i=>I i) (fun _=>G9) (fun i=>i≤rl.length∧∀j,j < i→fr (rl.getD j 0)=false) (fun i=>rl.length - i) ⟨⟨by omega,by intros;omega⟩,.refl _,Heap.le_refl _⟩ ?_
  rintro i ⟨hi,ha⟩
  have e6:IntKind.i64.wrap ((i:Int)+1)=((i+1:Nat):Int):=by rw [i6_ (by omega) (by omega)];simp
  (try simp (disch:=first|assumption|apply Y6;assumption) only [vz,vu,vv,eqS,eF_,↓c1_,↓c2_,tabs,reduceCtorEq,X5,↓reduceIte,Y1,Y2,Y3,Y4,Y5,X1,X2,X3,X4,B50_3,hll,e6])
  refine ⟨fun h2=>⟨by omega,h2,?_⟩,fun h2=>?_⟩
  ·have hlt:i < rl.length:=by omega
   rw [a_D hlt]
   have hv:=(hmem (rl.getD i 0)).1 (by simp [List.getD,hlt])
   have hrd:=mapB_rd (l:=mk) (i:=rl.getD i 0) (by omega)
   rw [hany _ hv.1] at hrd
   have hcl:(cP fB mk).length=n:=by simp [cP,hal]
   generalize hvi:rl.getD i 0=v at hv hrd ⊢
   (try simp (disch:=first|assumption|apply Y6;assumption) only [vz,vu,vv,eqS,eF_,↓c1_,↓c2_,tabs,reduceCtorEq,X5,↓reduceIte,Y1,Y2,Y3,Y4,Y5,X1,X2,X3,X4,lA_ hq9,hcl,hrd,Int.toNat_natCast])
   refine ⟨by omega,by omega,by omega,?_⟩
   cases hfv:fr v
   ·(try simp (disch:=first|assumption|apply Y6;assumption) only [vz,vu,vv,eqS,eF_,↓c1_,↓c2_,tabs,reduceCtorEq,X5,↓reduceIte,Y1,Y2,Y3,Y4,Y5,X1,X2,X3,X4])
    exact ⟨i+1,⟨by omega,fun j hj=>by
     rcases Nat.lt_succ_iff_lt_or_eq.1 hj with h | rfl
     ·exact ha j h
     ·rw [hvi];exact hfv⟩,by omega,.refl _⟩
   ·(try simp (disch:=first|assumption|apply Y6;assumption) only [vz,vu,vv,eqS,eF_,↓c1_,↓c2_,tabs,reduceCtorEq,X5,↓reduceIte,Y1,Y2,Y3,Y4,Y5,X1,X2,X3,X4])
    rw [htw.2 ⟨v,hv.1,hv.2,hfv⟩]
    exact ⟨rfl,hle9⟩
  ·have:i=rl.length:=by omega
   subst this
   have:ans=false:=by
    rw [Bool.eq_false_iff]
    intro h
    obtain ⟨v,h3,h4,h5⟩:=htw.1 h
    obtain ⟨j,hj,e⟩:=List.mem_iff_getElem.1 ((hmem v).2 ⟨h3,h4⟩)
    have:=ha j hj
    rw [List.getD,List.getElem?_eq_getElem hj,Option.getD_some,e,h5] at this
    cases this
   rw [this]
   exact ⟨rfl,hle9⟩
noncomputable def twR (a:Au) (s l:List Int):Bool×Bool:=if a_l a && b_e s l then (twF (wpA a s l),true) else (false,false)
theorem f_2 (a:Au) (sa:smAu a) (s l:List Int) (h1:s.length≤1048576) (h2:l.length≤1048576):Pu Tryz.prog 15 [aAu a,aL2 s l] (.tup [B (twR a s l).1,B (twR a s l).2]):=by
 refine Pu.of fun H=>?_
 refine W15_ok ?_;simp (maxSteps:=1000000) (disch:=first|assumption|apply Y6;assumption) only [W15,vz,vu,vv,eqS,eF_,↓c1_,↓c2_,tabs,reduceCtorEq,X5,↓reduceIte,Y1,Y2,Y3,Y4,Y5,X1,X2,X3,X4]
 intro r hr r3 n3 hr3
 have st:=((St.nil H).cell hr [I a.states,Is a.first,Es a.edges,Ls a.goals]).cell (r:=r3) (by rw [Heap.set_other n3];exact hr3) [Is s,Is l]
 generalize (H.set r [I a.states,Is a.first,Es a.edges,Ls a.goals]).set r3 [Is s,Is l]=G1 at st ⊢
 clear hr hr3 n3
 (try simp (disch:=first|assumption|apply Y6;assumption) only [vz,vu,vv,eqS,eF_,↓c1_,↓c2_,tabs,reduceCtorEq,X5,↓reduceIte,Y1,Y2,Y3,Y4,Y5,X1,X2,X3,X4,lA_ (st.get 1 rfl)])
 refine Pu.use (a_F a sa) ?_
 cases ga:a_l a
 ·(try simp (disch:=first|assumption|apply Y6;assumption) only [vz,vu,vv,eqS,eF_,↓c1_,↓c2_,tabs,reduceCtorEq,X5,↓reduceIte,Y1,Y2,Y3,Y4,Y5,X1,X2,X3,X4])
  first | exact ⟨by simp [twR,ga],st.le⟩ | (simp [twR,ga];exact st.le)
 (try simp (disch:=first|assumption|apply Y6;assumption) only [vz,vu,vv,eqS,eF_,↓c1_,↓c2_,tabs,reduceCtorEq,X5,↓reduceIte,Y1,Y2,Y3,Y4,Y5,X1,X2,X3,X4,lA_ (st.get 0 rfl)])
 refine Pu.use (f_j s l (by omega) (by omega)) ?_
 cases gl:b_e s l
 ·(try simp (disch:=first|assumption|apply Y6;assumption) only [vz,vu,vv,eqS,eF_,↓c1_,↓c2_,tabs,reduceCtorEq,X5,↓reduceIte,Y1,Y2,Y3,Y4,Y5,X1,X2,X3,X4])
  first | exact ⟨by simp [twR,ga,gl],st.le⟩ | (simp [twR,ga,gl];exact st.le)
 obtain ⟨b1,b2⟩:=f_0 gl
 (try simp (disch:=first|assumption|apply Y6;assumption) only [vz,vu,vv,eqS,eF_,↓c1_,↓c2_,tabs,reduceCtorEq,X5,↓reduceIte,Y1,Y2,Y3,Y4,Y5,X1,X2,X3,X4,lA_ (st.get 0 rfl),lA_ (st.get 1 rfl)])
 refine Pu.use (f_1 a ga s l b1 b2) ?_
 (try simp (disch:=first|assumption|apply Y6;assumption) only [vz,vu,vv,eqS,eF_,↓c1_,↓c2_,tabs,reduceCtorEq,X5,↓reduceIte,Y1,Y2,Y3,Y4,Y5,X1,X2,X3,X4])
 first | exact ⟨by simp [twR,ga,gl],st.le⟩ | (simp [twR,ga,gl];exact st.le)
end Go.Proofs.YtohkciilfkhomaaGreat
