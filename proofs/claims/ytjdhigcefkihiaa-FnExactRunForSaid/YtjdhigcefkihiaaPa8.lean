/- The row of the law FnExactRunFor: whatever the arguments, it answers true, and what it is told reads as it did. -/
import Derived.Test.YtjdhigcefkihiaaPa7
import Derived.Test.YtjdhigcefkihiaaRows
import Derived.WalkKit
import Derived.ProofKit
import Derived.OpenShut
set_option linter.unusedVariables false
set_option linter.unusedSimpArgs false
open Nat renaming reduceAdd→ν1,reduceLeDiff→ν2,reduceLT→ν3,reduceMul→ν4,reduceSub→ν5
open Int renaming reduceToNat→ι1,reduceSub→ι2,reduceAdd→ι3,reduceNeg→ι4
open Array renaming toList→ι5
open Ne renaming symm→ν6
open List renaming forall_mem_cons→ν7
namespace Go.Proofs.Ytjdhigcefkihiaa
open Go Go.Sep Go.Pt
attribute [local irreducible] CallT
theorem held_liveK {q n:Nat} {k:Int} {G:Heap} (hq:G q=some (cP fI (marked k n))) (hn:n≤1048576) (h0:0≤k) (h1:k≤1000000000) {K:AV→Heap→Prop} (h:K (I (k+n)) G):CallT Try.prog 20 [.sl q 1 0 n,I k] G K:=by
  have e5:cells ((marked k n).map eI)=cP fI (marked k n):=cells_P fI _
  rw [← e5] at hq
  refine Pu.thaw (heldIntS_spec n hn h0 h1) (.int _ _) (Wk.frz (r:=q) (sz:=1) (es:=(marked k n).map eI) (v':=.tup [Is (marked k n),I k]) (by omega) hq (szI _) (.tup (.cons ?_ (.cons (.same _) .nil)))) h
  have:FrzR q 1 ((marked k n).map eI) (.sl q 1 0 ((marked k n).map eI).length) (.p (.sl ((marked k n).map eI))):=.here
  rwa [List.length_map,marked_len] at this
theorem mark_liveK {q:Nat} {k:Int} {xs:List Int} {G:Heap} (hq:G q=some (cP fI xs)) (hl:xs.length≤1048576) (h0:0≤k) (h1:k≤1000000000) {K:AV→Heap→Prop} (h:K (I (k+xs.length)) (G.set q (cP fI (marked k xs.length)))):CallT Try.prog 19 [rowP q xs,I k] G K:=by
  have e5:cells (xs.map eI)=cP fI xs:=cells_P fI _
  have e6:cells ((marked k xs.length).map eI)=cP fI (marked k xs.length):=cells_P fI _
  refine markIntS_live xs hl h0 h1 (by rw [e5];exact hq) ?_
  rw [e6];exact h
theorem two_push {H G G':Heap} {Ts:List Th} {a b:List Int} {ok:Bool} {r:AV} {D:List Nat} (st:St H Ts G) (hr:Row2 a b ok r G' D) (hn:New G G' D):∃qa qb,r=.tup [rowP qa a,rowP qb b,B ok]∧St H (cellT qa (cP fI a)::cellT qb (cP fI b)::Ts) G':=by
  obtain ⟨qa,qb,rfl,ga,gb,rfl,hab⟩:=hr
  refine ⟨qa,qb,rfl,?_⟩
  have st0:=st.push ⟨[qa,qb],fun G=>G qa=some (cP fI a)∧G qb=some (cP fI b),fun h hf=>⟨hf qa (by simp) _ h.1,hf qb (by simp) _ h.2⟩,fun h y hy=>by
    simp only [List.mem_cons,List.not_mem_nil,or_false] at hy
    rcases hy with rfl | rfl
    · rw [h.1];simp
    · rw [h.2];simp⟩ hn ⟨ga,gb⟩
  exact st0.step (old:=[_]) [cellT qa (cP fI a),cellT qb (cP fI b)] (by simpa [cellT] using hab) (fun t ht y hy=>.inl ⟨_,List.mem_singleton.2 rfl,by
    simp only [List.mem_cons,List.not_mem_nil,or_false] at ht
    rcases ht with rfl | rfl
    · simp only [cellT,List.mem_singleton] at hy;simp [hy]
    · simp only [cellT,List.mem_singleton] at hy;simp [hy]⟩) (fun y b hb _=>hb) (fun t ht=>by
    simp only [List.mem_cons,List.not_mem_nil,or_false] at ht
    rcases ht with rfl | rfl
    · exact ga
    · exact gb)
theorem rfR_len (f:List Sd) (s l:List Int):(rfR f s l).1.length≤24∧(rfR f s l).2.1.length≤48:=by
  unfold rfR
  split
  · rename_i h
    rw [Bool.and_eq_true] at h
    have:=goodL_facts h.2
    have hl:=rfA_len s l f (tr f).length
    simp only [List.length_take,List.length_drop,hl]
    omega
  · exact ⟨Nat.zero_le _,Nat.zero_le _⟩
theorem FnExactRunFor_true {f:List Sd} {s l:List Int} (ho:ok f.length) (os:ok s.length) (ol:ok l.length):Pu Try.prog 3 [Ds f,aL2 s l] (B true):=by
  refine Pu.of fun H=>?_
  refine W3_ok ?_;simp (maxSteps:=1000000) (disch:=first | assumption | (apply ν6;assumption)) only [W3,vz,vu,vv,eqS,eF_,↓c1_,↓c2_,tabs,reduceCtorEq,ι5,↓reduceIte,ν1,ν2,ν3,ν4,ν5,ι1,ι2,ι3,ι4]
  intro r3 hr3
  have st:=(St.nil H).cell hr3 [Is s,Is l]
  generalize H.set r3 [Is s,Is l]=G at st ⊢
  clear hr3
  refine Pu.use (szSaidS_spec f 1048576 (by omega) (by omega) ho) ?_
  (try simp (maxSteps:=1000000) (disch:=first | assumption | (apply ν6;assumption)) only [vz,vu,vv,eqS,eF_,↓c1_,↓c2_,tabs,reduceCtorEq,ι5,↓reduceIte,ν1,ν2,ν3,ν4,ν5,ι1,ι2,ι3,ι4,load_at (st.get 0 rfl)])
  refine ⟨fun _=>st.le,fun h1=>?_⟩
  obtain ⟨e2,e3⟩:=szR_nW h1
  rw [e3]
  refine Pu.use (szLasso_spec s l _ (by omega) (by omega) os ol) ?_
  (try simp (maxSteps:=1000000) (disch:=first | assumption | (apply ν6;assumption)) only [vz,vu,vv,eqS,eF_,↓c1_,↓c2_,tabs,reduceCtorEq,ι5,↓reduceIte,ν1,ν2,ν3,ν4,ν5,ι1,ι2,ι3,ι4,load_at (st.get 0 rfl)])
  refine ⟨fun _=>st.le,fun k1=>?_⟩
  obtain ⟨e4,e5⟩:=szR_nW k1
  have hf:f.length≤1048576:=by omega
  have hs:s.length≤1048576:=by omega
  have hl:l.length≤1048576:=by omega
  clear h1 k1 e3 e5
  refine Pu.use (toSaidS_spec f hf) ?_
  (try simp (maxSteps:=1000000) (disch:=first | assumption | (apply ν6;assumption)) only [vz,vu,vv,eqS,eF_,↓c1_,↓c2_,tabs,reduceCtorEq,ι5,↓reduceIte,ν1,ν2,ν3,ν4,ν5,ι1,ι2,ι3,ι4,load_at (st.get 0 rfl)])
  refine Pu.use (toLasso_spec s l hs hl) ?_
  refine Pu.use (RunFor_ref f hf s l hs hl) ?_
  have hI:=fun {H:Heap} {K:AV→Heap→Prop}=>RunFor_impl f hf s l hs hl (H:=H) (K:=K)
  have hlen:=rfR_len f s l
  generalize (rfR f s l).1=o1 at hI hlen ⊢
  generalize (rfR f s l).2.1=o2 at hI hlen ⊢
  generalize (rfR f s l).2.2=ok at hI ⊢
  (try simp (maxSteps:=1000000) (disch:=first | assumption | (apply ν6;assumption)) only [vz,vu,vv,eqS,eF_,↓c1_,↓c2_,tabs,reduceCtorEq,ι5,↓reduceIte,ν1,ν2,ν3,ν4,ν5,ι1,ι2,ι3,ι4,load_at (st.get 0 rfl)])
  refine toSaidS_live f hf fun va G2 Da la na=>?_
  obtain ⟨qx,rfl,hqx,rfl⟩:=LD_row la
  replace st:=st.push (cellT qx (cD f)) na hqx
  clear la na hqx
  (try simp (maxSteps:=1000000) (disch:=first | assumption | (apply ν6;assumption)) only [vz,vu,vv,eqS,eF_,↓c1_,↓c2_,tabs,reduceCtorEq,ι5,↓reduceIte,ν1,ν2,ν3,ν4,ν5,ι1,ι2,ι3,ι4,load_at (st.get 1 rfl)])
  refine toLasso_live s l hs hl fun v G7 D7 hrs hn7=>?_
  obtain ⟨xr,yr,rfl,hxr,hyr⟩:=hrs.ag
  replace st:=st.push (tRL s l (.agg [xr,yr]) D7) hn7 hrs
  clear hrs hn7
  (try simp (maxSteps:=1000000) (disch:=first | assumption | (apply ν6;assumption)) only [vz,vu,vv,eqS,eF_,↓c1_,↓c2_,tabs,reduceCtorEq,ι5,↓reduceIte,ν1,ν2,ν3,ν4,ν5,ι1,ι2,ι3,ι4])
  intro u hu
  replace st:=st.cell hu [xr,yr]
  generalize G7.set u [xr,yr]=G8 at st ⊢
  clear hu
  (try simp (maxSteps:=1000000) (disch:=first | assumption | (apply ν6;assumption)) only [vz,vu,vv,eqS,eF_,↓c1_,↓c2_,tabs,reduceCtorEq,ι5,↓reduceIte,ν1,ν2,ν3,ν4,ν5,ι1,ι2,ι3,ι4,load_at (st.get 0 rfl)])
  refine ⟨by rw [hxr,hyr];rfl,?_⟩
  obtain ⟨Gw,hwk⟩:∃G',Wk (.tup [rowD qx f,.agg [xr,yr]]) G8 (.tup [Ds f,aL2 s l]) G':=by
    have w1:=wkD (st.get 2 rfl) (fun v=>.tup [v,.agg [xr,yr]]) (fun h=>.tup (.cons h (.cons (.same _) .nil)))
    have hrl:RL s l (.agg [xr,yr]) (G8.del qx) D7:=RL.local (st.get 1 rfl) fun y hy b hb=>by rw [Heap.del_other (fun e=>st.disjI 1 2 rfl rfl (by decide) y hy (by simp [cellT,e]))];exact hb
    rcases hrl with ⟨rfl,rfl,e,rfl⟩ | ⟨q1,q2,e,g1,g2,rfl,hne⟩
    · rw [e] at w1 ⊢
      exact ⟨_,.trans w1 (.val (v':=.tup [Ds f,aL2 [] []]) (wk_tup ⟨.refl _,wk_agg ⟨.nil,.nil,trivial⟩,trivial⟩))⟩
    · rw [e] at w1 ⊢
      exact ⟨_,.trans w1 (wkL2 g1 g2 hne (fun v=>.tup [Ds f,v]) (fun h=>.tup (.cons (.same _) (.cons h .nil))))⟩
  refine thawR (Row2.res o1 o2 ok) hI hwk fun r G9 D hr hn=>?_
  clear hwk
  obtain ⟨qa,qb,rfl,st⟩:=two_push st hr hn
  clear hr hn
  (try simp (maxSteps:=1000000) (disch:=first | assumption | (apply ν6;assumption)) only [vz,vu,vv,eqS,eF_,↓c1_,↓c2_,tabs,reduceCtorEq,ι5,↓reduceIte,ν1,ν2,ν3,ν4,ν5,ι1,ι2,ι3,ι4])
  refine eqI_live (st.get 0 rfl) (by omega) ?_
  (try simp (maxSteps:=1000000) (disch:=first | assumption | (apply ν6;assumption)) only [vz,vu,vv,eqS,eF_,↓c1_,↓c2_,tabs,reduceCtorEq,ι5,↓reduceIte,ν1,ν2,ν3,ν4,ν5,ι1,ι2,ι3,ι4])
  refine eqI_live (st.get 1 rfl) (by omega) ?_
  (try simp (maxSteps:=1000000) (disch:=first | assumption | (apply ν6;assumption)) only [vz,vu,vv,eqS,eF_,↓c1_,↓c2_,tabs,reduceCtorEq,ι5,↓reduceIte,ν1,ν2,ν3,ν4,ν5,ι1,ι2,ι3,ι4])
  refine Pu.use (toSaidS_spec f hf) ?_
  refine eqD_row (st.get 4 rfl) hf ?_
  (try simp (maxSteps:=1000000) (disch:=first | assumption | (apply ν6;assumption)) only [vz,vu,vv,eqS,eF_,↓c1_,↓c2_,tabs,reduceCtorEq,ι5,↓reduceIte,ν1,ν2,ν3,ν4,ν5,ι1,ι2,ι3,ι4,load_at (st.get 2 rfl),load_at (st.get 5 rfl)])
  refine Pu.use (toLasso_spec s l hs hl) ?_
  (try simp (maxSteps:=1000000) (disch:=first | assumption | (apply ν6;assumption)) only [vz,vu,vv,eqS,eF_,↓c1_,↓c2_,tabs,reduceCtorEq,ι5,↓reduceIte,ν1,ν2,ν3,ν4,ν5,ι1,ι2,ι3,ι4,load_at (st.get 2 rfl)])
  refine RL.eq (st.get 3 rfl) hs hl ?_
  (try simp (maxSteps:=1000000) (disch:=first | assumption | (apply ν6;assumption)) only [vz,vu,vv,eqS,eF_,↓c1_,↓c2_,tabs,reduceCtorEq,ι5,↓reduceIte,ν1,ν2,ν3,ν4,ν5,ι1,ι2,ι3,ι4])
  refine markSaidS_row f hf (by omega) (by omega) (st.get 4 rfl) ?_
  replace st:=st.put 4 rfl (cD (markD 1 f.length))
  generalize G9.set qx (cD (markD 1 f.length))=G10 at st ⊢
  simp only [List.set_cons_succ,List.set_cons_zero] at st
  (try simp (maxSteps:=1000000) (disch:=first | assumption | (apply ν6;assumption)) only [vz,vu,vv,eqS,eF_,↓c1_,↓c2_,tabs,reduceCtorEq,ι5,↓reduceIte,ν1,ν2,ν3,ν4,ν5,ι1,ι2,ι3,ι4,load_at (st.get 2 rfl)])
  refine RL.mark (st.get 3 rfl) hs hl (by omega) (by omega) fun G11 _ hk11=>?_
  replace st:=st.lose 3 rfl hk11
  simp only [List.eraseIdx_cons_succ,List.eraseIdx_cons_zero] at st
  clear hk11
  (try simp (maxSteps:=1000000) (disch:=first | assumption | (apply ν6;assumption)) only [vz,vu,vv,eqS,eF_,↓c1_,↓c2_,tabs,reduceCtorEq,ι5,↓reduceIte,ν1,ν2,ν3,ν4,ν5,ι1,ι2,ι3,ι4])
  refine ⟨fun h=>by omega,fun _=>?_⟩
  refine eqI_live (st.get 0 rfl) (by omega) ?_
  (try simp (maxSteps:=1000000) (disch:=first | assumption | (apply ν6;assumption)) only [vz,vu,vv,eqS,eF_,↓c1_,↓c2_,tabs,reduceCtorEq,ι5,↓reduceIte,ν1,ν2,ν3,ν4,ν5,ι1,ι2,ι3,ι4])
  refine eqI_live (st.get 1 rfl) (by omega) ?_
  (try simp (maxSteps:=1000000) (disch:=first | assumption | (apply ν6;assumption)) only [vz,vu,vv,eqS,eF_,↓c1_,↓c2_,tabs,reduceCtorEq,ι5,↓reduceIte,ν1,ν2,ν3,ν4,ν5,ι1,ι2,ι3,ι4])
  refine mark_liveK (st.get 0 rfl) (by omega) (by omega) (by omega) ?_
  replace st:=st.put 0 rfl (cP fI (marked 1 o1.length))
  generalize G11.set qa (cP fI (marked 1 o1.length))=G12 at st ⊢
  simp only [List.set_cons_succ,List.set_cons_zero] at st
  (try simp (maxSteps:=1000000) (disch:=first | assumption | (apply ν6;assumption)) only [vz,vu,vv,eqS,eF_,↓c1_,↓c2_,tabs,reduceCtorEq,ι5,↓reduceIte,ν1,ν2,ν3,ν4,ν5,ι1,ι2,ι3,ι4])
  refine mark_liveK (st.get 1 rfl) (by omega) (by omega) (by omega) ?_
  replace st:=st.put 1 rfl (cP fI (marked (1+o1.length) o2.length))
  generalize G12.set qb (cP fI (marked (1+o1.length) o2.length))=G13 at st ⊢
  simp only [List.set_cons_succ,List.set_cons_zero] at st
  (try simp (maxSteps:=1000000) (disch:=first | assumption | (apply ν6;assumption)) only [vz,vu,vv,eqS,eF_,↓c1_,↓c2_,tabs,reduceCtorEq,ι5,↓reduceIte,ν1,ν2,ν3,ν4,ν5,ι1,ι2,ι3,ι4])
  refine held_liveK (st.get 0 rfl) (by omega) (by omega) (by omega) ?_
  (try simp (maxSteps:=1000000) (disch:=first | assumption | (apply ν6;assumption)) only [vz,vu,vv,eqS,eF_,↓c1_,↓c2_,tabs,reduceCtorEq,ι5,↓reduceIte,ν1,ν2,ν3,ν4,ν5,ι1,ι2,ι3,ι4])
  refine ⟨fun h=>by omega,fun _=>?_⟩
  refine held_liveK (st.get 1 rfl) (by omega) (by omega) (by omega) ?_
  (try simp (maxSteps:=1000000) (disch:=first | assumption | (apply ν6;assumption)) only [vz,vu,vv,eqS,eF_,↓c1_,↓c2_,tabs,reduceCtorEq,ι5,↓reduceIte,ν1,ν2,ν3,ν4,ν5,ι1,ι2,ι3,ι4])
  refine ⟨fun h=>by omega,fun _=>?_⟩
  (try simp (maxSteps:=1000000) (disch:=first | assumption | (apply ν6;assumption)) only [vz,vu,vv,eqS,eF_,↓c1_,↓c2_,tabs,reduceCtorEq,ι5,↓reduceIte,ν1,ν2,ν3,ν4,ν5,ι1,ι2,ι3,ι4,load_at (st.get 4 rfl)])
  refine Pu.use (toSaidS_spec f hf) ?_
  (try simp (maxSteps:=1000000) (disch:=first | assumption | (apply ν6;assumption)) only [vz,vu,vv,eqS,eF_,↓c1_,↓c2_,tabs,reduceCtorEq,ι5,↓reduceIte,ν1,ν2,ν3,ν4,ν5,ι1,ι2,ι3,ι4,load_at (st.get 4 rfl)])
  refine Pu.use (toLasso_spec s l hs hl) ?_
  refine hI fun r G14 D hr hn=>?_
  obtain ⟨qc,qd,rfl,st⟩:=two_push st hr hn
  clear hr hn
  (try simp (maxSteps:=1000000) (disch:=first | assumption | (apply ν6;assumption)) only [vz,vu,vv,eqS,eF_,↓c1_,↓c2_,tabs,reduceCtorEq,ι5,↓reduceIte,ν1,ν2,ν3,ν4,ν5,ι1,ι2,ι3,ι4])
  refine eqI_live (st.get 0 rfl) (by omega) ?_
  (try simp (maxSteps:=1000000) (disch:=first | assumption | (apply ν6;assumption)) only [vz,vu,vv,eqS,eF_,↓c1_,↓c2_,tabs,reduceCtorEq,ι5,↓reduceIte,ν1,ν2,ν3,ν4,ν5,ι1,ι2,ι3,ι4])
  refine eqI_live (st.get 1 rfl) (by omega) ?_
  (try simp (maxSteps:=1000000) (disch:=first | assumption | (apply ν6;assumption)) only [vz,vu,vv,eqS,eF_,↓c1_,↓c2_,tabs,reduceCtorEq,ι5,↓reduceIte,ν1,ν2,ν3,ν4,ν5,ι1,ι2,ι3,ι4])
  refine held_liveK (st.get 2 rfl) (by omega) (by omega) (by omega) ?_
  (try simp (maxSteps:=1000000) (disch:=first | assumption | (apply ν6;assumption)) only [vz,vu,vv,eqS,eF_,↓c1_,↓c2_,tabs,reduceCtorEq,ι5,↓reduceIte,ν1,ν2,ν3,ν4,ν5,ι1,ι2,ι3,ι4])
  refine ⟨fun h=>by omega,fun _=>?_⟩
  refine held_liveK (st.get 3 rfl) (by omega) (by omega) (by omega) ?_
  (try simp (maxSteps:=1000000) (disch:=first | assumption | (apply ν6;assumption)) only [vz,vu,vv,eqS,eF_,↓c1_,↓c2_,tabs,reduceCtorEq,ι5,↓reduceIte,ν1,ν2,ν3,ν4,ν5,ι1,ι2,ι3,ι4])
  exact ⟨fun h=>by omega,fun _=>st.le⟩
end Go.Proofs.Ytjdhigcefkihiaa
namespace Go.Proofs.Ytjdhigcefkihiaa.runFor
open Go Go.Sep Go.ChangeShapes Go.WideShapes Go.ChangeAt Go.RowKit
theorem own:ownKnob Try.prog.godebug=none:=by kernel_rfl
theorem told (avs:List AV) (h:ArgsT Try.prog [22,25] avs):CallT Try.prog 3 avs (fun _=>none) (fun v _=>v=.p (.bool true)):=by
  obtain ⟨a,b,rfl,h1,h⟩:=args_cons h
  obtain ⟨b,c,rfl,h2,h⟩:=args_cons h
  cases args_nil h
  obtain ⟨x1,hx1,rfl⟩:=arg_saids h1
  obtain ⟨x2,y2,hx2,hy2,rfl⟩:=arg_lasso h2
  exact (FnExactRunFor_true hx1 hx2 hy2).use rfl
set_option maxRecDepth 100000 in
theorem lifted (os:Os) (started:os.Started) (H:Type) (enc:TypeId×Value→H) :
    ReturnsInHanded {} Try.checked os 3 .any (Rows.fnExactRunForSpec.pre6 enc Try.prog Try.f3 Rows.fnExactRunForRow.domain false) (Rows.fnExactRunForSpec.post enc Try.prog Try.f3 false true false false):=by
  refine returnsInHanded_of_change (C:=Try.checked) own started (by kernel_rfl) Try.func3
    (ChangeSpec.witness6 (enc:=enc) (C:=Try.checked) false ⟨#[],#[.slice none 0 0,.agg #[.slice none 0 0,.slice none 0 0]],[]⟩ 12 (by kernel_rfl) (by kernel_rfl) (by kernel_rfl) (by kernel_rfl)) ?_
  intro W base args ds gs before hval hW _ _
  refine row_of_true (n:=12) (tb:=4) (by kernel_rfl) rfl (by kernel_rfl) (by kernel_rfl) ?_ ?_ ?_ hval hW
  · have:(Try.f3.params.toList.all fun t=>Try.prog.readableRec t && decide (t < Try.prog.types.size) && plainB Try.prog 12 t)=true:=by kernel_rfl
    intro t ht
    have:=List.all_eq_true.1 this t ht
    rw [Bool.and_eq_true,Bool.and_eq_true,decide_eq_true_eq] at this
    exact ⟨this.1.1,this.1.2,this.2⟩
  · intro ds hd
    rw [Try.params3] at hd
    match ds,hd with
    | [a,b],_=>rfl
  · rw [Try.params3]
    exact told
theorem over:Rows.fnExactRunForRow.holds Try.pinned (OpenSpec.ofChange Rows.fnExactRunForSpec):=
  OpenClaim.holds_of_wide 3 Try.f3 rfl rfl rfl rfl rfl rfl rfl ⟨rfl,rfl,rfl,rfl,rfl⟩ rfl rfl rfl rfl rfl (by kernel_rfl) Try.func3 (by kernel_rfl)
    (of_decide_eq_true (by kernel_rfl)) (by unfold Func.isWrapper;first | (rw [if_pos (by decide +kernel)];kernel_rfl) | (rw [if_neg (by decide +kernel)];exact ⟨rfl,rfl⟩))
    (fun os started H enc _=>lifted os started H enc)
theorem proved:Rows.FnExactRunForSaid:=
  over
#print axioms proved
end Go.Proofs.Ytjdhigcefkihiaa.runFor
