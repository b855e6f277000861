/- The row of the law that WordOf answers as the reference does: whatever the arguments, it answers true, and what it is told reads as it did. -/
import Derived.Test.YtolffbcnbcjeaaaGreatPkc11
import Derived.Test.YtolffbcnbcjeaaaGreatRows
import Derived.WalkKit
import Derived.ProofKit
import Derived.OpenShut
set_option linter.unusedVariables false
set_option linter.unusedSimpArgs false
open Nat renaming reduceAdd→ν1,reduceLeDiff→ν2,reduceLT→ν3,reduceMul→ν4,reduceSub→ν5
open Int renaming reduceToNat→ι1,reduceSub→ι2,reduceAdd→ι3,reduceNeg→ι4
open Array renaming toList→ι5
open Ne renaming symm→ν6
open List renaming forall_mem_cons→ν7
namespace Go.Proofs.YtolffbcnbcjeaaaGreat
open Go Go.Sep Go.Pt
attribute [local irreducible] CallT
abbrev aS2 (q:Nat) (s l:List Int):AV:=.agg [.sl q 1 0 s.length,.sl q 1 s.length l.length]
def RS (s l:List Int) (v:AV) (G:Heap) (D:List Nat):Prop:=(s=[]∧l=[]∧v=.agg [.p .nil,.p .nil]∧D=[])∨∃q,v=aS2 q s l∧G q=some (cP fI (s++l))∧D=[q]
theorem RS.local {s l:List Int} {v:AV} {G G':Heap} {D:List Nat} (h:RS s l v G D) (hf:∀y∈D,∀b,G y=some b→G' y=some b):RS s l v G' D:=by
  rcases h with h | ⟨q,rfl,h1,rfl⟩
  · exact .inl h
  · exact .inr ⟨q,rfl,hf q (by simp) _ h1,rfl⟩
theorem RS.has {s l:List Int} {v:AV} {G:Heap} {D:List Nat} (h:RS s l v G D):∀y∈D,G y≠none:=by
  rcases h with ⟨_,_,_,rfl⟩ | ⟨q,rfl,h1,rfl⟩
  · intro y hy;cases hy
  · intro y hy
    rw [List.mem_singleton.1 hy,h1];simp
theorem RS.ag {s l:List Int} {v:AV} {G:Heap} {D:List Nat} (h:RS s l v G D):∃x y,v=.agg [x,y]∧x.isCell=true∧y.isCell=true:=by
  rcases h with ⟨_,_,rfl,_⟩ | ⟨q,rfl,_⟩
  · exact ⟨_,_,rfl,rfl,rfl⟩
  · exact ⟨_,_,rfl,rfl,rfl⟩
def tRS (s l:List Int) (v:AV) (D:List Nat):Th:=⟨D,fun G=>RS s l v G D,fun h f=>h.local f,fun h=>h.has⟩
def RSt (s l:List Int) (ok:Bool) (r:AV) (G:Heap) (D:List Nat):Prop:=∃v,r=.tup [v,B ok]∧RS s l v G D
theorem RSt.res (s l:List Int) (ok:Bool):ResU (RSt s l ok):=by
  refine ⟨?_,?_,?_⟩
  · rintro r G G' D ⟨v,rfl,h⟩ hf
    exact ⟨v,rfl,h.local hf⟩
  · rintro r G D ⟨v,rfl,h⟩
    have gb:Gd1 (B ok):=.inr ⟨.p (.bool ok),fun _=>rfl⟩
    have gv:Gd1 v∧∀y∈D,∀bs,G y=some bs→∀c∈bs,GdC c:=by
      rcases h with ⟨_,_,rfl,rfl⟩ | ⟨q,rfl,h1,rfl⟩
      · exact ⟨.inl ⟨_,rfl,fun c hc=>by
          simp only [List.mem_cons,List.not_mem_nil,or_false] at hc
          rcases hc with rfl | rfl<;>exact .p .nil⟩,fun y hy=>by cases hy⟩
      · refine ⟨.inl ⟨_,rfl,fun c hc=>by
          simp only [List.mem_cons,List.not_mem_nil,or_false] at hc
          rcases hc with rfl | rfl<;>exact .inl ⟨_,_,_,_,rfl⟩⟩,fun y hy bs hb c hc=>?_⟩
        rw [List.mem_singleton.1 hy,h1] at hb;cases hb
        obtain ⟨x,_,rfl⟩:=List.mem_map.1 hc
        exact .p (.int _ _)
    refine ⟨.inl ⟨_,rfl,fun u hu=>?_⟩,gv.2⟩
    rcases List.mem_cons.1 hu with rfl | hu
    · exact gv.1
    · rw [List.mem_singleton] at hu;rw [hu];exact gb
  · rintro r G D n G0 h0 ⟨v,rfl,h⟩
    have e:∀xs:List Int,(cP fI xs).map (shC n)=cP fI xs:=fun xs=>by
      simp only [cP,List.map_map];rfl
    rcases h with ⟨rfl,rfl,rfl,rfl⟩ | ⟨q,rfl,h1,rfl⟩
    · exact ⟨_,rfl,.inl ⟨rfl,rfl,rfl,rfl⟩⟩
    · refine ⟨_,rfl,.inr ⟨q+n,rfl,?_,rfl⟩⟩
      simp only [Heap.or,h0 (q+n) (by omega),shH,Nat.le_add_left,if_true,Nat.add_sub_cancel,h1,Option.map_some,e]
theorem wkS2 {s l:List Int} {q:Nat} {G:Heap} (hq:G q=some (cP fI (s++l))) (C:AV→AV) (hC:∀{es a a'},FrzS q es a a'→FrzS q es (C a) (C a')):Wk (C (aS2 q s l)) G (C (aL2 s l)) (G.del q):=by
  refine Wk.frzS (r:=q) (es:=(s++l).map fI) (by rw [hq,List.map_map];rfl) (hC (.agg (.cons ?_ (.cons ?_ .nil))))
  · have:=FrzS.part (r:=q) (es:=(s++l).map fI) 0 s.length (by rw [List.length_map,List.length_append];omega)
    have e:((((s++l).map fI).drop 0).take s.length).map (fun v=>[v])=s.map eI:=by
      rw [List.drop_zero,← List.map_take,List.take_left' rfl,List.map_map];rfl
    rwa [e] at this
  · have:=FrzS.part (r:=q) (es:=(s++l).map fI) s.length l.length (by rw [List.length_map,List.length_append];omega)
    have e:((((s++l).map fI).drop s.length).take l.length).map (fun v=>[v])=l.map eI:=by
      rw [← List.map_drop,← List.map_take,List.drop_left' rfl,List.take_length,List.map_map];rfl
    rwa [e] at this
theorem checkedLasso_part (s l:List Int) (h1:s.length≤1000000000) (h2:l.length≤1000000000) {q:Nat} {G:Heap} (hq:G q=some (cP fI (s++l))) {K:AV→Heap→Prop}
    (h0:goodL s l=false→K (.tup [.agg [.p .nil,.p .nil],B false]) G) (h:goodL s l=true→K (.tup [aS2 q s l,B true]) G):CallT Tryz.prog 43 [aS2 q s l] G K:=by
  refine CallT.fin ?_
  refine W43_ok ?_;simp (maxSteps:=1000000) (disch:=first | assumption | (apply ν6;assumption)) only [W43,vz,vu,vv,eqS,eF_,↓c1_,↓c2_,tabs,reduceCtorEq,ι5,↓reduceIte,ν1,ν2,ν3,ν4,ν5,ι1,ι2,ι3,ι4]
  intro r1 hr1 r2 n21 hr2
  have n12:=Ne.symm n21
  have hle:∀z,Heap.le G ((G.set r1 [.sl q 1 0 s.length,.sl q 1 s.length l.length]).set r2 z):=fun z=>Heap.le_setN (Heap.le_set hr1) hr2
  (try simp (maxSteps:=1000000) (disch:=first | assumption | (apply ν6;assumption)) only [vz,vu,vv,eqS,eF_,↓c1_,↓c2_,tabs,reduceCtorEq,ι5,↓reduceIte,ν1,ν2,ν3,ν4,ν5,ι1,ι2,ι3,ι4])
  have g1:=hle [.p .nil,.p .nil] _ _ hq
  refine Pu.thaw (GoodLassoI s l h1 h2) (.bool _) (wkS2 g1 (fun v=>.tup [v]) (fun h=>.tup (.cons h .nil))) ?_
  cases hg:goodL s l
  · (try simp (maxSteps:=1000000) (disch:=first | assumption | (apply ν6;assumption)) only [vz,vu,vv,eqS,eF_,↓c1_,↓c2_,tabs,reduceCtorEq,ι5,↓reduceIte,ν1,ν2,ν3,ν4,ν5,ι1,ι2,ι3,ι4])
    exact fin_le (hle _) (h0 hg)
  · (try simp (maxSteps:=1000000) (disch:=first | assumption | (apply ν6;assumption)) only [vz,vu,vv,eqS,eF_,↓c1_,↓c2_,tabs,reduceCtorEq,ι5,↓reduceIte,ν1,ν2,ν3,ν4,ν5,ι1,ι2,ι3,ι4])
    exact fin_le (hle _) (h hg)
theorem RS.eq {s l:List Int} {v:AV} {G:Heap} {D:List Nat} (h:RS s l v G D) (hs:s.length≤1048576) (hl:l.length≤1048576) {K:AV→Heap→Prop} (k:K (B true) G):CallT Tryz.prog 11 [v,aL2 s l] G K:=by
  rcases h with ⟨rfl,rfl,rfl,rfl⟩ | ⟨q,rfl,h1,rfl⟩
  · exact CallT.args (args':=[aL2 [] [],aL2 [] []]) ((eqLassoQ [] [] (by simp) (by simp)).use k) ⟨wk_agg ⟨.nil,.nil,trivial⟩,.refl _,trivial⟩
  · exact Pu.thaw (eqLassoQ s l hs hl) (.bool _) (wkS2 h1 (fun v=>.tup [v,aL2 s l]) (fun h=>.tup (.cons h (.cons (.same _) .nil)))) k
theorem RS.held {n m:Nat} {v:AV} {G:Heap} {D:List Nat} (h:RS (marked 1 n) (marked (1+n) m) v G D) (h1:n≤1048576) (h2:m≤1048576) {K:AV→Heap→Prop} (k:K (I (1+n+m)) G):CallT Tryz.prog 15 [v,I 1] G K:=by
  rcases h with ⟨e1,e2,rfl,rfl⟩ | ⟨q,rfl,g1,rfl⟩
  · have:n=0:=by
      have:=congrArg List.length e1
      simpa [marked_len] using this
    subst this
    have:m=0:=by
      have:=congrArg List.length e2
      simpa [marked_len] using this
    subst this
    exact CallT.args (args':=[aL2 [] [],I 1]) ((heldLassoQ 0 0 h1 h2).use k) ⟨wk_agg ⟨.nil,.nil,trivial⟩,.refl _,trivial⟩
  · exact Pu.thaw (heldLassoQ n m h1 h2) (.int _ _) (wkS2 g1 (fun v=>.tup [v,I 1]) (fun h=>.tup (.cons h (.cons (.same _) .nil)))) k
theorem markIntS_part {off:Nat} (pre xs post:List Int) (ho:off=pre.length) (hl:xs.length≤1048576) {k:Int} (h0:0≤k) (h1:k≤1000000000) {q:Nat} {G:Heap} (hG:G q=some (cP fI (pre++xs++post))) {K:AV→Heap→Prop}
    (h:K (I (k+xs.length)) (G.set q (cP fI (pre++marked k xs.length++post)))):CallT Tryz.prog 47 [.sl q 1 off xs.length,I k] G K:=by
  subst ho
  refine W47_ok ?_;simp (maxSteps:=1000000) (disch:=first | assumption | (apply ν6;assumption)) only [W47,vz,vu,vv,eqS,eF_,↓c1_,↓c2_,tabs,reduceCtorEq,ι5,↓reduceIte,ν1,ν2,ν3,ν4,ν5,ι1,ι2,ι3,ι4]
  refine L47_0_rule (0:Nat) (fun i=>I (k+i)) (fun i=>I i) (fun i=>G.set q (cP fI (pre++(marked k i++xs.drop i)++post))) (fun i=>i≤xs.length) (fun i=>xs.length - i) ⟨by omega,?_,.refl _,?_⟩ ?_
  · rw [wk_int];simp
  · intro y b hy
    by_cases e:y=q
    · subst e;rw [Heap.set_same] at hy;rw [hG];simpa [marked] using hy
    · rw [Heap.set_other e] at hy;exact hy
  intro i hi
  have hcl:(cP fI (pre++(marked k i++xs.drop i)++post)).length=pre.length+xs.length+post.length:=by
    simp only [cP,List.length_map,List.length_append,marked_len,List.length_drop];omega
  (try simp (maxSteps:=1000000) (disch:=first | assumption | (apply ν6;assumption)) only [vz,vu,vv,eqS,eF_,↓c1_,↓c2_,tabs,reduceCtorEq,ι5,↓reduceIte,ν1,ν2,ν3,ν4,ν5,ι1,ι2,ι3,ι4,B47_0,hcl])
  refine ⟨fun h5=>?_,fun h5=>?_⟩
  · have hlt:i < xs.length:=by omega
    refine ⟨by omega,by omega,by omega,i+1,by omega,by omega,?_,?_,?_⟩
    · rw [wk_int,i64_id (by omega) (by omega)];omega
    · rw [wk_int,i64_id (by omega) (by omega)];simp
    · have e1:xs.drop i=xs.getD i 0::xs.drop (i+1):=by rw [List.drop_eq_getElem_cons hlt];simp [List.getD,hlt]
      have e2:marked k (i+1)=marked k i++[k+i]:=by simp [marked,List.range_succ]
      have e3:cP fI (pre++(marked k i++xs.drop i)++post)=cP fI (pre++marked k i)++([I (xs.getD i 0)]++cP fI (xs.drop (i+1)++post)):=by rw [e1];simp [cP,fI]
      have e4:cP fI (pre++(marked k (i+1)++xs.drop (i+1))++post)=cP fI (pre++marked k i)++([I (k+i)]++cP fI (xs.drop (i+1)++post)):=by rw [e2];simp [cP,fI]
      have e5:=splice_at (pre:=cP fI (pre++marked k i)) (c:=[I (xs.getD i 0)]) (c':=[I (k+i)]) (post:=cP fI (xs.drop (i+1)++post)) (off:=pre.length+i*1) (n:=1) (by simp [cP,marked_len]) rfl rfl
      rw [← e3,← e4] at e5
      rw [← e5];exact Heap.le_refl _
  · have:i=xs.length:=by omega
    subst this
    simpa using h
theorem RS.mark {s l:List Int} {v:AV} {G:Heap} {D:List Nat} (hx:RS s l v G D) (hs:s.length≤1048576) (hl:l.length≤1048576) {k:Int} (h0:0≤k) (hk:k≤900000000) {K:AV→Heap→Prop}
    (h:∀G',RS (marked k s.length) (marked (k+s.length) l.length) v G' D→(∀y,y∉D→G' y=G y)→K (I (k+s.length+l.length)) G'):CallT Tryz.prog 14 [v,I k] G K:=by
  refine CallT.fin ?_
  rcases hx with ⟨rfl,rfl,rfl,rfl⟩ | ⟨q,rfl,h1,rfl⟩
  · refine W14_ok ?_;simp (maxSteps:=1000000) (disch:=first | assumption | (apply ν6;assumption)) only [W14,vz,vu,vv,eqS,eF_,↓c1_,↓c2_,tabs,reduceCtorEq,ι5,↓reduceIte,ν1,ν2,ν3,ν4,ν5,ι1,ι2,ι3,ι4]
    intro r hr
    refine markI0 ?_
    (try simp (maxSteps:=1000000) (disch:=first | assumption | (apply ν6;assumption)) only [vz,vu,vv,eqS,eF_,↓c1_,↓c2_,tabs,reduceCtorEq,ι5,↓reduceIte,ν1,ν2,ν3,ν4,ν5,ι1,ι2,ι3,ι4])
    refine markI0 ?_
    (try simp (maxSteps:=1000000) (disch:=first | assumption | (apply ν6;assumption)) only [vz,vu,vv,eqS,eF_,↓c1_,↓c2_,tabs,reduceCtorEq,ι5,↓reduceIte,ν1,ν2,ν3,ν4,ν5,ι1,ι2,ι3,ι4])
    have:=h G (.inl ⟨rfl,rfl,rfl,rfl⟩) (fun _ _=>rfl)
    simp only [List.length_nil,Int.ofNat_zero,Int.add_zero] at this
    exact fin_le (Heap.le_set hr) this
  · refine W14_ok ?_;simp (maxSteps:=1000000) (disch:=first | assumption | (apply ν6;assumption)) only [W14,vz,vu,vv,eqS,eF_,↓c1_,↓c2_,tabs,reduceCtorEq,ι5,↓reduceIte,ν1,ν2,ν3,ν4,ν5,ι1,ι2,ι3,ι4]
    intro r hr
    have st:=((St.nil G).cell hr [.sl q 1 0 s.length,.sl q 1 s.length l.length])
    have ne1:q≠r:=fun e=>by rw [e,hr] at h1;cases h1
    have hm1:=marked_len k s.length
    have hm2:=marked_len (k+s.length) l.length
    refine markIntS_part [] s l rfl hs h0 (by omega) (by rw [Heap.set_other ne1];simpa using h1) ?_
    rw [List.nil_append]
    have en1:=Ne.symm ne1
    (try simp (maxSteps:=1000000) (disch:=first | assumption | (apply ν6;assumption)) only [vz,vu,vv,eqS,eF_,↓c1_,↓c2_,tabs,reduceCtorEq,ι5,↓reduceIte,ν1,ν2,ν3,ν4,ν5,ι1,ι2,ι3,ι4])
    refine markIntS_part (marked k s.length) l [] hm1.symm hl (by omega) (by omega) (by rw [Heap.set_same];simp) ?_
    (try simp (maxSteps:=1000000) (disch:=first | assumption | (apply ν6;assumption)) only [vz,vu,vv,eqS,eF_,↓c1_,↓c2_,tabs,reduceCtorEq,ι5,↓reduceIte,ν1,ν2,ν3,ν4,ν5,ι1,ι2,ι3,ι4])
    refine fin_le (H:=G.set q (cP fI (marked k s.length++marked (k+s.length) l.length))) ?_ (h _ (.inr ⟨q,by rw [aS2,aS2,hm1,hm2],Heap.set_same _ _ _,rfl⟩) fun z hz=>?_)
    · generalize cP fI (marked k s.length++marked (k+s.length) l.length)=z
      generalize cP fI (marked k s.length++l)=z2
      clear h
      (intro y b hy;simp only [Heap.set,Heap.del] at hy ⊢;(repeat' split at hy)<;>(repeat' split)<;>simp_all [cells])
    · rw [Heap.set_other (fun e=>hz (by simp [e]))]
end Go.Proofs.YtolffbcnbcjeaaaGreat
namespace Go.Proofs.YtolffbcnbcjeaaaGreat
open Go Go.Sep Go.Pt
attribute [local irreducible] CallT
theorem fairLasso_A {a:Au} (h:AutoN a):Pu Tryz.prog 39 [Ls (nextG a),Is a.first,Ls a.goals] (lassoV (rwF (gA a)) (gA a).length (nN a.first) (goN a.goals)):=by
  obtain ⟨h1,h2,h3⟩:=h.gob
  have hl:=gA_len a
  have hf:=h.f.fi
  have:=fairLasso_spec (gA a) (gA_B h.f) (nN a.first) (by rw [hl];exact nN_lt h.fr) (by rw [nN_len];omega) (goN a.goals) 96 h1 h2 h3
  rwa [gA_I h.f,nI_of h.fr,goN,gI_of h.go] at this
theorem WordOf_impl (a:Au) (sa:smAu a) {H:Heap} {K:AV→Heap→Prop} (hK:∀v G D,RS (woS a) (woL a) v G D→New H G D→K (.tup [v,B (woB a)]) G):CallT Tryz.prog 10 [aAu a] H K:=by
  refine CallT.fin ?_
  refine W10_ok ?_;simp (maxSteps:=1000000) (disch:=first | assumption | (apply ν6;assumption)) only [W10,vz,vu,vv,eqS,eF_,↓c1_,↓c2_,tabs,reduceCtorEq,ι5,↓reduceIte,ν1,ν2,ν3,ν4,ν5,ι1,ι2,ι3,ι4]
  intro r hr r2 n2r hr2
  have st:=((St.nil H).cell hr [I a.states,Is a.first,Es a.edges,Ls a.goals]).cell (r:=r2) (by rw [Heap.set_other n2r];exact hr2) [.p .nil,.p .nil]
  generalize (H.set r [I a.states,Is a.first,Es a.edges,Ls a.goals]).set r2 [.p .nil,.p .nil]=G at st ⊢
  clear hr hr2 n2r
  have no:∀G',Heap.le H G'→woB a=false→wkK K (.tup [.agg [.p .nil,.p .nil],.p (.bool false)]) G':=fun G' hle hb=>by
    have:=hK (.agg [.p .nil,.p .nil]) H [] (.inl ⟨by rw [woS,hb];rfl,by rw [woL,hb];rfl,rfl,rfl⟩) ⟨List.nodup_nil,fun y hy=>(by cases hy),Heap.le_refl _⟩
    rw [hb] at this
    exact fin_le hle this
  (try simp (maxSteps:=1000000) (disch:=first | assumption | (apply ν6;assumption)) only [vz,vu,vv,eqS,eF_,↓c1_,↓c2_,tabs,reduceCtorEq,ι5,↓reduceIte,ν1,ν2,ν3,ν4,ν5,ι1,ι2,ι3,ι4,load_at (st.get 1 rfl)])
  refine Pu.use (GoodAuto_impl a sa) ?_
  cases ga:goodA a
  · (try simp (maxSteps:=1000000) (disch:=first | assumption | (apply ν6;assumption)) only [vz,vu,vv,eqS,eF_,↓c1_,↓c2_,tabs,reduceCtorEq,ι5,↓reduceIte,ν1,ν2,ν3,ν4,ν5,ι1,ι2,ι3,ι4,store_at (st.get 0 rfl)])
    exact no _ (st.put 0 rfl _).le (by rw [woB,ga];rfl)
  · have hN:=autoN ga
    (try simp (maxSteps:=1000000) (disch:=first | assumption | (apply ν6;assumption)) only [vz,vu,vv,eqS,eF_,↓c1_,↓c2_,tabs,reduceCtorEq,ι5,↓reduceIte,ν1,ν2,ν3,ν4,ν5,ι1,ι2,ι3,ι4,load_at (st.get 1 rfl)])
    refine Pu.use (next_spec a hN.f) ?_
    (try simp (maxSteps:=1000000) (disch:=first | assumption | (apply ν6;assumption)) only [vz,vu,vv,eqS,eF_,↓c1_,↓c2_,tabs,reduceCtorEq,ι5,↓reduceIte,ν1,ν2,ν3,ν4,ν5,ι1,ι2,ι3,ι4,load_at (st.get 1 rfl)])
    refine Pu.use (fairLasso_A hN) ?_
    have ev:lassoV (rwF (gA a)) (gA a).length (nN a.first) (goN a.goals)=.tup [Is (nI (wS a)),Is (nI (wL a)),B (fairA a)]:=rfl
    rw [ev]
    cases hf:fairA a
    · (try simp (maxSteps:=1000000) (disch:=first | assumption | (apply ν6;assumption)) only [vz,vu,vv,eqS,eF_,↓c1_,↓c2_,tabs,reduceCtorEq,ι5,↓reduceIte,ν1,ν2,ν3,ν4,ν5,ι1,ι2,ι3,ι4,store_at (st.get 0 rfl)])
      exact no _ (st.put 0 rfl _).le (by rw [woB,hf,ga];rfl)
    have hw:=wayA_of hN hf
    have hb:woB a=goodL (ltsF a (wyF (wS a) (wL a)) (wS a).length) ((ltsF a (wyF (wS a) (wL a)) ((wS a).length+(wL a).length)).drop (wS a).length):=by rw [woB,ga,hf];rfl
    rw [woS,woL,hb] at hK
    clear no hb
    generalize wS a=S at hw hK ⊢
    generalize wL a=L at hw hK ⊢
    have hS:=nI_len S
    have hL:=nI_len L
    have hne:=hw.ne
    obtain ⟨hs1,hs2⟩:=hw.sz
    have hL1:(nI L).take 1=nI [L.getD 0 0]:=by
      rw [nI_take]
      cases L with
      | nil=>simp at hne
      | cons x L=>simp [List.getD]
    (try simp (maxSteps:=1000000) (disch:=first | assumption | (apply ν6;assumption)) only [vz,vu,vv,eqS,eF_,↓c1_,↓c2_,tabs,reduceCtorEq,ι5,↓reduceIte,ν1,ν2,ν3,ν4,ν5,ι1,ι2,ι3,ι4,hL])
    refine ⟨by omega,by omega,by omega,fun e he=>by obtain ⟨x,_,rfl⟩:=List.mem_map.1 he;rfl,?_⟩
    rw [hL1]
    refine lit3 tab_24 rfl tab_22 ⟨rfl,rfl⟩ ?_
    have hfl:[nI S,nI L,nI [L.getD 0 0]].flatten=nI (wyF S L):=by simp [wyF,nI]
    have hwl:=wyF_len S L
    have hwI:=nI_len (wyF S L)
    refine ConcatI_spec [nI S,nI L,nI [L.getD 0 0]] (by rw [hfl];omega) (by simp) fun q hq=>?_
    rw [hfl]
    replace st:=st.cell hq (cP fI (nI (wyF S L)))
    generalize G.set q (cP fI (nI (wyF S L)))=G1 at st ⊢
    clear hq hfl
    refine lit0I fun q8 hq8=>?_
    replace st:=st.cell hq8 (cP fI [])
    generalize G1.set q8 (cP fI [])=G2 at st ⊢
    clear hq8
    have hway:=hw.way
    clear hL1 hw hL
    generalize wyF S L=wy at st hwl hwI hway hK ⊢
    refine L10_0_rule ((0:Nat),q8,G2) (fun z=>rowP z.2.1 (ltsF a wy z.1)) (fun z=>I ((z.1:Int)+1)) (fun z=>z.2.2)
      (fun z=>z.1≤S.length+L.length∧St H [cellT z.2.1 (cP fI (ltsF a wy z.1)),cellT q (cP fI (nI wy)),cellT r2 [.p .nil,.p .nil],cellT r [I a.states,Is a.first,Es a.edges,Ls a.goals]] z.2.2) (fun z=>S.length+L.length - z.1)
      ⟨⟨by simp,st⟩,.refl _,.refl _,Heap.le_refl _⟩ ?_
    clear st G2 G1 G q8
    rintro ⟨i,q8,G⟩ ⟨hi,st⟩
    dsimp only at hi st
    have e5:IntKind.i64.wrap ((i:Int)+1+1)=((i+1:Nat):Int)+1:=by rw [i64_id (by omega) (by omega)];simp
    have e6:IntKind.i64.wrap ((i:Int)+1 - 1)=(i:Int):=by rw [i64_id (by omega) (by omega)];omega
    have e7:((i:Int)+1).toNat=i+1:=by omega
    (try simp (maxSteps:=1000000) (disch:=first | assumption | (apply ν6;assumption)) only [vz,vu,vv,eqS,eF_,↓c1_,↓c2_,tabs,reduceCtorEq,ι5,↓reduceIte,ν1,ν2,ν3,ν4,ν5,ι1,ι2,ι3,ι4,B10_0,hwI,e5,e6,hS])
    refine ⟨fun h1=>?_,fun h1=>?_⟩
    · have hlt:i < S.length+L.length:=by omega
      have g1:=cI_rd (l:=nI wy) (i:=i) (by omega)
      have g2:=cI_rd (l:=nI wy) (i:=i+1) (by omega)
      rw [nI_get (by omega)] at g1 g2
      have hcl:(cP fI (nI wy)).length=wy.length:=by simp [cP,hwI]
      (try simp (maxSteps:=1000000) (disch:=first | assumption | (apply ν6;assumption)) only [vz,vu,vv,eqS,eF_,↓c1_,↓c2_,tabs,reduceCtorEq,ι5,↓reduceIte,ν1,ν2,ν3,ν4,ν5,ι1,ι2,ι3,ι4,load_at (st.get 3 rfl),load_at (st.get 1 rfl),hcl,g1,g2,Int.toNat_natCast,e7])
      repeat refine ⟨by omega,?_⟩
      refine Pu.use (letterOf_spec a ga (hway i hlt)) ?_
      have hsu:=ltsF_succ a wy i
      have hlen:=ltsF_len a wy i
      generalize ltF a (wy.getD i 0:Nat) (wy.getD (i+1) 0:Nat)=c at hsu ⊢
      refine lit1 tab_22 rfl tab_3 ⟨rfl,rfl⟩ ?_
      refine st_appI (ys:=[c]) st 0 rfl (by simp only [List.length_cons,List.length_nil];omega) fun q' G' hq' st=>?_
      rw [← hsu] at st ⊢
      (try simp (maxSteps:=1000000) (disch:=first | assumption | (apply ν6;assumption)) only [vz,vu,vv,eqS,eF_,↓c1_,↓c2_,tabs,reduceCtorEq,ι5,↓reduceIte,ν1,ν2,ν3,ν4,ν5,ι1,ι2,ι3,ι4,e5])
      exact ⟨(i+1,q',G'),⟨by simp only;omega,st⟩,by simp only;omega,.refl _,.refl _,Heap.le_refl _⟩
    · have:i=S.length+L.length:=by omega
      subst this
      have hlen:=ltsF_len a wy (S.length+L.length)
      have et:=ltsF_take a wy (n:=S.length+L.length) (k:=S.length) (by omega)
      have hlen2:=ltsF_len a wy S.length
      have eall:ltsF a wy S.length++(ltsF a wy (S.length+L.length)).drop S.length=ltsF a wy (S.length+L.length):=by rw [← et,List.take_append_drop]
      have hdl:((ltsF a wy (S.length+L.length)).drop S.length).length=L.length:=by rw [List.length_drop];omega
      rw [← eall] at st
      have em:((S.length+L.length:Nat):Int) - (S.length:Int)=(L.length:Int):=by omega
      have fin:CallT Tryz.prog 43 [aS2 q8 (ltsF a wy S.length) ((ltsF a wy (S.length+L.length)).drop S.length)] G fun v66 H14=>
          extractV v66 0 fun v67=>extractV v66 1 fun v68=>storeV tab 29 (.ptr r2 0) v67 H14 fun H15=>loadV tab 29 (.ptr r2 0) H15 fun r0=>wkK K (.tup [r0,v68]) H15:=by
        refine checkedLasso_part _ _ (by omega) (by omega) (st.get 0 rfl) (fun hb=>?_) (fun hb=>?_)
        · rw [hb] at hK
          (try simp (maxSteps:=1000000) (disch:=first | assumption | (apply ν6;assumption)) only [vz,vu,vv,eqS,eF_,↓c1_,↓c2_,tabs,reduceCtorEq,ι5,↓reduceIte,ν1,ν2,ν3,ν4,ν5,ι1,ι2,ι3,ι4,store_at (st.get 2 rfl)])
          exact fin_le (st.put 2 rfl _).le (hK (.agg [.p .nil,.p .nil]) H [] (.inl ⟨rfl,rfl,rfl,rfl⟩) ⟨List.nodup_nil,fun y hy=>(by cases hy),Heap.le_refl _⟩)
        · rw [hb] at hK
          (try simp (maxSteps:=1000000) (disch:=first | assumption | (apply ν6;assumption)) only [vz,vu,vv,eqS,eF_,↓c1_,↓c2_,tabs,reduceCtorEq,ι5,↓reduceIte,ν1,ν2,ν3,ν4,ν5,ι1,ι2,ι3,ι4,store_at (st.get 2 rfl)])
          replace st:=st.put 2 rfl [.sl q8 1 0 (ltsF a wy S.length).length,.sl q8 1 (ltsF a wy S.length).length ((ltsF a wy (S.length+L.length)).drop S.length).length]
          refine ⟨_,_,.forget (H':=H.set q8 (cP fI (ltsF a wy S.length++(ltsF a wy (S.length+L.length)).drop S.length))) ?_,hK _ _ [q8] (.inr ⟨q8,rfl,Heap.set_same _ _ _,rfl⟩) (New.cell (st.fr _ (List.mem_of_getElem? (i:=0) rfl) q8 (by simp [cellT])))⟩
          intro y b hb2
          by_cases e:y=q8
          · subst e;rw [Heap.set_same] at hb2;rw [← hb2];exact st.get 0 rfl
          · rw [Heap.set_other e] at hb2;exact st.le y b hb2
      rw [aS2,hlen2,hdl] at fin
      rcases Nat.eq_zero_or_pos S.length with hz | hz
      · have hz':(S.length:Int)=0:=by omega
        (try simp (maxSteps:=1000000) (disch:=first | assumption | (apply ν6;assumption)) only [vz,vu,vv,eqS,eF_,↓c1_,↓c2_,tabs,reduceCtorEq,ι5,↓reduceIte,ν1,ν2,ν3,ν4,ν5,ι1,ι2,ι3,ι4,hlen,hS,sliceV,hz'])
        repeat refine ⟨by omega,?_⟩
        have e9:S.length+L.length=L.length:=by omega
        rw [Nat.mul_one,e9]
        exact CallT.args (args':=[.agg [.sl q8 1 0 S.length,.sl q8 1 S.length L.length]]) fin ⟨wk_agg ⟨by rw [hz];exact .eslo _ _ _,.refl _,trivial⟩,trivial⟩
      · have hz':¬(S.length:Int)=0:=by omega
        (try simp (maxSteps:=1000000) (disch:=first | assumption | (apply ν6;assumption)) only [vz,vu,vv,eqS,eF_,↓c1_,↓c2_,tabs,reduceCtorEq,ι5,↓reduceIte,ν1,ν2,ν3,ν4,ν5,ι1,ι2,ι3,ι4,hlen,hS,sliceV,hz',em,Int.toNat_natCast])
        repeat refine ⟨by omega,?_⟩
        rw [Nat.mul_one]
        exact fin
end Go.Proofs.YtolffbcnbcjeaaaGreat
namespace Go.Proofs.YtolffbcnbcjeaaaGreat
open Go Go.Sep Go.Pt
attribute [local irreducible] CallT
theorem goodL_len {s l:List Int} (h:goodL s l=true):s.length≤24∧l.length≤24:=by
  simp only [goodL,Bool.and_eq_true,decide_eq_true_eq] at h
  exact ⟨h.1.1,h.1.2.2⟩
theorem wo_len (a:Au):(woS a).length≤24∧(woL a).length≤24:=by
  unfold woS woL
  by_cases h:woB a=true
  · rw [if_pos h,if_pos h]
    simp only [woB,Bool.and_eq_true] at h
    exact goodL_len h.2.2
  · rw [if_neg h,if_neg h];simp
set_option maxRecDepth 20000 in
theorem FnExactWordOf_true {a:Au} (oa:okAu a):Pu Tryz.prog 3 [aAu a] (B true):=by
  refine Pu.of fun H=>?_
  refine W3_ok ?_;simp (maxSteps:=1000000) (disch:=first | assumption | (apply ν6;assumption)) only [W3,vz,vu,vv,eqS,eF_,↓c1_,↓c2_,tabs,reduceCtorEq,ι5,↓reduceIte,ν1,ν2,ν3,ν4,ν5,ι1,ι2,ι3,ι4]
  intro r hr
  have st:=(St.nil H).cell hr [I a.states,Is a.first,Es a.edges,Ls a.goals]
  generalize H.set r [I a.states,Is a.first,Es a.edges,Ls a.goals]=G at st ⊢
  clear hr
  (try simp (maxSteps:=1000000) (disch:=first | assumption | (apply ν6;assumption)) only [vz,vu,vv,eqS,eF_,↓c1_,↓c2_,tabs,reduceCtorEq,ι5,↓reduceIte,ν1,ν2,ν3,ν4,ν5,ι1,ι2,ι3,ι4,load_at (st.get 0 rfl)])
  refine Pu.use (szAuto_spec a 1048576 (by omega) (by omega) oa) ?_
  (try simp (maxSteps:=1000000) (disch:=first | assumption | (apply ν6;assumption)) only [vz,vu,vv,eqS,eF_,↓c1_,↓c2_,tabs,reduceCtorEq,ι5,↓reduceIte,ν1,ν2,ν3,ν4,ν5,ι1,ι2,ι3,ι4,load_at (st.get 0 rfl)])
  refine ⟨fun _=>st.le,fun h1=>?_⟩
  have e2:(totAu a:Int)≤1048576:=by
    unfold szR at h1
    split at h1<;>omega
  have sa:=smAu_of e2
  refine Pu.use (toAuto_spec a sa) ?_
  refine Pu.use (WordOf_ref a sa) ?_
  have hres:=wo_len a
  have hI:∀{H:Heap} {K:AV→Heap→Prop},(∀v G D,RS (woS a) (woL a) v G D→New H G D→K (.tup [v,B (woB a)]) G)→CallT Tryz.prog 10 [aAu a] H K:=WordOf_impl a sa
  generalize woS a=s at hres hI
  generalize woL a=l at hres hI
  generalize woB a=ok at hI
  obtain ⟨hs24,hl24⟩:=hres
  (try simp (maxSteps:=1000000) (disch:=first | assumption | (apply ν6;assumption)) only [vz,vu,vv,eqS,eF_,↓c1_,↓c2_,tabs,reduceCtorEq,ι5,↓reduceIte,ν1,ν2,ν3,ν4,ν5,ι1,ι2,ι3,ι4])
  intro w hw
  replace st:=st.cell hw [Is s,Is l]
  (try simp (maxSteps:=1000000) (disch:=first | assumption | (apply ν6;assumption)) only [vz,vu,vv,eqS,eF_,↓c1_,↓c2_,tabs,reduceCtorEq,ι5,↓reduceIte,ν1,ν2,ν3,ν4,ν5,ι1,ι2,ι3,ι4,load_at (st.get 1 rfl)])
  generalize G.set w [Is s,Is l]=G0 at st ⊢
  clear hw
  refine toAuto_live a sa fun va G1 Da la na=>?_
  replace st:=st.push (auT a va Da) na la
  obtain ⟨a1,a2,a3,rfl⟩:=aAu_cells la
  clear la na
  (try simp (maxSteps:=1000000) (disch:=first | assumption | (apply ν6;assumption)) only [vz,vu,vv,eqS,eF_,↓c1_,↓c2_,tabs,reduceCtorEq,ι5,↓reduceIte,ν1,ν2,ν3,ν4,ν5,ι1,ι2,ι3,ι4])
  intro x hx
  replace st:=st.cell hx [I a.states,.sl a1 1 0 a.first.length,.sl a2 3 0 a.edges.length,.sl a3 1 0 a.goals.length]
  (try simp (maxSteps:=1000000) (disch:=first | assumption | (apply ν6;assumption)) only [vz,vu,vv,eqS,eF_,↓c1_,↓c2_,tabs,reduceCtorEq,ι5,↓reduceIte,ν1,ν2,ν3,ν4,ν5,ι1,ι2,ι3,ι4,load_at (st.get 0 rfl)])
  generalize G1.set x [I a.states,.sl a1 1 0 a.first.length,.sl a2 3 0 a.edges.length,.sl a3 1 0 a.goals.length]=G2 at st ⊢
  clear hx
  obtain ⟨Gw,hwk,_⟩:=LAu.wk (st.get 1 rfl) (st.ndT 1 rfl) (fun v=>.tup [v]) (fun h=>.tup (.cons h .nil))
  refine thawU (RSt.res s l ok) (fun hK=>hI fun v G D h1 h2=>hK _ _ _ ⟨v,rfl,h1⟩ h2) hwk fun rr G7 D7 hr7 hn7=>?_
  clear hwk
  obtain ⟨vr,rfl,hrs⟩:=hr7
  obtain ⟨xr,yr,rfl,hxr,hyr⟩:=hrs.ag
  replace st:=st.push (tRS s l (.agg [xr,yr]) D7) hn7 hrs
  clear hrs hn7
  (try simp (maxSteps:=1000000) (disch:=first | assumption | (apply ν6;assumption)) only [vz,vu,vv,eqS,eF_,↓c1_,↓c2_,tabs,reduceCtorEq,ι5,↓reduceIte,ν1,ν2,ν3,ν4,ν5,ι1,ι2,ι3,ι4])
  intro u hu
  replace st:=st.cell hu [xr,yr]
  (try simp (maxSteps:=1000000) (disch:=first | assumption | (apply ν6;assumption)) only [vz,vu,vv,eqS,eF_,↓c1_,↓c2_,tabs,reduceCtorEq,ι5,↓reduceIte,ν1,ν2,ν3,ν4,ν5,ι1,ι2,ι3,ι4,load_at (st.get 0 rfl),load_at (st.get 4 rfl)])
  generalize G7.set u [xr,yr]=G8 at st ⊢
  clear hu
  refine ⟨by rw [hxr,hyr];rfl,?_⟩
  refine RS.eq (st.get 1 rfl) (by omega) (by omega) ?_
  (try simp (maxSteps:=1000000) (disch:=first | assumption | (apply ν6;assumption)) only [vz,vu,vv,eqS,eF_,↓c1_,↓c2_,tabs,reduceCtorEq,ι5,↓reduceIte,ν1,ν2,ν3,ν4,ν5,ι1,ι2,ι3,ι4,load_at (st.get 2 rfl),load_at (st.get 5 rfl)])
  refine Pu.use (toAuto_spec a sa) ?_
  (try simp (maxSteps:=1000000) (disch:=first | assumption | (apply ν6;assumption)) only [vz,vu,vv,eqS,eF_,↓c1_,↓c2_,tabs,reduceCtorEq,ι5,↓reduceIte,ν1,ν2,ν3,ν4,ν5,ι1,ι2,ι3,ι4,load_at (st.get 2 rfl)])
  refine LAu.eq (st.get 3 rfl) (st.ndT 3 rfl) sa ?_
  (try simp (maxSteps:=1000000) (disch:=first | assumption | (apply ν6;assumption)) only [vz,vu,vv,eqS,eF_,↓c1_,↓c2_,tabs,reduceCtorEq,ι5,↓reduceIte,ν1,ν2,ν3,ν4,ν5,ι1,ι2,ι3,ι4,load_at (st.get 2 rfl)])
  refine markAuto_live a (by omega) (st.get 3 rfl) (st.ndT 3 rfl) (by omega) (by omega) fun G ha hf=>?_
  replace st:=st.upd 3 rfl (auT (mkAu 1 a) _ Da) rfl hf ha
  clear ha hf
  have ma:=totM_le a
  (try simp (maxSteps:=1000000) (disch:=first | assumption | (apply ν6;assumption)) only [vz,vu,vv,eqS,eF_,↓c1_,↓c2_,tabs,reduceCtorEq,ι5,↓reduceIte,ν1,ν2,ν3,ν4,ν5,ι1,ι2,ι3,ι4])
  refine ⟨fun h=>by omega,fun _=>?_⟩
  (try simp (maxSteps:=1000000) (disch:=first | assumption | (apply ν6;assumption)) only [vz,vu,vv,eqS,eF_,↓c1_,↓c2_,tabs,reduceCtorEq,ι5,↓reduceIte,ν1,ν2,ν3,ν4,ν5,ι1,ι2,ι3,ι4,load_at (st.get 0 rfl),load_at (st.get 4 rfl)])
  refine RS.eq (st.get 1 rfl) (by omega) (by omega) ?_
  (try simp (maxSteps:=1000000) (disch:=first | assumption | (apply ν6;assumption)) only [vz,vu,vv,eqS,eF_,↓c1_,↓c2_,tabs,reduceCtorEq,ι5,↓reduceIte,ν1,ν2,ν3,ν4,ν5,ι1,ι2,ι3,ι4,load_at (st.get 0 rfl)])
  refine RS.mark (st.get 1 rfl) (by omega) (by omega) (by omega) (by omega) fun G12 hrs hfr=>?_
  replace st:=st.upd 1 rfl (tRS (marked 1 s.length) (marked (1+s.length) l.length) (.agg [xr,yr]) D7) rfl hfr hrs
  clear hfr hrs
  (try simp (maxSteps:=1000000) (disch:=first | assumption | (apply ν6;assumption)) only [vz,vu,vv,eqS,eF_,↓c1_,↓c2_,tabs,reduceCtorEq,ι5,↓reduceIte,ν1,ν2,ν3,ν4,ν5,ι1,ι2,ι3,ι4,load_at (st.get 0 rfl)])
  refine RS.held (st.get 1 rfl) (by omega) (by omega) ?_
  (try simp (maxSteps:=1000000) (disch:=first | assumption | (apply ν6;assumption)) only [vz,vu,vv,eqS,eF_,↓c1_,↓c2_,tabs,reduceCtorEq,ι5,↓reduceIte,ν1,ν2,ν3,ν4,ν5,ι1,ι2,ι3,ι4,load_at (st.get 5 rfl)])
  refine ⟨fun h=>by omega,fun _=>?_⟩
  refine Pu.use (toAuto_spec a sa) ?_
  refine hI fun v G13 E hrs hn13=>?_
  obtain ⟨xe,ye,rfl,hxe,hye⟩:=hrs.ag
  replace st:=st.push (tRS s l (.agg [xe,ye]) E) hn13 hrs
  clear hrs hn13
  (try simp (maxSteps:=1000000) (disch:=first | assumption | (apply ν6;assumption)) only [vz,vu,vv,eqS,eF_,↓c1_,↓c2_,tabs,reduceCtorEq,ι5,↓reduceIte,ν1,ν2,ν3,ν4,ν5,ι1,ι2,ι3,ι4])
  intro u2 hu2
  replace st:=st.cell hu2 [xe,ye]
  (try simp (maxSteps:=1000000) (disch:=first | assumption | (apply ν6;assumption)) only [vz,vu,vv,eqS,eF_,↓c1_,↓c2_,tabs,reduceCtorEq,ι5,↓reduceIte,ν1,ν2,ν3,ν4,ν5,ι1,ι2,ι3,ι4,load_at (st.get 0 rfl),load_at (st.get 6 rfl)])
  generalize G13.set u2 [xe,ye]=G14 at st ⊢
  clear hu2
  refine ⟨by rw [hxe,hye];rfl,?_⟩
  refine RS.eq (st.get 1 rfl) (by omega) (by omega) ?_
  (try simp (maxSteps:=1000000) (disch:=first | assumption | (apply ν6;assumption)) only [vz,vu,vv,eqS,eF_,↓c1_,↓c2_,tabs,reduceCtorEq,ι5,↓reduceIte,ν1,ν2,ν3,ν4,ν5,ι1,ι2,ι3,ι4,load_at (st.get 2 rfl)])
  refine RS.held (st.get 3 rfl) (by omega) (by omega) ?_
  (try simp (maxSteps:=1000000) (disch:=first | assumption | (apply ν6;assumption)) only [vz,vu,vv,eqS,eF_,↓c1_,↓c2_,tabs,reduceCtorEq,ι5,↓reduceIte,ν1,ν2,ν3,ν4,ν5,ι1,ι2,ι3,ι4])
  exact ⟨fun h=>by omega,fun _=>st.le⟩
end Go.Proofs.YtolffbcnbcjeaaaGreat
namespace Go.Proofs.YtolffbcnbcjeaaaGreat.wordOf
open Go Go.Sep Go.ChangeShapes Go.WideShapes Go.ChangeAt Go.RowKit
theorem own:ownKnob Tryz.prog.godebug=none:=by kernel_rfl
theorem told (avs:List AV) (h:ArgsT Tryz.prog [26] avs):CallT Tryz.prog 3 avs (fun _=>none) (fun v _=>v=.p (.bool true)):=by
  obtain ⟨a,b,rfl,h1,h⟩:=args_cons h
  cases args_nil h
  obtain ⟨x1,hx1,rfl⟩:=arg_auto h1
  exact (FnExactWordOf_true hx1).use rfl
set_option maxRecDepth 100000 in
theorem lifted (os:Os) (started:os.Started) (H:Type) (enc:TypeId×Value→H) :
    ReturnsInHanded {} Tryz.checked os 3 .any (Rows.fnExactWordOfSpec.pre6 enc Tryz.prog Tryz.f3 Rows.fnExactWordOfRow.domain false) (Rows.fnExactWordOfSpec.post enc Tryz.prog Tryz.f3 false true false false):=by
  refine returnsInHanded_of_change (C:=Tryz.checked) own started (by kernel_rfl) Tryz.func3
    (ChangeSpec.witness6 (enc:=enc) (C:=Tryz.checked) false ⟨#[],#[.agg #[.int .i64 0,.slice none 0 0,.slice none 0 0,.slice none 0 0]],[]⟩ 12 (by kernel_rfl) (by kernel_rfl) (by kernel_rfl) (by kernel_rfl)) ?_
  intro W base args ds gs before hval hW _ _
  refine row_of_true (n:=12) (tb:=4) (by kernel_rfl) rfl (by kernel_rfl) (by kernel_rfl) ?_ ?_ ?_ hval hW
  · have:(Tryz.f3.params.toList.all fun t=>Tryz.prog.readableRec t && decide (t < Tryz.prog.types.size) && plainB Tryz.prog 12 t)=true:=by kernel_rfl
    intro t ht
    have:=List.all_eq_true.1 this t ht
    rw [Bool.and_eq_true,Bool.and_eq_true,decide_eq_true_eq] at this
    exact ⟨this.1.1,this.1.2,this.2⟩
  · intro ds hd
    rw [Tryz.params3] at hd
    match ds,hd with
    | [a],_=>rfl
  · rw [Tryz.params3]
    exact told
theorem over:Rows.fnExactWordOfRow.holds Tryz.pinned (OpenSpec.ofChange Rows.fnExactWordOfSpec):=
  OpenClaim.holds_of_wide 3 Tryz.f3 rfl rfl rfl rfl rfl rfl rfl ⟨rfl,rfl,rfl,rfl,rfl⟩ rfl rfl rfl rfl rfl (by kernel_rfl) Tryz.func3 (by kernel_rfl)
    (of_decide_eq_true (by kernel_rfl)) (by unfold Func.isWrapper;first | (rw [if_pos (by decide +kernel)];kernel_rfl) | (rw [if_neg (by decide +kernel)];exact ⟨rfl,rfl⟩))
    (fun os started H enc _=>lifted os started H enc)
theorem proved:Rows.FnExactWordOfSaid:=
  over
#print axioms proved
end Go.Proofs.YtolffbcnbcjeaaaGreat.wordOf
