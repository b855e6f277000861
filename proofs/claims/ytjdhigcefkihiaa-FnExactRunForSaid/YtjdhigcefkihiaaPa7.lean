/- Texts laid together: Hf2 Lt5 Lu0 Hf3 Mf6 Ql2 Hf4 Tv6. -/
import Derived.Test.YtjdhigcefkihiaaPa6
set_option linter.unusedVariables false
set_option linter.unusedSimpArgs false
open Nat renaming reduceAdd→ν1,reduceLeDiff→ν2,reduceLT→ν3,reduceMul→ν4,reduceSub→ν5
open Int renaming reduceToNat→ι1,reduceSub→ι2,reduceAdd→ι3,reduceNeg→ι4
open Array renaming toList→ι5
open Ne renaming symm→ν6
open List renaming forall_mem_cons→ν7
namespace Go.Proofs.Ytjdhigcefkihiaa
open Go Go.Sep Go.Pt
attribute [local irreducible] CallT
def lasL (s l:List Int):Las:=⟨bitF,letW s l,nxW s l,s.length+l.length⟩
abbrev vB (l:List Bool):PV:=.sl (l.map eBo)
theorem clo_1 {r5:Nat} {ops:List (List Bool)} {k:Nat} {G:Heap} (hG:G r5=some [.p (.sl (ops.map fun r=>[vB r]))]) (h0:0 < ops.length) (hk:k < (ops.getD 0 []).length) {K:AV→Heap→Prop} (h:K (B ((ops.getD 0 []).getD k default)) G):CallT Try.prog 128 [I k,.ptr r5 0] G K:=by
  have hk':k < (ops.getD 0 default).length:=hk
  refine W128_ok ?_;simp (maxSteps:=1000000) (disch:=first | assumption | (apply ν6;assumption)) only [W128,vz,vu,vv,eqS,eF_,↓c1_,↓c2_,tabs,reduceCtorEq,ι5,↓reduceIte,ν1,ν2,ν3,ν4,ν5,ι1,ι2,ι3,ι4,load_at hG]
  exact ⟨by omega,by omega,by omega,by omega,h⟩
theorem clo_2 {r5:Nat} {ops:List (List Bool)} {k:Nat} {G:Heap} (hG:G r5=some [.p (.sl (ops.map fun r=>[vB r]))]) (h0:1 < ops.length) (hk:k < (ops.getD 1 []).length) {K:AV→Heap→Prop} (h:K (B ((ops.getD 1 []).getD k default)) G):CallT Try.prog 129 [I k,.ptr r5 0] G K:=by
  have hk':k < (ops.getD 1 default).length:=hk
  refine W129_ok ?_;simp (maxSteps:=1000000) (disch:=first | assumption | (apply ν6;assumption)) only [W129,vz,vu,vv,eqS,eF_,↓c1_,↓c2_,tabs,reduceCtorEq,ι5,↓reduceIte,ν1,ν2,ν3,ν4,ν5,ι1,ι2,ι3,ι4,load_at hG]
  exact ⟨by omega,by omega,by omega,by omega,h⟩
theorem clo_3 {r5 r7 r8:Nat} {ops:List (List Bool)} {k:Nat} {nb:Bool} {G:Heap} (hG:G r5=some [.p (.sl (ops.map fun r=>[vB r]))]) (h7:G r7=some [.fn 128 [.ptr r5 0]]) (h8:G r8=some [.fn 129 [.ptr r5 0]])
    (h0:1 < ops.length) (hk0:k < (ops.getD 0 []).length) (hk:k < (ops.getD 1 []).length) {K:AV→Heap→Prop} (h:K (B ((ops.getD 1 []).getD k default || ((ops.getD 0 []).getD k default && nb))) G):CallT Try.prog 131 [I k,B nb,.ptr r8 0,.ptr r7 0] G K:=by
  refine W131_ok ?_;simp (maxSteps:=1000000) (disch:=first | assumption | (apply ν6;assumption)) only [W131,vz,vu,vv,eqS,eF_,↓c1_,↓c2_,tabs,reduceCtorEq,ι5,↓reduceIte,ν1,ν2,ν3,ν4,ν5,ι1,ι2,ι3,ι4,load_at h7,load_at h8]
  refine clo_2 hG h0 hk ?_
  generalize (ops.getD 1 []).getD k default=u at h ⊢
  cases u
  · (try simp (maxSteps:=1000000) (disch:=first | assumption | (apply ν6;assumption)) only [vz,vu,vv,eqS,eF_,↓c1_,↓c2_,tabs,reduceCtorEq,ι5,↓reduceIte,ν1,ν2,ν3,ν4,ν5,ι1,ι2,ι3,ι4,load_at h7])
    refine clo_1 hG (by omega) hk0 ?_
    generalize (ops.getD 0 []).getD k default=u at h ⊢
    cases u
    · (try simp (maxSteps:=1000000) (disch:=first | assumption | (apply ν6;assumption)) only [vz,vu,vv,eqS,eF_,↓c1_,↓c2_,tabs,reduceCtorEq,ι5,↓reduceIte,ν1,ν2,ν3,ν4,ν5,ι1,ι2,ι3,ι4])
      exact h
    · (try simp (maxSteps:=1000000) (disch:=first | assumption | (apply ν6;assumption)) only [vz,vu,vv,eqS,eF_,↓c1_,↓c2_,tabs,reduceCtorEq,ι5,↓reduceIte,ν1,ν2,ν3,ν4,ν5,ι1,ι2,ι3,ι4])
      exact h
  · (try simp (maxSteps:=1000000) (disch:=first | assumption | (apply ν6;assumption)) only [vz,vu,vv,eqS,eF_,↓c1_,↓c2_,tabs,reduceCtorEq,ι5,↓reduceIte,ν1,ν2,ν3,ν4,ν5,ι1,ι2,ι3,ι4])
    exact h
theorem clo_4 {r5 r7 r8:Nat} {ops:List (List Bool)} {k:Nat} {nb:Bool} {G:Heap} (hG:G r5=some [.p (.sl (ops.map fun r=>[vB r]))]) (h7:G r7=some [.fn 128 [.ptr r5 0]]) (h8:G r8=some [.fn 129 [.ptr r5 0]])
    (h0:1 < ops.length) (hk0:k < (ops.getD 0 []).length) (hk:k < (ops.getD 1 []).length) {K:AV→Heap→Prop} (h:K (B ((ops.getD 1 []).getD k default && ((ops.getD 0 []).getD k default || nb))) G):CallT Try.prog 132 [I k,B nb,.ptr r8 0,.ptr r7 0] G K:=by
  refine W132_ok ?_;simp (maxSteps:=1000000) (disch:=first | assumption | (apply ν6;assumption)) only [W132,vz,vu,vv,eqS,eF_,↓c1_,↓c2_,tabs,reduceCtorEq,ι5,↓reduceIte,ν1,ν2,ν3,ν4,ν5,ι1,ι2,ι3,ι4,load_at h7,load_at h8]
  refine clo_2 hG h0 hk ?_
  generalize (ops.getD 1 []).getD k default=u at h ⊢
  cases u
  · (try simp (maxSteps:=1000000) (disch:=first | assumption | (apply ν6;assumption)) only [vz,vu,vv,eqS,eF_,↓c1_,↓c2_,tabs,reduceCtorEq,ι5,↓reduceIte,ν1,ν2,ν3,ν4,ν5,ι1,ι2,ι3,ι4])
    exact h
  · (try simp (maxSteps:=1000000) (disch:=first | assumption | (apply ν6;assumption)) only [vz,vu,vv,eqS,eF_,↓c1_,↓c2_,tabs,reduceCtorEq,ι5,↓reduceIte,ν1,ν2,ν3,ν4,ν5,ι1,ι2,ι3,ι4,load_at h7])
    refine clo_1 hG (by omega) hk0 ?_
    generalize (ops.getD 0 []).getD k default=u at h ⊢
    cases u
    · (try simp (maxSteps:=1000000) (disch:=first | assumption | (apply ν6;assumption)) only [vz,vu,vv,eqS,eF_,↓c1_,↓c2_,tabs,reduceCtorEq,ι5,↓reduceIte,ν1,ν2,ν3,ν4,ν5,ι1,ι2,ι3,ι4])
      exact h
    · (try simp (maxSteps:=1000000) (disch:=first | assumption | (apply ν6;assumption)) only [vz,vu,vv,eqS,eF_,↓c1_,↓c2_,tabs,reduceCtorEq,ι5,↓reduceIte,ν1,ν2,ν3,ν4,ν5,ι1,ι2,ι3,ι4])
      exact h
theorem litB {b:Bool} {G:Heap} {K:AV→Heap→Prop} (h:K (.p (.sl ([b].map eBo))) G):buildSliceV tab 76 1 [(0,B b)] G (wkK K):=lit1 tab_76 rfl tab_4 ⟨rfl,rfl⟩ h
theorem rnB_val {H G:Heap} {Ts:List Th} {x:AV} {l:List Bool} {D:List Nat} (s:St H Ts G) (i:Nat) (hi:Ts[i]?=some (rnB x l D)):wkK (fun r H'=>r=.p (vB l)∧H'=H) x G:=by
  rcases rnB_cases (s.get i hi) with ⟨rfl,rfl,rfl⟩ | ⟨q,rfl,hq,rfl⟩
  · exact ⟨_,_,.trans (.val .nil) (.forget s.le),rfl,rfl⟩
  · have:=fin_own (sz:=1) (es:=l.map eBo) (q:=q) (H:=H) (H':=G) (K:=fun r H'=>r=.p (vB l)∧H'=H) (by omega) (sizedMap (f:=eBo) (fun _=>rfl) l) (s.fr _ (List.mem_of_getElem? hi) q (by simp [rnT])) (fun y b hy=>by
      by_cases e:y=q
      · subst e;rw [Heap.set_same] at hy;rw [← hy,hq];exact congrArg some (cells_P fB l).symm
      · rw [Heap.set_other e] at hy;exact s.le y b hy) ⟨rfl,rfl⟩
    simpa only [Go.Sep.own,List.length_map] using this
theorem holdsAlong_spec (s l:List Int) (h1:s.length≤24) (h2:1≤l.length∧l.length≤24) (x:Sd) (hx:sdOk x=true) (ops:List (List Bool)) (ho:(ops.length:Int)=need x.op) (hops:∀r∈ops,r.length=s.length+l.length) (A Bz:List Bool)
    (e1:need x.op=1→ops=[Bz]) (e2:need x.op=2→ops=[A,Bz]) {H:Heap} {K:AV→Heap→Prop} (h:K (.p (vB (rowV (lasL s l) x A Bz))) H):CallT Try.prog 107 [aL2 s l,aD x,.p (.sl (ops.map fun r=>[vB r]))] H K:=by
  refine CallT.fin ?_
  refine W107_ok ?_;simp (maxSteps:=1000000) (disch:=first | assumption | (apply ν6;assumption)) only [W107,vz,vu,vv,eqS,eF_,↓c1_,↓c2_,tabs,reduceCtorEq,ι5,↓reduceIte,ν1,ν2,ν3,ν4,ν5,ι1,ι2,ι3,ι4]
  intro r3 hr3 r4 n4 hr4 r5 n5 n53 hr5
  intro r7 n75 n74 n73 hr7 r8 n87 n85 n84 n83 hr8
  have st:=(((((St.nil H).cell hr3 [Is s,Is l]).cell (r:=r4) (by rw [Heap.set_other n4];exact hr4) [I x.op,I x.n]).cell (r:=r5) (by rw [Heap.set_other n5,Heap.set_other n53];exact hr5) [.p (.sl (ops.map fun r=>[vB r]))]).cell (r:=r7) (by rw [Heap.set_other n75,Heap.set_other n74,Heap.set_other n73];exact hr7) [.nilfn]).cell (r:=r8) (by rw [Heap.set_other n87,Heap.set_other n85,Heap.set_other n84,Heap.set_other n83];exact hr8) [.nilfn]
  generalize ((((H.set r3 [Is s,Is l]).set r4 [I x.op,I x.n]).set r5 [.p (.sl (ops.map fun r=>[vB r]))]).set r7 [.nilfn]).set r8 [.nilfn]=G at st ⊢
  clear hr3 n4 hr4 n5 n53 hr5 n75 n74 n73 hr7 n87 n85 n84 n83 hr8
  rw [store_at (st.get 1 rfl)]
  replace st:=st.put 1 rfl [.fn 128 [.ptr r5 0]]
  (try simp (maxSteps:=1000000) (disch:=first | assumption | (apply ν6;assumption)) only [vz,vu,vv,eqS,eF_,↓c1_,↓c2_,tabs,reduceCtorEq,ι5,↓reduceIte,ν1,ν2,ν3,ν4,ν5,ι1,ι2,ι3,ι4])
  generalize G.set r7 [.fn 128 [.ptr r5 0]]=G1 at st ⊢
  simp only [List.set_cons_succ,List.set_cons_zero] at st
  rw [store_at (st.get 0 rfl)]
  replace st:=st.put 0 rfl [.fn 129 [.ptr r5 0]]
  (try simp (maxSteps:=1000000) (disch:=first | assumption | (apply ν6;assumption)) only [vz,vu,vv,eqS,eF_,↓c1_,↓c2_,tabs,reduceCtorEq,ι5,↓reduceIte,ν1,ν2,ν3,ν4,ν5,ι1,ι2,ι3,ι4])
  generalize G1.set r8 [.fn 129 [.ptr r5 0]]=G2 at st ⊢
  simp only [List.set_cons_succ,List.set_cons_zero] at st
  (try simp (maxSteps:=1000000) (disch:=first | assumption | (apply ν6;assumption)) only [vz,vu,vv,eqS,eF_,↓c1_,↓c2_,tabs,reduceCtorEq,ι5,↓reduceIte,ν1,ν2,ν3,ν4,ν5,ι1,ι2,ι3,ι4,load_at (st.get 4 rfl),load_at (st.get 3 rfl)])
  have key:∀(g:Nat→Bool→Bool),(∀k,k < s.length+l.length→∀b,cellV bitF (letW s l) (nxW s l) x A Bz k b=g k b)→rowV (lasL s l) x A Bz=fixR (nxW s l) (s.length+l.length) (decide (x.op=8)) g:=fun g hg=>fixR_congr hg
  have eN:IntKind.i64.wrap ((s.length:Int)+(l.length:Int))=((s.length+l.length:Nat):Int):=by rw [i64_id (by omega) (by omega)];simp
  refine ⟨fun c7=>?_,fun c7=>⟨fun c8=>?_,fun c8=>?_⟩⟩
  · have hn:need x.op=2:=by rw [c7];rfl
    have he:=e2 hn
    refine fixed_spec s l h1 h2 false _ _ (fun k nb=>Bz.getD k default || (A.getD k default && nb)) (fun {k nb G K} hk hle hK=>?_) ⟨_,_,.forget st.le,?_⟩
    · simp only [callF,List.cons_append,List.nil_append]
      have hA:=hops A (by rw [he];simp)
      have hB:=hops Bz (by rw [he];simp)
      refine clo_3 (ops:=ops) (hle _ _ (st.get 2 rfl)) (hle _ _ (st.get 1 rfl)) (hle _ _ (st.get 0 rfl)) (by rw [he];simp) (by rw [he];exact hA ▸ hk) (by rw [he];exact hB ▸ hk) ?_
      rw [he];exact hK
    · have:=key (fun k nb=>Bz.getD k default || (A.getD k default && nb)) fun k hk b=>by simp [cellV,c7]
      rw [this,c7] at h;exact h
  · have hn:need x.op=2:=by rw [c8];rfl
    have he:=e2 hn
    refine fixed_spec s l h1 h2 true _ _ (fun k nb=>Bz.getD k default && (A.getD k default || nb)) (fun {k nb G K} hk hle hK=>?_) ⟨_,_,.forget st.le,?_⟩
    · simp only [callF,List.cons_append,List.nil_append]
      have hA:=hops A (by rw [he];simp)
      have hB:=hops Bz (by rw [he];simp)
      refine clo_4 (ops:=ops) (hle _ _ (st.get 2 rfl)) (hle _ _ (st.get 1 rfl)) (hle _ _ (st.get 0 rfl)) (by rw [he];simp) (by rw [he];exact hA ▸ hk) (by rw [he];exact hB ▸ hk) ?_
      rw [he];exact hK
    · have:=key (fun k nb=>Bz.getD k default && (A.getD k default || nb)) fun k hk b=>by simp [cellV,c8]
      rw [this,c8] at h;exact h
  · refine lit0B fun q0 hq0=>?_
    replace st:=st.push (rnB (.sl q0 1 0 0) [] [q0]) (New.cell hq0) (.inr ⟨q0,[],[],rfl,Heap.set_same _ _ _,⟨rfl,rfl⟩,rfl⟩)
    generalize G2.set q0 []=G3 at st ⊢
    (try simp (maxSteps:=1000000) (disch:=first | assumption | (apply ν6;assumption)) only [vz,vu,vv,eqS,eF_,↓c1_,↓c2_,tabs,reduceCtorEq,ι5,↓reduceIte,ν1,ν2,ν3,ν4,ν5,ι1,ι2,ι3,ι4,load_at (st.get 5 rfl),eN])
    have hop:x.op=1∨x.op=2∨x.op=3∨x.op=4∨x.op=5∨x.op=6:=by
      have:=sdOk_need hx
      rcases need_cases x.op with h | h | h | h<;>omega
    have hcl:∀k b,cellV bitF (letW s l) (nxW s l) x A Bz k b=cellV bitF (letW s l) (nxW s l) x A Bz k false:=fun k b=>by rcases hop with e | e | e | e | e | e<;>simp [cellV,e]
    have hrow:rowV (lasL s l) x A Bz=(List.range (s.length+l.length)).map fun k=>cellV bitF (letW s l) (nxW s l) x A Bz k false:=(key _ fun k _ b=>hcl k b).trans (fixR_const ..)
    rw [hrow] at h
    clear key hrow hcl hq0
    refine L107_0_rule ((0:Nat),(.sl q0 1 0 0:AV),[q0],G3) (fun s=>s.2.1) (fun s=>I s.1) (fun s=>s.2.2.2)
      (fun t=>t.1≤s.length+l.length∧St H [rnB t.2.1 ((List.range t.1).map fun k=>cellV bitF (letW s l) (nxW s l) x A Bz k false) t.2.2.1,cellT r8 [.fn 129 [.ptr r5 0]],cellT r7 [.fn 128 [.ptr r5 0]],cellT r5 [.p (.sl (ops.map fun r=>[vB r]))],cellT r4 [I x.op,I x.n],cellT r3 [Is s,Is l]] t.2.2.2) (fun t=>s.length+l.length - t.1)
      ⟨⟨by simp,st⟩,.refl _,.refl _,Heap.le_refl _⟩ ?_
    clear st
    rintro ⟨i,x1,D,G⟩ ⟨hi,st⟩
    dsimp only at hi st
    have e5:IntKind.i64.wrap ((i:Int)+1)=((i+1:Nat):Int):=by rw [i64_id (by omega) (by omega)];simp
    (try simp (maxSteps:=1000000) (disch:=first | assumption | (apply ν6;assumption)) only [vz,vu,vv,eqS,eF_,↓c1_,↓c2_,tabs,reduceCtorEq,ι5,↓reduceIte,ν1,ν2,ν3,ν4,ν5,ι1,ι2,ι3,ι4,B107_0,load_at (st.get 1 rfl),load_at (st.get 2 rfl),load_at (st.get 4 rfl),load_at (st.get 5 rfl),e5])
    refine ⟨fun h3=>?_,fun h3=>?_⟩
    · have hlt:i < s.length+l.length:=by omega
      have dir:∀bv:Bool,bv=cellV bitF (letW s l) (nxW s l) x A Bz i false→∀N2:AV→Heap→Prop,(∀q' G',St H [rnB (.sl q' 1 0 (i+1)) ((List.range (i+1)).map fun k=>cellV bitF (letW s l) (nxW s l) x A Bz k false) [q'],cellT r8 [.fn 129 [.ptr r5 0]],cellT r7 [.fn 128 [.ptr r5 0]],cellT r5 [.p (.sl (ops.map fun r=>[vB r]))],cellT r4 [I x.op,I x.n],cellT r3 [Is s,Is l]] G'→N2 (.sl q' 1 0 (i+1)) G')→
          buildSliceV tab 76 1 [(0,B bv)] G (wkK fun v87 H12=>appendV tab 76 76 x1 v87 H12 (wkK N2)):=by
        intro bv hbv N2 hN
        refine litB ?_
        refine rn_appB (ys:=[bv]) st 0 rfl (by simp only [List.length_map,List.length_range,List.length_singleton];omega) fun q' G' hq' st=>?_
        have:=hN q' G'
        rw [List.range_succ,List.map_append,List.map_singleton,← hbv] at this
        have e:rowP q' (((List.range i).map fun k=>cellV bitF (letW s l) (nxW s l) x A Bz k false)++[bv])=.sl q' 1 0 (i+1):=by simp [rowP]
        rw [e] at st ⊢
        exact this st
      have fin:∀bv:Bool,bv=cellV bitF (letW s l) (nxW s l) x A Bz i false→∀N1:AV→AV→Heap→Prop,(∀q' G',St H [rnB (.sl q' 1 0 (i+1)) ((List.range (i+1)).map fun k=>cellV bitF (letW s l) (nxW s l) x A Bz k false) [q'],cellT r8 [.fn 129 [.ptr r5 0]],cellT r7 [.fn 128 [.ptr r5 0]],cellT r5 [.p (.sl (ops.map fun r=>[vB r]))],cellT r4 [I x.op,I x.n],cellT r3 [Is s,Is l]] G'→N1 (.sl q' 1 0 (i+1)) (I (i+1:Nat)) G')→
          J107_1 (wkK K) N1 (.ptr r3 0) (.ptr r4 0) (.ptr r7 0) (.ptr r8 0) x1 (B bv) (I (s.length+l.length:Nat)) (I i) G:=by
        intro bv hbv N1 hN
        (try simp (maxSteps:=1000000) (disch:=first | assumption | (apply ν6;assumption)) only [vz,vu,vv,eqS,eF_,↓c1_,↓c2_,tabs,reduceCtorEq,ι5,↓reduceIte,ν1,ν2,ν3,ν4,ν5,ι1,ι2,ι3,ι4,J107_1,e5])
        exact dir bv hbv _ hN
      refine ⟨fun c=>?_,fun c1=>?_⟩
      · refine Pu.use (letterAt_spec s l h1 h2 hlt) ?_
        (try simp (maxSteps:=1000000) (disch:=first | assumption | (apply ν6;assumption)) only [vz,vu,vv,eqS,eF_,↓c1_,↓c2_,tabs,reduceCtorEq,ι5,↓reduceIte,ν1,ν2,ν3,ν4,ν5,ι1,ι2,ι3,ι4,load_at (st.get 4 rfl)])
        have hn0:0≤x.n:=by
          have hx2:=hx
          rw [sdOk,if_pos c,Bool.and_eq_true,decide_eq_true_eq] at hx2;exact hx2.1
        refine ⟨hn0,fin _ (by rw [cellV,if_pos c];rfl) _ (fun q' G' st=>⟨(i+1,_,[q'],G'),⟨by simp only;omega,st⟩,by simp only;omega,.refl _,.refl _,Heap.le_refl _⟩)⟩
      refine ⟨fun c=>?_,fun c3=>⟨fun c=>?_,fun c4=>⟨fun c=>?_,fun c5=>⟨fun c=>?_,fun c6=>?_⟩⟩⟩⟩
      · have he:=e1 (by rw [c];rfl)
        subst he
        have hB:Bz.length=s.length+l.length:=hops Bz (by simp)
        refine clo_1 (ops:=[Bz]) (st.get 3 rfl) (by simp) (by simpa [hB] using hlt) ?_
        (try simp (maxSteps:=1000000) (disch:=first | assumption | (apply ν6;assumption)) only [vz,vu,vv,eqS,eF_,↓c1_,↓c2_,tabs,reduceCtorEq,ι5,↓reduceIte,ν1,ν2,ν3,ν4,ν5,ι1,ι2,ι3,ι4])
        exact fin _ (by simp [cellV,c]) _ (fun q' G' st=>⟨(i+1,_,[q'],G'),⟨by simp only;omega,st⟩,by simp only;omega,.refl _,.refl _,Heap.le_refl _⟩)
      · have he:=e1 (by rw [c];rfl)
        subst he
        have hB:Bz.length=s.length+l.length:=hops Bz (by simp)
        refine Pu.use (nextPlace_spec s l h1 h2 hlt) ?_
        (try simp (maxSteps:=1000000) (disch:=first | assumption | (apply ν6;assumption)) only [vz,vu,vv,eqS,eF_,↓c1_,↓c2_,tabs,reduceCtorEq,ι5,↓reduceIte,ν1,ν2,ν3,ν4,ν5,ι1,ι2,ι3,ι4,load_at (st.get 2 rfl)])
        refine clo_1 (ops:=[Bz]) (st.get 3 rfl) (by simp) (by have:=nxW_lt (s:=s) (l:=l) (k:=i) h2.1;simpa [hB] using this) ?_
        exact fin _ (by simp [cellV,c]) _ (fun q' G' st=>⟨(i+1,_,[q'],G'),⟨by simp only;omega,st⟩,by simp only;omega,.refl _,.refl _,Heap.le_refl _⟩)
      · have he:=e2 (by rw [c];rfl)
        subst he
        have hA:A.length=s.length+l.length:=hops A (by simp)
        have hB:Bz.length=s.length+l.length:=hops Bz (by simp)
        have hcv:cellV bitF (letW s l) (nxW s l) x A Bz i false=(A.getD i default && Bz.getD i default):=by simp [cellV,c]
        refine clo_1 (ops:=[A,Bz]) (st.get 3 rfl) (by simp) (by simpa [hA] using hlt) ?_
        simp only [List.getD_cons_zero]
        cases hu:A.getD i default
        · (try simp (maxSteps:=1000000) (disch:=first | assumption | (apply ν6;assumption)) only [vz,vu,vv,eqS,eF_,↓c1_,↓c2_,tabs,reduceCtorEq,ι5,↓reduceIte,ν1,ν2,ν3,ν4,ν5,ι1,ι2,ι3,ι4])
          exact dir false (by rw [hcv,hu];rfl) _ (fun q' G' st=>⟨(i+1,_,[q'],G'),⟨by simp only;omega,st⟩,by simp only;omega,.refl _,.refl _,Heap.le_refl _⟩)
        · (try simp (maxSteps:=1000000) (disch:=first | assumption | (apply ν6;assumption)) only [vz,vu,vv,eqS,eF_,↓c1_,↓c2_,tabs,reduceCtorEq,ι5,↓reduceIte,ν1,ν2,ν3,ν4,ν5,ι1,ι2,ι3,ι4,load_at (st.get 1 rfl)])
          refine clo_2 (ops:=[A,Bz]) (st.get 3 rfl) (by simp) (by simpa [hB] using hlt) ?_
          exact fin _ (by rw [hcv,hu];rfl) _ (fun q' G' st=>⟨(i+1,_,[q'],G'),⟨by simp only;omega,st⟩,by simp only;omega,.refl _,.refl _,Heap.le_refl _⟩)
      · have he:=e2 (by rw [c];rfl)
        subst he
        have hA:A.length=s.length+l.length:=hops A (by simp)
        have hB:Bz.length=s.length+l.length:=hops Bz (by simp)
        have hcv:cellV bitF (letW s l) (nxW s l) x A Bz i false=(A.getD i default || Bz.getD i default):=by simp [cellV,c]
        refine clo_1 (ops:=[A,Bz]) (st.get 3 rfl) (by simp) (by simpa [hA] using hlt) ?_
        simp only [List.getD_cons_zero]
        cases hu:A.getD i default
        · (try simp (maxSteps:=1000000) (disch:=first | assumption | (apply ν6;assumption)) only [vz,vu,vv,eqS,eF_,↓c1_,↓c2_,tabs,reduceCtorEq,ι5,↓reduceIte,ν1,ν2,ν3,ν4,ν5,ι1,ι2,ι3,ι4,load_at (st.get 1 rfl)])
          refine clo_2 (ops:=[A,Bz]) (st.get 3 rfl) (by simp) (by simpa [hB] using hlt) ?_
          exact fin _ (by rw [hcv,hu];rfl) _ (fun q' G' st=>⟨(i+1,_,[q'],G'),⟨by simp only;omega,st⟩,by simp only;omega,.refl _,.refl _,Heap.le_refl _⟩)
        · (try simp (maxSteps:=1000000) (disch:=first | assumption | (apply ν6;assumption)) only [vz,vu,vv,eqS,eF_,↓c1_,↓c2_,tabs,reduceCtorEq,ι5,↓reduceIte,ν1,ν2,ν3,ν4,ν5,ι1,ι2,ι3,ι4])
          exact dir true (by rw [hcv,hu];rfl) _ (fun q' G' st=>⟨(i+1,_,[q'],G'),⟨by simp only;omega,st⟩,by simp only;omega,.refl _,.refl _,Heap.le_refl _⟩)
      · have c2:x.op=2:=by omega
        exact fin _ (by simp [cellV,c2]) _ (fun q' G' st=>⟨(i+1,_,[q'],G'),⟨by simp only;omega,st⟩,by simp only;omega,.refl _,.refl _,Heap.le_refl _⟩)
    · have:i=s.length+l.length:=by omega
      subst this
      obtain ⟨v,H2,w,rfl,rfl⟩:=rnB_val st 0 rfl
      exact ⟨_,_,w,h⟩
theorem lit0BB {G:Heap} {K:AV→Heap→Prop} (h:∀q,G q=none→K (.sl q 1 0 0) (G.set q [])):buildSliceV tab 71 0 [] G (wkK K):=by
  simp only [buildSliceV,tab_71,tab_76]
  refine ⟨by omega,?_⟩
  simp only [fillV,zerosA,List.replicate_zero,List.flatten_nil]
  exact fun r hr=>wkK.keep (h r hr)
theorem CloneB_part {q off n:Nat} {rows:List (List Bool)} {G:Heap} (hq:G q=some (cP vB rows)) (hb:off+n≤rows.length) (hl:rows.length≤100000) {K:AV→Heap→Prop} (h:K (.p (.sl (((rows.drop off).take n).map fun r=>[vB r]))) G):CallT Try.prog 108 [.sl q 1 off n] G K:=by
  refine CallT.fin ?_
  refine W108_ok ?_;simp (maxSteps:=1000000) (disch:=first | assumption | (apply ν6;assumption)) only [W108,vz,vu,vv,eqS,eF_,↓c1_,↓c2_,tabs,reduceCtorEq,ι5,↓reduceIte,ν1,ν2,ν3,ν4,ν5,ι1,ι2,ι3,ι4]
  have main:buildSliceV tab 71 0 [] G (wkK fun v5 H1=>appendV tab 71 71 v5 (.sl q 1 off n) H1 (wkK fun v7 H2=>wkK K v7 H2)):=by
    refine lit0BB fun q1 hq1=>?_
    have hne:q≠q1:=fun e=>by rw [← e,hq] at hq1;cases hq1
    have hqq:(G.set q1 []) q=some (cP vB rows):=by rw [Heap.set_other hne];exact hq
    simp only [appendV,tab_71,tab_76,srcV,baseV,Heap.set_same,hqq]
    have hl2:(cP vB rows).length=rows.length:=by simp [cP]
    have ht:List.take (n*1) (List.drop off (cP vB rows))=cP vB ((rows.drop off).take n):=by rw [Nat.mul_one,cP,cP,← List.map_drop,← List.map_take]
    rw [hl2,ht]
    refine ⟨trivial,by omega,trivial,by simp,by omega,by omega,cP_cell vB _,fun r hr=>wkK.keep ?_⟩
    rw [Heap.set_none] at hr
    have hpl:((rows.drop off).take n).length=n:=by rw [List.length_take,List.length_drop];omega
    refine ⟨_,_,?_,h⟩
    have hw:=Wk.own_le (q:=r) (sz:=1) (es:=((rows.drop off).take n).map fun r=>[vB r]) (H:=G) (H':=((G.set q1 []).del q1).set r ([]++cP vB ((rows.drop off).take n))) (by omega) (szP vB _) hr.2 (fun y b hy=>by
      rw [cells_P,List.nil_append] at *
      by_cases e:y=r
      · subst e;rw [Heap.set_same] at hy ⊢;exact hy
      · rw [Heap.set_other e] at hy ⊢
        have e1:y≠q1:=fun e=>by rw [e,hq1] at hy;cases hy
        rw [Heap.del_other e1,Heap.set_other e1];exact hy)
    simpa only [Go.Sep.own,List.length_map,hpl,Nat.zero_add,Nat.zero_mul,List.take_zero,List.drop_zero,List.nil_append] using hw
  cases n with
  | zero=>
    simp only [binV,eqV,tab_71,isNilV,unkV,sliceLike]
    refine ⟨trivial,?_⟩
    (try simp (maxSteps:=1000000) (disch:=first | assumption | (apply ν6;assumption)) only [vz,vu,vv,eqS,eF_,↓c1_,↓c2_,tabs,reduceCtorEq,ι5,↓reduceIte,ν1,ν2,ν3,ν4,ν5,ι1,ι2,ι3,ι4])
    refine ⟨⟨_,_,.val (v':=.p (.sl [])) .nil,h⟩,main⟩
  | succ n=>
    simp only [binV,eqV,tab_71,isNilV]
    (try simp (maxSteps:=1000000) (disch:=first | assumption | (apply ν6;assumption)) only [vz,vu,vv,eqS,eF_,↓c1_,↓c2_,tabs,reduceCtorEq,ι5,↓reduceIte,ν1,ν2,ν3,ν4,ν5,ι1,ι2,ι3,ι4])
    exact main
theorem lit_rowB {q n:Nat} {G:Heap} {rows:List Bool} (hq:G q=some (cP fB rows)) (hn:n=rows.length) {K:AV→Heap→Prop} (h:K (.p (.sl [[vB rows]])) (G.del q)):buildSliceV tab 71 1 [(0,.sl q 1 0 n)] G (wkK K):=by
  subst hn
  simp only [buildSliceV,tab_71,tab_76]
  refine ⟨by omega,?_⟩
  simp only [fillV,zerosA,List.replicate_succ,List.replicate_zero,List.flatten_cons,List.flatten_nil,List.append_nil,AV.cells,splice]
  simp only [List.length_cons,List.length_nil,Nat.reduceAdd,Nat.zero_mul,Nat.zero_add,Nat.le_refl,and_self,if_true,List.take_zero,List.nil_append,List.drop_succ_cons,List.drop_zero,List.append_nil]
  refine fun r hr=>⟨.p (.sl [[vB rows]]),G.del q,?_,h⟩
  have hne:r≠q:=fun e=>by rw [e,hq] at hr;cases hr
  have w1:Wk (.sl r 1 0 1) (G.set r [.sl q 1 0 rows.length]) (.sl r 1 0 1) (((G.set r [.sl q 1 0 rows.length]).del q).set r [.p (vB rows)]):=
    Wk.frzAt (r:=q) (s:=r) (sz:=1) (es:=rows.map eBo) (cs:=[.sl q 1 0 rows.length]) (cs':=[.p (vB rows)]) (by omega) (by rw [Heap.set_other hne.symm,hq];exact congrArg some (flat_P fB rows).symm) (szP fB rows) (Heap.set_same _ _ _) hne
      (.cons (frz_row (f:=fB)) .nil) (.same _) rfl
  have e:((G.set r [.sl q 1 0 rows.length]).del q).set r [.p (vB rows)]=(G.del q).set r [.p (vB rows)]:=by
    funext y
    by_cases e1:y=r
    · subst e1;rw [Heap.set_same,Heap.set_same]
    · rw [Heap.set_other e1,Heap.set_other e1]
      by_cases e2:y=q
      · subst e2;rw [Heap.del_same,Heap.del_same]
      · rw [Heap.del_other e2,Heap.del_other e2,Heap.set_other e1]
  rw [e] at w1
  have hr2:(G.del q) r=none:=by rw [Heap.del_other hne];exact hr
  have w2:=Wk.own_le (q:=r) (sz:=1) (es:=[[vB rows]]) (H:=G.del q) (H':=(G.del q).set r [.p (vB rows)]) (by omega) (szP vB [rows]) hr2 (Heap.le_refl _)
  exact .trans w1 w2
theorem app_rowsX {q:Nat} {xs:List (List Bool)} {y:List Bool} {ex:List AV} {G:Heap} {K:AV→Heap→Prop} (hq:G q=some (cP vB xs++ex)) (hl:xs.length≤1000000)
    (h:∀q',G q'=none→q'≠q→K (.sl q' 1 0 (xs.length+1)) ((G.del q).set q' (cP vB (xs++[y])))):appendV tab 71 71 (.sl q 1 0 xs.length) (.p (.sl [[vB y]])) G (wkK K):=by
  have hlen:(cP vB xs).length=xs.length:=by simp [cP]
  simp only [appendV,tab_71,tab_76,srcV,baseV,hq]
  refine ⟨szP vB [y],trivial,by rw [List.length_append,hlen];omega,by simp only [List.length_singleton];omega,by simp only [List.length_singleton];omega,cP_cell vB [y],fun q' hq'=>wkK.keep ?_⟩
  have hne:q'≠q:=fun e=>by rw [e,hq] at hq';cases hq'
  have:=h q' hq' hne
  have e:List.take (xs.length*1) (List.drop 0 (cP vB xs++ex))=cP vB xs:=by rw [List.drop_zero,Nat.mul_one,← hlen,List.take_left]
  have e2:cP vB (xs++[y])=cP vB xs++cP vB [y]:=by simp [cP]
  rw [e2] at this
  rw [e]
  exact this
theorem runV_top {w:Las} {g:List Sd} (h:OkFm g) {i:Nat} (hi:i < g.length):∃(rr ops:List (List Bool)) (A Bz:List Bool),runV w g i=ops.reverse++rr∧runV w g (i+1)=rowV w (g.getD i default) A Bz::rr∧(ops.length:Int)=need (g.getD i default).op∧
    (need (g.getD i default).op=1→ops=[Bz])∧(need (g.getD i default).op=2→ops=[A,Bz]):=by
  have hok:=h.ok i hi
  have hnd:=sdOk_need hok.1
  have hlen:=runV_len (w:=w) h i (by omega)
  rcases (by omega:need (g.getD i default).op=0∨need (g.getD i default).op=1∨need (g.getD i default).op=2) with hn | hn | hn
  · exact ⟨runV w g i,[],[],[],rfl,by rw [runV,if_pos hn],by rw [hn];rfl,fun h=>by omega,fun h=>by omega⟩
  · cases hs:runV w g i with
    | nil=>rw [hs] at hlen;simp at hlen;omega
    | cons b rr=>exact ⟨rr,[b],[],b,by simp,by rw [runV,if_neg (by omega),if_pos hn,hs];rfl,by rw [hn];rfl,fun _=>rfl,fun h=>by omega⟩
  · cases hs:runV w g i with
    | nil=>rw [hs] at hlen;simp at hlen;omega
    | cons b r1=>
      cases r1 with
      | nil=>rw [hs] at hlen;simp at hlen;omega
      | cons a rr=>exact ⟨rr,[a,b],a,b,by simp,by rw [runV,if_neg (by omega),if_neg (by omega),hs];rfl,by rw [hn];rfl,fun h=>by omega,fun _=>rfl⟩
theorem vals_16 {g:List Sd} (h:OkFm g) (i:Nat) (hi:i≤g.length):0≤vals g i∧vals g i≤16:=by
  have h2:=vals_bd i fun j hj=>by
    have:=h.ok j (by omega)
    rw [sdAt,this.1,decide_eq_true this.2];rfl
  have:=h.l
  omega
theorem along_spec (s l:List Int) (h1:s.length≤24) (h2:1≤l.length∧l.length≤24) (g:List Sd) (hg:OkFm g) {H:Heap} {K:AV→Heap→Prop} (h:K (.p (vB ((runV (lasL s l) g g.length).headD []))) H):CallT Try.prog 63 [aL2 s l,Ds g] H K:=by
  refine CallT.fin ?_
  have hl:=hg.l
  refine W63_ok ?_;simp (maxSteps:=1000000) (disch:=first | assumption | (apply ν6;assumption)) only [W63,vz,vu,vv,eqS,eF_,↓c1_,↓c2_,tabs,reduceCtorEq,ι5,↓reduceIte,ν1,ν2,ν3,ν4,ν5,ι1,ι2,ι3,ι4]
  intro r2 hr2
  have st:=(St.nil H).cell hr2 [Is s,Is l]
  generalize H.set r2 [Is s,Is l]=G at st ⊢
  clear hr2
  refine lit0BB fun q0 hq0=>?_
  replace st:=st.cell hq0 (cP vB ([]:List (List Bool)))
  have e0:(cP vB ([]:List (List Bool)))=[]:=rfl
  rw [← e0]
  generalize G.set q0 (cP vB ([]:List (List Bool)))=G1 at st ⊢
  (try simp (maxSteps:=1000000) (disch:=first | assumption | (apply ν6;assumption)) only [vz,vu,vv,eqS,eF_,↓c1_,↓c2_,tabs,reduceCtorEq,ι5,↓reduceIte,ν1,ν2,ν3,ν4,ν5,ι1,ι2,ι3,ι4])
  refine L63_0_rule ((0:Nat),q0,G1) (fun t=>.sl t.2.1 1 0 (runV (lasL s l) g t.1).length) (fun t=>I t.1) (fun t=>t.2.2)
    (fun t=>t.1≤g.length∧St H [cellT t.2.1 (cP vB (runV (lasL s l) g t.1).reverse),cellT r2 [Is s,Is l]] t.2.2) (fun t=>g.length - t.1)
    ⟨⟨by simp,st⟩,.refl _,.refl _,Heap.le_refl _⟩ ?_
  clear st e0 hq0
  rintro ⟨i,q,G⟩ ⟨hi,st⟩
  dsimp only at hi st
  have hlen:=runV_len (w:=lasL s l) hg i hi
  have hv:=vals_16 hg i hi
  (try simp (maxSteps:=1000000) (disch:=first | assumption | (apply ν6;assumption)) only [vz,vu,vv,eqS,eF_,↓c1_,↓c2_,tabs,reduceCtorEq,ι5,↓reduceIte,ν1,ν2,ν3,ν4,ν5,ι1,ι2,ι3,ι4,B63_0])
  refine ⟨fun h3=>⟨by omega,h3,?_⟩,fun h3=>?_⟩
  · have hlt:i < g.length:=by omega
    have hok:=hg.ok i hlt
    obtain ⟨rr,ops,A,Bz,e1,e2,e3,e4,e5⟩:=runV_top (w:=lasL s l) hg hlt
    have hrows:=runV_rows (w:=lasL s l) hg i hi
    generalize g.getD i default=y at e2 e3 e4 e5 hok ⊢
    have hnd:=sdOk_need hok.1
    intro r hr
    replace st:=st.cell hr [I y.op,I y.n]
    generalize G.set r [I y.op,I y.n]=G2 at st ⊢
    have hll:(runV (lasL s l) g i).length=ops.length+rr.length:=by rw [e1];simp
    (try simp (maxSteps:=1000000) (disch:=first | assumption | (apply ν6;assumption)) only [vz,vu,vv,eqS,eF_,↓c1_,↓c2_,tabs,reduceCtorEq,ι5,↓reduceIte,ν1,ν2,ν3,ν4,ν5,ι1,ι2,ι3,ι4,load_at (st.get 0 rfl)])
    refine Pu.use (need_impl.operandsOfSaid_spec y.op) ?_
    have ew:IntKind.i64.wrap (((runV (lasL s l) g i).length:Int) - need y.op)=(rr.length:Nat):=by rw [i64_id (by omega) (by omega)];omega
    (try simp (maxSteps:=1000000) (disch:=first | assumption | (apply ν6;assumption)) only [vz,vu,vv,eqS,eF_,↓c1_,↓c2_,tabs,reduceCtorEq,ι5,↓reduceIte,ν1,ν2,ν3,ν4,ν5,ι1,ι2,ι3,ι4,sliceV,ew,load_at (st.get 0 rfl),load_at (st.get 2 rfl)])
    refine ⟨by omega,by omega,by omega,by omega,by omega,by omega,?_⟩
    have hrev:(runV (lasL s l) g i).reverse=rr.reverse++ops:=by rw [e1];simp
    have en:(((runV (lasL s l) g i).length:Int) - (rr.length:Int)).toNat=ops.length:=by omega
    rw [en,Nat.mul_one]
    refine CloneB_part (st.get 1 rfl) (by rw [List.length_reverse];omega) (by rw [List.length_reverse];omega) ?_
    have ep:((runV (lasL s l) g i).reverse.drop rr.length).take ops.length=ops:=by rw [hrev,List.drop_left' (by simp),List.take_length]
    rw [ep]
    (try simp (maxSteps:=1000000) (disch:=first | assumption | (apply ν6;assumption)) only [vz,vu,vv,eqS,eF_,↓c1_,↓c2_,tabs,reduceCtorEq,ι5,↓reduceIte,ν1,ν2,ν3,ν4,ν5,ι1,ι2,ι3,ι4,load_at (st.get 0 rfl),load_at (st.get 2 rfl)])
    refine holdsAlong_spec s l h1 h2 y hok.1 ops e3 (fun r hr=>hrows r (by rw [e1];simp [hr])) A Bz e4 e5 ?_
    refine lit1 tab_71 rfl tab_76 ⟨rfl,rfl⟩ ?_
    have hq:G2 q=some (cP vB rr.reverse++cP vB ops):=by
      have:=(st.get 1 rfl:G2 q=_)
      rw [this,hrev];simp [cP]
    have hrl:rr.length=rr.reverse.length:=by simp
    rw [hrl]
    refine app_rowsX (y:=rowV (lasL s l) y A Bz) hq (by rw [List.length_reverse];omega) fun q' hq' hne=>?_
    have e6:rr.reverse++[rowV (lasL s l) y A Bz]=(runV (lasL s l) g (i+1)).reverse:=by rw [e2];simp
    rw [e6]
    refine ⟨(i+1,q',_),⟨by simp only;omega,(St.moved (c:=cP vB (runV (lasL s l) g (i+1)).reverse) st.drop 0 rfl hq')⟩,by simp only;omega,?_,?_,Heap.le_refl _⟩
    · rw [e2,List.length_cons,List.length_reverse];exact .refl _
    · rw [wk_int,i64_id (by omega) (by omega)];simp
  · have:i=g.length:=by omega
    subst this
    rw [hg.one] at hlen
    obtain ⟨row,hrow⟩:∃row,runV (lasL s l) g g.length=[row]:=by
      cases hs:runV (lasL s l) g g.length with
      | nil=>rw [hs] at hlen;cases hlen
      | cons a r=>
        cases r with
        | nil=>exact ⟨a,rfl⟩
        | cons b r=>rw [hs] at hlen;simp at hlen;omega
    rw [hrow] at h st ⊢
    (try simp (maxSteps:=1000000) (disch:=first | assumption | (apply ν6;assumption)) only [vz,vu,vv,eqS,eF_,↓c1_,↓c2_,tabs,reduceCtorEq,ι5,↓reduceIte,ν1,ν2,ν3,ν4,ν5,ι1,ι2,ι3,ι4,load_at (st.get 0 rfl)])
    refine ⟨by omega,by omega,by simp,⟨_,_,.forget st.le,h⟩⟩
end Go.Proofs.Ytjdhigcefkihiaa
namespace Go.Proofs.Ytjdhigcefkihiaa
open Go Go.Sep Go.Pt
attribute [local irreducible] CallT
end Go.Proofs.Ytjdhigcefkihiaa
namespace Go.Sep
open Go Go.RowKit Go.Proofs.Ytjdhigcefkihiaa
structure ResU (R:AV→Heap→List Nat→Prop):Prop where
  loc:∀{r G G' D},R r G D→(∀y∈D,∀b,G y=some b→G' y=some b)→R r G' D
  gd:∀{r G D},R r G D→Gd2 r∧∀y∈D,∀bs,G y=some bs→∀c∈bs,GdC c
  sh:∀{r G D n G0},(∀q,n≤q→G0 q=none)→R r G D→R (sh2 n r) (Heap.or G0 (shH n G)) (D.map (·+n))
end Go.Sep
namespace Go.Proofs.Ytjdhigcefkihiaa
open Go Go.Sep Go.Pt
attribute [local irreducible] CallT
theorem markI0 {G:Heap} {k:Int} {K:AV→Heap→Prop} (h:K (I k) G):CallT Try.prog 19 [.p .nil,I k] G K:=by
  refine CallT.args (args':=[Is [],I k]) ?_ ⟨.nil,.refl _,trivial⟩
  refine W19_ok ?_;simp (maxSteps:=1000000) (disch:=first | assumption | (apply ν6;assumption)) only [W19,vz,vu,vv,eqS,eF_,↓c1_,↓c2_,tabs,reduceCtorEq,ι5,↓reduceIte,ν1,ν2,ν3,ν4,ν5,ι1,ι2,ι3,ι4]
  refine L19_0_rule () (fun _=>I k) (fun _=>I 0) (fun _=>G) (fun _=>True) (fun _=>0) ⟨trivial,.refl _,.refl _,Heap.le_refl _⟩ ?_
  rintro ⟨⟩ _
  (try simp (maxSteps:=1000000) (disch:=first | assumption | (apply ν6;assumption)) only [vz,vu,vv,eqS,eF_,↓c1_,↓c2_,tabs,reduceCtorEq,ι5,↓reduceIte,ν1,ν2,ν3,ν4,ν5,ι1,ι2,ι3,ι4,B19_0])
  first | exact h | simpa using h
theorem _root_.Go.Sep.St.lose {H G G':Heap} {Ts:List Th} {t:Th} (s:St H Ts G) (i:Nat) (h:Ts[i]?=some t) (hf:∀y,y∉t.D→G' y=G y):St H (Ts.eraseIdx i) G':=by
  have s1:=s.pick i h
  have hnd:=s1.nd
  rw [List.flatMap_cons,List.nodup_append] at hnd
  refine ⟨fun y b hb=>?_,hnd.2.1,fun u hu=>s1.fr u (List.mem_cons_of_mem _ hu),fun u hu=>u.loc (s1.ok u (List.mem_cons_of_mem _ hu)) fun y hy b hb=>?_⟩
  · rw [hf y (s1.wkNone y b hb t (List.mem_cons_self ..))];exact s1.le y b hb
  · rw [hf y (fun hm=>hnd.2.2 y hm y (List.mem_flatMap.2 ⟨u,hu,hy⟩) rfl)];exact hb
theorem LPg.sl {p:Pg} {v:AV} {G:Heap} {D:List Nat} (h:LPg p v G D):∃q1 q2,v=.agg [I p.wide,I p.vars,.sl q1 2 0 p.start.length,.sl q2 2 0 p.cmds.length]:=by
  obtain ⟨x,y,E1,E2,rfl,rfl,hx,hy⟩:=h
  obtain ⟨qx,rfl⟩:=LRow.sl hx
  obtain ⟨qy,rfl⟩:=LRow.sl hy
  exact ⟨qx,qy,rfl⟩
end Go.Proofs.Ytjdhigcefkihiaa
namespace Go.Proofs.Ytjdhigcefkihiaa
open Go Go.Sep Go.Pt
attribute [local irreducible] CallT
theorem tabV_row {w:Las} {f:List Sd} {i j:Nat} (h:j < i):(tabV w f i).getD j default=rowF w f j:=tabV_get w f h
theorem l10Cell_spec (s l:List Int) (f:List Sd) (g:GoodFm f) {i:Nat} (hi:i < f.length) {k:Nat} (hk:k < s.length+l.length) (hl:1≤l.length∧s.length≤100∧l.length≤100) (later:Bool) :
    Pu Try.prog 101 [Ds f,.p (.sl ((tabV (lasL s l) f i).map fun r=>[vB r])),I i,I (letW s l k),I k,I (nxW s l k:Nat),B later]
      (B (cellV bitF (letW s l) (nxW s l) (f.getD i default) ((tabV (lasL s l) f i).getD (tst f (i - 1) - 1) []) ((tabV (lasL s l) f i).getD (i - 1) []) k later)):=by
  have hl1:=g.l1
  have hnx:nxW s l k < s.length+l.length:=nxW_lt hl.1
  have hok:=g.ok i hi
  have hlen:=tabV_len (lasL s l) f i
  have hrow:∀j,j < i→(tabV (lasL s l) f i).getD j default=rowF (lasL s l) f j:=fun j hj=>tabV_row hj
  have hrl:∀j,(rowF (lasL s l) f j).length=s.length+l.length:=fun j=>rowF_len _ _ _
  have h1':=fun h=>tst1 g hi h
  have h2':=fun h=>tst2 g hi h
  have hfrom:=fun h=>l10From_spec f g (i - 1) h
  refine Pu.of fun H=>?_
  refine W101_ok ?_;simp (maxSteps:=1000000) (disch:=first | assumption | (apply ν6;assumption)) only [W101,vz,vu,vv,eqS,eF_,↓c1_,↓c2_,tabs,reduceCtorEq,ι5,↓reduceIte,ν1,ν2,ν3,ν4,ν5,ι1,ι2,ι3,ι4]
  generalize f.getD i default=x at hok h1' h2' ⊢
  refine ⟨by omega,by omega,?_⟩
  intro r hr
  have hle:=Heap.le_set (b:=[I x.op,I x.n]) hr
  have hnd:=sdOk_need hok.1
  have ex:1≤i→IntKind.i64.wrap ((i:Int) - 1)=((i - 1:Nat):Int):=fun h=>by rw [i64_id (by omega) (by omega)];omega
  refine ⟨fun c=>?_,fun c1=>⟨fun c=>?_,fun c2=>⟨fun c=>?_,fun c3=>⟨fun c=>?_,fun c4=>?_⟩⟩⟩⟩
  · have hx:=hok.1
    rw [sdOk,if_pos c,Bool.and_eq_true,decide_eq_true_eq,decide_eq_true_eq] at hx
    have eu:IntKind.u64.wrap x.n=x.n:=u64_id hx.1 (by omega)
    rw [eu]
    exact ⟨hx.1,by rw [cellV,if_pos c];rfl,hle⟩
  · exact ⟨by rw [cellV,if_neg c1,if_pos c],hle⟩
  · have hn:need x.op=1:=by rw [c];rfl
    have h0:=(h1' hn).1
    rw [ex h0,Int.toNat_natCast,hrow _ (by omega),hrl]
    exact ⟨by omega,by omega,by omega,by omega,by rw [cellV,if_neg c1,if_neg c2,if_pos c];exact congrArg (fun l:List Bool=>B (!l.getD k default)) (hrow _ (by omega)).symm,hle⟩
  · have hn:need x.op=1:=by rw [c];rfl
    have h0:=(h1' hn).1
    rw [ex h0,Int.toNat_natCast,hrow _ (by omega),hrl]
    exact ⟨by omega,by omega,by omega,by omega,by rw [cellV,if_neg c1,if_neg c2,if_neg c3,if_pos c];exact congrArg (fun z:List Bool=>B (z.getD (nxW s l k) default)) (hrow _ (by omega)).symm,hle⟩
  · have hn:need x.op=2:=by
      rcases need_cases x.op with h | h | h | h<;>omega
    obtain ⟨t1,t2,t3,t4,_⟩:=h2' hn
    rw [ex t1]
    refine Pu.use (hfrom (by omega)) ?_
    have ex2:IntKind.i64.wrap ((tst f (i - 1):Int) - 1)=((tst f (i - 1) - 1:Nat):Int):=by rw [i64_id (by omega) (by omega)];omega
    have hA:=hrow (tst f (i - 1) - 1) (by omega)
    have hB:=hrow (i - 1) (by omega)
    have hA':(tabV (lasL s l) f i).getD (tst f (i - 1) - 1) []=rowF (lasL s l) f (tst f (i - 1) - 1):=hA
    have hB':(tabV (lasL s l) f i).getD (i - 1) []=rowF (lasL s l) f (i - 1):=hB
    rw [hA',hB']
    have hlA:=hrl (tst f (i - 1) - 1)
    have hlB:=hrl (i - 1)
    (try simp (maxSteps:=1000000) (disch:=first | assumption | (apply ν6;assumption)) only [vz,vu,vv,eqS,eF_,↓c1_,↓c2_,tabs,reduceCtorEq,ι5,↓reduceIte,ν1,ν2,ν3,ν4,ν5,ι1,ι2,ι3,ι4,ex2,Int.toNat_natCast,hA,hB])
    generalize rowF (lasL s l) f (tst f (i - 1) - 1)=A at hlA ⊢
    generalize rowF (lasL s l) f (i - 1)=Bz at hlB ⊢
    refine ⟨by omega,by omega,by omega,by omega,by omega,by omega,by omega,by omega,?_⟩
    have hop:x.op=5∨x.op=6∨x.op=7∨x.op=8:=by
      rcases need_cases x.op with h | h | h | h<;>omega
    have hcv:cellV bitF (letW s l) (nxW s l) x A Bz k later=if x.op=5 then A.getD k default && Bz.getD k default
      else if x.op=6 then A.getD k default || Bz.getD k default
      else if x.op=7 then Bz.getD k default || (A.getD k default && later)
      else Bz.getD k default && (A.getD k default || later):=by rw [cellV,if_neg c1,if_neg c2,if_neg c3,if_neg c4]
    rw [hcv]
    generalize A.getD k default=a
    generalize Bz.getD k default=b
    clear hcv hA hB hA' hB' hrow hrl hlen
    clear hok h1' h2' hn hnd
    generalize x.op=op at hop c1 c2 c3 c4 hle
    rcases hop with rfl | rfl | rfl | rfl<;>cases a<;>cases b<;>simp [hle]
abbrev rnR (x:AV) (rows:List (List Bool)) (D:List Nat):Th:=rnT (LPl.local xB) (LPl.has xB) 1 x rows D
theorem rnR_cases {x:AV} {l:List (List Bool)} {G:Heap} {D:List Nat} (h:RN (LPl xB) 1 x l G D):(x=.p .nil∧l=[]∧D=[])∨∃q,x=rowP q l∧G q=some (cP vB l)∧D=[q]:=by
  rcases h with h | ⟨q,cs,D',rfl,hq,hll,rfl⟩
  · exact .inl h
  · obtain ⟨rfl,rfl⟩:=LL.plain' hll
    refine .inr ⟨q,rfl,?_,rfl⟩
    have e:cells (l.map xB)=cP vB l:=cells_P vB l
    rw [← e];exact hq
theorem rn_appR {H G:Heap} {Ts:List Th} {x:AV} {xs ys:List (List Bool)} {D:List Nat} (s:St H Ts G) (i:Nat) (hi:Ts[i]?=some (rnR x xs D)) (hl:xs.length+ys.length≤1000000) {K:AV→Heap→Prop}
    (h:∀q' G',G q'=none→St H (Ts.set i (rnR (rowP q' (xs++ys)) (xs++ys) [q'])) G'→K (rowP q' (xs++ys)) G'):appendV tab 71 71 x (.p (.sl (ys.map xB))) G (wkK K):=
  RN.app (bz:=24) tab_71 rfl tab_76 tab_71 rfl rfl rfl (fun _=>rfl) s i hi rfl (by omega) (by omega) h
theorem rnR_wk {x:AV} {l:List (List Bool)} {G:Heap} {D:List Nat} (h:RN (LPl xB) 1 x l G D) (pre post:List AV):∃G1,Wk (.tup (pre++(x::post))) G (.tup (pre++(.p (.sl (l.map xB))::post))) G1:=by
  rcases rnR_cases h with ⟨rfl,rfl,rfl⟩ | ⟨q,rfl,hq,rfl⟩
  · refine ⟨G,.val (wk_tup ?_)⟩
    induction pre with
    | nil=>
      refine ⟨.nil,?_⟩
      induction post with
      | nil=>trivial
      | cons a post ih=>exact ⟨.refl _,ih⟩
    | cons a pre ih=>exact ⟨.refl _,ih⟩
  · exact ⟨G.del q,Wk.frz (r:=q) (sz:=1) (es:=l.map xB) (by omega) (by rw [hq];exact congrArg some (flat_P vB l).symm) (szP vB l) (.tup (FrzL.app (.cons (frz_row (f:=vB)) (FrzL.refl post))))⟩
theorem rnR_val {H G:Heap} {Ts:List Th} {x:AV} {l:List (List Bool)} {D:List Nat} (s:St H Ts G) (i:Nat) (hi:Ts[i]?=some (rnR x l D)):wkK (fun r H'=>r=.p (.sl (l.map xB))∧H'=H) x G:=by
  rcases rnR_cases (s.get i hi) with ⟨rfl,rfl,rfl⟩ | ⟨q,rfl,hq,rfl⟩
  · exact ⟨_,_,.trans (.val .nil) (.forget s.le),rfl,rfl⟩
  · have:=fin_own (sz:=1) (es:=l.map xB) (q:=q) (H:=H) (H':=G) (K:=fun r H'=>r=.p (.sl (l.map xB))∧H'=H) (by omega) (sizedMap (f:=xB) (fun _=>rfl) l) (s.fr _ (List.mem_of_getElem? hi) q (by simp [rnT])) (fun y b hy=>by
      by_cases e:y=q
      · subst e;rw [Heap.set_same] at hy;rw [← hy,hq];exact congrArg some (cells_P vB l).symm
      · rw [Heap.set_other e] at hy;exact s.le y b hy) ⟨rfl,rfl⟩
    simpa only [Go.Sep.own,List.length_map] using this
theorem sweepK_range {nx:Nat→Nat} {r:Nat→Bool→Bool} {h:Nat→Nat} {j:Nat} {row:List Bool}:sweepK nx r ((List.range (j+1)).map h) row=stepK nx r (sweepK nx r ((List.range j).map h) row) (h j):=by rw [List.range_succ,List.map_append,List.map_singleton,sweepK_snoc]
theorem l10Table_spec (s l:List Int) (h1:s.length≤24) (h2:1≤l.length∧l.length≤24) (f:List Sd) (g:GoodFm f):Pu Try.prog 54 [Ds f,aL2 s l] (.p (.sl ((tabV (lasL s l) f f.length).map xB))):=by
  have hl:=g.l1
  refine ⟨fun H=>CallT.fin ?_⟩
  have eN:IntKind.i64.wrap ((s.length:Int)+(l.length:Int))=((s.length+l.length:Nat):Int):=by rw [i64_id (by omega) (by omega)];simp
  refine W54_ok ?_;simp (maxSteps:=1000000) (disch:=first | assumption | (apply ν6;assumption)) only [W54,vz,vu,vv,eqS,eF_,↓c1_,↓c2_,tabs,reduceCtorEq,ι5,↓reduceIte,ν1,ν2,ν3,ν4,ν5,ι1,ι2,ι3,ι4,eN]
  intro r3 hr3
  have st:=(St.nil H).cell hr3 [Is s,Is l]
  replace st:=st.push (rnR (.p .nil) [] []) ⟨by simp [rnT],fun y hy=>by simp [rnT] at hy,Heap.le_refl _⟩ (.inl ⟨rfl,rfl,rfl⟩)
  generalize H.set r3 [Is s,Is l]=G at st ⊢
  clear hr3
  have eN2:s.length+l.length=(s.length+l.length):=rfl
  refine L54_0_rule ((0:Nat),(.p .nil:AV),([]:List Nat),G) (fun t=>t.2.1) (fun t=>I t.1) (fun t=>t.2.2.2)
    (fun t=>t.1≤f.length∧St H [rnR t.2.1 (tabV (lasL s l) f t.1) t.2.2.1,cellT r3 [Is s,Is l]] t.2.2.2) (fun t=>f.length - t.1)
    ⟨⟨by simp,st⟩,.refl _,.refl _,Heap.le_refl _⟩ ?_
  clear st
  rintro ⟨i,x,D,G⟩ ⟨hi,st⟩
  dsimp only at hi st
  have e5:IntKind.i64.wrap ((i:Int)+1)=((i+1:Nat):Int):=by rw [i64_id (by omega) (by omega)];simp
  (try simp (maxSteps:=1000000) (disch:=first | assumption | (apply ν6;assumption)) only [vz,vu,vv,eqS,eF_,↓c1_,↓c2_,tabs,reduceCtorEq,ι5,↓reduceIte,ν1,ν2,ν3,ν4,ν5,ι1,ι2,ι3,ι4,B54_0,makeSliceV,e5])
  refine ⟨fun h3=>⟨by omega,h3,?_⟩,fun h3=>?_⟩
  · have hlt:i < f.length:=by omega
    have hrowF:=tabV_succ (lasL s l) f i
    have hrowE:=rowF_eq (lasL s l) f i
    have hcell:=fun {k:Nat} (hk:k < s.length+l.length) (b:Bool)=>l10Cell_spec s l f g hlt hk (by omega) b
    generalize hA:(tabV (lasL s l) f i).getD (tst f (i - 1) - 1) []=A at hrowE hcell
    generalize hB:(tabV (lasL s l) f i).getD (i - 1) []=Bz at hrowE hcell
    generalize hnode:f.getD i default=y at hrowE hcell ⊢
    intro r8 hr8
    refine ⟨by omega,by omega,by omega,by omega,fun q hqr hq=>?_⟩
    replace st:=(st.cell hr8 [I y.op,I y.n]).cell (r:=q) (by rw [Heap.set_other hqr];exact hq) (zerosA (s.length+l.length) [B false])
    generalize (G.set r8 [I y.op,I y.n]).set q (zerosA (s.length+l.length) [B false])=G2 at st ⊢
    have z0:zerosA (s.length+l.length) [B false]=cP fB (repB (s.length+l.length) 0 (decide (y.op=8))):=by rw [cB_rep];simp [repB]
    rw [z0] at st
    clear z0 hr8 hqr hq
    refine L54_1_rule ((0:Nat),G2) (fun t=>I t.1) (fun t=>t.2) (fun t=>t.1≤s.length+l.length∧St H [cellT q (cP fB (repB (s.length+l.length) t.1 (decide (y.op=8)))),cellT r8 [I y.op,I y.n],rnR x (tabV (lasL s l) f i) D,cellT r3 [Is s,Is l]] t.2) (fun t=>s.length+l.length - t.1)
      ⟨⟨by simp,st⟩,.refl _,Heap.le_refl _⟩ ?_
    clear st G2
    rintro ⟨k,G2⟩ ⟨hk,st⟩
    dsimp only at hk st
    have e6:IntKind.i64.wrap ((k:Int)+1)=((k+1:Nat):Int):=by rw [i64_id (by omega) (by omega)];simp
    have hrl:=repB_len (decide (y.op=8)) hk
    have hc2:=cB_len (repB (s.length+l.length) k (decide (y.op=8)))
    (try simp (maxSteps:=1000000) (disch:=first | assumption | (apply ν6;assumption)) only [vz,vu,vv,eqS,eF_,↓c1_,↓c2_,tabs,reduceCtorEq,ι5,↓reduceIte,ν1,ν2,ν3,ν4,ν5,ι1,ι2,ι3,ι4,B54_1,load_at (st.get 1 rfl),store_at (st.get 0 rfl),hc2,hrl,e6])
    refine ⟨fun h4=>?_,fun h4=>?_⟩
    · have hset:=row_setB (row:=repB (s.length+l.length) k (decide (y.op=8))) (k:=k) (b:=decide (y.op=8)) (by omega)
      have hs2:(repB (s.length+l.length) k (decide (y.op=8))).set k (decide (y.op=8))=repB (s.length+l.length) (k+1) (decide (y.op=8)):=by
        obtain ⟨m,hm⟩:∃m,s.length+l.length - k=m+1:=⟨s.length+l.length - k - 1,by omega⟩
        have hm2:s.length+l.length - (k+1)=m:=by omega
        rw [repB,repB,hm,hm2,List.replicate_succ,List.set_append,if_neg (by simp)]
        simp only [List.length_replicate,Nat.sub_self,List.set_cons_zero,List.replicate_succ',List.append_assoc,List.singleton_append]
      rw [hs2] at hset
      rw [hset]
      exact ⟨by omega,by omega,by omega,(k+1,_),⟨by simp only;omega,st.put 0 rfl (cP fB (repB (s.length+l.length) (k+1) (decide (y.op=8))))⟩,by simp only;omega,.refl _,Heap.le_refl _⟩
    · have:k=s.length+l.length:=by omega
      subst this
      have z1:repB (s.length+l.length) (s.length+l.length) (decide (y.op=8))=turnK (nxW s l) (cellV bitF (letW s l) (nxW s l) y A Bz) (s.length+l.length) (decide (y.op=8)) 0:=by simp [repB,turnK]
      rw [z1] at st
      clear z1 hrl hc2 e6 h4 hk
      refine L54_2_rule ((0:Nat),G2) (fun t=>I t.1) (fun t=>t.2) (fun t=>t.1≤2∧St H [cellT q (cP fB (turnK (nxW s l) (cellV bitF (letW s l) (nxW s l) y A Bz) (s.length+l.length) (decide (y.op=8)) t.1)),cellT r8 [I y.op,I y.n],rnR x (tabV (lasL s l) f i) D,cellT r3 [Is s,Is l]] t.2) (fun t=>2 - t.1)
        ⟨⟨by simp,st⟩,.refl _,Heap.le_refl _⟩ ?_
      clear st G2
      rintro ⟨t,G2⟩ ⟨ht,st⟩
      dsimp only at ht st
      have e6:IntKind.i64.wrap ((t:Int)+1)=((t+1:Nat):Int):=by rw [i64_id (by omega) (by omega)];simp
      have hrl:=turnK_len (nxW s l) (cellV bitF (letW s l) (nxW s l) y A Bz) (s.length+l.length) (decide (y.op=8)) t
      (try simp (maxSteps:=1000000) (disch:=first | assumption | (apply ν6;assumption)) only [vz,vu,vv,eqS,eF_,↓c1_,↓c2_,tabs,reduceCtorEq,ι5,↓reduceIte,ν1,ν2,ν3,ν4,ν5,ι1,ι2,ι3,ι4,B54_2])
      refine ⟨fun h4=>?_,fun h4=>?_⟩
      · generalize hrow:turnK (nxW s l) (cellV bitF (letW s l) (nxW s l) y A Bz) (s.length+l.length) (decide (y.op=8)) t=row at st hrl
        have e7:IntKind.i64.wrap (((s.length+l.length:Nat):Int) - 1)=((s.length+l.length:Nat):Int) - 1 - (0:Nat):=by rw [i64_id (by omega) (by omega)];simp
        rw [e7]
        refine L54_3_rule ((0:Nat),G2) (fun t=>I (((s.length+l.length:Nat):Int) - 1 - t.1)) (fun t=>t.2) (fun t=>t.1≤s.length+l.length∧St H [cellT q (cP fB (sweepK (nxW s l) (cellV bitF (letW s l) (nxW s l) y A Bz) ((List.range t.1).map fun j=>s.length+l.length - 1 - j) row)),cellT r8 [I y.op,I y.n],rnR x (tabV (lasL s l) f i) D,cellT r3 [Is s,Is l]] t.2) (fun t=>s.length+l.length - t.1)
          ⟨⟨by simp,st⟩,.refl _,Heap.le_refl _⟩ ?_
        clear st G2
        rintro ⟨j,G2⟩ ⟨hj,st⟩
        dsimp only at hj st
        have hswl:=sweepK_len (nxW s l) (cellV bitF (letW s l) (nxW s l) y A Bz) ((List.range j).map fun j=>s.length+l.length - 1 - j) row
        rw [hrl] at hswl
        have hne:=st.disjI 0 3 rfl rfl (by decide)
        have J:j < s.length+l.length→∀(K0:AV→Heap→Prop) (N1:AV→AV→Heap→Prop) (N2 N3:AV→Heap→Prop),(∀G',St H [cellT q (cP fB (sweepK (nxW s l) (cellV bitF (letW s l) (nxW s l) y A Bz) ((List.range (j+1)).map fun j=>s.length+l.length - 1 - j) row)),cellT r8 [I y.op,I y.n],rnR x (tabV (lasL s l) f i) D,cellT r3 [Is s,Is l]] G'→N3 (I (((s.length+l.length:Nat):Int) - 1 - (j+1:Nat))) G')→
            J54_4 K0 N1 N2 N3 (Ds f) (.ptr r3 0) (I (s.length+l.length:Nat)) x (I i) (.sl q 1 0 (s.length+l.length)) (I t) (I (((s.length+l.length:Nat):Int) - 1 - (j:Int))) (I (nxW s l (s.length+l.length - 1 - j):Nat)) (Ds f) (I f.length) (I i) G2:=by
          intro hj2 K0 N1 N2 N3 hN
          have ek:((s.length+l.length:Nat):Int) - 1 - (j:Int)=((s.length+l.length - 1 - j:Nat):Int):=by omega
          have ek2:IntKind.i64.wrap (((s.length+l.length - 1 - j:Nat):Int) - 1)=((s.length+l.length:Nat):Int) - 1 - (j+1:Nat):=by rw [i64_id (by omega) (by omega)];omega
          rw [sweepK_range,stepK] at hN
          rw [ek]
          generalize hk':s.length+l.length - 1 - j=k' at hN ek2 ⊢
          have hk2:k' < s.length+l.length:=by omega
          have hnx:nxW s l k' < s.length+l.length:=nxW_lt h2.1
          generalize sweepK (nxW s l) (cellV bitF (letW s l) (nxW s l) y A Bz) ((List.range j).map fun j=>s.length+l.length - 1 - j) row=row2 at st hswl hN
          have hc2:=cB_len row2
          have hg2:=cB_get (row:=row2) (k:=nxW s l k') (by omega)
          (try simp (maxSteps:=1000000) (disch:=first | assumption | (apply ν6;assumption)) only [vz,vu,vv,eqS,eF_,↓c1_,↓c2_,tabs,reduceCtorEq,ι5,↓reduceIte,ν1,ν2,ν3,ν4,ν5,ι1,ι2,ι3,ι4,J54_4,load_at (st.get 3 rfl),load_at (st.get 0 rfl),hc2,hswl,hg2])
          refine ⟨by omega,by omega,by omega,?_⟩
          refine Pu.use (l9At_spec s l h1 h2 hk2) ?_
          (try simp (maxSteps:=1000000) (disch:=first | assumption | (apply ν6;assumption)) only [vz,vu,vv,eqS,eF_,↓c1_,↓c2_,tabs,reduceCtorEq,ι5,↓reduceIte,ν1,ν2,ν3,ν4,ν5,ι1,ι2,ι3,ι4,load_at (st.get 0 rfl),hc2,hswl,hg2])
          first | refine ⟨by omega,?_⟩ | skip
          obtain ⟨Gw,hw⟩:=rnR_wk (st.get 2 rfl:RN (LPl xB) 1 x _ G2 D) [Ds f] [I i,I (letW s l k'),I k',I (nxW s l k':Nat),B (row2.getD (nxW s l k') default)]
          refine Pu.thaw (hcell hk2 (row2.getD (nxW s l k') default)) (.bool _) hw ?_
          have hset:=row_setB (row:=row2) (k:=k') (b:=cellV bitF (letW s l) (nxW s l) y A Bz k' (row2.getD (nxW s l k') default)) (by omega)
          (try simp (maxSteps:=1000000) (disch:=first | assumption | (apply ν6;assumption)) only [vz,vu,vv,eqS,eF_,↓c1_,↓c2_,tabs,reduceCtorEq,ι5,↓reduceIte,ν1,ν2,ν3,ν4,ν5,ι1,ι2,ι3,ι4,store_at (st.get 0 rfl),hc2,hswl,hset,ek2])
          refine ⟨by omega,by omega,by omega,?_⟩
          exact hN _ (st.put 0 rfl (cP fB (row2.set k' (cellV bitF (letW s l) (nxW s l) y A Bz k' (row2.getD (nxW s l k') default)))))
        have EX:∀G',St H [cellT q (cP fB (sweepK (nxW s l) (cellV bitF (letW s l) (nxW s l) y A Bz) ((List.range (j+1)).map fun j=>s.length+l.length - 1 - j) row)),cellT r8 [I y.op,I y.n],rnR x (tabV (lasL s l) f i) D,cellT r3 [Is s,Is l]] G'→j < s.length+l.length→∃s':Nat×Heap,(s'.1≤s.length+l.length∧
            St H [cellT q (cP fB (sweepK (nxW s l) (cellV bitF (letW s l) (nxW s l) y A Bz) ((List.range s'.1).map fun j=>s.length+l.length - 1 - j) row)),cellT r8 [I y.op,I y.n],rnR x (tabV (lasL s l) f i) D,cellT r3 [Is s,Is l]] s'.2)∧s.length+l.length - s'.1 < s.length+l.length - j∧(I (((s.length+l.length:Nat):Int) - 1 - (j+1:Nat))).wk (I (((s.length+l.length:Nat):Int) - 1 - s'.1))∧Heap.le s'.2 G':=
          fun G' h hj2=>⟨(j+1,G'),⟨by simp only;omega,h⟩,by simp only;omega,.refl _,Heap.le_refl _⟩
        have e8:IntKind.i64.wrap (((s.length+l.length:Nat):Int) - 1 - (j:Int)+1)=((s.length+l.length:Nat):Int) - j:=by rw [i64_id (by omega) (by omega)];omega
        (try simp (maxSteps:=1000000) (disch:=first | assumption | (apply ν6;assumption)) only [vz,vu,vv,eqS,eF_,↓c1_,↓c2_,tabs,reduceCtorEq,ι5,↓reduceIte,ν1,ν2,ν3,ν4,ν5,ι1,ι2,ι3,ι4,B54_3,load_at (st.get 3 rfl),e8,e6])
        refine ⟨fun h5=>⟨fun h6=>?_,fun h6=>?_⟩,fun h5=>?_⟩
        · have hj2:j < s.length+l.length:=by omega
          have e9:nxW s l (s.length+l.length - 1 - j)=s.length:=by rw [nxW,if_neg (by omega)]
          rw [e9] at J
          exact J hj2 _ _ _ _ fun G' h=>EX G' h hj2
        · have hj2:j < s.length+l.length:=by omega
          have e9:((nxW s l (s.length+l.length - 1 - j):Nat):Int)=((s.length+l.length:Nat):Int) - j:=by rw [nxW,if_pos (by omega)];omega
          rw [e9] at J
          exact J hj2 _ _ _ _ fun G' h=>EX G' h hj2
        · have:j=s.length+l.length:=by omega
          subst this
          refine ⟨(t+1,G2),⟨by simp only;omega,?_⟩,by simp only;omega,.refl _,Heap.le_refl _⟩
          rw [turnK,hrow]
          exact st
      · have:t=2:=by omega
        subst this
        have hR:turnK (nxW s l) (cellV bitF (letW s l) (nxW s l) y A Bz) (s.length+l.length) (decide (y.op=8)) 2=rowF (lasL s l) f i:=by rw [hrowE];rfl
        rw [hR] at st hrl
        refine lit_rowB (rows:=rowF (lasL s l) f i) (st.get 0 rfl) hrl.symm ?_
        have st2:=(St.lose st 0 rfl (G':=G2.del q) fun z hz=>Heap.del_other (by simpa [cellT] using hz)).drop
        have htl:=tabV_len (lasL s l) f i
        refine rn_appR (ys:=[rowF (lasL s l) f i]) st2 0 rfl (by rw [htl];simp only [List.length_singleton];omega) fun q' G' hq' st3=>?_
        rw [← hrowF] at st3 ⊢
        refine ⟨(i+1,_,[q'],G'),⟨by simp only;omega,st3⟩,by simp only;omega,.refl _,?_,Heap.le_refl _⟩
        rw [e5];exact .refl _
  · have:i=f.length:=by omega
    subst this
    exact rnR_val st 0 rfl
end Go.Proofs.Ytjdhigcefkihiaa
namespace Go.Proofs.Ytjdhigcefkihiaa
open Go Go.Sep Go.Pt
attribute [local irreducible] CallT
theorem tr_bd {f:List Sd} (g:GoodFm f):∀x∈tr f,0≤x∧x < f.length:=by
  intro x hx
  have hl0:=g.l0
  rw [tr,sc_mem,trL,List.mem_cons,List.mem_flatten] at hx
  rcases hx with rfl | ⟨l,hl,hx⟩
  · omega
  · obtain ⟨i,hi,rfl⟩:=List.mem_map.1 hl
    rw [List.mem_range] at hi
    unfold trAt at hx
    split at hx
    · rename_i h
      have hn:need (f.getD i default).op=2:=by rcases h with h | h<;>rw [h]<;>rfl
      have:=(tst2 g hi hn).1
      simp only [List.mem_cons,List.not_mem_nil,or_false] at hx
      omega
    · split at hx
      · rename_i h
        have hn:need (f.getD i default).op=1:=by rw [h];rfl
        have:=(tst1 g hi hn).1
        simp only [List.mem_cons,List.not_mem_nil,or_false] at hx
        omega
      · cases hx
def guK (vs:List Bool) (t:List Int):Nat→Int
  | 0=>0
  | k+1=>if vs.getD (t.getD k default).toNat default=true then bitsI .or .i64 (guK vs t k) (IntKind.i64.wrap (1*2^(min k 64))) else guK vs t k
end Go.Proofs.Ytjdhigcefkihiaa
namespace Go.Proofs.Ytjdhigcefkihiaa
open Go Go.Sep Go.Pt
attribute [local irreducible] CallT
theorem RL.local {s l:List Int} {v:AV} {G G':Heap} {D:List Nat} (h:RL s l v G D) (hf:∀y∈D,∀b,G y=some b→G' y=some b):RL s l v G' D:=by
  rcases h with h | ⟨q1,q2,rfl,h1,h2,rfl,hne⟩
  · exact .inl h
  · exact .inr ⟨q1,q2,rfl,hf q1 (by simp) _ h1,hf q2 (by simp) _ h2,rfl,hne⟩
theorem RL.has {s l:List Int} {v:AV} {G:Heap} {D:List Nat} (h:RL s l v G D):∀y∈D,G y≠none:=by
  rcases h with ⟨_,_,_,rfl⟩ | ⟨q1,q2,rfl,h1,h2,rfl,hne⟩
  · intro y hy;cases hy
  · intro y hy
    simp only [List.mem_cons,List.not_mem_nil,or_false] at hy
    rcases hy with rfl | rfl
    · rw [h1];simp
    · rw [h2];simp
theorem RL.ag {s l:List Int} {v:AV} {G:Heap} {D:List Nat} (h:RL s l v G D):∃x y,v=.agg [x,y]∧x.isCell=true∧y.isCell=true:=by
  rcases h with ⟨_,_,rfl,_⟩ | ⟨q1,q2,rfl,_⟩
  · exact ⟨_,_,rfl,rfl,rfl⟩
  · exact ⟨_,_,rfl,rfl,rfl⟩
def tRL (s l:List Int) (v:AV) (D:List Nat):Th:=⟨D,fun G=>RL s l v G D,fun h f=>h.local f,fun h=>h.has⟩
def RLt (s l:List Int) (ok:Bool) (r:AV) (G:Heap) (D:List Nat):Prop:=∃v,r=.tup [v,B ok]∧RL s l v G D
theorem RLt.res (s l:List Int) (ok:Bool):ResU (RLt s l ok):=by
  have gdrow:∀{xs:List Int} {c:AV},c∈cP fI xs→GdC c:=fun {xs c} hc=>by
    obtain ⟨x,_,rfl⟩:=List.mem_map.1 hc
    exact .p (.int _ _)
  refine ⟨?_,?_,?_⟩
  · rintro r G G' D ⟨v,rfl,h⟩ hf
    exact ⟨v,rfl,h.local hf⟩
  · rintro r G D ⟨v,rfl,h⟩
    have gb:Gd1 (B ok):=.inr ⟨.p (.bool ok),fun _=>rfl⟩
    have gv:Gd1 v∧∀y∈D,∀bs,G y=some bs→∀c∈bs,GdC c:=by
      rcases h with ⟨_,_,rfl,rfl⟩ | ⟨q1,q2,rfl,h1,h2,rfl,hne⟩
      · exact ⟨.inl ⟨_,rfl,fun c hc=>by
          simp only [List.mem_cons,List.not_mem_nil,or_false] at hc
          rcases hc with rfl | rfl<;>exact .p .nil⟩,fun y hy=>by cases hy⟩
      · refine ⟨.inl ⟨_,rfl,fun c hc=>by
          simp only [List.mem_cons,List.not_mem_nil,or_false] at hc
          rcases hc with rfl | rfl<;>exact .inl ⟨_,_,_,_,rfl⟩⟩,fun y hy bs hb c hc=>?_⟩
        simp only [List.mem_cons,List.not_mem_nil,or_false] at hy
        rcases hy with rfl | rfl
        · rw [h1] at hb;cases hb;exact gdrow hc
        · rw [h2] at hb;cases hb;exact gdrow hc
    refine ⟨.inl ⟨_,rfl,fun u hu=>?_⟩,gv.2⟩
    rcases List.mem_cons.1 hu with rfl | hu
    · exact gv.1
    · rw [List.mem_singleton] at hu;rw [hu];exact gb
  · rintro r G D n G0 h0 ⟨v,rfl,h⟩
    have e:∀xs:List Int,(cP fI xs).map (shC n)=cP fI xs:=fun xs=>by
      simp only [cP,List.map_map];rfl
    have sh:∀{q xs},G q=some (cP fI xs)→(Heap.or G0 (shH n G)) (q+n)=some (cP fI xs):=fun {q xs} hq=>by
      simp only [Heap.or,h0 (q+n) (by omega),shH,Nat.le_add_left,if_true,Nat.add_sub_cancel,hq,Option.map_some,e]
    rcases h with ⟨rfl,rfl,rfl,rfl⟩ | ⟨q1,q2,rfl,h1,h2,rfl,hne⟩
    · exact ⟨_,rfl,.inl ⟨rfl,rfl,rfl,rfl⟩⟩
    · exact ⟨_,rfl,.inr ⟨q1+n,q2+n,rfl,sh h1,sh h2,rfl,by omega⟩⟩
theorem eqLassoQ (s l:List Int) (h1:s.length≤1048576) (h2:l.length≤1048576):Pu Try.prog 16 [aL2 s l,aL2 s l] (B true):=by
  refine Pu.of fun H=>?_
  refine W16_ok ?_;simp (maxSteps:=1000000) (disch:=first | assumption | (apply ν6;assumption)) only [W16,vz,vu,vv,eqS,eF_,↓c1_,↓c2_,tabs,reduceCtorEq,ι5,↓reduceIte,ν1,ν2,ν3,ν4,ν5,ι1,ι2,ι3,ι4]
  intro r hr r2 n2 hr2
  have hle:=Heap.le_setN (b:=[Is s,Is l]) (Heap.le_set (b:=[Is s,Is l]) hr) hr2
  have nn2:=Ne.symm n2
  (try simp (maxSteps:=1000000) (disch:=first | assumption | (apply ν6;assumption)) only [vz,vu,vv,eqS,eF_,↓c1_,↓c2_,tabs,reduceCtorEq,ι5,↓reduceIte,ν1,ν2,ν3,ν4,ν5,ι1,ι2,ι3,ι4])
  refine Pu.use (eqIntS_spec s h1) ?_
  (try simp (maxSteps:=1000000) (disch:=first | assumption | (apply ν6;assumption)) only [vz,vu,vv,eqS,eF_,↓c1_,↓c2_,tabs,reduceCtorEq,ι5,↓reduceIte,ν1,ν2,ν3,ν4,ν5,ι1,ι2,ι3,ι4])
  refine Pu.use (eqIntS_spec l h2) ?_
  (try simp (maxSteps:=1000000) (disch:=first | assumption | (apply ν6;assumption)) only [vz,vu,vv,eqS,eF_,↓c1_,↓c2_,tabs,reduceCtorEq,ι5,↓reduceIte,ν1,ν2,ν3,ν4,ν5,ι1,ι2,ι3,ι4])
  exact hle
theorem RL.eq {s l:List Int} {v:AV} {G:Heap} {D:List Nat} (h:RL s l v G D) (hs:s.length≤1048576) (hl:l.length≤1048576) {K:AV→Heap→Prop} (k:K (B true) G):CallT Try.prog 16 [v,aL2 s l] G K:=by
  rcases h with ⟨rfl,rfl,rfl,rfl⟩ | ⟨q1,q2,rfl,h1,h2,rfl,hne⟩
  · exact CallT.args (args':=[aL2 [] [],aL2 [] []]) ((eqLassoQ [] [] (by simp) (by simp)).use k) ⟨wk_agg ⟨.nil,.nil,trivial⟩,.refl _,trivial⟩
  · exact Pu.thaw (eqLassoQ s l hs hl) (.bool _) (wkL2 h1 h2 hne (fun v=>.tup [v,aL2 s l]) (fun h=>.tup (.cons h (.cons (.same _) .nil)))) k
theorem RL.mark {s l:List Int} {v:AV} {G:Heap} {D:List Nat} (hx:RL s l v G D) (hs:s.length≤1048576) (hl:l.length≤1048576) {k:Int} (h0:0≤k) (hk:k≤900000000) {K:AV→Heap→Prop}
    (h:∀G',RL (marked k s.length) (marked (k+s.length) l.length) v G' D→(∀y,y∉D→G' y=G y)→K (I (k+s.length+l.length)) G'):CallT Try.prog 18 [v,I k] G K:=by
  refine CallT.fin ?_
  rcases hx with ⟨rfl,rfl,rfl,rfl⟩ | ⟨q1,q2,rfl,h1,h2,rfl,hne⟩
  · refine W18_ok ?_;simp (maxSteps:=1000000) (disch:=first | assumption | (apply ν6;assumption)) only [W18,vz,vu,vv,eqS,eF_,↓c1_,↓c2_,tabs,reduceCtorEq,ι5,↓reduceIte,ν1,ν2,ν3,ν4,ν5,ι1,ι2,ι3,ι4]
    intro r hr
    refine markI0 ?_
    (try simp (maxSteps:=1000000) (disch:=first | assumption | (apply ν6;assumption)) only [vz,vu,vv,eqS,eF_,↓c1_,↓c2_,tabs,reduceCtorEq,ι5,↓reduceIte,ν1,ν2,ν3,ν4,ν5,ι1,ι2,ι3,ι4])
    refine markI0 ?_
    (try simp (maxSteps:=1000000) (disch:=first | assumption | (apply ν6;assumption)) only [vz,vu,vv,eqS,eF_,↓c1_,↓c2_,tabs,reduceCtorEq,ι5,↓reduceIte,ν1,ν2,ν3,ν4,ν5,ι1,ι2,ι3,ι4])
    have:=h G (.inl ⟨rfl,rfl,rfl,rfl⟩) (fun _ _=>rfl)
    simp only [List.length_nil,Int.ofNat_zero,Int.add_zero] at this
    exact fin_le (Heap.le_set hr) this
  · refine W18_ok ?_;simp (maxSteps:=1000000) (disch:=first | assumption | (apply ν6;assumption)) only [W18,vz,vu,vv,eqS,eF_,↓c1_,↓c2_,tabs,reduceCtorEq,ι5,↓reduceIte,ν1,ν2,ν3,ν4,ν5,ι1,ι2,ι3,ι4]
    intro r hr
    have ne1:q1≠r:=fun e=>by rw [e,hr] at h1;cases h1
    have ne2:q2≠r:=fun e=>by rw [e,hr] at h2;cases h2
    have en1:=Ne.symm ne1
    have en2:=Ne.symm ne2
    have enq:=Ne.symm hne
    refine markIntS_live s hs h0 (by omega) (by rw [Heap.set_other ne1,h1,← cells_P]) ?_
    (try simp (maxSteps:=1000000) (disch:=first | assumption | (apply ν6;assumption)) only [vz,vu,vv,eqS,eF_,↓c1_,↓c2_,tabs,reduceCtorEq,ι5,↓reduceIte,ν1,ν2,ν3,ν4,ν5,ι1,ι2,ι3,ι4])
    refine markIntS_live l hl (by omega) (by omega) (by rw [Heap.set_other enq,Heap.set_other ne2,h2,← cells_P]) ?_
    (try simp (maxSteps:=1000000) (disch:=first | assumption | (apply ν6;assumption)) only [vz,vu,vv,eqS,eF_,↓c1_,↓c2_,tabs,reduceCtorEq,ι5,↓reduceIte,ν1,ν2,ν3,ν4,ν5,ι1,ι2,ι3,ι4])
    have hm1:=marked_len k s.length
    have hm2:=marked_len (k+s.length) l.length
    refine fin_le (H:=(G.set q1 (cells ((marked k s.length).map eI))).set q2 (cells ((marked (k+s.length) l.length).map eI))) ?_ (h _ (.inr ⟨q1,q2,by rw [rowP,rowP,rowP,rowP,hm1,hm2],by rw [Heap.set_other hne,Heap.set_same,← cells_P],by rw [Heap.set_same,← cells_P],rfl,hne⟩) fun z hz=>?_)
    · generalize cells ((marked k s.length).map eI)=z
      generalize cells ((marked (k+s.length) l.length).map eI)=z2
      clear h
      (intro y b hy;simp only [Heap.set,Heap.del] at hy ⊢;(repeat' split at hy)<;>(repeat' split)<;>simp_all [cells])
    · simp only [List.mem_cons,List.not_mem_nil,or_false,not_or] at hz
      rw [Heap.set_other hz.2,Heap.set_other hz.1]
end Go.Proofs.Ytjdhigcefkihiaa
namespace Go.Proofs.Ytjdhigcefkihiaa
open Go Go.Sep Go.Pt
attribute [local irreducible] CallT
def colF (w:Las) (f:List Sd) (k:Nat):List Bool:=(List.range f.length).map fun n=>(rowF w f n).getD k default
theorem colF_get {w:Las} {f:List Sd} {k n:Nat} (h:n < f.length):(colF w f k).getD n default=(rowF w f n).getD k default:=by simp [colF,List.getD,h]
def rfA (s l:List Int) (f:List Sd) (m:Nat):List Int:=(List.range (s.length+l.length)).map fun k=>guK (colF (lasL s l) f k) (tr f) m
theorem rfA_len (s l:List Int) (f:List Sd) (m:Nat):(rfA s l f m).length=s.length+l.length:=by simp [rfA]
theorem or_wrap (a b:Int):bitsI .or .i64 (bitsI .or .i64 a b) 0=bitsI .or .i64 a b:=by
  have key:∀u:BitVec 64,(BitVec.ofInt 64 (IntKind.i64.wrap (u.toNat:Int)) ||| BitVec.ofInt 64 0).toNat=u.toNat:=by
    intro u
    have e:BitVec.ofInt 64 (IntKind.i64.wrap (u.toNat:Int))=u:=by
      apply BitVec.eq_of_toNat_eq
      have hu:=u.isLt
      rw [BitVec.toNat_ofInt,IntKind.wrap_i64]
      omega
    rw [e];simp
  simp only [bitsI]
  exact congrArg (fun n:Nat=>IntKind.i64.wrap (n:Int)) (key _)
theorem guK_or0 (vs:List Bool) (t:List Int):∀i,bitsI .or .i64 (guK vs t i) 0=guK vs t i
  | 0=>by rw [guK];decide +kernel
  | i+1=>by
    rw [guK]
    split
    · exact or_wrap _ _
    · exact guK_or0 vs t i
theorem l2Bool_spec (b:Bool):Pu Try.prog 56 [B b] (.p (.int .u64 (if b then 1 else 0))):=by
  refine Pu.of fun H=>?_
  refine W56_ok ?_;simp (maxSteps:=1000000) (disch:=first | assumption | (apply ν6;assumption)) only [W56,vz,vu,vv,eqS,eF_,↓c1_,↓c2_,tabs,reduceCtorEq,ι5,↓reduceIte,ν1,ν2,ν3,ν4,ν5,ι1,ι2,ι3,ι4]
  cases b<;>(try simp (maxSteps:=1000000) (disch:=first | assumption | (apply ν6;assumption)) only [vz,vu,vv,eqS,eF_,↓c1_,↓c2_,tabs,reduceCtorEq,ι5,↓reduceIte,ν1,ν2,ν3,ν4,ν5,ι1,ι2,ι3,ι4])
theorem l1Own_part {q off n:Nat} {l:List Int} {G:Heap} (hq:G q=some (cP fI l)) (hb:off+n≤l.length) (hl:l.length≤100000) {K:AV→Heap→Prop} (h:∀qn G',RowR ((l.drop off).take n) (rowP qn ((l.drop off).take n)) G' [qn]→New G G' [qn]→K (rowP qn ((l.drop off).take n)) G'):CallT Try.prog 57 [.sl q 1 off n] G K:=by
  refine thawR (R:=RowR ((l.drop off).take n)) (RowR.res _) (args':=[Is ((l.drop off).take n)]) (G1:=G.del q) (fun {K} h=>l1Own_row _ (by rw [List.length_take,List.length_drop];omega) fun q hq=>h _ _ [q] ⟨q,rfl,Heap.set_same _ _ _,rfl⟩ (New.cell hq)) ?_ ?_
  · refine Wk.frzS (es:=l.map fI) (by rw [hq,List.map_map];rfl) (.tup (.cons ?_ .nil))
    have:=FrzS.part (r:=q) (es:=l.map fI) off n (by rw [List.length_map];exact hb)
    have e:(((l.map fI).drop off).take n).map (fun v=>[v])=((l.drop off).take n).map eI:=by rw [← List.map_drop,← List.map_take,List.map_map];rfl
    rw [e] at this
    exact this
  · rintro r G' D ⟨qn,rfl,h1,rfl⟩ hn
    exact h qn G' ⟨qn,rfl,h1,rfl⟩ hn
noncomputable def rfR (f:List Sd) (s l:List Int):List Int×List Int×Bool:=
  if goodT f && goodL s l then ((rfA s l f (tr f).length).take s.length,(rfA s l f (tr f).length).drop s.length,true) else ([],[],false)
theorem goodL_facts {s l:List Int} (h:goodL s l=true):s.length≤24∧1≤l.length∧l.length≤24:=by
  simp only [goodL,Bool.and_eq_true,decide_eq_true_eq] at h
  exact ⟨h.1.1,h.1.2⟩
theorem fin_two {H G:Heap} {Ts:List Th} {qa qb:Nat} {a b:List Int} {ok:Bool} (st:St H (cellT qb (cP fI b)::cellT qa (cP fI a)::Ts) G):wkK (fun r H'=>r=.tup [Is a,Is b,B ok]∧H'=H) (.tup [rowP qa a,rowP qb b,B ok]) G:=by
  have hqa:G qa=some (cP fI a):=st.get 1 rfl
  have hqb:G qb=some (cP fI b):=st.get 0 rfl
  have hne:qb≠qa:=fun e=>st.disj qb (by simp [cellT]) (by simp [cellT,e])
  have fa:=st.fr (cellT qa (cP fI a)) (by simp) qa (by simp [cellT])
  have fb:=st.fr (cellT qb (cP fI b)) (by simp) qb (by simp [cellT])
  have w1:=Wk.frz (v:=.tup [rowP qa a,rowP qb b,B ok]) (v':=.tup [Is a,rowP qb b,B ok]) (H:=G) (r:=qa) (sz:=1) (es:=a.map fun n=>[fI n]) (by omega) (by rw [flat_P];exact hqa) (szP _ _) (.tup (.cons frz_row (.cons (.same _) (.cons (.same _) .nil))))
  have w2:=Wk.frz (v:=.tup [Is a,rowP qb b,B ok]) (v':=.tup [Is a,Is b,B ok]) (H:=G.del qa) (r:=qb) (sz:=1) (es:=b.map fun n=>[fI n]) (by omega) (by rw [flat_P,Heap.del_other hne];exact hqb) (szP _ _) (.tup (.cons (.same _) (.cons frz_row (.cons (.same _) .nil))))
  refine ⟨_,_,.trans w1 (.trans w2 (.forget (H':=H) ?_)),rfl,rfl⟩
  exact Heap.le_del (Heap.le_del st.le fa) fb
theorem RunFor_ref (f:List Sd) (hf:f.length≤1048576) (s l:List Int) (hs:s.length≤1048576) (hl:l.length≤1048576):Pu Try.prog 10 [Ds f,aL2 s l] (.tup [Is (rfR f s l).1,Is (rfR f s l).2.1,B (rfR f s l).2.2]):=by
  refine ⟨fun H=>CallT.fin ?_⟩
  refine W10_ok ?_;simp (maxSteps:=1000000) (disch:=first | assumption | (apply ν6;assumption)) only [W10,vz,vu,vv,eqS,eF_,↓c1_,↓c2_,tabs,reduceCtorEq,ι5,↓reduceIte,ν1,ν2,ν3,ν4,ν5,ι1,ι2,ι3,ι4]
  intro r3 hr3
  have st:=(St.nil H).cell hr3 [Is s,Is l]
  generalize H.set r3 [Is s,Is l]=G at st ⊢
  clear hr3
  have bad:(goodT f && goodL s l)=false→wkK (fun r H'=>r=.tup [Is (rfR f s l).1,Is (rfR f s l).2.1,B (rfR f s l).2.2]∧H'=H) (.tup [.p .nil,.p .nil,B false]) G:=by
    intro hb
    have e:rfR f s l=([],[],false):=by rw [rfR,hb];rfl
    rw [e]
    exact ⟨_,_,.trans (.val (v':=.tup [Is [],Is [],B false]) (wk_tup ⟨.nil,.nil,.refl _,trivial⟩)) (.forget st.le),rfl,rfl⟩
  refine Pu.use (l13Good_spec f hf) ?_
  cases hg:goodT f
  · (try simp (maxSteps:=1000000) (disch:=first | assumption | (apply ν6;assumption)) only [vz,vu,vv,eqS,eF_,↓c1_,↓c2_,tabs,reduceCtorEq,ι5,↓reduceIte,ν1,ν2,ν3,ν4,ν5,ι1,ι2,ι3,ι4])
    exact bad (by rw [hg];rfl)
  (try simp (maxSteps:=1000000) (disch:=first | assumption | (apply ν6;assumption)) only [vz,vu,vv,eqS,eF_,↓c1_,↓c2_,tabs,reduceCtorEq,ι5,↓reduceIte,ν1,ν2,ν3,ν4,ν5,ι1,ι2,ι3,ι4,load_at (st.get 0 rfl)])
  refine Pu.use (GoodLassoR s l (by omega) (by omega)) ?_
  cases hgl:goodL s l
  · (try simp (maxSteps:=1000000) (disch:=first | assumption | (apply ν6;assumption)) only [vz,vu,vv,eqS,eF_,↓c1_,↓c2_,tabs,reduceCtorEq,ι5,↓reduceIte,ν1,ν2,ν3,ν4,ν5,ι1,ι2,ι3,ι4])
    exact bad (by rw [hg,hgl];rfl)
  clear bad
  obtain ⟨g,ht5⟩:=goodT_facts hg
  obtain ⟨h1,h2⟩:=goodL_facts hgl
  (try simp (maxSteps:=1000000) (disch:=first | assumption | (apply ν6;assumption)) only [vz,vu,vv,eqS,eF_,↓c1_,↓c2_,tabs,reduceCtorEq,ι5,↓reduceIte,ν1,ν2,ν3,ν4,ν5,ι1,ι2,ι3,ι4,load_at (st.get 0 rfl)])
  refine Pu.use (l10Table_spec s l h1 h2 f g) ?_
  (try simp (maxSteps:=1000000) (disch:=first | assumption | (apply ν6;assumption)) only [vz,vu,vv,eqS,eF_,↓c1_,↓c2_,tabs,reduceCtorEq,ι5,↓reduceIte,ν1,ν2,ν3,ν4,ν5,ι1,ι2,ι3,ι4])
  have htab:∀n,n < f.length→(tabV (lasL s l) f f.length).getD n default=rowF (lasL s l) f n:=fun n hn=>tabV_row hn
  have htl:=tabV_len (lasL s l) f f.length
  generalize tabV (lasL s l) f f.length=T at htab htl ⊢
  have st0:=st
  replace st:=st.push (rnI (.p .nil) [] []) ⟨by simp [rnT],fun y hy=>by simp [rnT] at hy,Heap.le_refl _⟩ (.inl ⟨rfl,rfl,rfl⟩)
  clear st0
  refine L10_0_rule ((0:Nat),(.p .nil:AV),([]:List Nat),G) (fun t=>t.2.1) (fun t=>I t.1) (fun t=>t.2.2.2)
    (fun t=>t.1≤s.length+l.length∧St H [rnI t.2.1 ((List.range t.1).map fun k=>guK (colF (lasL s l) f k) (tr f) (tr f).length) t.2.2.1,cellT r3 [Is s,Is l]] t.2.2.2) (fun t=>s.length+l.length - t.1)
    ⟨⟨by simp,st⟩,.refl _,.refl _,Heap.le_refl _⟩ ?_
  clear st G
  rintro ⟨k,x,D,G⟩ ⟨hk,st⟩
  dsimp only at hk st
  have e5:IntKind.i64.wrap ((k:Int)+1)=((k+1:Nat):Int):=by rw [i64_id (by omega) (by omega)];simp
  have eN:IntKind.i64.wrap ((s.length:Int)+(l.length:Int))=((s.length+l.length:Nat):Int):=by rw [i64_id (by omega) (by omega)];simp
  (try simp (maxSteps:=1000000) (disch:=first | assumption | (apply ν6;assumption)) only [vz,vu,vv,eqS,eF_,↓c1_,↓c2_,tabs,reduceCtorEq,ι5,↓reduceIte,ν1,ν2,ν3,ν4,ν5,ι1,ι2,ι3,ι4,B10_0,load_at (st.get 1 rfl),eN,e5])
  refine ⟨fun h3=>?_,fun h3=>?_⟩
  · have hlt:k < s.length+l.length:=by omega
    refine Pu.use (l13Tracked_spec f g) ?_
    (try simp (maxSteps:=1000000) (disch:=first | assumption | (apply ν6;assumption)) only [vz,vu,vv,eqS,eF_,↓c1_,↓c2_,tabs,reduceCtorEq,ι5,↓reduceIte,ν1,ν2,ν3,ν4,ν5,ι1,ι2,ι3,ι4])
    have htr:=tr_bd g
    have hcol:=fun {n:Nat} (hn:n < f.length)=>colF_get (w:=lasL s l) (k:=k) hn
    have hrowl:=fun n=>rowF_len (lasL s l) f n
    have hsucc:((List.range (k+1)).map fun k=>guK (colF (lasL s l) f k) (tr f) (tr f).length)=((List.range k).map fun k=>guK (colF (lasL s l) f k) (tr f) (tr f).length)++[guK (colF (lasL s l) f k) (tr f) (tr f).length]:=by rw [List.range_succ,List.map_append,List.map_singleton]
    generalize hLL:((List.range k).map fun k=>guK (colF (lasL s l) f k) (tr f) (tr f).length)=LL at st hsucc
    have hLLl:LL.length=k:=by rw [← hLL];simp
    refine L10_1_rule (0:Nat) (fun i=>I (guK (colF (lasL s l) f k) (tr f) i)) (fun i=>I i) (fun _=>G) (fun i=>i≤(tr f).length) (fun i=>(tr f).length - i) ⟨by omega,by rw [guK];exact .refl _,.refl _,Heap.le_refl _⟩ ?_
    intro i hi
    have e6:IntKind.i64.wrap ((i:Int)+1)=((i+1:Nat):Int):=by rw [i64_id (by omega) (by omega)];simp
    have eu:IntKind.u64.wrap (i:Int)=i:=by rw [IntKind.wrap_u64];omega
    (try simp (maxSteps:=1000000) (disch:=first | assumption | (apply ν6;assumption)) only [vz,vu,vv,eqS,eF_,↓c1_,↓c2_,tabs,reduceCtorEq,ι5,↓reduceIte,ν1,ν2,ν3,ν4,ν5,ι1,ι2,ι3,ι4,B10_1,e6,eu])
    refine ⟨fun h4=>⟨by omega,h4,?_⟩,fun h4=>?_⟩
    · have hit:i < (tr f).length:=by omega
      have hb:=getD_all (p:=fun x=>0≤x∧x < (f.length:Int)) (d:=default) htr hit
      have hgs:guK (colF (lasL s l) f k) (tr f) (i+1)=if (colF (lasL s l) f k).getD ((tr f).getD i default).toNat default=true then bitsI .or .i64 (guK (colF (lasL s l) f k) (tr f) i) (IntKind.i64.wrap (1*2^(min i 64))) else guK (colF (lasL s l) f k) (tr f) i:=rfl
      have h0:=guK_or0 (colF (lasL s l) f k) (tr f) i
      generalize (tr f).getD i default=n at hb hgs ⊢
      rw [hcol (by omega)] at hgs
      have hrn:=htab n.toNat (by omega)
      have hrl:=hrowl n.toNat
      generalize rowF (lasL s l) f n.toNat=row at hgs hrn hrl
      have hrl2:row.length=s.length+l.length:=hrl
      refine ⟨hb.1,by omega,?_⟩
      rw [hrn,hrl2]
      refine ⟨by omega,by omega,?_⟩
      refine Pu.use (l2Bool_spec _) ?_
      generalize row.getD k default=b at hgs ⊢
      (try simp (maxSteps:=1000000) (disch:=first | assumption | (apply ν6;assumption)) only [vz,vu,vv,eqS,eF_,↓c1_,↓c2_,tabs,reduceCtorEq,ι5,↓reduceIte,ν1,ν2,ν3,ν4,ν5,ι1,ι2,ι3,ι4,e6,eu])
      refine ⟨by omega,i+1,by omega,by omega,?_,.refl _⟩
      rw [hgs]
      cases b
      · have w0:IntKind.i64.wrap (if false=true then 1 else 0)=0:=by rw [if_neg (by simp)];exact i64_id (by omega) (by omega)
        have w1:IntKind.i64.wrap 0=0:=i64_id (by omega) (by omega)
        rw [w0,Int.zero_mul,w1,h0,if_neg (by simp)];exact .refl _
      · have w0:IntKind.i64.wrap (if true=true then 1 else 0)=1:=by rw [if_pos rfl];exact i64_id (by omega) (by omega)
        rw [w0,if_pos rfl];exact .refl _
    · have:i=(tr f).length:=by omega
      subst this
      refine lit1 tab_23 rfl tab_3 ⟨rfl,rfl⟩ ?_
      refine rn_appI (ys:=[guK (colF (lasL s l) f k) (tr f) (tr f).length]) st 0 rfl (by rw [hLLl];simp only [List.length_singleton];omega) fun q' G' hq' st=>?_
      rw [← hsucc] at st ⊢
      (try simp (maxSteps:=1000000) (disch:=first | assumption | (apply ν6;assumption)) only [vz,vu,vv,eqS,eF_,↓c1_,↓c2_,tabs,reduceCtorEq,ι5,↓reduceIte,ν1,ν2,ν3,ν4,ν5,ι1,ι2,ι3,ι4,e5])
      exact ⟨(k+1,_,[q'],G'),⟨by simp only;omega,st⟩,by simp only;omega,.refl _,.refl _,Heap.le_refl _⟩
  · have:k=s.length+l.length:=by omega
    subst this
    have hA:(List.range (s.length+l.length)).map (fun k=>guK (colF (lasL s l) f k) (tr f) (tr f).length)=rfA s l f (tr f).length:=rfl
    rw [hA] at st
    have hAl:=rfA_len s l f (tr f).length
    have eR:rfR f s l=((rfA s l f (tr f).length).take s.length,(rfA s l f (tr f).length).drop s.length,true):=by rw [rfR,hg,hgl];rfl
    rw [eR]
    clear eR hA
    generalize rfA s l f (tr f).length=A at st hAl ⊢
    rcases (st.get 0 rfl:RN (LPl eI) 1 x A G D) with ⟨rfl,rfl,rfl⟩ | ⟨q,cs,D',rfl,hq,hll,rfl⟩
    · simp at hAl;omega
    obtain ⟨rfl,rfl⟩:=LL.plain' hll
    have hq2:G q=some (cP fI A):=by rw [hq];exact congrArg some (cells_P fI A)
    (try simp (maxSteps:=1000000) (disch:=first | assumption | (apply ν6;assumption)) only [vz,vu,vv,eqS,eF_,↓c1_,↓c2_,tabs,reduceCtorEq,ι5,↓reduceIte,ν1,ν2,ν3,ν4,ν5,ι1,ι2,ι3,ι4,sliceV,hAl])
    refine ⟨by omega,by omega,by omega,by omega,by omega,by omega,by omega,by omega,?_⟩
    rw [if_neg (by simp),if_neg (by simp)]
    refine l1Own_part hq2 (by omega) (by omega) fun qa Ga hra hna=>?_
    have e1:((A.drop 0).take s.length)=A.take s.length:=rfl
    rw [e1] at hra ⊢
    obtain ⟨qa',e2,hqa,_⟩:=hra
    injection e2 with e2;subst e2
    replace st:=st.push (cellT qa (cP fI (A.take s.length))) hna hqa
    (try simp (maxSteps:=1000000) (disch:=first | assumption | (apply ν6;assumption)) only [vz,vu,vv,eqS,eF_,↓c1_,↓c2_,tabs,reduceCtorEq,ι5,↓reduceIte,ν1,ν2,ν3,ν4,ν5,ι1,ι2,ι3,ι4,load_at (st.get 2 rfl)])
    have hq3:Ga q=some (cP fI A):=hna.le _ _ hq2
    refine l1Own_part hq3 (by omega) (by omega) fun qb Gb hrb hnb=>?_
    have e3:((A.drop (s.length*1)).take (((s.length+l.length:Nat):Int) - (s.length:Int)).toNat)=A.drop s.length:=by rw [Nat.mul_one,List.take_of_length_le (by rw [List.length_drop];omega)]
    rw [e3] at hrb ⊢
    obtain ⟨qb',e4,hqb,_⟩:=hrb
    injection e4 with e4;subst e4
    replace st:=st.push (cellT qb (cP fI (A.drop s.length))) hnb hqb
    exact fin_two st
def Bk (f:List Sd):Nat→Nat→Nat→Prop
  | s,0,t=>s=t
  | s,m+1,t=>1≤s∧s≤f.length∧Bk f (tst f (s - 1)) m t
theorem Bk_app {f:List Sd} {b t:Nat}:∀{a s u:Nat},Bk f s a u→Bk f u b t→Bk f s (a+b) t
  | 0,s,u,h,k=>by
    have:s=u:=h
    subst this;rw [Nat.zero_add];exact k
  | a+1,s,u,h,k=>by
    rw [Nat.add_right_comm]
    exact ⟨h.1,h.2.1,Bk_app h.2.2 k⟩
theorem Bk_node {f:List Sd} (g:GoodFm f) {k:Nat} (hk:k < f.length):Bk f k (need (f.getD k default).op).toNat (tst f k):=by
  have hnd:=sdOk_need (g.ok k hk).1
  rcases (by omega:need (f.getD k default).op=0∨need (f.getD k default).op=1∨need (f.getD k default).op=2) with h | h | h
  · rw [h,tst0 h];rfl
  · obtain ⟨t1,t2⟩:=tst1 g hk h
    rw [h,t2];exact ⟨t1,by omega,rfl⟩
  · obtain ⟨t1,t2,t3,t4,_⟩:=tst2 g hk h
    rw [h,t4];exact ⟨t1,by omega,t2,by omega,rfl⟩
theorem subtree_spec (f:List Sd) (g:GoodFm f) {k:Nat} (hk:k < f.length):Pu Try.prog 64 [Ds f,I k] (Ds (subF f (tst f k) k)):=by
  have hl:=g.l1
  have htk:=tst_le g hk
  have hb0:=Bk_node g hk
  have hnd:=sdOk_need (g.ok k hk).1
  refine Pu.of fun H=>?_
  have ek:IntKind.i64.wrap ((k:Int)+1)=((k+1:Nat):Int):=by rw [i64_id (by omega) (by omega)];simp
  refine W64_ok ?_;simp (maxSteps:=1000000) (disch:=first | assumption | (apply ν6;assumption)) only [W64,vz,vu,vv,eqS,eF_,↓c1_,↓c2_,tabs,reduceCtorEq,ι5,↓reduceIte,ν1,ν2,ν3,ν4,ν5,ι1,ι2,ι3,ι4]
  refine ⟨by omega,by omega,?_⟩
  refine Pu.use (need_impl.operandsOfSaid_spec (f.getD k default).op) ?_
  generalize need (f.getD k default).op=n0 at hb0 hnd
  refine L64_0_rule (k,n0.toNat) (fun t=>I t.1) (fun t=>I t.2) (fun _=>H) (fun t=>t.1≤k∧t.2≤100+2*(k - t.1)∧Bk f t.1 t.2 (tst f k)) (fun t=>t.1) ⟨⟨Nat.le_refl _,by omega,hb0⟩,.refl _,by rw [wk_int];omega,Heap.le_refl _⟩ ?_
  rintro ⟨a,m⟩ ⟨ha,hm,hb⟩
  dsimp only at ha hm hb
  (try simp (maxSteps:=1000000) (disch:=first | assumption | (apply ν6;assumption)) only [vz,vu,vv,eqS,eF_,↓c1_,↓c2_,tabs,reduceCtorEq,ι5,↓reduceIte,ν1,ν2,ν3,ν4,ν5,ι1,ι2,ι3,ι4,B64_0,sliceV,ek])
  refine ⟨fun h1=>?_,fun h1=>?_⟩
  · obtain ⟨m,rfl⟩:∃m',m=m'+1:=⟨m - 1,by omega⟩
    obtain ⟨b1,b2,b3⟩:=hb
    have ea:IntKind.i64.wrap ((a:Int) - 1)=((a - 1:Nat):Int):=by rw [i64_id (by omega) (by omega)];omega
    rw [ea]
    have hb4:=Bk_app (Bk_node g (k:=a - 1) (by omega)) b3
    have hnd2:=sdOk_need (g.ok (a - 1) (by omega)).1
    refine ⟨by omega,by omega,?_⟩
    rw [Int.toNat_natCast]
    refine Pu.use (need_impl.operandsOfSaid_spec (f.getD (a - 1) default).op) ?_
    generalize need (f.getD (a - 1) default).op=n1 at hb4 hnd2
    have e1:IntKind.i64.wrap (((m+1:Nat):Int)+IntKind.i64.wrap (n1 - 1))=((n1.toNat+m:Nat):Int):=by
      rw [i64_id (n:=n1 - 1) (by omega) (by omega),i64_id (by omega) (by omega)];omega
    (try simp (maxSteps:=1000000) (disch:=first | assumption | (apply ν6;assumption)) only [vz,vu,vv,eqS,eF_,↓c1_,↓c2_,tabs,reduceCtorEq,ι5,↓reduceIte,ν1,ν2,ν3,ν4,ν5,ι1,ι2,ι3,ι4,e1])
    refine ⟨(a - 1,n1.toNat+m),⟨by simp only;omega,by simp only;omega,hb4⟩,by simp only;omega,.refl _,.refl _⟩
  · have:m=0:=by omega
    subst this
    have:a=tst f k:=hb
    subst this
    refine ⟨by omega,by omega,by omega,by omega,fun e he=>?_,.inr ?_⟩
    · obtain ⟨x,_,rfl⟩:=List.mem_map.1 he
      rfl
    · have e1:(((k+1:Nat):Int) - (tst f k:Int)).toNat=k+1 - tst f k:=by omega
      rw [e1,subF,Ds,List.map_take,List.map_drop]
def rowK (s l:List Int) (f:List Sd) (i k:Nat):List Int:=(List.range (s.length+l.length)).map fun j=>guK (colF (lasL s l) f j) (tr f) (if j < k then i+1 else i)
theorem rowK_0 (s l:List Int) (f:List Sd) (i:Nat):rowK s l f i 0=rfA s l f i:=by simp [rowK,rfA]
theorem rowK_N (s l:List Int) (f:List Sd) (i:Nat):rowK s l f i (s.length+l.length)=rfA s l f (i+1):=by
  unfold rowK rfA
  refine List.map_congr_left fun j hj=>?_
  rw [if_pos (List.mem_range.1 hj)]
theorem rowK_len (s l:List Int) (f:List Sd) (i k:Nat):(rowK s l f i k).length=s.length+l.length:=by simp [rowK]
theorem rowK_get {s l:List Int} {f:List Sd} {i k:Nat} (hk:k < s.length+l.length):(rowK s l f i k).getD k default=guK (colF (lasL s l) f k) (tr f) i:=by
  simp [rowK,List.getD,hk]
theorem rowK_succ {s l:List Int} {f:List Sd} {i k:Nat} (hk:k < s.length+l.length):rowK s l f i (k+1)=(rowK s l f i k).set k (guK (colF (lasL s l) f k) (tr f) (i+1)):=by
  refine List.ext_getElem (by simp [rowK]) fun j h1 h2=>?_
  rw [rowK_len] at h1
  by_cases e:j=k
  · subst e
    simp [rowK]
  · have:(j < k+1)=(j < k):=propext ⟨fun h=>by omega,fun h=>by omega⟩
    simp [rowK,List.getElem_set_ne (Ne.symm e),this]
theorem rfA_zero (s l:List Int) (f:List Sd):rfA s l f 0=List.replicate (s.length+l.length) 0:=by
  refine List.ext_getElem (by simp [rfA]) fun j h1 h2=>?_
  simp [rfA,guK]
def Row2 (a b:List Int) (ok:Bool) (r:AV) (G:Heap) (D:List Nat):Prop:=∃q1 q2,r=.tup [rowP q1 a,rowP q2 b,B ok]∧G q1=some (cP fI a)∧G q2=some (cP fI b)∧D=[q1,q2]∧q1≠q2
theorem Row2.res (a b:List Int) (ok:Bool):ResT (Row2 a b ok):=by
  refine ⟨?_,?_,?_⟩
  · rintro r G G' D ⟨q1,q2,rfl,h1,h2,rfl,hne⟩ hf
    exact ⟨q1,q2,rfl,hf q1 (by simp) _ h1,hf q2 (by simp) _ h2,rfl,hne⟩
  · rintro r G D ⟨q1,q2,rfl,h1,h2,rfl,hne⟩
    refine ⟨.inl ⟨_,rfl,fun u hu=>?_⟩,fun y hy bs hb c hc=>?_⟩
    · simp only [List.mem_cons,List.not_mem_nil,or_false] at hu
      rcases hu with rfl | rfl | rfl
      · exact .inr ⟨.inl ⟨_,_,_,_,rfl⟩,fun _=>rfl⟩
      · exact .inr ⟨.inl ⟨_,_,_,_,rfl⟩,fun _=>rfl⟩
      · exact .inr ⟨.p (.bool ok),fun _=>rfl⟩
    · simp only [List.mem_cons,List.not_mem_nil,or_false] at hy
      rcases hy with rfl | rfl
      · rw [h1] at hb;cases hb
        obtain ⟨x,_,rfl⟩:=List.mem_map.1 hc
        exact .p (.int _ _)
      · rw [h2] at hb;cases hb
        obtain ⟨x,_,rfl⟩:=List.mem_map.1 hc
        exact .p (.int _ _)
  · rintro r G D n G0 h0 ⟨q1,q2,rfl,h1,h2,rfl,hne⟩
    have e:∀xs:List Int,(cP fI xs).map (shC n)=cP fI xs:=fun xs=>by
      simp only [cP,List.map_map];rfl
    have sh:∀{q xs},G q=some (cP fI xs)→(Heap.or G0 (shH n G)) (q+n)=some (cP fI xs):=fun {q xs} hq=>by
      simp only [Heap.or,h0 (q+n) (by omega),shH,Nat.le_add_left,if_true,Nat.add_sub_cancel,hq,Option.map_some,e]
    exact ⟨q1+n,q2+n,rfl,sh h1,sh h2,rfl,by omega⟩
theorem row_setI {row:List Int} {k:Nat} {b:Int} (h:k < row.length):List.take (k*1) (cP fI row)++[I b]++List.drop (k*1+1) (cP fI row)=cP fI (row.set k b):=by
  rw [Nat.mul_one,cP,cP,List.map_set,List.set_eq_take_append_cons_drop,if_pos (by simpa using h)];simp
theorem cI_get {row:List Int} {k:Nat} (h:k < row.length):((((cP fI row).drop (k*1)).take 1).headD .any)=I (row.getD k default):=by rw [Nat.mul_one];exact read_row (f:=fI) default h
theorem RunFor_impl (f:List Sd) (hf:f.length≤1048576) (s l:List Int) (hs:s.length≤1048576) (hl:l.length≤1048576) {H:Heap} {K:AV→Heap→Prop} (h:∀r G D,Row2 (rfR f s l).1 (rfR f s l).2.1 (rfR f s l).2.2 r G D→New H G D→K r G):CallT Try.prog 13 [Ds f,aL2 s l] H K:=by
  refine CallT.finish ?_
  refine W13_ok ?_;simp (maxSteps:=1000000) (disch:=first | assumption | (apply ν6;assumption)) only [W13,vz,vu,vv,eqS,eF_,↓c1_,↓c2_,tabs,reduceCtorEq,ι5,↓reduceIte,ν1,ν2,ν3,ν4,ν5,ι1,ι2,ι3,ι4]
  intro r3 hr3
  have st:=(St.nil H).cell hr3 [Is s,Is l]
  generalize H.set r3 [Is s,Is l]=G at st ⊢
  clear hr3
  have bad:(goodT f && goodL s l)=false→FinK K (.tup [.p .nil,.p .nil,B false]) G:=by
    intro hb
    have e:rfR f s l=([],[],false):=by rw [rfR,hb];rfl
    rw [e] at h
    refine .wk (.forget st.le) (.ghost fun z1 hz1=>.ghost fun z2 hz2=>.wk (.val (v':=.tup [.sl z1 1 0 0,.sl z2 1 0 0,B false]) (wk_tup ⟨.nilo _ _ _,.nilo _ _ _,.refl _,trivial⟩)) (.done ?_))
    have hne:z1≠z2:=fun e=>by subst e;rw [Heap.set_same] at hz2;cases hz2
    rw [Heap.set_other (Ne.symm hne)] at hz2
    refine h _ _ [z1,z2] ⟨z1,z2,rfl,by rw [Heap.set_other hne,Heap.set_same];rfl,Heap.set_same _ _ _,rfl,hne⟩ ⟨by simpa using hne,fun y hy=>?_,fun y b hb=>?_⟩
    · simp only [List.mem_cons,List.not_mem_nil,or_false] at hy
      rcases hy with rfl | rfl
      · exact hz1
      · exact hz2
    · rw [Heap.set_other (fun e=>by rw [e,hz2] at hb;cases hb),Heap.set_other (fun e=>by rw [e,hz1] at hb;cases hb)];exact hb
  refine Pu.use (isTracked_spec f hf) ?_
  cases hg:goodT f
  · (try simp (maxSteps:=1000000) (disch:=first | assumption | (apply ν6;assumption)) only [vz,vu,vv,eqS,eF_,↓c1_,↓c2_,tabs,reduceCtorEq,ι5,↓reduceIte,ν1,ν2,ν3,ν4,ν5,ι1,ι2,ι3,ι4])
    exact bad (by rw [hg];rfl)
  (try simp (maxSteps:=1000000) (disch:=first | assumption | (apply ν6;assumption)) only [vz,vu,vv,eqS,eF_,↓c1_,↓c2_,tabs,reduceCtorEq,ι5,↓reduceIte,ν1,ν2,ν3,ν4,ν5,ι1,ι2,ι3,ι4,load_at (st.get 0 rfl)])
  refine Pu.use (GoodLassoI s l (by omega) (by omega)) ?_
  cases hgl:goodL s l
  · (try simp (maxSteps:=1000000) (disch:=first | assumption | (apply ν6;assumption)) only [vz,vu,vv,eqS,eF_,↓c1_,↓c2_,tabs,reduceCtorEq,ι5,↓reduceIte,ν1,ν2,ν3,ν4,ν5,ι1,ι2,ι3,ι4])
    exact bad (by rw [hg,hgl];rfl)
  clear bad
  obtain ⟨g,ht5⟩:=goodT_facts hg
  obtain ⟨h1,h2⟩:=goodL_facts hgl
  have eN:IntKind.i64.wrap ((s.length:Int)+(l.length:Int))=((s.length+l.length:Nat):Int):=by rw [i64_id (by omega) (by omega)];simp
  (try simp (maxSteps:=1000000) (disch:=first | assumption | (apply ν6;assumption)) only [vz,vu,vv,eqS,eF_,↓c1_,↓c2_,tabs,reduceCtorEq,ι5,↓reduceIte,ν1,ν2,ν3,ν4,ν5,ι1,ι2,ι3,ι4,load_at (st.get 0 rfl),eN,makeSliceV])
  refine ⟨by omega,by omega,by omega,by omega,fun q hq=>?_⟩
  replace st:=st.cell hq (zerosA (s.length+l.length) [I 0])
  generalize G.set q (zerosA (s.length+l.length) [I 0])=G2 at st ⊢
  have z0:zerosA (s.length+l.length) [I 0]=cP fI (rfA s l f 0):=by rw [rfA_zero,cP_rep]
  rw [z0] at st
  clear z0 hq
  refine Pu.use (tracked_spec f g) ?_
  (try simp (maxSteps:=1000000) (disch:=first | assumption | (apply ν6;assumption)) only [vz,vu,vv,eqS,eF_,↓c1_,↓c2_,tabs,reduceCtorEq,ι5,↓reduceIte,ν1,ν2,ν3,ν4,ν5,ι1,ι2,ι3,ι4])
  have htr:=tr_bd g
  refine L13_0_rule ((0:Nat),G2) (fun t=>I t.1) (fun t=>t.2) (fun t=>t.1≤(tr f).length∧St H [cellT q (cP fI (rfA s l f t.1)),cellT r3 [Is s,Is l]] t.2) (fun t=>(tr f).length - t.1)
    ⟨⟨by simp,st⟩,.refl _,Heap.le_refl _⟩ ?_
  clear st G2
  rintro ⟨i,G2⟩ ⟨hi,st⟩
  dsimp only at hi st
  have e5:IntKind.i64.wrap ((i:Int)+1)=((i+1:Nat):Int):=by rw [i64_id (by omega) (by omega)];simp
  (try simp (maxSteps:=1000000) (disch:=first | assumption | (apply ν6;assumption)) only [vz,vu,vv,eqS,eF_,↓c1_,↓c2_,tabs,reduceCtorEq,ι5,↓reduceIte,ν1,ν2,ν3,ν4,ν5,ι1,ι2,ι3,ι4,B13_0,load_at (st.get 1 rfl),sliceV,e5])
  refine ⟨fun h3=>⟨by omega,h3,?_⟩,fun h3=>?_⟩
  · have hit:i < (tr f).length:=by omega
    have hb:=getD_all (p:=fun x=>0≤x∧x < (f.length:Int)) (d:=default) htr hit
    have hgs:∀k,guK (colF (lasL s l) f k) (tr f) (i+1)=if (colF (lasL s l) f k).getD ((tr f).getD i default).toNat default=true then bitsI .or .i64 (guK (colF (lasL s l) f k) (tr f) i) (IntKind.i64.wrap (1*2^(min i 64))) else guK (colF (lasL s l) f k) (tr f) i:=fun k=>rfl
    generalize (tr f).getD i default=n at hb hgs ⊢
    obtain ⟨m,rfl⟩:∃m:Nat,n=m:=⟨n.toNat,by omega⟩
    have hm:m < f.length:=by omega
    refine Pu.use (subtree_spec f g hm) ?_
    (try simp (maxSteps:=1000000) (disch:=first | assumption | (apply ν6;assumption)) only [vz,vu,vv,eqS,eF_,↓c1_,↓c2_,tabs,reduceCtorEq,ι5,↓reduceIte,ν1,ν2,ν3,ν4,ν5,ι1,ι2,ι3,ι4,load_at (st.get 1 rfl)])
    refine along_spec s l h1 h2 _ (vals_sub g hm) ?_
    rw [run_tree g hm]
    have hrl:(rowF (lasL s l) f m).length=s.length+l.length:=rowF_len _ _ _
    have hcol:∀k,(colF (lasL s l) f k).getD m default=(rowF (lasL s l) f m).getD k default:=fun k=>colF_get hm
    simp only [Int.toNat_natCast,hcol] at hgs
    generalize rowF (lasL s l) f m=row at hrl hgs ⊢
    (try simp (maxSteps:=1000000) (disch:=first | assumption | (apply ν6;assumption)) only [vz,vu,vv,eqS,eF_,↓c1_,↓c2_,tabs,reduceCtorEq,ι5,↓reduceIte,ν1,ν2,ν3,ν4,ν5,ι1,ι2,ι3,ι4,List.headD_cons,hrl])
    rw [← rowK_0] at st
    refine L13_1_rule ((0:Nat),G2) (fun t=>I t.1) (fun t=>t.2) (fun t=>t.1≤s.length+l.length∧St H [cellT q (cP fI (rowK s l f i t.1)),cellT r3 [Is s,Is l]] t.2) (fun t=>s.length+l.length - t.1)
      ⟨⟨by simp,st⟩,.refl _,Heap.le_refl _⟩ ?_
    clear st G2
    rintro ⟨k,G2⟩ ⟨hk,st⟩
    dsimp only at hk st
    have e6:IntKind.i64.wrap ((k:Int)+1)=((k+1:Nat):Int):=by rw [i64_id (by omega) (by omega)];simp
    have hrl2:=rowK_len s l f i k
    have hcl2:(cP fI (rowK s l f i k)).length=s.length+l.length:=by rw [cP,List.length_map,hrl2]
    by_cases hkN:k < s.length+l.length
    · have hg2:=cI_get (row:=rowK s l f i k) (k:=k) (by omega)
      rw [rowK_get hkN] at hg2
      have hset:=row_setI (row:=rowK s l f i k) (k:=k) (b:=bitsI .or .i64 (guK (colF (lasL s l) f k) (tr f) i) (IntKind.i64.wrap (1*2^(min i 64)))) (by omega)
      have hsu:=rowK_succ (s:=s) (l:=l) (f:=f) (i:=i) hkN
      rw [hgs k] at hsu
      (try simp (maxSteps:=1000000) (disch:=first | assumption | (apply ν6;assumption)) only [vz,vu,vv,eqS,eF_,↓c1_,↓c2_,tabs,reduceCtorEq,ι5,↓reduceIte,ν1,ν2,ν3,ν4,ν5,ι1,ι2,ι3,ι4,B13_1,e6,load_at (st.get 0 rfl),store_at (st.get 0 rfl),hcl2,hg2])
      refine ⟨fun h4=>⟨by omega,by omega,fun h5=>?_,fun h5=>?_⟩,fun h4=>by omega⟩
      · rw [if_pos h5] at hsu
        refine ⟨by omega,by omega,by omega,by omega,by omega,by omega,by omega,?_⟩
        refine ⟨(k+1,_),⟨by simp only;omega,st.put 0 rfl (cP fI (rowK s l f i (k+1)))⟩,by simp only;omega,.refl _,?_⟩
        rw [hsu,← hset];exact Heap.le_refl _
      · rw [if_neg (by rw [h5];simp)] at hsu
        refine ⟨(k+1,G2),⟨by simp only;omega,?_⟩,by simp only;omega,.refl _,Heap.le_refl _⟩
        have e:rowK s l f i (k+1)=rowK s l f i k:=by
          rw [hsu,← rowK_get (k:=k) hkN]
          refine List.ext_getElem (by simp) fun j h1 h2=>?_
          by_cases e:j=k
          · subst e;simp [List.getD,h2]
          · rw [List.getElem_set_ne (Ne.symm e)]
        simp only [e];exact st
    · have:k=s.length+l.length:=by omega
      subst this
      rw [rowK_N] at st
      (try simp (maxSteps:=1000000) (disch:=first | assumption | (apply ν6;assumption)) only [vz,vu,vv,eqS,eF_,↓c1_,↓c2_,tabs,reduceCtorEq,ι5,↓reduceIte,ν1,ν2,ν3,ν4,ν5,ι1,ι2,ι3,ι4,B13_1,e6])
      refine ⟨fun h4=>by omega,fun _=>⟨(i+1,G2),⟨by simp only;omega,st⟩,by simp only;omega,?_,Heap.le_refl _⟩⟩
      rw [e5];exact .refl _
  · have:i=(tr f).length:=by omega
    subst this
    have eR:rfR f s l=((rfA s l f (tr f).length).take s.length,(rfA s l f (tr f).length).drop s.length,true):=by rw [rfR,hg,hgl];rfl
    rw [eR] at h
    have hAl:=rfA_len s l f (tr f).length
    generalize rfA s l f (tr f).length=A at st hAl h
    have hq:=(st.get 0 rfl:G2 q=_)
    have hcl:(cP fI A).length=s.length+l.length:=by rw [cP,List.length_map,hAl]
    refine ⟨by omega,by omega,by omega,by omega,by omega,by omega,by omega,by omega,?_⟩
    rw [if_neg (by simp),if_neg (by simp)]
    refine Clone_part hq (by omega) (by omega) fun qa Ga hra hna=>?_
    have e1:((A.drop 0).take s.length)=A.take s.length:=rfl
    rw [e1] at hra ⊢
    obtain ⟨qa',e2,hqa,_⟩:=hra
    injection e2 with e2;subst e2
    replace st:=st.push (cellT qa (cP fI (A.take s.length))) hna hqa
    (try simp (maxSteps:=1000000) (disch:=first | assumption | (apply ν6;assumption)) only [vz,vu,vv,eqS,eF_,↓c1_,↓c2_,tabs,reduceCtorEq,ι5,↓reduceIte,ν1,ν2,ν3,ν4,ν5,ι1,ι2,ι3,ι4,load_at (st.get 2 rfl)])
    have hq3:Ga q=some (cP fI A):=hna.le _ _ hq
    refine Clone_part hq3 (by omega) (by omega) fun qb Gb hrb hnb=>?_
    have e3:((A.drop (s.length*1)).take (((s.length+l.length:Nat):Int) - (s.length:Int)).toNat)=A.drop s.length:=by rw [Nat.mul_one,List.take_of_length_le (by rw [List.length_drop];omega)]
    rw [e3] at hrb ⊢
    obtain ⟨qb',e4,hqb,_⟩:=hrb
    injection e4 with e4;subst e4
    replace st:=st.push (cellT qb (cP fI (A.drop s.length))) hnb hqb
    have hne:qa≠qb:=fun e=>st.disj qb (by simp [cellT]) (by simp [cellT,e])
    refine .done (h _ _ [qa,qb] ⟨qa,qb,rfl,st.get 1 rfl,st.get 0 rfl,rfl,hne⟩ ⟨by simpa using hne,fun y hy=>?_,st.le⟩)
    simp only [List.mem_cons,List.not_mem_nil,or_false] at hy
    rcases hy with rfl | rfl
    · exact st.fr (cellT y (cP fI (A.take s.length))) (by simp) y (by simp [cellT])
    · exact st.fr (cellT y (cP fI (A.drop s.length))) (by simp) y (by simp [cellT])
end Go.Proofs.Ytjdhigcefkihiaa
namespace Go.Proofs.Ytjdhigcefkihiaa
open Go Go.Sep Go.Pt
attribute [local irreducible] CallT
theorem szR_nW {left:Int} {n:Nat} (h:¬szR left n < 0):(n:Int)≤left∧szR left n=left - n:=by
  unfold szR at h ⊢
  split at h
  · rename_i h2;rw [if_pos h2];exact ⟨by omega,rfl⟩
  · omega
theorem szLasso_spec (s l:List Int) (left:Int) (h0:0≤left) (h1:left≤1048576) (o1:ok s.length) (o2:ok l.length):Pu Try.prog 9 [aL2 s l,I left] (I (szR left (s.length+l.length))):=by
  refine Pu.of fun H=>?_
  refine W9_ok ?_;simp (maxSteps:=1000000) (disch:=first | assumption | (apply ν6;assumption)) only [W9,vz,vu,vv,eqS,eF_,↓c1_,↓c2_,tabs,reduceCtorEq,ι5,↓reduceIte,ν1,ν2,ν3,ν4,ν5,ι1,ι2,ι3,ι4]
  intro r hr
  have hle:=Heap.le_set (b:=[Is s,Is l]) hr
  refine Pu.use (szIntS_spec s left h0 h1 o1) ?_
  (try simp (maxSteps:=1000000) (disch:=first | assumption | (apply ν6;assumption)) only [vz,vu,vv,eqS,eF_,↓c1_,↓c2_,tabs,reduceCtorEq,ι5,↓reduceIte,ν1,ν2,ν3,ν4,ν5,ι1,ι2,ι3,ι4])
  refine ⟨fun h=>⟨?_,hle⟩,fun h=>?_⟩
  · unfold szR at h ⊢
    rw [if_neg (by split at h<;>omega)]
  obtain ⟨t1,t2⟩:=szR_nW h
  rw [t2]
  refine Pu.use (szIntS_spec l _ (by omega) (by omega) o2) ?_
  (try simp (maxSteps:=1000000) (disch:=first | assumption | (apply ν6;assumption)) only [vz,vu,vv,eqS,eF_,↓c1_,↓c2_,tabs,reduceCtorEq,ι5,↓reduceIte,ν1,ν2,ν3,ν4,ν5,ι1,ι2,ι3,ι4])
  refine ⟨fun h=>⟨?_,hle⟩,fun h=>⟨?_,hle⟩⟩
  · have h9:¬((l.length:Int)≤left - s.length):=fun h8=>by
      rw [szR,if_pos h8] at h;omega
    rw [szR,if_neg (by omega)]
  · obtain ⟨t3,t4⟩:=szR_nW h
    have e9:szR left (s.length+l.length)=left - s.length - l.length:=by rw [szR,if_pos (by omega)];omega
    rw [t4,e9]
theorem toLasso_spec (s l:List Int) (h1:s.length≤1048576) (h2:l.length≤1048576):Pu Try.prog 12 [aL2 s l] (aL2 s l):=by
  refine Pu.of fun H=>?_
  refine W12_ok ?_;simp (maxSteps:=1000000) (disch:=first | assumption | (apply ν6;assumption)) only [W12,vz,vu,vv,eqS,eF_,↓c1_,↓c2_,tabs,reduceCtorEq,ι5,↓reduceIte,ν1,ν2,ν3,ν4,ν5,ι1,ι2,ι3,ι4]
  intro r hr r2 n2 hr2 r3 n32 n3 hr3
  have nn2:=Ne.symm n2
  have nn3:=Ne.symm n3
  have nn32:=Ne.symm n32
  have hle:∀b c,Heap.le H (((H.set r [Is s,Is l]).set r2 b).set r3 c):=fun b c=>by
    (intro y b hy;simp only [Heap.set,Heap.del] at hy ⊢;(repeat' split at hy)<;>(repeat' split)<;>simp_all [cells])
  (try simp (maxSteps:=1000000) (disch:=first | assumption | (apply ν6;assumption)) only [vz,vu,vv,eqS,eF_,↓c1_,↓c2_,tabs,reduceCtorEq,ι5,↓reduceIte,ν1,ν2,ν3,ν4,ν5,ι1,ι2,ι3,ι4])
  refine Pu.use (toIntS_spec s h1) ?_
  (try simp (maxSteps:=1000000) (disch:=first | assumption | (apply ν6;assumption)) only [vz,vu,vv,eqS,eF_,↓c1_,↓c2_,tabs,reduceCtorEq,ι5,↓reduceIte,ν1,ν2,ν3,ν4,ν5,ι1,ι2,ι3,ι4])
  refine Pu.use (toIntS_spec l h2) ?_
  (try simp (maxSteps:=1000000) (disch:=first | assumption | (apply ν6;assumption)) only [vz,vu,vv,eqS,eF_,↓c1_,↓c2_,tabs,reduceCtorEq,ι5,↓reduceIte,ν1,ν2,ν3,ν4,ν5,ι1,ι2,ι3,ι4])
  (intro y b hy;simp only [Heap.set,Heap.del] at hy ⊢;(repeat' split at hy)<;>(repeat' split)<;>simp_all [cells])
theorem toLasso_live (s l:List Int) (h1:s.length≤1048576) (h2:l.length≤1048576) {H:Heap} {K:AV→Heap→Prop} (h:∀v G D,RL s l v G D→New H G D→K v G):CallT Try.prog 12 [aL2 s l] H K:=by
  refine CallT.fin ?_
  refine W12_ok ?_;simp (maxSteps:=1000000) (disch:=first | assumption | (apply ν6;assumption)) only [W12,vz,vu,vv,eqS,eF_,↓c1_,↓c2_,tabs,reduceCtorEq,ι5,↓reduceIte,ν1,ν2,ν3,ν4,ν5,ι1,ι2,ι3,ι4]
  intro r hr r2 n2 hr2 r3 n32 n3 hr3
  have st:=(((St.nil H).cell hr [Is s,Is l]).cell (r:=r2) (by rw [Heap.set_other n2];exact hr2) [.p .nil,.p .nil]).cell (r:=r3) (by rw [Heap.set_other n32,Heap.set_other n3];exact hr3) [.p .nil,.p .nil]
  generalize ((H.set r [Is s,Is l]).set r2 [.p .nil,.p .nil]).set r3 [.p .nil,.p .nil]=G at st ⊢
  clear hr hr2 hr3 n2 n32 n3
  (try simp (maxSteps:=1000000) (disch:=first | assumption | (apply ν6;assumption)) only [vz,vu,vv,eqS,eF_,↓c1_,↓c2_,tabs,reduceCtorEq,ι5,↓reduceIte,ν1,ν2,ν3,ν4,ν5,ι1,ι2,ι3,ι4,load_at (st.get 2 rfl)])
  refine toIntS_live s h1 fun x G1 D hx hn=>?_
  obtain ⟨q1,rfl,hq1,rfl⟩:=LI_row hx
  replace st:=st.push (cellT q1 (cP fI s)) hn (by rw [← cells_P];exact hq1)
  clear hx hn hq1
  (try simp (maxSteps:=1000000) (disch:=first | assumption | (apply ν6;assumption)) only [vz,vu,vv,eqS,eF_,↓c1_,↓c2_,tabs,reduceCtorEq,ι5,↓reduceIte,ν1,ν2,ν3,ν4,ν5,ι1,ι2,ι3,ι4,store_at (st.get 1 rfl)])
  replace st:=st.put 1 rfl [rowP q1 s,.p .nil]
  generalize G1.set r3 [rowP q1 s,.p .nil]=G2 at st ⊢
  (try simp (maxSteps:=1000000) (disch:=first | assumption | (apply ν6;assumption)) only [vz,vu,vv,eqS,eF_,↓c1_,↓c2_,tabs,reduceCtorEq,ι5,↓reduceIte,ν1,ν2,ν3,ν4,ν5,ι1,ι2,ι3,ι4,load_at (st.get 3 rfl)])
  refine toIntS_live l h2 fun x G3 D hx hn=>?_
  obtain ⟨q2,rfl,hq2,rfl⟩:=LI_row hx
  replace st:=st.push (cellT q2 (cP fI l)) hn (by rw [← cells_P];exact hq2)
  clear hx hn hq2
  (try simp (maxSteps:=1000000) (disch:=first | assumption | (apply ν6;assumption)) only [vz,vu,vv,eqS,eF_,↓c1_,↓c2_,tabs,reduceCtorEq,ι5,↓reduceIte,ν1,ν2,ν3,ν4,ν5,ι1,ι2,ι3,ι4,store_at (st.get 2 rfl),load_at (st.get 2 rfl)])
  replace st:=st.put 2 rfl [rowP q1 s,rowP q2 l]
  generalize G3.set r3 [rowP q1 s,rowP q2 l]=G4 at st ⊢
  (try simp (maxSteps:=1000000) (disch:=first | assumption | (apply ν6;assumption)) only [vz,vu,vv,eqS,eF_,↓c1_,↓c2_,tabs,reduceCtorEq,ι5,↓reduceIte,ν1,ν2,ν3,ν4,ν5,ι1,ι2,ι3,ι4,store_at (st.get 3 rfl),load_at (st.get 2 rfl)])
  replace st:=st.put 3 rfl [rowP q1 s,rowP q2 l]
  generalize G4.set r2 [rowP q1 s,rowP q2 l]=G5 at st ⊢
  have hne:q1≠q2:=fun e=>st.disjI 1 0 rfl rfl (by decide) q2 (by simp [cellT,e]) (by simp [cellT])
  refine wkK.keep (h _ G5 [q1,q2] (.inr ⟨q1,q2,rfl,st.get 1 rfl,st.get 0 rfl,rfl,hne⟩) ⟨by simpa using hne,fun y hy=>?_,st.le⟩)
  simp only [List.mem_cons,List.not_mem_nil,or_false] at hy
  rcases hy with rfl | rfl
  · exact st.fr _ (List.mem_of_getElem? (i:=1) rfl) _ (by simp [cellT])
  · exact st.fr _ (List.mem_of_getElem? (i:=0) rfl) _ (by simp [cellT])
end Go.Proofs.Ytjdhigcefkihiaa
