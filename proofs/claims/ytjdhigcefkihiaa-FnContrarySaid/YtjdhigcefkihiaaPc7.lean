/- Texts laid together: Hf2 Lt5 Lu0 Hf3 Ql2 Hf4 Hc1 Hc2. -/
import Derived.Test.YtjdhigcefkihiaaPc6
set_option linter.unusedVariables false
set_option linter.unusedSimpArgs false
open Nat renaming reduceAdd→ν1,reduceLeDiff→ν2,reduceLT→ν3,reduceMul→ν4,reduceSub→ν5
open Int renaming reduceToNat→ι1,reduceSub→ι2,reduceAdd→ι3,reduceNeg→ι4
open Array renaming toList→ι5
open Ne renaming symm→ν6
open List renaming forall_mem_cons→ν7
namespace Go.Proofs.Ytjdhigcefkihiaa
open Go Go.Sep Go.Pt
attribute [local irreducible] CallT
def lasL (s l:List Int):Las:=⟨bitF,letW s l,nxW s l,s.length+l.length⟩
abbrev vB (l:List Bool):PV:=.sl (l.map eBo)
theorem clo_1 {r5:Nat} {ops:List (List Bool)} {k:Nat} {G:Heap} (hG:G r5=some [.p (.sl (ops.map fun r=>[vB r]))]) (h0:0 < ops.length) (hk:k < (ops.getD 0 []).length) {K:AV→Heap→Prop} (h:K (B ((ops.getD 0 []).getD k default)) G):CallT Try.prog 128 [I k,.ptr r5 0] G K:=by
  have hk':k < (ops.getD 0 default).length:=hk
  refine W128_ok ?_;simp (maxSteps:=1000000) (disch:=first | assumption | (apply ν6;assumption)) only [W128,vz,vu,vv,eqS,eF_,↓c1_,↓c2_,tabs,reduceCtorEq,ι5,↓reduceIte,ν1,ν2,ν3,ν4,ν5,ι1,ι2,ι3,ι4,load_at hG]
  exact ⟨by omega,by omega,by omega,by omega,h⟩
theorem clo_2 {r5:Nat} {ops:List (List Bool)} {k:Nat} {G:Heap} (hG:G r5=some [.p (.sl (ops.map fun r=>[vB r]))]) (h0:1 < ops.length) (hk:k < (ops.getD 1 []).length) {K:AV→Heap→Prop} (h:K (B ((ops.getD 1 []).getD k default)) G):CallT Try.prog 129 [I k,.ptr r5 0] G K:=by
  have hk':k < (ops.getD 1 default).length:=hk
  refine W129_ok ?_;simp (maxSteps:=1000000) (disch:=first | assumption | (apply ν6;assumption)) only [W129,vz,vu,vv,eqS,eF_,↓c1_,↓c2_,tabs,reduceCtorEq,ι5,↓reduceIte,ν1,ν2,ν3,ν4,ν5,ι1,ι2,ι3,ι4,load_at hG]
  exact ⟨by omega,by omega,by omega,by omega,h⟩
theorem clo_3 {r5 r7 r8:Nat} {ops:List (List Bool)} {k:Nat} {nb:Bool} {G:Heap} (hG:G r5=some [.p (.sl (ops.map fun r=>[vB r]))]) (h7:G r7=some [.fn 128 [.ptr r5 0]]) (h8:G r8=some [.fn 129 [.ptr r5 0]])
    (h0:1 < ops.length) (hk0:k < (ops.getD 0 []).length) (hk:k < (ops.getD 1 []).length) {K:AV→Heap→Prop} (h:K (B ((ops.getD 1 []).getD k default || ((ops.getD 0 []).getD k default && nb))) G):CallT Try.prog 131 [I k,B nb,.ptr r8 0,.ptr r7 0] G K:=by
  refine W131_ok ?_;simp (maxSteps:=1000000) (disch:=first | assumption | (apply ν6;assumption)) only [W131,vz,vu,vv,eqS,eF_,↓c1_,↓c2_,tabs,reduceCtorEq,ι5,↓reduceIte,ν1,ν2,ν3,ν4,ν5,ι1,ι2,ι3,ι4,load_at h7,load_at h8]
  refine clo_2 hG h0 hk ?_
  generalize (ops.getD 1 []).getD k default=u at h ⊢
  cases u
  · (try simp (maxSteps:=1000000) (disch:=first | assumption | (apply ν6;assumption)) only [vz,vu,vv,eqS,eF_,↓c1_,↓c2_,tabs,reduceCtorEq,ι5,↓reduceIte,ν1,ν2,ν3,ν4,ν5,ι1,ι2,ι3,ι4,load_at h7])
    refine clo_1 hG (by omega) hk0 ?_
    generalize (ops.getD 0 []).getD k default=u at h ⊢
    cases u
    · (try simp (maxSteps:=1000000) (disch:=first | assumption | (apply ν6;assumption)) only [vz,vu,vv,eqS,eF_,↓c1_,↓c2_,tabs,reduceCtorEq,ι5,↓reduceIte,ν1,ν2,ν3,ν4,ν5,ι1,ι2,ι3,ι4])
      exact h
    · (try simp (maxSteps:=1000000) (disch:=first | assumption | (apply ν6;assumption)) only [vz,vu,vv,eqS,eF_,↓c1_,↓c2_,tabs,reduceCtorEq,ι5,↓reduceIte,ν1,ν2,ν3,ν4,ν5,ι1,ι2,ι3,ι4])
      exact h
  · (try simp (maxSteps:=1000000) (disch:=first | assumption | (apply ν6;assumption)) only [vz,vu,vv,eqS,eF_,↓c1_,↓c2_,tabs,reduceCtorEq,ι5,↓reduceIte,ν1,ν2,ν3,ν4,ν5,ι1,ι2,ι3,ι4])
    exact h
theorem clo_4 {r5 r7 r8:Nat} {ops:List (List Bool)} {k:Nat} {nb:Bool} {G:Heap} (hG:G r5=some [.p (.sl (ops.map fun r=>[vB r]))]) (h7:G r7=some [.fn 128 [.ptr r5 0]]) (h8:G r8=some [.fn 129 [.ptr r5 0]])
    (h0:1 < ops.length) (hk0:k < (ops.getD 0 []).length) (hk:k < (ops.getD 1 []).length) {K:AV→Heap→Prop} (h:K (B ((ops.getD 1 []).getD k default && ((ops.getD 0 []).getD k default || nb))) G):CallT Try.prog 132 [I k,B nb,.ptr r8 0,.ptr r7 0] G K:=by
  refine W132_ok ?_;simp (maxSteps:=1000000) (disch:=first | assumption | (apply ν6;assumption)) only [W132,vz,vu,vv,eqS,eF_,↓c1_,↓c2_,tabs,reduceCtorEq,ι5,↓reduceIte,ν1,ν2,ν3,ν4,ν5,ι1,ι2,ι3,ι4,load_at h7,load_at h8]
  refine clo_2 hG h0 hk ?_
  generalize (ops.getD 1 []).getD k default=u at h ⊢
  cases u
  · (try simp (maxSteps:=1000000) (disch:=first | assumption | (apply ν6;assumption)) only [vz,vu,vv,eqS,eF_,↓c1_,↓c2_,tabs,reduceCtorEq,ι5,↓reduceIte,ν1,ν2,ν3,ν4,ν5,ι1,ι2,ι3,ι4])
    exact h
  · (try simp (maxSteps:=1000000) (disch:=first | assumption | (apply ν6;assumption)) only [vz,vu,vv,eqS,eF_,↓c1_,↓c2_,tabs,reduceCtorEq,ι5,↓reduceIte,ν1,ν2,ν3,ν4,ν5,ι1,ι2,ι3,ι4,load_at h7])
    refine clo_1 hG (by omega) hk0 ?_
    generalize (ops.getD 0 []).getD k default=u at h ⊢
    cases u
    · (try simp (maxSteps:=1000000) (disch:=first | assumption | (apply ν6;assumption)) only [vz,vu,vv,eqS,eF_,↓c1_,↓c2_,tabs,reduceCtorEq,ι5,↓reduceIte,ν1,ν2,ν3,ν4,ν5,ι1,ι2,ι3,ι4])
      exact h
    · (try simp (maxSteps:=1000000) (disch:=first | assumption | (apply ν6;assumption)) only [vz,vu,vv,eqS,eF_,↓c1_,↓c2_,tabs,reduceCtorEq,ι5,↓reduceIte,ν1,ν2,ν3,ν4,ν5,ι1,ι2,ι3,ι4])
      exact h
theorem litB {b:Bool} {G:Heap} {K:AV→Heap→Prop} (h:K (.p (.sl ([b].map eBo))) G):buildSliceV tab 76 1 [(0,B b)] G (wkK K):=lit1 tab_76 rfl tab_4 ⟨rfl,rfl⟩ h
theorem rnB_val {H G:Heap} {Ts:List Th} {x:AV} {l:List Bool} {D:List Nat} (s:St H Ts G) (i:Nat) (hi:Ts[i]?=some (rnB x l D)):wkK (fun r H'=>r=.p (vB l)∧H'=H) x G:=by
  rcases rnB_cases (s.get i hi) with ⟨rfl,rfl,rfl⟩ | ⟨q,rfl,hq,rfl⟩
  · exact ⟨_,_,.trans (.val .nil) (.forget s.le),rfl,rfl⟩
  · have:=fin_own (sz:=1) (es:=l.map eBo) (q:=q) (H:=H) (H':=G) (K:=fun r H'=>r=.p (vB l)∧H'=H) (by omega) (sizedMap (f:=eBo) (fun _=>rfl) l) (s.fr _ (List.mem_of_getElem? hi) q (by simp [rnT])) (fun y b hy=>by
      by_cases e:y=q
      · subst e;rw [Heap.set_same] at hy;rw [← hy,hq];exact congrArg some (cells_P fB l).symm
      · rw [Heap.set_other e] at hy;exact s.le y b hy) ⟨rfl,rfl⟩
    simpa only [Go.Sep.own,List.length_map] using this
theorem holdsAlong_spec (s l:List Int) (h1:s.length≤24) (h2:1≤l.length∧l.length≤24) (x:Sd) (hx:sdOk x=true) (ops:List (List Bool)) (ho:(ops.length:Int)=need x.op) (hops:∀r∈ops,r.length=s.length+l.length) (A Bz:List Bool)
    (e1:need x.op=1→ops=[Bz]) (e2:need x.op=2→ops=[A,Bz]) {H:Heap} {K:AV→Heap→Prop} (h:K (.p (vB (rowV (lasL s l) x A Bz))) H):CallT Try.prog 107 [aL2 s l,aD x,.p (.sl (ops.map fun r=>[vB r]))] H K:=by
  refine CallT.fin ?_
  refine W107_ok ?_;simp (maxSteps:=1000000) (disch:=first | assumption | (apply ν6;assumption)) only [W107,vz,vu,vv,eqS,eF_,↓c1_,↓c2_,tabs,reduceCtorEq,ι5,↓reduceIte,ν1,ν2,ν3,ν4,ν5,ι1,ι2,ι3,ι4]
  intro r3 hr3 r4 n4 hr4 r5 n5 n53 hr5
  intro r7 n75 n74 n73 hr7 r8 n87 n85 n84 n83 hr8
  have st:=(((((St.nil H).cell hr3 [Is s,Is l]).cell (r:=r4) (by rw [Heap.set_other n4];exact hr4) [I x.op,I x.n]).cell (r:=r5) (by rw [Heap.set_other n5,Heap.set_other n53];exact hr5) [.p (.sl (ops.map fun r=>[vB r]))]).cell (r:=r7) (by rw [Heap.set_other n75,Heap.set_other n74,Heap.set_other n73];exact hr7) [.nilfn]).cell (r:=r8) (by rw [Heap.set_other n87,Heap.set_other n85,Heap.set_other n84,Heap.set_other n83];exact hr8) [.nilfn]
  generalize ((((H.set r3 [Is s,Is l]).set r4 [I x.op,I x.n]).set r5 [.p (.sl (ops.map fun r=>[vB r]))]).set r7 [.nilfn]).set r8 [.nilfn]=G at st ⊢
  clear hr3 n4 hr4 n5 n53 hr5 n75 n74 n73 hr7 n87 n85 n84 n83 hr8
  rw [store_at (st.get 1 rfl)]
  replace st:=st.put 1 rfl [.fn 128 [.ptr r5 0]]
  (try simp (maxSteps:=1000000) (disch:=first | assumption | (apply ν6;assumption)) only [vz,vu,vv,eqS,eF_,↓c1_,↓c2_,tabs,reduceCtorEq,ι5,↓reduceIte,ν1,ν2,ν3,ν4,ν5,ι1,ι2,ι3,ι4])
  generalize G.set r7 [.fn 128 [.ptr r5 0]]=G1 at st ⊢
  simp only [List.set_cons_succ,List.set_cons_zero] at st
  rw [store_at (st.get 0 rfl)]
  replace st:=st.put 0 rfl [.fn 129 [.ptr r5 0]]
  (try simp (maxSteps:=1000000) (disch:=first | assumption | (apply ν6;assumption)) only [vz,vu,vv,eqS,eF_,↓c1_,↓c2_,tabs,reduceCtorEq,ι5,↓reduceIte,ν1,ν2,ν3,ν4,ν5,ι1,ι2,ι3,ι4])
  generalize G1.set r8 [.fn 129 [.ptr r5 0]]=G2 at st ⊢
  simp only [List.set_cons_succ,List.set_cons_zero] at st
  (try simp (maxSteps:=1000000) (disch:=first | assumption | (apply ν6;assumption)) only [vz,vu,vv,eqS,eF_,↓c1_,↓c2_,tabs,reduceCtorEq,ι5,↓reduceIte,ν1,ν2,ν3,ν4,ν5,ι1,ι2,ι3,ι4,load_at (st.get 4 rfl),load_at (st.get 3 rfl)])
  have key:∀(g:Nat→Bool→Bool),(∀k,k < s.length+l.length→∀b,cellV bitF (letW s l) (nxW s l) x A Bz k b=g k b)→rowV (lasL s l) x A Bz=fixR (nxW s l) (s.length+l.length) (decide (x.op=8)) g:=fun g hg=>fixR_congr hg
  have eN:IntKind.i64.wrap ((s.length:Int)+(l.length:Int))=((s.length+l.length:Nat):Int):=by rw [i64_id (by omega) (by omega)];simp
  refine ⟨fun c7=>?_,fun c7=>⟨fun c8=>?_,fun c8=>?_⟩⟩
  · have hn:need x.op=2:=by rw [c7];rfl
    have he:=e2 hn
    refine fixed_spec s l h1 h2 false _ _ (fun k nb=>Bz.getD k default || (A.getD k default && nb)) (fun {k nb G K} hk hle hK=>?_) ⟨_,_,.forget st.le,?_⟩
    · simp only [callF,List.cons_append,List.nil_append]
      have hA:=hops A (by rw [he];simp)
      have hB:=hops Bz (by rw [he];simp)
      refine clo_3 (ops:=ops) (hle _ _ (st.get 2 rfl)) (hle _ _ (st.get 1 rfl)) (hle _ _ (st.get 0 rfl)) (by rw [he];simp) (by rw [he];exact hA ▸ hk) (by rw [he];exact hB ▸ hk) ?_
      rw [he];exact hK
    · have:=key (fun k nb=>Bz.getD k default || (A.getD k default && nb)) fun k hk b=>by simp [cellV,c7]
      rw [this,c7] at h;exact h
  · have hn:need x.op=2:=by rw [c8];rfl
    have he:=e2 hn
    refine fixed_spec s l h1 h2 true _ _ (fun k nb=>Bz.getD k default && (A.getD k default || nb)) (fun {k nb G K} hk hle hK=>?_) ⟨_,_,.forget st.le,?_⟩
    · simp only [callF,List.cons_append,List.nil_append]
      have hA:=hops A (by rw [he];simp)
      have hB:=hops Bz (by rw [he];simp)
      refine clo_4 (ops:=ops) (hle _ _ (st.get 2 rfl)) (hle _ _ (st.get 1 rfl)) (hle _ _ (st.get 0 rfl)) (by rw [he];simp) (by rw [he];exact hA ▸ hk) (by rw [he];exact hB ▸ hk) ?_
      rw [he];exact hK
    · have:=key (fun k nb=>Bz.getD k default && (A.getD k default || nb)) fun k hk b=>by simp [cellV,c8]
      rw [this,c8] at h;exact h
  · refine lit0B fun q0 hq0=>?_
    replace st:=st.push (rnB (.sl q0 1 0 0) [] [q0]) (New.cell hq0) (.inr ⟨q0,[],[],rfl,Heap.set_same _ _ _,⟨rfl,rfl⟩,rfl⟩)
    generalize G2.set q0 []=G3 at st ⊢
    (try simp (maxSteps:=1000000) (disch:=first | assumption | (apply ν6;assumption)) only [vz,vu,vv,eqS,eF_,↓c1_,↓c2_,tabs,reduceCtorEq,ι5,↓reduceIte,ν1,ν2,ν3,ν4,ν5,ι1,ι2,ι3,ι4,load_at (st.get 5 rfl),eN])
    have hop:x.op=1∨x.op=2∨x.op=3∨x.op=4∨x.op=5∨x.op=6:=by
      have:=sdOk_need hx
      rcases need_cases x.op with h | h | h | h<;>omega
    have hcl:∀k b,cellV bitF (letW s l) (nxW s l) x A Bz k b=cellV bitF (letW s l) (nxW s l) x A Bz k false:=fun k b=>by rcases hop with e | e | e | e | e | e<;>simp [cellV,e]
    have hrow:rowV (lasL s l) x A Bz=(List.range (s.length+l.length)).map fun k=>cellV bitF (letW s l) (nxW s l) x A Bz k false:=(key _ fun k _ b=>hcl k b).trans (fixR_const ..)
    rw [hrow] at h
    clear key hrow hcl hq0
    refine L107_0_rule ((0:Nat),(.sl q0 1 0 0:AV),[q0],G3) (fun s=>s.2.1) (fun s=>I s.1) (fun s=>s.2.2.2)
      (fun t=>t.1≤s.length+l.length∧St H [rnB t.2.1 ((List.range t.1).map fun k=>cellV bitF (letW s l) (nxW s l) x A Bz k false) t.2.2.1,cellT r8 [.fn 129 [.ptr r5 0]],cellT r7 [.fn 128 [.ptr r5 0]],cellT r5 [.p (.sl (ops.map fun r=>[vB r]))],cellT r4 [I x.op,I x.n],cellT r3 [Is s,Is l]] t.2.2.2) (fun t=>s.length+l.length - t.1)
      ⟨⟨by simp,st⟩,.refl _,.refl _,Heap.le_refl _⟩ ?_
    clear st
    rintro ⟨i,x1,D,G⟩ ⟨hi,st⟩
    dsimp only at hi st
    have e5:IntKind.i64.wrap ((i:Int)+1)=((i+1:Nat):Int):=by rw [i64_id (by omega) (by omega)];simp
    (try simp (maxSteps:=1000000) (disch:=first | assumption | (apply ν6;assumption)) only [vz,vu,vv,eqS,eF_,↓c1_,↓c2_,tabs,reduceCtorEq,ι5,↓reduceIte,ν1,ν2,ν3,ν4,ν5,ι1,ι2,ι3,ι4,B107_0,load_at (st.get 1 rfl),load_at (st.get 2 rfl),load_at (st.get 4 rfl),load_at (st.get 5 rfl),e5])
    refine ⟨fun h3=>?_,fun h3=>?_⟩
    · have hlt:i < s.length+l.length:=by omega
      have dir:∀bv:Bool,bv=cellV bitF (letW s l) (nxW s l) x A Bz i false→∀N2:AV→Heap→Prop,(∀q' G',St H [rnB (.sl q' 1 0 (i+1)) ((List.range (i+1)).map fun k=>cellV bitF (letW s l) (nxW s l) x A Bz k false) [q'],cellT r8 [.fn 129 [.ptr r5 0]],cellT r7 [.fn 128 [.ptr r5 0]],cellT r5 [.p (.sl (ops.map fun r=>[vB r]))],cellT r4 [I x.op,I x.n],cellT r3 [Is s,Is l]] G'→N2 (.sl q' 1 0 (i+1)) G')→
          buildSliceV tab 76 1 [(0,B bv)] G (wkK fun v87 H12=>appendV tab 76 76 x1 v87 H12 (wkK N2)):=by
        intro bv hbv N2 hN
        refine litB ?_
        refine rn_appB (ys:=[bv]) st 0 rfl (by simp only [List.length_map,List.length_range,List.length_singleton];omega) fun q' G' hq' st=>?_
        have:=hN q' G'
        rw [List.range_succ,List.map_append,List.map_singleton,← hbv] at this
        have e:rowP q' (((List.range i).map fun k=>cellV bitF (letW s l) (nxW s l) x A Bz k false)++[bv])=.sl q' 1 0 (i+1):=by simp [rowP]
        rw [e] at st ⊢
        exact this st
      have fin:∀bv:Bool,bv=cellV bitF (letW s l) (nxW s l) x A Bz i false→∀N1:AV→AV→Heap→Prop,(∀q' G',St H [rnB (.sl q' 1 0 (i+1)) ((List.range (i+1)).map fun k=>cellV bitF (letW s l) (nxW s l) x A Bz k false) [q'],cellT r8 [.fn 129 [.ptr r5 0]],cellT r7 [.fn 128 [.ptr r5 0]],cellT r5 [.p (.sl (ops.map fun r=>[vB r]))],cellT r4 [I x.op,I x.n],cellT r3 [Is s,Is l]] G'→N1 (.sl q' 1 0 (i+1)) (I (i+1:Nat)) G')→
          J107_1 (wkK K) N1 (.ptr r3 0) (.ptr r4 0) (.ptr r7 0) (.ptr r8 0) x1 (B bv) (I (s.length+l.length:Nat)) (I i) G:=by
        intro bv hbv N1 hN
        (try simp (maxSteps:=1000000) (disch:=first | assumption | (apply ν6;assumption)) only [vz,vu,vv,eqS,eF_,↓c1_,↓c2_,tabs,reduceCtorEq,ι5,↓reduceIte,ν1,ν2,ν3,ν4,ν5,ι1,ι2,ι3,ι4,J107_1,e5])
        exact dir bv hbv _ hN
      refine ⟨fun c=>?_,fun c1=>?_⟩
      · refine Pu.use (letterAt_spec s l h1 h2 hlt) ?_
        (try simp (maxSteps:=1000000) (disch:=first | assumption | (apply ν6;assumption)) only [vz,vu,vv,eqS,eF_,↓c1_,↓c2_,tabs,reduceCtorEq,ι5,↓reduceIte,ν1,ν2,ν3,ν4,ν5,ι1,ι2,ι3,ι4,load_at (st.get 4 rfl)])
        have hn0:0≤x.n:=by
          have hx2:=hx
          rw [sdOk,if_pos c,Bool.and_eq_true,decide_eq_true_eq] at hx2;exact hx2.1
        refine ⟨hn0,fin _ (by rw [cellV,if_pos c];rfl) _ (fun q' G' st=>⟨(i+1,_,[q'],G'),⟨by simp only;omega,st⟩,by simp only;omega,.refl _,.refl _,Heap.le_refl _⟩)⟩
      refine ⟨fun c=>?_,fun c3=>⟨fun c=>?_,fun c4=>⟨fun c=>?_,fun c5=>⟨fun c=>?_,fun c6=>?_⟩⟩⟩⟩
      · have he:=e1 (by rw [c];rfl)
        subst he
        have hB:Bz.length=s.length+l.length:=hops Bz (by simp)
        refine clo_1 (ops:=[Bz]) (st.get 3 rfl) (by simp) (by simpa [hB] using hlt) ?_
        (try simp (maxSteps:=1000000) (disch:=first | assumption | (apply ν6;assumption)) only [vz,vu,vv,eqS,eF_,↓c1_,↓c2_,tabs,reduceCtorEq,ι5,↓reduceIte,ν1,ν2,ν3,ν4,ν5,ι1,ι2,ι3,ι4])
        exact fin _ (by simp [cellV,c]) _ (fun q' G' st=>⟨(i+1,_,[q'],G'),⟨by simp only;omega,st⟩,by simp only;omega,.refl _,.refl _,Heap.le_refl _⟩)
      · have he:=e1 (by rw [c];rfl)
        subst he
        have hB:Bz.length=s.length+l.length:=hops Bz (by simp)
        refine Pu.use (nextPlace_spec s l h1 h2 hlt) ?_
        (try simp (maxSteps:=1000000) (disch:=first | assumption | (apply ν6;assumption)) only [vz,vu,vv,eqS,eF_,↓c1_,↓c2_,tabs,reduceCtorEq,ι5,↓reduceIte,ν1,ν2,ν3,ν4,ν5,ι1,ι2,ι3,ι4,load_at (st.get 2 rfl)])
        refine clo_1 (ops:=[Bz]) (st.get 3 rfl) (by simp) (by have:=nxW_lt (s:=s) (l:=l) (k:=i) h2.1;simpa [hB] using this) ?_
        exact fin _ (by simp [cellV,c]) _ (fun q' G' st=>⟨(i+1,_,[q'],G'),⟨by simp only;omega,st⟩,by simp only;omega,.refl _,.refl _,Heap.le_refl _⟩)
      · have he:=e2 (by rw [c];rfl)
        subst he
        have hA:A.length=s.length+l.length:=hops A (by simp)
        have hB:Bz.length=s.length+l.length:=hops Bz (by simp)
        have hcv:cellV bitF (letW s l) (nxW s l) x A Bz i false=(A.getD i default && Bz.getD i default):=by simp [cellV,c]
        refine clo_1 (ops:=[A,Bz]) (st.get 3 rfl) (by simp) (by simpa [hA] using hlt) ?_
        simp only [List.getD_cons_zero]
        cases hu:A.getD i default
        · (try simp (maxSteps:=1000000) (disch:=first | assumption | (apply ν6;assumption)) only [vz,vu,vv,eqS,eF_,↓c1_,↓c2_,tabs,reduceCtorEq,ι5,↓reduceIte,ν1,ν2,ν3,ν4,ν5,ι1,ι2,ι3,ι4])
          exact dir false (by rw [hcv,hu];rfl) _ (fun q' G' st=>⟨(i+1,_,[q'],G'),⟨by simp only;omega,st⟩,by simp only;omega,.refl _,.refl _,Heap.le_refl _⟩)
        · (try simp (maxSteps:=1000000) (disch:=first | assumption | (apply ν6;assumption)) only [vz,vu,vv,eqS,eF_,↓c1_,↓c2_,tabs,reduceCtorEq,ι5,↓reduceIte,ν1,ν2,ν3,ν4,ν5,ι1,ι2,ι3,ι4,load_at (st.get 1 rfl)])
          refine clo_2 (ops:=[A,Bz]) (st.get 3 rfl) (by simp) (by simpa [hB] using hlt) ?_
          exact fin _ (by rw [hcv,hu];rfl) _ (fun q' G' st=>⟨(i+1,_,[q'],G'),⟨by simp only;omega,st⟩,by simp only;omega,.refl _,.refl _,Heap.le_refl _⟩)
      · have he:=e2 (by rw [c];rfl)
        subst he
        have hA:A.length=s.length+l.length:=hops A (by simp)
        have hB:Bz.length=s.length+l.length:=hops Bz (by simp)
        have hcv:cellV bitF (letW s l) (nxW s l) x A Bz i false=(A.getD i default || Bz.getD i default):=by simp [cellV,c]
        refine clo_1 (ops:=[A,Bz]) (st.get 3 rfl) (by simp) (by simpa [hA] using hlt) ?_
        simp only [List.getD_cons_zero]
        cases hu:A.getD i default
        · (try simp (maxSteps:=1000000) (disch:=first | assumption | (apply ν6;assumption)) only [vz,vu,vv,eqS,eF_,↓c1_,↓c2_,tabs,reduceCtorEq,ι5,↓reduceIte,ν1,ν2,ν3,ν4,ν5,ι1,ι2,ι3,ι4,load_at (st.get 1 rfl)])
          refine clo_2 (ops:=[A,Bz]) (st.get 3 rfl) (by simp) (by simpa [hB] using hlt) ?_
          exact fin _ (by rw [hcv,hu];rfl) _ (fun q' G' st=>⟨(i+1,_,[q'],G'),⟨by simp only;omega,st⟩,by simp only;omega,.refl _,.refl _,Heap.le_refl _⟩)
        · (try simp (maxSteps:=1000000) (disch:=first | assumption | (apply ν6;assumption)) only [vz,vu,vv,eqS,eF_,↓c1_,↓c2_,tabs,reduceCtorEq,ι5,↓reduceIte,ν1,ν2,ν3,ν4,ν5,ι1,ι2,ι3,ι4])
          exact dir true (by rw [hcv,hu];rfl) _ (fun q' G' st=>⟨(i+1,_,[q'],G'),⟨by simp only;omega,st⟩,by simp only;omega,.refl _,.refl _,Heap.le_refl _⟩)
      · have c2:x.op=2:=by omega
        exact fin _ (by simp [cellV,c2]) _ (fun q' G' st=>⟨(i+1,_,[q'],G'),⟨by simp only;omega,st⟩,by simp only;omega,.refl _,.refl _,Heap.le_refl _⟩)
    · have:i=s.length+l.length:=by omega
      subst this
      obtain ⟨v,H2,w,rfl,rfl⟩:=rnB_val st 0 rfl
      exact ⟨_,_,w,h⟩
theorem lit0BB {G:Heap} {K:AV→Heap→Prop} (h:∀q,G q=none→K (.sl q 1 0 0) (G.set q [])):buildSliceV tab 71 0 [] G (wkK K):=by
  simp only [buildSliceV,tab_71,tab_76]
  refine ⟨by omega,?_⟩
  simp only [fillV,zerosA,List.replicate_zero,List.flatten_nil]
  exact fun r hr=>wkK.keep (h r hr)
theorem CloneB_part {q off n:Nat} {rows:List (List Bool)} {G:Heap} (hq:G q=some (cP vB rows)) (hb:off+n≤rows.length) (hl:rows.length≤100000) {K:AV→Heap→Prop} (h:K (.p (.sl (((rows.drop off).take n).map fun r=>[vB r]))) G):CallT Try.prog 108 [.sl q 1 off n] G K:=by
  refine CallT.fin ?_
  refine W108_ok ?_;simp (maxSteps:=1000000) (disch:=first | assumption | (apply ν6;assumption)) only [W108,vz,vu,vv,eqS,eF_,↓c1_,↓c2_,tabs,reduceCtorEq,ι5,↓reduceIte,ν1,ν2,ν3,ν4,ν5,ι1,ι2,ι3,ι4]
  have main:buildSliceV tab 71 0 [] G (wkK fun v5 H1=>appendV tab 71 71 v5 (.sl q 1 off n) H1 (wkK fun v7 H2=>wkK K v7 H2)):=by
    refine lit0BB fun q1 hq1=>?_
    have hne:q≠q1:=fun e=>by rw [← e,hq] at hq1;cases hq1
    have hqq:(G.set q1 []) q=some (cP vB rows):=by rw [Heap.set_other hne];exact hq
    simp only [appendV,tab_71,tab_76,srcV,baseV,Heap.set_same,hqq]
    have hl2:(cP vB rows).length=rows.length:=by simp [cP]
    have ht:List.take (n*1) (List.drop off (cP vB rows))=cP vB ((rows.drop off).take n):=by rw [Nat.mul_one,cP,cP,← List.map_drop,← List.map_take]
    rw [hl2,ht]
    refine ⟨trivial,by omega,trivial,by simp,by omega,by omega,cP_cell vB _,fun r hr=>wkK.keep ?_⟩
    rw [Heap.set_none] at hr
    have hpl:((rows.drop off).take n).length=n:=by rw [List.length_take,List.length_drop];omega
    refine ⟨_,_,?_,h⟩
    have hw:=Wk.own_le (q:=r) (sz:=1) (es:=((rows.drop off).take n).map fun r=>[vB r]) (H:=G) (H':=((G.set q1 []).del q1).set r ([]++cP vB ((rows.drop off).take n))) (by omega) (szP vB _) hr.2 (fun y b hy=>by
      rw [cells_P,List.nil_append] at *
      by_cases e:y=r
      · subst e;rw [Heap.set_same] at hy ⊢;exact hy
      · rw [Heap.set_other e] at hy ⊢
        have e1:y≠q1:=fun e=>by rw [e,hq1] at hy;cases hy
        rw [Heap.del_other e1,Heap.set_other e1];exact hy)
    simpa only [Go.Sep.own,List.length_map,hpl,Nat.zero_add,Nat.zero_mul,List.take_zero,List.drop_zero,List.nil_append] using hw
  cases n with
  | zero=>
    simp only [binV,eqV,tab_71,isNilV,unkV,sliceLike]
    refine ⟨trivial,?_⟩
    (try simp (maxSteps:=1000000) (disch:=first | assumption | (apply ν6;assumption)) only [vz,vu,vv,eqS,eF_,↓c1_,↓c2_,tabs,reduceCtorEq,ι5,↓reduceIte,ν1,ν2,ν3,ν4,ν5,ι1,ι2,ι3,ι4])
    refine ⟨⟨_,_,.val (v':=.p (.sl [])) .nil,h⟩,main⟩
  | succ n=>
    simp only [binV,eqV,tab_71,isNilV]
    (try simp (maxSteps:=1000000) (disch:=first | assumption | (apply ν6;assumption)) only [vz,vu,vv,eqS,eF_,↓c1_,↓c2_,tabs,reduceCtorEq,ι5,↓reduceIte,ν1,ν2,ν3,ν4,ν5,ι1,ι2,ι3,ι4])
    exact main
theorem lit_rowB {q n:Nat} {G:Heap} {rows:List Bool} (hq:G q=some (cP fB rows)) (hn:n=rows.length) {K:AV→Heap→Prop} (h:K (.p (.sl [[vB rows]])) (G.del q)):buildSliceV tab 71 1 [(0,.sl q 1 0 n)] G (wkK K):=by
  subst hn
  simp only [buildSliceV,tab_71,tab_76]
  refine ⟨by omega,?_⟩
  simp only [fillV,zerosA,List.replicate_succ,List.replicate_zero,List.flatten_cons,List.flatten_nil,List.append_nil,AV.cells,splice]
  simp only [List.length_cons,List.length_nil,Nat.reduceAdd,Nat.zero_mul,Nat.zero_add,Nat.le_refl,and_self,if_true,List.take_zero,List.nil_append,List.drop_succ_cons,List.drop_zero,List.append_nil]
  refine fun r hr=>⟨.p (.sl [[vB rows]]),G.del q,?_,h⟩
  have hne:r≠q:=fun e=>by rw [e,hq] at hr;cases hr
  have w1:Wk (.sl r 1 0 1) (G.set r [.sl q 1 0 rows.length]) (.sl r 1 0 1) (((G.set r [.sl q 1 0 rows.length]).del q).set r [.p (vB rows)]):=
    Wk.frzAt (r:=q) (s:=r) (sz:=1) (es:=rows.map eBo) (cs:=[.sl q 1 0 rows.length]) (cs':=[.p (vB rows)]) (by omega) (by rw [Heap.set_other hne.symm,hq];exact congrArg some (flat_P fB rows).symm) (szP fB rows) (Heap.set_same _ _ _) hne
      (.cons (frz_row (f:=fB)) .nil) (.same _) rfl
  have e:((G.set r [.sl q 1 0 rows.length]).del q).set r [.p (vB rows)]=(G.del q).set r [.p (vB rows)]:=by
    funext y
    by_cases e1:y=r
    · subst e1;rw [Heap.set_same,Heap.set_same]
    · rw [Heap.set_other e1,Heap.set_other e1]
      by_cases e2:y=q
      · subst e2;rw [Heap.del_same,Heap.del_same]
      · rw [Heap.del_other e2,Heap.del_other e2,Heap.set_other e1]
  rw [e] at w1
  have hr2:(G.del q) r=none:=by rw [Heap.del_other hne];exact hr
  have w2:=Wk.own_le (q:=r) (sz:=1) (es:=[[vB rows]]) (H:=G.del q) (H':=(G.del q).set r [.p (vB rows)]) (by omega) (szP vB [rows]) hr2 (Heap.le_refl _)
  exact .trans w1 w2
theorem app_rowsX {q:Nat} {xs:List (List Bool)} {y:List Bool} {ex:List AV} {G:Heap} {K:AV→Heap→Prop} (hq:G q=some (cP vB xs++ex)) (hl:xs.length≤1000000)
    (h:∀q',G q'=none→q'≠q→K (.sl q' 1 0 (xs.length+1)) ((G.del q).set q' (cP vB (xs++[y])))):appendV tab 71 71 (.sl q 1 0 xs.length) (.p (.sl [[vB y]])) G (wkK K):=by
  have hlen:(cP vB xs).length=xs.length:=by simp [cP]
  simp only [appendV,tab_71,tab_76,srcV,baseV,hq]
  refine ⟨szP vB [y],trivial,by rw [List.length_append,hlen];omega,by simp only [List.length_singleton];omega,by simp only [List.length_singleton];omega,cP_cell vB [y],fun q' hq'=>wkK.keep ?_⟩
  have hne:q'≠q:=fun e=>by rw [e,hq] at hq';cases hq'
  have:=h q' hq' hne
  have e:List.take (xs.length*1) (List.drop 0 (cP vB xs++ex))=cP vB xs:=by rw [List.drop_zero,Nat.mul_one,← hlen,List.take_left]
  have e2:cP vB (xs++[y])=cP vB xs++cP vB [y]:=by simp [cP]
  rw [e2] at this
  rw [e]
  exact this
theorem runV_top {w:Las} {g:List Sd} (h:OkFm g) {i:Nat} (hi:i < g.length):∃(rr ops:List (List Bool)) (A Bz:List Bool),runV w g i=ops.reverse++rr∧runV w g (i+1)=rowV w (g.getD i default) A Bz::rr∧(ops.length:Int)=need (g.getD i default).op∧
    (need (g.getD i default).op=1→ops=[Bz])∧(need (g.getD i default).op=2→ops=[A,Bz]):=by
  have hok:=h.ok i hi
  have hnd:=sdOk_need hok.1
  have hlen:=runV_len (w:=w) h i (by omega)
  rcases (by omega:need (g.getD i default).op=0∨need (g.getD i default).op=1∨need (g.getD i default).op=2) with hn | hn | hn
  · exact ⟨runV w g i,[],[],[],rfl,by rw [runV,if_pos hn],by rw [hn];rfl,fun h=>by omega,fun h=>by omega⟩
  · cases hs:runV w g i with
    | nil=>rw [hs] at hlen;simp at hlen;omega
    | cons b rr=>exact ⟨rr,[b],[],b,by simp,by rw [runV,if_neg (by omega),if_pos hn,hs];rfl,by rw [hn];rfl,fun _=>rfl,fun h=>by omega⟩
  · cases hs:runV w g i with
    | nil=>rw [hs] at hlen;simp at hlen;omega
    | cons b r1=>
      cases r1 with
      | nil=>rw [hs] at hlen;simp at hlen;omega
      | cons a rr=>exact ⟨rr,[a,b],a,b,by simp,by rw [runV,if_neg (by omega),if_neg (by omega),hs];rfl,by rw [hn];rfl,fun h=>by omega,fun _=>rfl⟩
theorem vals_16 {g:List Sd} (h:OkFm g) (i:Nat) (hi:i≤g.length):0≤vals g i∧vals g i≤16:=by
  have h2:=vals_bd i fun j hj=>by
    have:=h.ok j (by omega)
    rw [sdAt,this.1,decide_eq_true this.2];rfl
  have:=h.l
  omega
theorem along_spec (s l:List Int) (h1:s.length≤24) (h2:1≤l.length∧l.length≤24) (g:List Sd) (hg:OkFm g) {H:Heap} {K:AV→Heap→Prop} (h:K (.p (vB ((runV (lasL s l) g g.length).headD []))) H):CallT Try.prog 63 [aL2 s l,Ds g] H K:=by
  refine CallT.fin ?_
  have hl:=hg.l
  refine W63_ok ?_;simp (maxSteps:=1000000) (disch:=first | assumption | (apply ν6;assumption)) only [W63,vz,vu,vv,eqS,eF_,↓c1_,↓c2_,tabs,reduceCtorEq,ι5,↓reduceIte,ν1,ν2,ν3,ν4,ν5,ι1,ι2,ι3,ι4]
  intro r2 hr2
  have st:=(St.nil H).cell hr2 [Is s,Is l]
  generalize H.set r2 [Is s,Is l]=G at st ⊢
  clear hr2
  refine lit0BB fun q0 hq0=>?_
  replace st:=st.cell hq0 (cP vB ([]:List (List Bool)))
  have e0:(cP vB ([]:List (List Bool)))=[]:=rfl
  rw [← e0]
  generalize G.set q0 (cP vB ([]:List (List Bool)))=G1 at st ⊢
  (try simp (maxSteps:=1000000) (disch:=first | assumption | (apply ν6;assumption)) only [vz,vu,vv,eqS,eF_,↓c1_,↓c2_,tabs,reduceCtorEq,ι5,↓reduceIte,ν1,ν2,ν3,ν4,ν5,ι1,ι2,ι3,ι4])
  refine L63_0_rule ((0:Nat),q0,G1) (fun t=>.sl t.2.1 1 0 (runV (lasL s l) g t.1).length) (fun t=>I t.1) (fun t=>t.2.2)
    (fun t=>t.1≤g.length∧St H [cellT t.2.1 (cP vB (runV (lasL s l) g t.1).reverse),cellT r2 [Is s,Is l]] t.2.2) (fun t=>g.length - t.1)
    ⟨⟨by simp,st⟩,.refl _,.refl _,Heap.le_refl _⟩ ?_
  clear st e0 hq0
  rintro ⟨i,q,G⟩ ⟨hi,st⟩
  dsimp only at hi st
  have hlen:=runV_len (w:=lasL s l) hg i hi
  have hv:=vals_16 hg i hi
  (try simp (maxSteps:=1000000) (disch:=first | assumption | (apply ν6;assumption)) only [vz,vu,vv,eqS,eF_,↓c1_,↓c2_,tabs,reduceCtorEq,ι5,↓reduceIte,ν1,ν2,ν3,ν4,ν5,ι1,ι2,ι3,ι4,B63_0])
  refine ⟨fun h3=>⟨by omega,h3,?_⟩,fun h3=>?_⟩
  · have hlt:i < g.length:=by omega
    have hok:=hg.ok i hlt
    obtain ⟨rr,ops,A,Bz,e1,e2,e3,e4,e5⟩:=runV_top (w:=lasL s l) hg hlt
    have hrows:=runV_rows (w:=lasL s l) hg i hi
    generalize g.getD i default=y at e2 e3 e4 e5 hok ⊢
    have hnd:=sdOk_need hok.1
    intro r hr
    replace st:=st.cell hr [I y.op,I y.n]
    generalize G.set r [I y.op,I y.n]=G2 at st ⊢
    have hll:(runV (lasL s l) g i).length=ops.length+rr.length:=by rw [e1];simp
    (try simp (maxSteps:=1000000) (disch:=first | assumption | (apply ν6;assumption)) only [vz,vu,vv,eqS,eF_,↓c1_,↓c2_,tabs,reduceCtorEq,ι5,↓reduceIte,ν1,ν2,ν3,ν4,ν5,ι1,ι2,ι3,ι4,load_at (st.get 0 rfl)])
    refine Pu.use (need_impl.operandsOfSaid_spec y.op) ?_
    have ew:IntKind.i64.wrap (((runV (lasL s l) g i).length:Int) - need y.op)=(rr.length:Nat):=by rw [i64_id (by omega) (by omega)];omega
    (try simp (maxSteps:=1000000) (disch:=first | assumption | (apply ν6;assumption)) only [vz,vu,vv,eqS,eF_,↓c1_,↓c2_,tabs,reduceCtorEq,ι5,↓reduceIte,ν1,ν2,ν3,ν4,ν5,ι1,ι2,ι3,ι4,sliceV,ew,load_at (st.get 0 rfl),load_at (st.get 2 rfl)])
    refine ⟨by omega,by omega,by omega,by omega,by omega,by omega,?_⟩
    have hrev:(runV (lasL s l) g i).reverse=rr.reverse++ops:=by rw [e1];simp
    have en:(((runV (lasL s l) g i).length:Int) - (rr.length:Int)).toNat=ops.length:=by omega
    rw [en,Nat.mul_one]
    refine CloneB_part (st.get 1 rfl) (by rw [List.length_reverse];omega) (by rw [List.length_reverse];omega) ?_
    have ep:((runV (lasL s l) g i).reverse.drop rr.length).take ops.length=ops:=by rw [hrev,List.drop_left' (by simp),List.take_length]
    rw [ep]
    (try simp (maxSteps:=1000000) (disch:=first | assumption | (apply ν6;assumption)) only [vz,vu,vv,eqS,eF_,↓c1_,↓c2_,tabs,reduceCtorEq,ι5,↓reduceIte,ν1,ν2,ν3,ν4,ν5,ι1,ι2,ι3,ι4,load_at (st.get 0 rfl),load_at (st.get 2 rfl)])
    refine holdsAlong_spec s l h1 h2 y hok.1 ops e3 (fun r hr=>hrows r (by rw [e1];simp [hr])) A Bz e4 e5 ?_
    refine lit1 tab_71 rfl tab_76 ⟨rfl,rfl⟩ ?_
    have hq:G2 q=some (cP vB rr.reverse++cP vB ops):=by
      have:=(st.get 1 rfl:G2 q=_)
      rw [this,hrev];simp [cP]
    have hrl:rr.length=rr.reverse.length:=by simp
    rw [hrl]
    refine app_rowsX (y:=rowV (lasL s l) y A Bz) hq (by rw [List.length_reverse];omega) fun q' hq' hne=>?_
    have e6:rr.reverse++[rowV (lasL s l) y A Bz]=(runV (lasL s l) g (i+1)).reverse:=by rw [e2];simp
    rw [e6]
    refine ⟨(i+1,q',_),⟨by simp only;omega,(St.moved (c:=cP vB (runV (lasL s l) g (i+1)).reverse) st.drop 0 rfl hq')⟩,by simp only;omega,?_,?_,Heap.le_refl _⟩
    · rw [e2,List.length_cons,List.length_reverse];exact .refl _
    · rw [wk_int,i64_id (by omega) (by omega)];simp
  · have:i=g.length:=by omega
    subst this
    rw [hg.one] at hlen
    obtain ⟨row,hrow⟩:∃row,runV (lasL s l) g g.length=[row]:=by
      cases hs:runV (lasL s l) g g.length with
      | nil=>rw [hs] at hlen;cases hlen
      | cons a r=>
        cases r with
        | nil=>exact ⟨a,rfl⟩
        | cons b r=>rw [hs] at hlen;simp at hlen;omega
    rw [hrow] at h st ⊢
    (try simp (maxSteps:=1000000) (disch:=first | assumption | (apply ν6;assumption)) only [vz,vu,vv,eqS,eF_,↓c1_,↓c2_,tabs,reduceCtorEq,ι5,↓reduceIte,ν1,ν2,ν3,ν4,ν5,ι1,ι2,ι3,ι4,load_at (st.get 0 rfl)])
    refine ⟨by omega,by omega,by simp,⟨_,_,.forget st.le,h⟩⟩
end Go.Proofs.Ytjdhigcefkihiaa
namespace Go.Proofs.Ytjdhigcefkihiaa
open Go Go.Sep Go.Pt
attribute [local irreducible] CallT
end Go.Proofs.Ytjdhigcefkihiaa
namespace Go.Sep
open Go Go.RowKit Go.Proofs.Ytjdhigcefkihiaa
structure ResU (R:AV→Heap→List Nat→Prop):Prop where
  loc:∀{r G G' D},R r G D→(∀y∈D,∀b,G y=some b→G' y=some b)→R r G' D
  gd:∀{r G D},R r G D→Gd2 r∧∀y∈D,∀bs,G y=some bs→∀c∈bs,GdC c
  sh:∀{r G D n G0},(∀q,n≤q→G0 q=none)→R r G D→R (sh2 n r) (Heap.or G0 (shH n G)) (D.map (·+n))
end Go.Sep
namespace Go.Proofs.Ytjdhigcefkihiaa
open Go Go.Sep Go.Pt
attribute [local irreducible] CallT
theorem markI0 {G:Heap} {k:Int} {K:AV→Heap→Prop} (h:K (I k) G):CallT Try.prog 19 [.p .nil,I k] G K:=by
  refine CallT.args (args':=[Is [],I k]) ?_ ⟨.nil,.refl _,trivial⟩
  refine W19_ok ?_;simp (maxSteps:=1000000) (disch:=first | assumption | (apply ν6;assumption)) only [W19,vz,vu,vv,eqS,eF_,↓c1_,↓c2_,tabs,reduceCtorEq,ι5,↓reduceIte,ν1,ν2,ν3,ν4,ν5,ι1,ι2,ι3,ι4]
  refine L19_0_rule () (fun _=>I k) (fun _=>I 0) (fun _=>G) (fun _=>True) (fun _=>0) ⟨trivial,.refl _,.refl _,Heap.le_refl _⟩ ?_
  rintro ⟨⟩ _
  (try simp (maxSteps:=1000000) (disch:=first | assumption | (apply ν6;assumption)) only [vz,vu,vv,eqS,eF_,↓c1_,↓c2_,tabs,reduceCtorEq,ι5,↓reduceIte,ν1,ν2,ν3,ν4,ν5,ι1,ι2,ι3,ι4,B19_0])
  first | exact h | simpa using h
theorem _root_.Go.Sep.St.lose {H G G':Heap} {Ts:List Th} {t:Th} (s:St H Ts G) (i:Nat) (h:Ts[i]?=some t) (hf:∀y,y∉t.D→G' y=G y):St H (Ts.eraseIdx i) G':=by
  have s1:=s.pick i h
  have hnd:=s1.nd
  rw [List.flatMap_cons,List.nodup_append] at hnd
  refine ⟨fun y b hb=>?_,hnd.2.1,fun u hu=>s1.fr u (List.mem_cons_of_mem _ hu),fun u hu=>u.loc (s1.ok u (List.mem_cons_of_mem _ hu)) fun y hy b hb=>?_⟩
  · rw [hf y (s1.wkNone y b hb t (List.mem_cons_self ..))];exact s1.le y b hb
  · rw [hf y (fun hm=>hnd.2.2 y hm y (List.mem_flatMap.2 ⟨u,hu,hy⟩) rfl)];exact hb
theorem LPg.sl {p:Pg} {v:AV} {G:Heap} {D:List Nat} (h:LPg p v G D):∃q1 q2,v=.agg [I p.wide,I p.vars,.sl q1 2 0 p.start.length,.sl q2 2 0 p.cmds.length]:=by
  obtain ⟨x,y,E1,E2,rfl,rfl,hx,hy⟩:=h
  obtain ⟨qx,rfl⟩:=LRow.sl hx
  obtain ⟨qy,rfl⟩:=LRow.sl hy
  exact ⟨qx,qy,rfl⟩
end Go.Proofs.Ytjdhigcefkihiaa
namespace Go.Proofs.Ytjdhigcefkihiaa
open Go Go.Sep Go.Pt
attribute [local irreducible] CallT
theorem tabV_row {w:Las} {f:List Sd} {i j:Nat} (h:j < i):(tabV w f i).getD j default=rowF w f j:=tabV_get w f h
theorem l10Cell_spec (s l:List Int) (f:List Sd) (g:GoodFm f) {i:Nat} (hi:i < f.length) {k:Nat} (hk:k < s.length+l.length) (hl:1≤l.length∧s.length≤100∧l.length≤100) (later:Bool) :
    Pu Try.prog 101 [Ds f,.p (.sl ((tabV (lasL s l) f i).map fun r=>[vB r])),I i,I (letW s l k),I k,I (nxW s l k:Nat),B later]
      (B (cellV bitF (letW s l) (nxW s l) (f.getD i default) ((tabV (lasL s l) f i).getD (tst f (i - 1) - 1) []) ((tabV (lasL s l) f i).getD (i - 1) []) k later)):=by
  have hl1:=g.l1
  have hnx:nxW s l k < s.length+l.length:=nxW_lt hl.1
  have hok:=g.ok i hi
  have hlen:=tabV_len (lasL s l) f i
  have hrow:∀j,j < i→(tabV (lasL s l) f i).getD j default=rowF (lasL s l) f j:=fun j hj=>tabV_row hj
  have hrl:∀j,(rowF (lasL s l) f j).length=s.length+l.length:=fun j=>rowF_len _ _ _
  have h1':=fun h=>tst1 g hi h
  have h2':=fun h=>tst2 g hi h
  have hfrom:=fun h=>l10From_spec f g (i - 1) h
  refine Pu.of fun H=>?_
  refine W101_ok ?_;simp (maxSteps:=1000000) (disch:=first | assumption | (apply ν6;assumption)) only [W101,vz,vu,vv,eqS,eF_,↓c1_,↓c2_,tabs,reduceCtorEq,ι5,↓reduceIte,ν1,ν2,ν3,ν4,ν5,ι1,ι2,ι3,ι4]
  generalize f.getD i default=x at hok h1' h2' ⊢
  refine ⟨by omega,by omega,?_⟩
  intro r hr
  have hle:=Heap.le_set (b:=[I x.op,I x.n]) hr
  have hnd:=sdOk_need hok.1
  have ex:1≤i→IntKind.i64.wrap ((i:Int) - 1)=((i - 1:Nat):Int):=fun h=>by rw [i64_id (by omega) (by omega)];omega
  refine ⟨fun c=>?_,fun c1=>⟨fun c=>?_,fun c2=>⟨fun c=>?_,fun c3=>⟨fun c=>?_,fun c4=>?_⟩⟩⟩⟩
  · have hx:=hok.1
    rw [sdOk,if_pos c,Bool.and_eq_true,decide_eq_true_eq,decide_eq_true_eq] at hx
    have eu:IntKind.u64.wrap x.n=x.n:=u64_id hx.1 (by omega)
    rw [eu]
    exact ⟨hx.1,by rw [cellV,if_pos c];rfl,hle⟩
  · exact ⟨by rw [cellV,if_neg c1,if_pos c],hle⟩
  · have hn:need x.op=1:=by rw [c];rfl
    have h0:=(h1' hn).1
    rw [ex h0,Int.toNat_natCast,hrow _ (by omega),hrl]
    exact ⟨by omega,by omega,by omega,by omega,by rw [cellV,if_neg c1,if_neg c2,if_pos c];exact congrArg (fun l:List Bool=>B (!l.getD k default)) (hrow _ (by omega)).symm,hle⟩
  · have hn:need x.op=1:=by rw [c];rfl
    have h0:=(h1' hn).1
    rw [ex h0,Int.toNat_natCast,hrow _ (by omega),hrl]
    exact ⟨by omega,by omega,by omega,by omega,by rw [cellV,if_neg c1,if_neg c2,if_neg c3,if_pos c];exact congrArg (fun z:List Bool=>B (z.getD (nxW s l k) default)) (hrow _ (by omega)).symm,hle⟩
  · have hn:need x.op=2:=by
      rcases need_cases x.op with h | h | h | h<;>omega
    obtain ⟨t1,t2,t3,t4,_⟩:=h2' hn
    rw [ex t1]
    refine Pu.use (hfrom (by omega)) ?_
    have ex2:IntKind.i64.wrap ((tst f (i - 1):Int) - 1)=((tst f (i - 1) - 1:Nat):Int):=by rw [i64_id (by omega) (by omega)];omega
    have hA:=hrow (tst f (i - 1) - 1) (by omega)
    have hB:=hrow (i - 1) (by omega)
    have hA':(tabV (lasL s l) f i).getD (tst f (i - 1) - 1) []=rowF (lasL s l) f (tst f (i - 1) - 1):=hA
    have hB':(tabV (lasL s l) f i).getD (i - 1) []=rowF (lasL s l) f (i - 1):=hB
    rw [hA',hB']
    have hlA:=hrl (tst f (i - 1) - 1)
    have hlB:=hrl (i - 1)
    (try simp (maxSteps:=1000000) (disch:=first | assumption | (apply ν6;assumption)) only [vz,vu,vv,eqS,eF_,↓c1_,↓c2_,tabs,reduceCtorEq,ι5,↓reduceIte,ν1,ν2,ν3,ν4,ν5,ι1,ι2,ι3,ι4,ex2,Int.toNat_natCast,hA,hB])
    generalize rowF (lasL s l) f (tst f (i - 1) - 1)=A at hlA ⊢
    generalize rowF (lasL s l) f (i - 1)=Bz at hlB ⊢
    refine ⟨by omega,by omega,by omega,by omega,by omega,by omega,by omega,by omega,?_⟩
    have hop:x.op=5∨x.op=6∨x.op=7∨x.op=8:=by
      rcases need_cases x.op with h | h | h | h<;>omega
    have hcv:cellV bitF (letW s l) (nxW s l) x A Bz k later=if x.op=5 then A.getD k default && Bz.getD k default
      else if x.op=6 then A.getD k default || Bz.getD k default
      else if x.op=7 then Bz.getD k default || (A.getD k default && later)
      else Bz.getD k default && (A.getD k default || later):=by rw [cellV,if_neg c1,if_neg c2,if_neg c3,if_neg c4]
    rw [hcv]
    generalize A.getD k default=a
    generalize Bz.getD k default=b
    clear hcv hA hB hA' hB' hrow hrl hlen
    clear hok h1' h2' hn hnd
    generalize x.op=op at hop c1 c2 c3 c4 hle
    rcases hop with rfl | rfl | rfl | rfl<;>cases a<;>cases b<;>simp [hle]
abbrev rnR (x:AV) (rows:List (List Bool)) (D:List Nat):Th:=rnT (LPl.local xB) (LPl.has xB) 1 x rows D
theorem rnR_cases {x:AV} {l:List (List Bool)} {G:Heap} {D:List Nat} (h:RN (LPl xB) 1 x l G D):(x=.p .nil∧l=[]∧D=[])∨∃q,x=rowP q l∧G q=some (cP vB l)∧D=[q]:=by
  rcases h with h | ⟨q,cs,D',rfl,hq,hll,rfl⟩
  · exact .inl h
  · obtain ⟨rfl,rfl⟩:=LL.plain' hll
    refine .inr ⟨q,rfl,?_,rfl⟩
    have e:cells (l.map xB)=cP vB l:=cells_P vB l
    rw [← e];exact hq
theorem rn_appR {H G:Heap} {Ts:List Th} {x:AV} {xs ys:List (List Bool)} {D:List Nat} (s:St H Ts G) (i:Nat) (hi:Ts[i]?=some (rnR x xs D)) (hl:xs.length+ys.length≤1000000) {K:AV→Heap→Prop}
    (h:∀q' G',G q'=none→St H (Ts.set i (rnR (rowP q' (xs++ys)) (xs++ys) [q'])) G'→K (rowP q' (xs++ys)) G'):appendV tab 71 71 x (.p (.sl (ys.map xB))) G (wkK K):=
  RN.app (bz:=24) tab_71 rfl tab_76 tab_71 rfl rfl rfl (fun _=>rfl) s i hi rfl (by omega) (by omega) h
theorem rnR_wk {x:AV} {l:List (List Bool)} {G:Heap} {D:List Nat} (h:RN (LPl xB) 1 x l G D) (pre post:List AV):∃G1,Wk (.tup (pre++(x::post))) G (.tup (pre++(.p (.sl (l.map xB))::post))) G1:=by
  rcases rnR_cases h with ⟨rfl,rfl,rfl⟩ | ⟨q,rfl,hq,rfl⟩
  · refine ⟨G,.val (wk_tup ?_)⟩
    induction pre with
    | nil=>
      refine ⟨.nil,?_⟩
      induction post with
      | nil=>trivial
      | cons a post ih=>exact ⟨.refl _,ih⟩
    | cons a pre ih=>exact ⟨.refl _,ih⟩
  · exact ⟨G.del q,Wk.frz (r:=q) (sz:=1) (es:=l.map xB) (by omega) (by rw [hq];exact congrArg some (flat_P vB l).symm) (szP vB l) (.tup (FrzL.app (.cons (frz_row (f:=vB)) (FrzL.refl post))))⟩
theorem rnR_val {H G:Heap} {Ts:List Th} {x:AV} {l:List (List Bool)} {D:List Nat} (s:St H Ts G) (i:Nat) (hi:Ts[i]?=some (rnR x l D)):wkK (fun r H'=>r=.p (.sl (l.map xB))∧H'=H) x G:=by
  rcases rnR_cases (s.get i hi) with ⟨rfl,rfl,rfl⟩ | ⟨q,rfl,hq,rfl⟩
  · exact ⟨_,_,.trans (.val .nil) (.forget s.le),rfl,rfl⟩
  · have:=fin_own (sz:=1) (es:=l.map xB) (q:=q) (H:=H) (H':=G) (K:=fun r H'=>r=.p (.sl (l.map xB))∧H'=H) (by omega) (sizedMap (f:=xB) (fun _=>rfl) l) (s.fr _ (List.mem_of_getElem? hi) q (by simp [rnT])) (fun y b hy=>by
      by_cases e:y=q
      · subst e;rw [Heap.set_same] at hy;rw [← hy,hq];exact congrArg some (cells_P vB l).symm
      · rw [Heap.set_other e] at hy;exact s.le y b hy) ⟨rfl,rfl⟩
    simpa only [Go.Sep.own,List.length_map] using this
theorem sweepK_range {nx:Nat→Nat} {r:Nat→Bool→Bool} {h:Nat→Nat} {j:Nat} {row:List Bool}:sweepK nx r ((List.range (j+1)).map h) row=stepK nx r (sweepK nx r ((List.range j).map h) row) (h j):=by rw [List.range_succ,List.map_append,List.map_singleton,sweepK_snoc]
theorem l10Table_spec (s l:List Int) (h1:s.length≤24) (h2:1≤l.length∧l.length≤24) (f:List Sd) (g:GoodFm f):Pu Try.prog 54 [Ds f,aL2 s l] (.p (.sl ((tabV (lasL s l) f f.length).map xB))):=by
  have hl:=g.l1
  refine ⟨fun H=>CallT.fin ?_⟩
  have eN:IntKind.i64.wrap ((s.length:Int)+(l.length:Int))=((s.length+l.length:Nat):Int):=by rw [i64_id (by omega) (by omega)];simp
  refine W54_ok ?_;simp (maxSteps:=1000000) (disch:=first | assumption | (apply ν6;assumption)) only [W54,vz,vu,vv,eqS,eF_,↓c1_,↓c2_,tabs,reduceCtorEq,ι5,↓reduceIte,ν1,ν2,ν3,ν4,ν5,ι1,ι2,ι3,ι4,eN]
  intro r3 hr3
  have st:=(St.nil H).cell hr3 [Is s,Is l]
  replace st:=st.push (rnR (.p .nil) [] []) ⟨by simp [rnT],fun y hy=>by simp [rnT] at hy,Heap.le_refl _⟩ (.inl ⟨rfl,rfl,rfl⟩)
  generalize H.set r3 [Is s,Is l]=G at st ⊢
  clear hr3
  have eN2:s.length+l.length=(s.length+l.length):=rfl
  refine L54_0_rule ((0:Nat),(.p .nil:AV),([]:List Nat),G) (fun t=>t.2.1) (fun t=>I t.1) (fun t=>t.2.2.2)
    (fun t=>t.1≤f.length∧St H [rnR t.2.1 (tabV (lasL s l) f t.1) t.2.2.1,cellT r3 [Is s,Is l]] t.2.2.2) (fun t=>f.length - t.1)
    ⟨⟨by simp,st⟩,.refl _,.refl _,Heap.le_refl _⟩ ?_
  clear st
  rintro ⟨i,x,D,G⟩ ⟨hi,st⟩
  dsimp only at hi st
  have e5:IntKind.i64.wrap ((i:Int)+1)=((i+1:Nat):Int):=by rw [i64_id (by omega) (by omega)];simp
  (try simp (maxSteps:=1000000) (disch:=first | assumption | (apply ν6;assumption)) only [vz,vu,vv,eqS,eF_,↓c1_,↓c2_,tabs,reduceCtorEq,ι5,↓reduceIte,ν1,ν2,ν3,ν4,ν5,ι1,ι2,ι3,ι4,B54_0,makeSliceV,e5])
  refine ⟨fun h3=>⟨by omega,h3,?_⟩,fun h3=>?_⟩
  · have hlt:i < f.length:=by omega
    have hrowF:=tabV_succ (lasL s l) f i
    have hrowE:=rowF_eq (lasL s l) f i
    have hcell:=fun {k:Nat} (hk:k < s.length+l.length) (b:Bool)=>l10Cell_spec s l f g hlt hk (by omega) b
    generalize hA:(tabV (lasL s l) f i).getD (tst f (i - 1) - 1) []=A at hrowE hcell
    generalize hB:(tabV (lasL s l) f i).getD (i - 1) []=Bz at hrowE hcell
    generalize hnode:f.getD i default=y at hrowE hcell ⊢
    intro r8 hr8
    refine ⟨by omega,by omega,by omega,by omega,fun q hqr hq=>?_⟩
    replace st:=(st.cell hr8 [I y.op,I y.n]).cell (r:=q) (by rw [Heap.set_other hqr];exact hq) (zerosA (s.length+l.length) [B false])
    generalize (G.set r8 [I y.op,I y.n]).set q (zerosA (s.length+l.length) [B false])=G2 at st ⊢
    have z0:zerosA (s.length+l.length) [B false]=cP fB (repB (s.length+l.length) 0 (decide (y.op=8))):=by rw [cB_rep];simp [repB]
    rw [z0] at st
    clear z0 hr8 hqr hq
    refine L54_1_rule ((0:Nat),G2) (fun t=>I t.1) (fun t=>t.2) (fun t=>t.1≤s.length+l.length∧St H [cellT q (cP fB (repB (s.length+l.length) t.1 (decide (y.op=8)))),cellT r8 [I y.op,I y.n],rnR x (tabV (lasL s l) f i) D,cellT r3 [Is s,Is l]] t.2) (fun t=>s.length+l.length - t.1)
      ⟨⟨by simp,st⟩,.refl _,Heap.le_refl _⟩ ?_
    clear st G2
    rintro ⟨k,G2⟩ ⟨hk,st⟩
    dsimp only at hk st
    have e6:IntKind.i64.wrap ((k:Int)+1)=((k+1:Nat):Int):=by rw [i64_id (by omega) (by omega)];simp
    have hrl:=repB_len (decide (y.op=8)) hk
    have hc2:=cB_len (repB (s.length+l.length) k (decide (y.op=8)))
    (try simp (maxSteps:=1000000) (disch:=first | assumption | (apply ν6;assumption)) only [vz,vu,vv,eqS,eF_,↓c1_,↓c2_,tabs,reduceCtorEq,ι5,↓reduceIte,ν1,ν2,ν3,ν4,ν5,ι1,ι2,ι3,ι4,B54_1,load_at (st.get 1 rfl),store_at (st.get 0 rfl),hc2,hrl,e6])
    refine ⟨fun h4=>?_,fun h4=>?_⟩
    · have hset:=row_setB (row:=repB (s.length+l.length) k (decide (y.op=8))) (k:=k) (b:=decide (y.op=8)) (by omega)
      have hs2:(repB (s.length+l.length) k (decide (y.op=8))).set k (decide (y.op=8))=repB (s.length+l.length) (k+1) (decide (y.op=8)):=by
        obtain ⟨m,hm⟩:∃m,s.length+l.length - k=m+1:=⟨s.length+l.length - k - 1,by omega⟩
        have hm2:s.length+l.length - (k+1)=m:=by omega
        rw [repB,repB,hm,hm2,List.replicate_succ,List.set_append,if_neg (by simp)]
        simp only [List.length_replicate,Nat.sub_self,List.set_cons_zero,List.replicate_succ',List.append_assoc,List.singleton_append]
      rw [hs2] at hset
      rw [hset]
      exact ⟨by omega,by omega,by omega,(k+1,_),⟨by simp only;omega,st.put 0 rfl (cP fB (repB (s.length+l.length) (k+1) (decide (y.op=8))))⟩,by simp only;omega,.refl _,Heap.le_refl _⟩
    · have:k=s.length+l.length:=by omega
      subst this
      have z1:repB (s.length+l.length) (s.length+l.length) (decide (y.op=8))=turnK (nxW s l) (cellV bitF (letW s l) (nxW s l) y A Bz) (s.length+l.length) (decide (y.op=8)) 0:=by simp [repB,turnK]
      rw [z1] at st
      clear z1 hrl hc2 e6 h4 hk
      refine L54_2_rule ((0:Nat),G2) (fun t=>I t.1) (fun t=>t.2) (fun t=>t.1≤2∧St H [cellT q (cP fB (turnK (nxW s l) (cellV bitF (letW s l) (nxW s l) y A Bz) (s.length+l.length) (decide (y.op=8)) t.1)),cellT r8 [I y.op,I y.n],rnR x (tabV (lasL s l) f i) D,cellT r3 [Is s,Is l]] t.2) (fun t=>2 - t.1)
        ⟨⟨by simp,st⟩,.refl _,Heap.le_refl _⟩ ?_
      clear st G2
      rintro ⟨t,G2⟩ ⟨ht,st⟩
      dsimp only at ht st
      have e6:IntKind.i64.wrap ((t:Int)+1)=((t+1:Nat):Int):=by rw [i64_id (by omega) (by omega)];simp
      have hrl:=turnK_len (nxW s l) (cellV bitF (letW s l) (nxW s l) y A Bz) (s.length+l.length) (decide (y.op=8)) t
      (try simp (maxSteps:=1000000) (disch:=first | assumption | (apply ν6;assumption)) only [vz,vu,vv,eqS,eF_,↓c1_,↓c2_,tabs,reduceCtorEq,ι5,↓reduceIte,ν1,ν2,ν3,ν4,ν5,ι1,ι2,ι3,ι4,B54_2])
      refine ⟨fun h4=>?_,fun h4=>?_⟩
      · generalize hrow:turnK (nxW s l) (cellV bitF (letW s l) (nxW s l) y A Bz) (s.length+l.length) (decide (y.op=8)) t=row at st hrl
        have e7:IntKind.i64.wrap (((s.length+l.length:Nat):Int) - 1)=((s.length+l.length:Nat):Int) - 1 - (0:Nat):=by rw [i64_id (by omega) (by omega)];simp
        rw [e7]
        refine L54_3_rule ((0:Nat),G2) (fun t=>I (((s.length+l.length:Nat):Int) - 1 - t.1)) (fun t=>t.2) (fun t=>t.1≤s.length+l.length∧St H [cellT q (cP fB (sweepK (nxW s l) (cellV bitF (letW s l) (nxW s l) y A Bz) ((List.range t.1).map fun j=>s.length+l.length - 1 - j) row)),cellT r8 [I y.op,I y.n],rnR x (tabV (lasL s l) f i) D,cellT r3 [Is s,Is l]] t.2) (fun t=>s.length+l.length - t.1)
          ⟨⟨by simp,st⟩,.refl _,Heap.le_refl _⟩ ?_
        clear st G2
        rintro ⟨j,G2⟩ ⟨hj,st⟩
        dsimp only at hj st
        have hswl:=sweepK_len (nxW s l) (cellV bitF (letW s l) (nxW s l) y A Bz) ((List.range j).map fun j=>s.length+l.length - 1 - j) row
        rw [hrl] at hswl
        have hne:=st.disjI 0 3 rfl rfl (by decide)
        have J:j < s.length+l.length→∀(K0:AV→Heap→Prop) (N1:AV→AV→Heap→Prop) (N2 N3:AV→Heap→Prop),(∀G',St H [cellT q (cP fB (sweepK (nxW s l) (cellV bitF (letW s l) (nxW s l) y A Bz) ((List.range (j+1)).map fun j=>s.length+l.length - 1 - j) row)),cellT r8 [I y.op,I y.n],rnR x (tabV (lasL s l) f i) D,cellT r3 [Is s,Is l]] G'→N3 (I (((s.length+l.length:Nat):Int) - 1 - (j+1:Nat))) G')→
            J54_4 K0 N1 N2 N3 (Ds f) (.ptr r3 0) (I (s.length+l.length:Nat)) x (I i) (.sl q 1 0 (s.length+l.length)) (I t) (I (((s.length+l.length:Nat):Int) - 1 - (j:Int))) (I (nxW s l (s.length+l.length - 1 - j):Nat)) (Ds f) (I f.length) (I i) G2:=by
          intro hj2 K0 N1 N2 N3 hN
          have ek:((s.length+l.length:Nat):Int) - 1 - (j:Int)=((s.length+l.length - 1 - j:Nat):Int):=by omega
          have ek2:IntKind.i64.wrap (((s.length+l.length - 1 - j:Nat):Int) - 1)=((s.length+l.length:Nat):Int) - 1 - (j+1:Nat):=by rw [i64_id (by omega) (by omega)];omega
          rw [sweepK_range,stepK] at hN
          rw [ek]
          generalize hk':s.length+l.length - 1 - j=k' at hN ek2 ⊢
          have hk2:k' < s.length+l.length:=by omega
          have hnx:nxW s l k' < s.length+l.length:=nxW_lt h2.1
          generalize sweepK (nxW s l) (cellV bitF (letW s l) (nxW s l) y A Bz) ((List.range j).map fun j=>s.length+l.length - 1 - j) row=row2 at st hswl hN
          have hc2:=cB_len row2
          have hg2:=cB_get (row:=row2) (k:=nxW s l k') (by omega)
          (try simp (maxSteps:=1000000) (disch:=first | assumption | (apply ν6;assumption)) only [vz,vu,vv,eqS,eF_,↓c1_,↓c2_,tabs,reduceCtorEq,ι5,↓reduceIte,ν1,ν2,ν3,ν4,ν5,ι1,ι2,ι3,ι4,J54_4,load_at (st.get 3 rfl),load_at (st.get 0 rfl),hc2,hswl,hg2])
          refine ⟨by omega,by omega,by omega,?_⟩
          refine Pu.use (l9At_spec s l h1 h2 hk2) ?_
          (try simp (maxSteps:=1000000) (disch:=first | assumption | (apply ν6;assumption)) only [vz,vu,vv,eqS,eF_,↓c1_,↓c2_,tabs,reduceCtorEq,ι5,↓reduceIte,ν1,ν2,ν3,ν4,ν5,ι1,ι2,ι3,ι4,load_at (st.get 0 rfl),hc2,hswl,hg2])
          first | refine ⟨by omega,?_⟩ | skip
          obtain ⟨Gw,hw⟩:=rnR_wk (st.get 2 rfl:RN (LPl xB) 1 x _ G2 D) [Ds f] [I i,I (letW s l k'),I k',I (nxW s l k':Nat),B (row2.getD (nxW s l k') default)]
          refine Pu.thaw (hcell hk2 (row2.getD (nxW s l k') default)) (.bool _) hw ?_
          have hset:=row_setB (row:=row2) (k:=k') (b:=cellV bitF (letW s l) (nxW s l) y A Bz k' (row2.getD (nxW s l k') default)) (by omega)
          (try simp (maxSteps:=1000000) (disch:=first | assumption | (apply ν6;assumption)) only [vz,vu,vv,eqS,eF_,↓c1_,↓c2_,tabs,reduceCtorEq,ι5,↓reduceIte,ν1,ν2,ν3,ν4,ν5,ι1,ι2,ι3,ι4,store_at (st.get 0 rfl),hc2,hswl,hset,ek2])
          refine ⟨by omega,by omega,by omega,?_⟩
          exact hN _ (st.put 0 rfl (cP fB (row2.set k' (cellV bitF (letW s l) (nxW s l) y A Bz k' (row2.getD (nxW s l k') default)))))
        have EX:∀G',St H [cellT q (cP fB (sweepK (nxW s l) (cellV bitF (letW s l) (nxW s l) y A Bz) ((List.range (j+1)).map fun j=>s.length+l.length - 1 - j) row)),cellT r8 [I y.op,I y.n],rnR x (tabV (lasL s l) f i) D,cellT r3 [Is s,Is l]] G'→j < s.length+l.length→∃s':Nat×Heap,(s'.1≤s.length+l.length∧
            St H [cellT q (cP fB (sweepK (nxW s l) (cellV bitF (letW s l) (nxW s l) y A Bz) ((List.range s'.1).map fun j=>s.length+l.length - 1 - j) row)),cellT r8 [I y.op,I y.n],rnR x (tabV (lasL s l) f i) D,cellT r3 [Is s,Is l]] s'.2)∧s.length+l.length - s'.1 < s.length+l.length - j∧(I (((s.length+l.length:Nat):Int) - 1 - (j+1:Nat))).wk (I (((s.length+l.length:Nat):Int) - 1 - s'.1))∧Heap.le s'.2 G':=
          fun G' h hj2=>⟨(j+1,G'),⟨by simp only;omega,h⟩,by simp only;omega,.refl _,Heap.le_refl _⟩
        have e8:IntKind.i64.wrap (((s.length+l.length:Nat):Int) - 1 - (j:Int)+1)=((s.length+l.length:Nat):Int) - j:=by rw [i64_id (by omega) (by omega)];omega
        (try simp (maxSteps:=1000000) (disch:=first | assumption | (apply ν6;assumption)) only [vz,vu,vv,eqS,eF_,↓c1_,↓c2_,tabs,reduceCtorEq,ι5,↓reduceIte,ν1,ν2,ν3,ν4,ν5,ι1,ι2,ι3,ι4,B54_3,load_at (st.get 3 rfl),e8,e6])
        refine ⟨fun h5=>⟨fun h6=>?_,fun h6=>?_⟩,fun h5=>?_⟩
        · have hj2:j < s.length+l.length:=by omega
          have e9:nxW s l (s.length+l.length - 1 - j)=s.length:=by rw [nxW,if_neg (by omega)]
          rw [e9] at J
          exact J hj2 _ _ _ _ fun G' h=>EX G' h hj2
        · have hj2:j < s.length+l.length:=by omega
          have e9:((nxW s l (s.length+l.length - 1 - j):Nat):Int)=((s.length+l.length:Nat):Int) - j:=by rw [nxW,if_pos (by omega)];omega
          rw [e9] at J
          exact J hj2 _ _ _ _ fun G' h=>EX G' h hj2
        · have:j=s.length+l.length:=by omega
          subst this
          refine ⟨(t+1,G2),⟨by simp only;omega,?_⟩,by simp only;omega,.refl _,Heap.le_refl _⟩
          rw [turnK,hrow]
          exact st
      · have:t=2:=by omega
        subst this
        have hR:turnK (nxW s l) (cellV bitF (letW s l) (nxW s l) y A Bz) (s.length+l.length) (decide (y.op=8)) 2=rowF (lasL s l) f i:=by rw [hrowE];rfl
        rw [hR] at st hrl
        refine lit_rowB (rows:=rowF (lasL s l) f i) (st.get 0 rfl) hrl.symm ?_
        have st2:=(St.lose st 0 rfl (G':=G2.del q) fun z hz=>Heap.del_other (by simpa [cellT] using hz)).drop
        have htl:=tabV_len (lasL s l) f i
        refine rn_appR (ys:=[rowF (lasL s l) f i]) st2 0 rfl (by rw [htl];simp only [List.length_singleton];omega) fun q' G' hq' st3=>?_
        rw [← hrowF] at st3 ⊢
        refine ⟨(i+1,_,[q'],G'),⟨by simp only;omega,st3⟩,by simp only;omega,.refl _,?_,Heap.le_refl _⟩
        rw [e5];exact .refl _
  · have:i=f.length:=by omega
    subst this
    exact rnR_val st 0 rfl
end Go.Proofs.Ytjdhigcefkihiaa
namespace Go.Proofs.Ytjdhigcefkihiaa
open Go Go.Sep Go.Pt
attribute [local irreducible] CallT
theorem RL.local {s l:List Int} {v:AV} {G G':Heap} {D:List Nat} (h:RL s l v G D) (hf:∀y∈D,∀b,G y=some b→G' y=some b):RL s l v G' D:=by
  rcases h with h | ⟨q1,q2,rfl,h1,h2,rfl,hne⟩
  · exact .inl h
  · exact .inr ⟨q1,q2,rfl,hf q1 (by simp) _ h1,hf q2 (by simp) _ h2,rfl,hne⟩
theorem RL.has {s l:List Int} {v:AV} {G:Heap} {D:List Nat} (h:RL s l v G D):∀y∈D,G y≠none:=by
  rcases h with ⟨_,_,_,rfl⟩ | ⟨q1,q2,rfl,h1,h2,rfl,hne⟩
  · intro y hy;cases hy
  · intro y hy
    simp only [List.mem_cons,List.not_mem_nil,or_false] at hy
    rcases hy with rfl | rfl
    · rw [h1];simp
    · rw [h2];simp
def RLt (s l:List Int) (ok:Bool) (r:AV) (G:Heap) (D:List Nat):Prop:=∃v,r=.tup [v,B ok]∧RL s l v G D
theorem RLt.res (s l:List Int) (ok:Bool):ResU (RLt s l ok):=by
  have gdrow:∀{xs:List Int} {c:AV},c∈cP fI xs→GdC c:=fun {xs c} hc=>by
    obtain ⟨x,_,rfl⟩:=List.mem_map.1 hc
    exact .p (.int _ _)
  refine ⟨?_,?_,?_⟩
  · rintro r G G' D ⟨v,rfl,h⟩ hf
    exact ⟨v,rfl,h.local hf⟩
  · rintro r G D ⟨v,rfl,h⟩
    have gb:Gd1 (B ok):=.inr ⟨.p (.bool ok),fun _=>rfl⟩
    have gv:Gd1 v∧∀y∈D,∀bs,G y=some bs→∀c∈bs,GdC c:=by
      rcases h with ⟨_,_,rfl,rfl⟩ | ⟨q1,q2,rfl,h1,h2,rfl,hne⟩
      · exact ⟨.inl ⟨_,rfl,fun c hc=>by
          simp only [List.mem_cons,List.not_mem_nil,or_false] at hc
          rcases hc with rfl | rfl<;>exact .p .nil⟩,fun y hy=>by cases hy⟩
      · refine ⟨.inl ⟨_,rfl,fun c hc=>by
          simp only [List.mem_cons,List.not_mem_nil,or_false] at hc
          rcases hc with rfl | rfl<;>exact .inl ⟨_,_,_,_,rfl⟩⟩,fun y hy bs hb c hc=>?_⟩
        simp only [List.mem_cons,List.not_mem_nil,or_false] at hy
        rcases hy with rfl | rfl
        · rw [h1] at hb;cases hb;exact gdrow hc
        · rw [h2] at hb;cases hb;exact gdrow hc
    refine ⟨.inl ⟨_,rfl,fun u hu=>?_⟩,gv.2⟩
    rcases List.mem_cons.1 hu with rfl | hu
    · exact gv.1
    · rw [List.mem_singleton] at hu;rw [hu];exact gb
  · rintro r G D n G0 h0 ⟨v,rfl,h⟩
    have e:∀xs:List Int,(cP fI xs).map (shC n)=cP fI xs:=fun xs=>by
      simp only [cP,List.map_map];rfl
    have sh:∀{q xs},G q=some (cP fI xs)→(Heap.or G0 (shH n G)) (q+n)=some (cP fI xs):=fun {q xs} hq=>by
      simp only [Heap.or,h0 (q+n) (by omega),shH,Nat.le_add_left,if_true,Nat.add_sub_cancel,hq,Option.map_some,e]
    rcases h with ⟨rfl,rfl,rfl,rfl⟩ | ⟨q1,q2,rfl,h1,h2,rfl,hne⟩
    · exact ⟨_,rfl,.inl ⟨rfl,rfl,rfl,rfl⟩⟩
    · exact ⟨_,rfl,.inr ⟨q1+n,q2+n,rfl,sh h1,sh h2,rfl,by omega⟩⟩
theorem RL.mark {s l:List Int} {v:AV} {G:Heap} {D:List Nat} (hx:RL s l v G D) (hs:s.length≤1048576) (hl:l.length≤1048576) {k:Int} (h0:0≤k) (hk:k≤900000000) {K:AV→Heap→Prop}
    (h:∀G',RL (marked k s.length) (marked (k+s.length) l.length) v G' D→(∀y,y∉D→G' y=G y)→K (I (k+s.length+l.length)) G'):CallT Try.prog 18 [v,I k] G K:=by
  refine CallT.fin ?_
  rcases hx with ⟨rfl,rfl,rfl,rfl⟩ | ⟨q1,q2,rfl,h1,h2,rfl,hne⟩
  · refine W18_ok ?_;simp (maxSteps:=1000000) (disch:=first | assumption | (apply ν6;assumption)) only [W18,vz,vu,vv,eqS,eF_,↓c1_,↓c2_,tabs,reduceCtorEq,ι5,↓reduceIte,ν1,ν2,ν3,ν4,ν5,ι1,ι2,ι3,ι4]
    intro r hr
    refine markI0 ?_
    (try simp (maxSteps:=1000000) (disch:=first | assumption | (apply ν6;assumption)) only [vz,vu,vv,eqS,eF_,↓c1_,↓c2_,tabs,reduceCtorEq,ι5,↓reduceIte,ν1,ν2,ν3,ν4,ν5,ι1,ι2,ι3,ι4])
    refine markI0 ?_
    (try simp (maxSteps:=1000000) (disch:=first | assumption | (apply ν6;assumption)) only [vz,vu,vv,eqS,eF_,↓c1_,↓c2_,tabs,reduceCtorEq,ι5,↓reduceIte,ν1,ν2,ν3,ν4,ν5,ι1,ι2,ι3,ι4])
    have:=h G (.inl ⟨rfl,rfl,rfl,rfl⟩) (fun _ _=>rfl)
    simp only [List.length_nil,Int.ofNat_zero,Int.add_zero] at this
    exact fin_le (Heap.le_set hr) this
  · refine W18_ok ?_;simp (maxSteps:=1000000) (disch:=first | assumption | (apply ν6;assumption)) only [W18,vz,vu,vv,eqS,eF_,↓c1_,↓c2_,tabs,reduceCtorEq,ι5,↓reduceIte,ν1,ν2,ν3,ν4,ν5,ι1,ι2,ι3,ι4]
    intro r hr
    have ne1:q1≠r:=fun e=>by rw [e,hr] at h1;cases h1
    have ne2:q2≠r:=fun e=>by rw [e,hr] at h2;cases h2
    have en1:=Ne.symm ne1
    have en2:=Ne.symm ne2
    have enq:=Ne.symm hne
    refine markIntS_live s hs h0 (by omega) (by rw [Heap.set_other ne1,h1,← cells_P]) ?_
    (try simp (maxSteps:=1000000) (disch:=first | assumption | (apply ν6;assumption)) only [vz,vu,vv,eqS,eF_,↓c1_,↓c2_,tabs,reduceCtorEq,ι5,↓reduceIte,ν1,ν2,ν3,ν4,ν5,ι1,ι2,ι3,ι4])
    refine markIntS_live l hl (by omega) (by omega) (by rw [Heap.set_other enq,Heap.set_other ne2,h2,← cells_P]) ?_
    (try simp (maxSteps:=1000000) (disch:=first | assumption | (apply ν6;assumption)) only [vz,vu,vv,eqS,eF_,↓c1_,↓c2_,tabs,reduceCtorEq,ι5,↓reduceIte,ν1,ν2,ν3,ν4,ν5,ι1,ι2,ι3,ι4])
    have hm1:=marked_len k s.length
    have hm2:=marked_len (k+s.length) l.length
    refine fin_le (H:=(G.set q1 (cells ((marked k s.length).map eI))).set q2 (cells ((marked (k+s.length) l.length).map eI))) ?_ (h _ (.inr ⟨q1,q2,by rw [rowP,rowP,rowP,rowP,hm1,hm2],by rw [Heap.set_other hne,Heap.set_same,← cells_P],by rw [Heap.set_same,← cells_P],rfl,hne⟩) fun z hz=>?_)
    · generalize cells ((marked k s.length).map eI)=z
      generalize cells ((marked (k+s.length) l.length).map eI)=z2
      clear h
      (intro y b hy;simp only [Heap.set,Heap.del] at hy ⊢;(repeat' split at hy)<;>(repeat' split)<;>simp_all [cells])
    · simp only [List.mem_cons,List.not_mem_nil,or_false,not_or] at hz
      rw [Heap.set_other hz.2,Heap.set_other hz.1]
end Go.Proofs.Ytjdhigcefkihiaa
namespace Go.Proofs.Ytjdhigcefkihiaa
open Go Go.Sep Go.Pt
attribute [local irreducible] CallT
def colF (w:Las) (f:List Sd) (k:Nat):List Bool:=(List.range f.length).map fun n=>(rowF w f n).getD k default
def rfA (s l:List Int) (f:List Sd) (m:Nat):List Int:=(List.range (s.length+l.length)).map fun k=>guK (colF (lasL s l) f k) (tr f) m
noncomputable def rfR (f:List Sd) (s l:List Int):List Int×List Int×Bool:=
  if goodT f && goodL s l then ((rfA s l f (tr f).length).take s.length,(rfA s l f (tr f).length).drop s.length,true) else ([],[],false)
def Bk (f:List Sd):Nat→Nat→Nat→Prop
  | s,0,t=>s=t
  | s,m+1,t=>1≤s∧s≤f.length∧Bk f (tst f (s - 1)) m t
theorem Bk_app {f:List Sd} {b t:Nat}:∀{a s u:Nat},Bk f s a u→Bk f u b t→Bk f s (a+b) t
  | 0,s,u,h,k=>by
    have:s=u:=h
    subst this;rw [Nat.zero_add];exact k
  | a+1,s,u,h,k=>by
    rw [Nat.add_right_comm]
    exact ⟨h.1,h.2.1,Bk_app h.2.2 k⟩
theorem Bk_node {f:List Sd} (g:GoodFm f) {k:Nat} (hk:k < f.length):Bk f k (need (f.getD k default).op).toNat (tst f k):=by
  have hnd:=sdOk_need (g.ok k hk).1
  rcases (by omega:need (f.getD k default).op=0∨need (f.getD k default).op=1∨need (f.getD k default).op=2) with h | h | h
  · rw [h,tst0 h];rfl
  · obtain ⟨t1,t2⟩:=tst1 g hk h
    rw [h,t2];exact ⟨t1,by omega,rfl⟩
  · obtain ⟨t1,t2,t3,t4,_⟩:=tst2 g hk h
    rw [h,t4];exact ⟨t1,by omega,t2,by omega,rfl⟩
def Row2 (a b:List Int) (ok:Bool) (r:AV) (G:Heap) (D:List Nat):Prop:=∃q1 q2,r=.tup [rowP q1 a,rowP q2 b,B ok]∧G q1=some (cP fI a)∧G q2=some (cP fI b)∧D=[q1,q2]∧q1≠q2
theorem Row2.res (a b:List Int) (ok:Bool):ResT (Row2 a b ok):=by
  refine ⟨?_,?_,?_⟩
  · rintro r G G' D ⟨q1,q2,rfl,h1,h2,rfl,hne⟩ hf
    exact ⟨q1,q2,rfl,hf q1 (by simp) _ h1,hf q2 (by simp) _ h2,rfl,hne⟩
  · rintro r G D ⟨q1,q2,rfl,h1,h2,rfl,hne⟩
    refine ⟨.inl ⟨_,rfl,fun u hu=>?_⟩,fun y hy bs hb c hc=>?_⟩
    · simp only [List.mem_cons,List.not_mem_nil,or_false] at hu
      rcases hu with rfl | rfl | rfl
      · exact .inr ⟨.inl ⟨_,_,_,_,rfl⟩,fun _=>rfl⟩
      · exact .inr ⟨.inl ⟨_,_,_,_,rfl⟩,fun _=>rfl⟩
      · exact .inr ⟨.p (.bool ok),fun _=>rfl⟩
    · simp only [List.mem_cons,List.not_mem_nil,or_false] at hy
      rcases hy with rfl | rfl
      · rw [h1] at hb;cases hb
        obtain ⟨x,_,rfl⟩:=List.mem_map.1 hc
        exact .p (.int _ _)
      · rw [h2] at hb;cases hb
        obtain ⟨x,_,rfl⟩:=List.mem_map.1 hc
        exact .p (.int _ _)
  · rintro r G D n G0 h0 ⟨q1,q2,rfl,h1,h2,rfl,hne⟩
    have e:∀xs:List Int,(cP fI xs).map (shC n)=cP fI xs:=fun xs=>by
      simp only [cP,List.map_map];rfl
    have sh:∀{q xs},G q=some (cP fI xs)→(Heap.or G0 (shH n G)) (q+n)=some (cP fI xs):=fun {q xs} hq=>by
      simp only [Heap.or,h0 (q+n) (by omega),shH,Nat.le_add_left,if_true,Nat.add_sub_cancel,hq,Option.map_some,e]
    exact ⟨q1+n,q2+n,rfl,sh h1,sh h2,rfl,by omega⟩
end Go.Proofs.Ytjdhigcefkihiaa
namespace Go.Proofs.Ytjdhigcefkihiaa
open Go Go.Sep Go.Pt
attribute [local irreducible] CallT
theorem opposite_spec (op:Int):Pu Try.prog 119 [I op] (I (oppF op)):=by
  refine Pu.of fun H=>?_
  refine W119_ok ?_;simp (maxSteps:=1000000) (disch:=first | assumption | (apply ν6;assumption)) only [W119,vz,vu,vv,eqS,eF_,↓c1_,↓c2_,tabs,reduceCtorEq,ι5,↓reduceIte,ν1,ν2,ν3,ν4,ν5,ι1,ι2,ι3,ι4]
  unfold oppF
  refine ⟨fun h=>by rw [if_pos h],fun h1=>⟨fun h=>by rw [if_neg h1,if_pos h],fun h2=>⟨fun h=>by rw [if_neg h1,if_neg h2,if_pos h],fun h3=>⟨fun h=>by rw [if_neg h1,if_neg h2,if_neg h3,if_pos h],fun h=>by rw [if_neg h1,if_neg h2,if_neg h3,if_neg h]⟩⟩⟩⟩
theorem l10Other_spec (op:Int) (h:need op=2):Pu Try.prog 120 [I op] (I (oppF op)):=by
  refine Pu.of fun H=>?_
  refine W120_ok ?_;simp (maxSteps:=1000000) (disch:=first | assumption | (apply ν6;assumption)) only [W120,vz,vu,vv,eqS,eF_,↓c1_,↓c2_,tabs,reduceCtorEq,ι5,↓reduceIte,ν1,ν2,ν3,ν4,ν5,ι1,ι2,ι3,ι4]
  have hop:op=5∨op=6∨op=7∨op=8:=by
    rcases need_cases op with h | h | h | h<;>omega
  unfold oppF
  refine ⟨fun h=>by rw [if_pos h],fun h1=>⟨fun h=>by rw [if_neg h1,if_pos h],fun h2=>⟨fun h=>by rw [if_neg h1,if_neg h2,if_pos h],fun h3=>by rw [if_neg h1,if_neg h2,if_neg h3,if_pos (by omega)]⟩⟩⟩
def parF (f:List Sd) (k:Nat):List (List Sd):=
  if need (f.getD k default).op=0 then [] else if need (f.getD k default).op=1 then [subF f (tst f (k - 1)) (k - 1)]
  else [subF f (tst f (tst f (k - 1) - 1)) (tst f (k - 1) - 1),subF f (tst f (k - 1)) (k - 1)]
theorem litDD {part:List Sd} {G:Heap} {K:AV→Heap→Prop} (h:∀q,G q=none→K (.sl q 1 0 1) (G.set q [Ds part])):buildSliceV tab 115 1 [(0,Ds part)] G (wkK K):=by
  simp only [buildSliceV,tab_115,tab_30]
  refine ⟨by omega,?_⟩
  simp only [fillV,zerosA,List.replicate_succ,List.replicate_zero,List.flatten_cons,List.flatten_nil,List.append_nil,AV.cells,splice]
  simp only [List.length_cons,List.length_nil,Nat.reduceAdd,Nat.zero_mul,Nat.zero_add,Nat.le_refl,and_self,if_true,List.take_zero,List.nil_append,List.drop_succ_cons,List.drop_zero,List.append_nil]
  exact fun r hr=>wkK.keep (h r hr)
theorem lit0DD {G:Heap} {K:AV→Heap→Prop} (h:K (DDs []) G):buildSliceV tab 115 0 [] G (wkK K):=by
  simp only [buildSliceV,tab_115,tab_30]
  refine ⟨by omega,?_⟩
  simp only [fillV,zerosA,List.replicate_zero,List.flatten_nil]
  intro q hq
  have hw:=Wk.own_le (q:=q) (sz:=1) (es:=[]) (H:=G) (H':=G.set q []) (by omega) (fun e he=>by cases he) hq (Heap.le_refl _)
  exact ⟨_,_,hw,h⟩
abbrev vD (b:List Sd):PV:=.sl (b.map eD)
theorem app_DDv {q:Nat} {x:List Sd} {ys:List (List Sd)} {G:Heap} {K:AV→Heap→Prop} (hq:G q=some [Ds x]) (hl:ys.length≤1000) (h:K (DDs (x::ys)) (G.del q)):appendV tab 115 115 (.sl q 1 0 1) (DDs ys) G (wkK K):=by
  simp only [appendV,tab_115,tab_30,srcV,baseV,hq]
  refine ⟨szP vD ys,trivial,by simp,by simp only [List.length_map];omega,by simp only [List.length_map];omega,cells_cell _,fun q' hq'=>?_⟩
  have hne:q'≠q:=fun e=>by rw [e,hq] at hq';cases hq'
  have hw:=Wk.own_le (q:=q') (sz:=1) (es:=(x::ys).map fun b=>[vD b]) (H:=G.del q) (H':=(G.del q).set q' (cells ((x::ys).map fun b=>[vD b]))) (by omega) (szP vD _) (by rw [Heap.del_other hne];exact hq') (Heap.le_refl _)
  refine ⟨_,_,?_,h⟩
  rw [List.length_map]
  have e:1+ys.length=(x::ys).length:=by simp;omega
  rw [e]
  have hc:List.take (1*1) (List.drop 0 [Ds x])++List.map AV.p (List.map (fun b=>[PV.sl (List.map eD b)]) ys).flatten=cells ((x::ys).map fun b=>[vD b]):=rfl
  rw [hc]
  simpa only [Sep.own,List.length_map] using hw
theorem Bk_ge {f:List Sd} (g:GoodFm f) {t:Nat}:∀{m a:Nat},Bk f a m t→t≤a∧(1≤m→t+1≤a)
  | 0,a,h=>by
    have:a=t:=h
    omega
  | m+1,a,h=>by
    have h1:=Bk_ge g h.2.2
    have:=tst_le g (k:=a - 1) (by have:=h.2.1;have:=h.1;omega)
    have:=h.1
    omega
theorem subF_part {f:List Sd} {t k a b:Nat} (hk:k < f.length) (ha:t≤a) (hab:a≤b) (hb:b≤k+1):((subF f t k).drop (a - t)).take (b - a)=(f.drop a).take (b - a):=by
  rw [subF,List.drop_take,List.drop_drop,List.take_take,show t+(a - t)=a by omega,Nat.min_eq_left (by omega)]
theorem partsOf_spec (f:List Sd) (g:GoodFm f) {k:Nat} (hk:k < f.length):Pu Try.prog 118 [Ds (subF f (tst f k) k)] (DDs (parF f k)):=by
  have hl:=g.l1
  have htk:=tst_le g hk
  have hN:=subF_len (f:=f) hk htk
  have hok:=g.ok k hk
  have hnd:=sdOk_need hok.1
  have hget:=fun {j:Nat} (hj:j < k+1 - tst f k)=>subF_get (f:=f) hk htk hj
  have hpart:=fun {a b:Nat}=>subF_part (f:=f) (t:=tst f k) (k:=k) (a:=a) (b:=b) hk
  have hjs:∀i:Nat,(i:Int) < need (f.getD k default).op→1≤frJ f k i∧frJ f k i≤k∧tst f (frJ f k i - 1)=frJ f k (i+1)∧tst f k≤frJ f k (i+1)∧(parF f k).drop ((need (f.getD k default).op).toNat - (i+1))=(f.drop (frJ f k (i+1))).take (frJ f k i - frJ f k (i+1))::(parF f k).drop ((need (f.getD k default).op).toNat - i):=by
    intro i hi
    have q0:frJ f k 0=k:=by simp [frJ]
    have q1:frJ f k 1=tst f (k - 1):=by simp [frJ]
    have q2:frJ f k 2=tst f (tst f (k - 1) - 1):=by simp [frJ]
    rcases (by omega:need (f.getD k default).op=1∨need (f.getD k default).op=2) with h | h
    · obtain ⟨t1,t2⟩:=tst1 g hk h
      have:i=0:=by omega
      subst this
      have ht:=tst_le g (k:=k - 1) (by omega)
      have hp:parF f k=[subF f (tst f (k - 1)) (k - 1)]:=by rw [parF,if_neg (by omega),if_pos h]
      have e:k - 1+1 - tst f (k - 1)=k - tst f (k - 1):=by omega
      rw [hp,h,Nat.zero_add,q0,q1]
      refine ⟨by omega,by omega,rfl,by omega,?_⟩
      rw [subF,e];rfl
    · obtain ⟨t1,t2,t3,t4,_⟩:=tst2 g hk h
      have ht:=tst_le g (k:=tst f (k - 1) - 1) (by omega)
      have hp:parF f k=[subF f (tst f (tst f (k - 1) - 1)) (tst f (k - 1) - 1),subF f (tst f (k - 1)) (k - 1)]:=by rw [parF,if_neg (by omega),if_neg (by omega)]
      rcases (by omega:i=0∨i=1) with rfl | rfl
      · have e:k - 1+1 - tst f (k - 1)=k - tst f (k - 1):=by omega
        rw [hp,h,Nat.zero_add,q0,q1]
        refine ⟨by omega,by omega,rfl,by omega,?_⟩
        rw [subF,subF,e];rfl
      · have e:tst f (k - 1) - 1+1 - tst f (tst f (k - 1) - 1)=tst f (k - 1) - tst f (tst f (k - 1) - 1):=by omega
        rw [hp,h,q1,show 1+1=2 from rfl,q2]
        refine ⟨by omega,by omega,rfl,by omega,?_⟩
        rw [subF,subF,e];rfl
  have hpl:(parF f k).length=(need (f.getD k default).op).toNat:=by
    unfold parF
    rcases (by omega:need (f.getD k default).op=0∨need (f.getD k default).op=1∨need (f.getD k default).op=2) with h | h | h<;>rw [h]<;>simp
  have f0:frJ f k 0=k:=by simp [frJ]
  refine Pu.of fun H=>?_
  have eN:IntKind.i64.wrap (((subF f (tst f k) k).length:Int) - 1)=((k - tst f k:Nat):Int):=by rw [hN,i64_id (by omega) (by omega)];omega
  have hlast:=hget (j:=k - tst f k) (by omega)
  rw [show tst f k+(k - tst f k)=k by omega] at hlast
  refine W118_ok ?_;simp (maxSteps:=1000000) (disch:=first | assumption | (apply ν6;assumption)) only [W118,vz,vu,vv,eqS,eF_,↓c1_,↓c2_,tabs,reduceCtorEq,ι5,↓reduceIte,ν1,ν2,ν3,ν4,ν5,ι1,ι2,ι3,ι4,eN]
  refine lit0DD ?_
  (try simp (maxSteps:=1000000) (disch:=first | assumption | (apply ν6;assumption)) only [vz,vu,vv,eqS,eF_,↓c1_,↓c2_,tabs,reduceCtorEq,ι5,↓reduceIte,ν1,ν2,ν3,ν4,ν5,ι1,ι2,ι3,ι4,eN])
  refine ⟨by omega,by omega,?_⟩
  rw [hlast]
  refine Pu.use (need_impl.operandsOfSaid_spec (f.getD k default).op) ?_
  generalize need (f.getD k default).op=n0 at hnd hjs hpl
  generalize parF f k=P at hjs hpl ⊢
  refine L118_0_rule (0:Nat) (fun i=>DDs (P.drop (n0.toNat - i))) (fun i=>I ((frJ f k i:Int) - (tst f k:Int))) (fun i=>I i) (fun _=>H) (fun i=>(i:Int)≤n0) (fun i=>n0.toNat - i) ⟨by omega,?_,?_,.refl _,Heap.le_refl _⟩ ?_
  · rw [Nat.sub_zero,← hpl,List.drop_length];exact .refl _
  · rw [wk_int,f0];omega
  intro i hi
  (try simp (maxSteps:=1000000) (disch:=first | assumption | (apply ν6;assumption)) only [vz,vu,vv,eqS,eF_,↓c1_,↓c2_,tabs,reduceCtorEq,ι5,↓reduceIte,ν1,ν2,ν3,ν4,ν5,ι1,ι2,ι3,ι4,B118_0])
  refine ⟨fun h1=>?_,fun h1=>?_⟩
  · obtain ⟨j1,j2,j3,j4,j5⟩:=hjs i (by omega)
    have hbk:Bk f (frJ f k i) 1 (frJ f k (i+1)):=⟨j1,by omega,j3⟩
    generalize hb:frJ f k i=b at j1 j2 j3 j5 hbk
    generalize ha:frJ f k (i+1)=a at j3 j4 j5 hbk
    refine L118_1_rule (b,(1:Nat)) (fun t=>I ((t.1:Int) - (tst f k:Int))) (fun t=>I t.2) (fun _=>H) (fun t=>t.1≤b∧t.2≤100+2*(b - t.1)∧Bk f t.1 t.2 a) (fun t=>t.1) ⟨⟨Nat.le_refl _,by omega,hbk⟩,.refl _,.refl _,Heap.le_refl _⟩ ?_
    clear hbk
    rintro ⟨c,m⟩ ⟨hc,hm,hbk⟩
    dsimp only at hc hm hbk
    have hge:=Bk_ge g hbk
    (try simp (maxSteps:=1000000) (disch:=first | assumption | (apply ν6;assumption)) only [vz,vu,vv,eqS,eF_,↓c1_,↓c2_,tabs,reduceCtorEq,ι5,↓reduceIte,ν1,ν2,ν3,ν4,ν5,ι1,ι2,ι3,ι4,B118_1,sliceV])
    refine ⟨fun h2=>?_,fun h2=>?_⟩
    · obtain ⟨m,rfl⟩:∃m',m=m'+1:=⟨m - 1,by omega⟩
      have hc1:=hge.2 (by omega)
      obtain ⟨b1,b2,b3⟩:=hbk
      have ec:IntKind.i64.wrap ((c:Int) - (tst f k:Int) - 1)=((c - 1 - tst f k:Nat):Int):=by rw [i64_id (by omega) (by omega)];omega
      have hb4:=Bk_app (Bk_node g (k:=c - 1) (by omega)) b3
      have hnd2:=sdOk_need (g.ok (c - 1) (by omega)).1
      have hgc:=hget (j:=c - 1 - tst f k) (by omega)
      rw [show tst f k+(c - 1 - tst f k)=c - 1 by omega] at hgc
      rw [ec,Int.toNat_natCast,hgc]
      refine ⟨by omega,by omega,?_⟩
      refine Pu.use (need_impl.operandsOfSaid_spec (f.getD (c - 1) default).op) ?_
      generalize need (f.getD (c - 1) default).op=n1 at hb4 hnd2
      have e1:IntKind.i64.wrap (((m+1:Nat):Int)+IntKind.i64.wrap (n1 - 1))=((n1.toNat+m:Nat):Int):=by
        rw [i64_id (n:=n1 - 1) (by omega) (by omega),i64_id (by omega) (by omega)];omega
      (try simp (maxSteps:=1000000) (disch:=first | assumption | (apply ν6;assumption)) only [vz,vu,vv,eqS,eF_,↓c1_,↓c2_,tabs,reduceCtorEq,ι5,↓reduceIte,ν1,ν2,ν3,ν4,ν5,ι1,ι2,ι3,ι4,e1])
      refine ⟨(c - 1,n1.toNat+m),⟨by simp only;omega,by simp only;omega,hb4⟩,by simp only;omega,?_,.refl _⟩
      rw [wk_int];omega
    · have:m=0:=by omega
      subst this
      have:c=a:=hbk
      subst this
      have e1:((b:Int) - (tst f k:Int) - ((c:Int) - (tst f k:Int))).toNat=b - c:=by omega
      have e2:((c:Int) - (tst f k:Int)).toNat=c - tst f k:=by omega
      refine ⟨by omega,by omega,by omega,by rw [hN];omega,szD _,.inr ?_⟩
      rw [e1,e2,← List.map_drop,← List.map_take,hpart (by omega) (by omega) (by omega)]
      refine litDD fun q hq=>?_
      refine app_DDv (Heap.set_same _ _ _) (by rw [List.length_drop,hpl];omega) ?_
      rw [Heap.del_set hq,← j5]
      refine ⟨i+1,by omega,by omega,.refl _,?_,?_,Heap.le_refl _⟩
      · rw [wk_int,ha]
      · rw [wk_int,i64_id (by omega) (by omega)];simp
  · have:n0.toNat - i=0:=by omega
    rw [this,List.drop_zero]
def rtF (f:List Sd) (k:Nat):List Nat:=if need (f.getD k default).op=0 then [] else if need (f.getD k default).op=1 then [k - 1] else [tst f (k - 1) - 1,k - 1]
theorem parF_eq (f:List Sd) (k:Nat):parF f k=(rtF f k).map fun j=>subF f (tst f j) j:=by
  unfold parF rtF
  split
  · rfl
  · split<;>rfl
theorem rtF_lt {f:List Sd} (g:GoodFm f) {k:Nat} (hk:k < f.length):∀j∈rtF f k,j < k:=by
  intro j hj
  have hnd:=sdOk_need (g.ok k hk).1
  unfold rtF at hj
  split at hj
  · cases hj
  · split at hj
    · rename_i h
      have:=tst1 g hk h
      rw [List.mem_singleton] at hj;omega
    · rename_i h1 h2
      obtain ⟨t1,t2,t3,_⟩:=tst2 g hk (by omega)
      simp only [List.mem_cons,List.not_mem_nil,or_false] at hj
      omega
theorem psF_gen {f:List Sd} (g:GoodFm f) {k:Nat} (hk:k < f.length) (m:Nat) (n:Bool) (h3:(f.getD k default).op≠3) (h12:n=true→(f.getD k default).op≠1∧(f.getD k default).op≠2) :
    psF f (m+1) k n=((rtF f k).map fun j=>psF f m j n).flatten++[⟨if n then oppF (f.getD k default).op else (f.getD k default).op,(f.getD k default).n⟩]:=by
  have hok:=(g.ok k hk).1
  have hnd:=sdOk_need hok
  have r0:need (f.getD k default).op=0→rtF f k=[]:=fun h=>by rw [rtF,if_pos h]
  have r1:need (f.getD k default).op=1→rtF f k=[k - 1]:=fun h=>by rw [rtF,if_neg (by omega),if_pos h]
  have r2:need (f.getD k default).op=2→rtF f k=[tst f (k - 1) - 1,k - 1]:=fun h=>by rw [rtF,if_neg (by omega),if_neg (by omega)]
  rw [psF]
  generalize f.getD k default=x at hok hnd h3 h12 r0 r1 r2
  have hcase:x.op=1∨x.op=2∨x.op=4∨need x.op=2:=by
    rcases need_cases x.op with h | h | h | h<;>omega
  rcases hcase with h | h | h | h
  · have hn:n=false:=by
      cases n
      · rfl
      · exact absurd h (h12 rfl).1
    subst hn
    rw [r0 (by rw [h];rfl),if_neg h3,if_pos h];rfl
  · have hn:n=false:=by
      cases n
      · rfl
      · exact absurd h (h12 rfl).2
    subst hn
    rw [r0 (by rw [h];rfl),if_neg h3,if_neg (by omega),if_pos h];rfl
  · rw [r1 (by rw [h];rfl),if_neg h3,if_neg (by omega),if_neg (by omega),if_pos h]
    have e:(⟨if n then oppF x.op else x.op,x.n⟩:Sd)=x:=by
      have:(if n then oppF x.op else x.op)=x.op:=by rw [h];cases n<;>rfl
      rw [this]
    rw [e];simp
  · have hop:x.op=5∨x.op=6∨x.op=7∨x.op=8:=by
      rcases need_cases x.op with h | h | h | h<;>omega
    have hx0:x.n=0:=by
      rw [sdOk,if_neg (by omega),if_neg (by omega),Bool.and_eq_true,decide_eq_true_eq,decide_eq_true_eq] at hok;exact hok.2
    rw [r2 h,if_neg h3,if_neg (by omega),if_neg (by omega),if_neg (by omega),hx0];simp
theorem lit2D {a b c d:Int} {G:Heap} {K:AV→Heap→Prop} (h:K (Ds [⟨a,b⟩,⟨c,d⟩]) G):buildSliceV tab 30 2 [(0,.agg [I a,I b]),(1,.agg [I c,I d])] G (wkK K):=by
  simp only [buildSliceV,tab_30,tab_80]
  refine ⟨by omega,?_⟩
  simp only [fillV,zerosA,List.replicate_succ,List.replicate_zero,List.flatten_cons,List.flatten_nil,List.append_nil,AV.cells,splice]
  simp only [List.length_cons,List.length_nil,Nat.reduceAdd,Nat.zero_mul,Nat.zero_add,Nat.le_refl,and_self,if_true,List.take_zero,List.nil_append,List.drop_succ_cons,List.drop_zero,List.append_nil,List.cons_append,List.append_assoc]
  intro q hq
  have hw:=Wk.own_le (q:=q) (sz:=2) (es:=[[.int .i64 a,.int .i64 b],[.int .i64 c,.int .i64 d]]) (H:=G) (H':=G.set q [I a,I b,I c,I d]) (by omega) (fun e he=>by
    simp only [List.mem_cons,List.not_mem_nil,or_false] at he
    rcases he with rfl | rfl<;>rfl) hq (Heap.le_refl _)
  exact ⟨_,_,hw,h⟩
theorem pushNot_spec (f:List Sd) (g:GoodFm f):∀m k n,k < m→k < f.length→m≤100→Pu Try.prog 90 [Ds (subF f (tst f k) k),B n] (Ds (psF f m k n)):=by
  intro m
  induction m with
  | zero=>intro k n h _;omega
  | succ m ih=>
    intro k n hkm hk hm
    have hl:=g.l1
    have htk:=tst_le g hk
    have hN:=subF_len (f:=f) hk htk
    have hok:=(g.ok k hk).1
    have hlast:=subF_get (f:=f) hk htk (j:=k - tst f k) (by omega)
    rw [show tst f k+(k - tst f k)=k by omega] at hlast
    have eN:IntKind.i64.wrap (((subF f (tst f k) k).length:Int) - 1)=((k - tst f k:Nat):Int):=by rw [hN,i64_id (by omega) (by omega)];omega
    have hgen:=psF_gen g hk m n
    have hrl:=rtF_lt g hk
    have hps:∀j∈rtF f k,(psF f m j n).length≤32:=fun j hj=>by
      have:=(psF_ok (w:=⟨fun _ _=>false,fun _=>0,fun _=>0,0⟩) (fun k h=>by cases h) g m j n (by have:=hrl j hj;omega) (by have:=hrl j hj;omega)).len
      have:=hrl j hj;omega
    have hrn:(rtF f k).length≤2:=by
      unfold rtF
      split
      · simp
      · split<;>simp
    have hpo:=partsOf_spec f g hk
    rw [parF_eq] at hpo
    have d3:(f.getD k default).op=3→psF f (m+1) k n=psF f m (k - 1) (!n):=fun h=>by rw [psF,if_pos h]
    have d1:(f.getD k default).op=1→n=true→psF f (m+1) k n=[f.getD k default,⟨3,0⟩]:=fun h hn=>by rw [psF,if_neg (by omega),if_pos h,if_pos hn]
    have d2:(f.getD k default).op=2→n=true→psF f (m+1) k n=[⟨2,1 - (f.getD k default).n⟩]:=fun h hn=>by rw [psF,if_neg (by omega),if_neg (by omega),if_pos h,if_pos hn]
    refine ⟨fun H=>CallT.fin ?_⟩
    refine W90_ok ?_;simp (maxSteps:=1000000) (disch:=first | assumption | (apply ν6;assumption)) only [W90,vz,vu,vv,eqS,eF_,↓c1_,↓c2_,tabs,reduceCtorEq,ι5,↓reduceIte,ν1,ν2,ν3,ν4,ν5,ι1,ι2,ι3,ι4,eN]
    refine ⟨by omega,by omega,?_⟩
    rw [hlast]
    refine Pu.use hpo ?_
    have h3r:(f.getD k default).op=3→1≤k∧rtF f k=[k - 1]:=fun h=>by
      have hn1:need (f.getD k default).op=1:=by rw [h];rfl
      exact ⟨(tst1 g hk hn1).1,by rw [rtF,if_neg (by omega),if_pos hn1]⟩
    generalize f.getD k default=x at hok hgen d3 d1 d2 h3r ⊢
    generalize rtF f k=R at hgen hrl hps hrn h3r hpo ⊢
    (try simp (maxSteps:=1000000) (disch:=first | assumption | (apply ν6;assumption)) only [vz,vu,vv,eqS,eF_,↓c1_,↓c2_,tabs,reduceCtorEq,ι5,↓reduceIte,ν1,ν2,ν3,ν4,ν5,ι1,ι2,ι3,ι4,hlast])
    intro r hr
    have st:=(St.nil H).cell hr [I x.op,I x.n]
    have ec:H.set r [AV.p (PV.int IntKind.i64 x.op),AV.p (PV.int IntKind.i64 x.n)]=H.set r [I x.op,I x.n]:=rfl
    rw [ec]
    generalize H.set r [I x.op,I x.n]=G at st ⊢
    clear ec hr
    have LL:∀(op':Int) (G:Heap),psF f (m+1) k n=(R.map fun j=>psF f m j n).flatten++[⟨op',x.n⟩]→St H [cellT r [I op',I x.n]] G→
        buildSliceV tab 30 0 [] G (wkK fun v56 H15=>L90_0 (wkK fun r H'=>r=Ds (psF f (m+1) k n)∧H'=H) (B n) (.ptr r 0) v56 (DDs (R.map fun j=>subF f (tst f j) j)) (I R.length) (I 0) H15):=by
      intro op' G he st
      refine lit0D fun q0 hq0=>?_
      replace st:=st.cell hq0 (cD [])
      generalize G.set q0 (cD [])=G1 at st ⊢
      have hsum:∀i,i≤R.length→((R.take i).map fun j=>psF f m j n).flatten.length≤32*i:=by
        intro i
        induction i with
        | zero=>intro _;simp
        | succ i ih=>
          intro hi
          rw [take_succ_snoc (by omega:i < R.length),List.map_append,List.flatten_append,List.length_append]
          have h1:=ih (by omega)
          have h2:=hps (R.getD i default) (getD_all (p:=fun x=>x∈R) (fun _ h=>h) (by omega))
          simp only [List.map_cons,List.map_nil,List.flatten_cons,List.flatten_nil,List.append_nil]
          omega
      refine L90_0_rule ((0:Nat),q0,G1) (fun t=>rowD t.2.1 ((R.take t.1).map fun j=>psF f m j n).flatten) (fun t=>I t.1) (fun t=>t.2.2) (fun t=>t.1≤R.length∧St H [cellT t.2.1 (cD ((R.take t.1).map fun j=>psF f m j n).flatten),cellT r [I op',I x.n]] t.2.2) (fun t=>R.length - t.1)
        ⟨⟨by simp,st⟩,.refl _,.refl _,Heap.le_refl _⟩ ?_
      clear st
      rintro ⟨i,q,G⟩ ⟨hi,st⟩
      dsimp only at hi st
      have e5:IntKind.i64.wrap ((i:Int)+1)=((i+1:Nat):Int):=by rw [i64_id (by omega) (by omega)];simp
      have hs1:=hsum i hi
      (try simp (maxSteps:=1000000) (disch:=first | assumption | (apply ν6;assumption)) only [vz,vu,vv,eqS,eF_,↓c1_,↓c2_,tabs,reduceCtorEq,ι5,↓reduceIte,ν1,ν2,ν3,ν4,ν5,ι1,ι2,ι3,ι4,B90_0,load_at (st.get 1 rfl),e5])
      refine ⟨fun h1=>?_,fun h1=>?_⟩
      · have hlt:i < R.length:=by omega
        have hs2:=hsum (i+1) (by omega)
        have hj:R.getD i default∈R:=getD_all (p:=fun x=>x∈R) (fun _ h=>h) hlt
        have hjk:=hrl _ hj
        have eg:(R.map fun j=>subF f (tst f j) j).getD i default=subF f (tst f (R.getD i default)) (R.getD i default):=by
          rw [List.getD,List.getElem?_map,List.getElem?_eq_getElem hlt];simp [List.getD,hlt]
        have es:((R.take (i+1)).map fun j=>psF f m j n).flatten=((R.take i).map fun j=>psF f m j n).flatten++psF f m (R.getD i default) n:=by
          rw [take_succ_snoc hlt,List.map_append,List.flatten_append];simp
        rw [eg]
        refine ⟨by omega,by omega,?_⟩
        refine Pu.use (ih (R.getD i default) n (by omega) (by omega) (by omega)) ?_
        have hj2:=hps _ hj
        refine app_DX (ex:=[]) (by rw [List.append_nil];exact st.get 0 rfl) (by omega) fun q' hq' hne=>?_
        rw [← es]
        exact ⟨(i+1,q',_),⟨by simp only;omega,St.moved (c:=cD ((R.take (i+1)).map fun j=>psF f m j n).flatten) st 0 rfl hq'⟩,by simp only;omega,.refl _,.refl _,Heap.le_refl _⟩
      · have:i=R.length:=by omega
        subst this
        rw [List.take_length] at st hs1 ⊢
        refine litDv ?_
        refine app_Dv (ex:=[]) (by rw [List.append_nil];exact st.get 0 rfl) (by simp only [List.length_singleton];omega) ?_
        rw [← he]
        refine ⟨_,_,.forget (H':=H) ?_,rfl,rfl⟩
        exact Heap.le_del st.le (st.fr (cellT q (cD (R.map fun j=>psF f m j n).flatten)) (by simp) q (by simp [cellT]))
    have J1:x.op≠3→(n=true→x.op≠1∧x.op≠2)→J90_1 (wkK fun r H'=>r=Ds (psF f (m+1) k n)∧H'=H) (B n) (.ptr r 0) (DDs (R.map fun j=>subF f (tst f j) j)) (B n) G:=by
      intro h3 h12
      have he:=hgen h3 h12
      cases n
      · (try simp (maxSteps:=1000000) (disch:=first | assumption | (apply ν6;assumption)) only [vz,vu,vv,eqS,eF_,↓c1_,↓c2_,tabs,reduceCtorEq,ι5,↓reduceIte,ν1,ν2,ν3,ν4,ν5,ι1,ι2,ι3,ι4,J90_1])
        exact LL x.op G he st
      · (try simp (maxSteps:=1000000) (disch:=first | assumption | (apply ν6;assumption)) only [vz,vu,vv,eqS,eF_,↓c1_,↓c2_,tabs,reduceCtorEq,ι5,↓reduceIte,ν1,ν2,ν3,ν4,ν5,ι1,ι2,ι3,ι4,J90_1,load_at (st.get 0 rfl)])
        refine Pu.use (opposite_spec x.op) ?_
        (try simp (maxSteps:=1000000) (disch:=first | assumption | (apply ν6;assumption)) only [vz,vu,vv,eqS,eF_,↓c1_,↓c2_,tabs,reduceCtorEq,ι5,↓reduceIte,ν1,ν2,ν3,ν4,ν5,ι1,ι2,ι3,ι4,store_at (st.get 0 rfl)])
        exact LL (oppF x.op) _ he (st.put 0 rfl [I (oppF x.op),I x.n])
    refine ⟨fun c3=>?_,fun c3=>⟨fun c1=>⟨fun hn=>?_,fun hn=>?_⟩,fun c1=>⟨fun c2=>?_,fun c2=>?_⟩⟩⟩
    · obtain ⟨k1,rfl⟩:=h3r c3
      refine ⟨by omega,by simp,?_⟩
      refine Pu.use (ih (k - 1) (!n) (by omega) (by omega) (by omega)) ?_
      rw [← d3 c3]
      exact ⟨_,_,.forget st.le,rfl,rfl⟩
    · refine lit2D ?_
      rw [d1 c1 hn]
      exact ⟨_,_,.forget st.le,rfl,rfl⟩
    · exact ⟨fun h=>by omega,fun _=>J1 c3 fun h=>by rw [hn] at h;cases h⟩
    · cases n
      · (try simp (maxSteps:=1000000) (disch:=first | assumption | (apply ν6;assumption)) only [vz,vu,vv,eqS,eF_,↓c1_,↓c2_,tabs,reduceCtorEq,ι5,↓reduceIte,ν1,ν2,ν3,ν4,ν5,ι1,ι2,ι3,ι4,J90_2])
        exact J1 c3 fun h=>by cases h
      · have hx01:x.n=0∨x.n=1:=by
          have:=hok
          rw [sdOk,if_neg c1,if_pos c2,Bool.or_eq_true,decide_eq_true_eq,decide_eq_true_eq] at this;exact this
        have ew:IntKind.i64.wrap (1 - x.n)=1 - x.n:=i64_id (by omega) (by omega)
        (try simp (maxSteps:=1000000) (disch:=first | assumption | (apply ν6;assumption)) only [vz,vu,vv,eqS,eF_,↓c1_,↓c2_,tabs,reduceCtorEq,ι5,↓reduceIte,ν1,ν2,ν3,ν4,ν5,ι1,ι2,ι3,ι4,J90_2,load_at (st.get 0 rfl),ew])
        refine litDv ?_
        rw [d2 c2 rfl]
        exact ⟨_,_,.forget st.le,rfl,rfl⟩
    · exact J1 c3 fun _=>⟨c1,c2⟩
end Go.Proofs.Ytjdhigcefkihiaa
namespace Go.Proofs.Ytjdhigcefkihiaa
open Go Go.Sep Go.Pt
attribute [local irreducible] CallT
theorem newD (x:Sd):buildN tab 30 1 [(0,.agg [I x.op,I x.n])]=some (fun r=>.sl r 2 0 1,[I x.op,I x.n]):=by
  simp only [buildN,tab_30,tab_80,ifN,fillV,zerosA,AV.cells,splice]
  rfl
theorem app_DL {q s:Nat} {xs ys:List Sd} {G:Heap} {K:AV→Heap→Prop} (hq:G q=some (cD xs)) (hs:G s=some (cD ys)) (hl:xs.length+ys.length≤1000000000)
    (h:∀q',G q'=none→q'≠q→K (rowD q' (xs++ys)) ((G.del q).set q' (cD (xs++ys)))):appendV tab 30 30 (rowD q xs) (rowD s ys) G (wkK K):=by
  have hlen:(cD xs).length=xs.length*2:=cells_map_len (sz:=2) (fun _=>rfl) xs
  have hlen2:(cD ys).length=ys.length*2:=cells_map_len (sz:=2) (fun _=>rfl) ys
  simp only [appendV,tab_30,tab_80,srcV,baseV,hq,hs]
  have e:List.take (xs.length*2) (List.drop 0 (cD xs))=cD xs:=by rw [List.drop_zero,← hlen,List.take_length]
  have e2:List.take (ys.length*2) (List.drop 0 (cD ys))=cD ys:=by rw [List.drop_zero,← hlen2,List.take_length]
  refine ⟨trivial,by omega,trivial,by omega,by omega,by omega,by rw [e2];exact cells_cell _,fun q' hq'=>wkK.keep ?_⟩
  have hne:q'≠q:=fun e=>by rw [e,hq] at hq';cases hq'
  have:=h q' hq' hne
  rw [e,e2]
  simpa only [rowD,cD,List.map_append,cells_app,List.length_append] using this
theorem lit2Dl {a b c d:Int} {G:Heap} {K:AV→Heap→Prop} (h:∀q,G q=none→K (.sl q 2 0 2) (G.set q [I a,I b,I c,I d])):buildSliceV tab 30 2 [(0,.agg [I a,I b]),(1,.agg [I c,I d])] G (wkK K):=by
  simp only [buildSliceV,tab_30,tab_80]
  refine ⟨by omega,?_⟩
  simp only [fillV,zerosA,List.replicate_succ,List.replicate_zero,List.flatten_cons,List.flatten_nil,List.append_nil,AV.cells,splice]
  simp only [List.length_cons,List.length_nil,Nat.reduceAdd,Nat.zero_mul,Nat.zero_add,Nat.le_refl,and_self,if_true,List.take_zero,List.nil_append,List.drop_succ_cons,List.drop_zero,List.append_nil,List.cons_append,List.append_assoc]
  exact fun q hq=>wkK.keep (h q hq)
theorem l10Push_row (f:List Sd) (g:GoodFm f):∀m k n,k < m→k < f.length→m≤100→∀{H:Heap} {K:AV→Heap→Prop},(∀q,H q=none→K (rowD q (psF f m k n)) (H.set q (cD (psF f m k n))))→CallT Try.prog 91 [Ds f,I k,B n] H K:=by
  intro m
  induction m with
  | zero=>intro k n h _;omega
  | succ m ih=>
    intro k n hkm hk hm H K hK
    have hl:=g.l1
    have hok:=(g.ok k hk).1
    have hnd:=sdOk_need hok
    have htk:=tst_le g hk
    have hlen:∀j,j < k→∀n,(psF f m j n).length≤40:=fun j hj n=>by
      have:=(psF_ok (w:=⟨fun _ _=>false,fun _=>0,fun _=>0,0⟩) (fun k h=>by cases h) g m j n (by omega) (by omega)).len
      omega
    have vih:∀j n,j < k→∀{H:Heap} {K:AV→Heap→Prop},K (Ds (psF f m j n)) H→CallT Try.prog 91 [Ds f,I j,B n] H K:=by
      intro j n hj H K hK
      refine CallT.fin (ih j n (by omega) (by omega) (by omega) fun q hq=>?_)
      have hw:=Wk.own_le (q:=q) (sz:=2) (es:=(psF f m j n).map eD) (H:=H) (H':=H.set q (cD (psF f m j n))) (by omega) (szD _) hq (Heap.le_refl _)
      refine ⟨_,_,?_,hK⟩
      simpa only [Sep.own,List.length_map] using hw
    have t1:=fun h=>tst1 g hk h
    have t2:=fun h=>tst2 g hk h
    have hfrom:=fun h=>l10From_spec f g (k - 1) h
    rw [psF] at hK
    refine CallT.fin ?_
    refine W91_ok ?_;simp (maxSteps:=1000000) (disch:=first | assumption | (apply ν6;assumption)) only [W91,vz,vu,vv,eqS,eF_,↓c1_,↓c2_,tabs,reduceCtorEq,ι5,↓reduceIte,ν1,ν2,ν3,ν4,ν5,ι1,ι2,ι3,ι4]
    generalize f.getD k default=x at hok hnd hK t1 t2 ⊢
    refine ⟨by omega,by omega,fun r hr=>?_⟩
    have fin:∀(b:List AV) (xs:List Sd) q,(∀q,H q=none→K (rowD q xs) (H.set q (cD xs)))→(H.set r b) q=none→wkK K (rowD q xs) ((H.set r b).set q (cD xs)):=fun b xs q h hq=>by
      rw [Heap.set_none] at hq
      refine fin_le ?_ (h q hq.2)
      generalize cD xs=z
      have:=hq.1
      have:=hq.2
      clear hK h
      (intro y b hy;simp only [Heap.set,Heap.del] at hy ⊢;(repeat' split at hy)<;>(repeat' split)<;>simp_all [cells])
    have ex:1≤k→IntKind.i64.wrap ((k:Int) - 1)=((k - 1:Nat):Int):=fun h=>by rw [i64_id (by omega) (by omega)];omega
    refine ⟨fun c3=>?_,fun c3=>⟨fun c1=>⟨fun hn=>?_,fun hn=>?_⟩,fun c1=>⟨fun c2=>?_,fun c2=>⟨fun c4=>?_,fun c4=>?_⟩⟩⟩⟩
    · have hk1:=(t1 (by rw [c3];rfl)).1
      rw [if_pos c3] at hK
      rw [ex hk1]
      exact ih (k - 1) (!n) (by omega) (by omega) (by omega) fun q hq=>fin _ _ q hK hq
    · rw [if_neg c3,if_pos c1,if_pos hn] at hK
      exact lit2Dl fun q hq=>fin _ [x,⟨3,0⟩] q hK hq
    · rw [if_neg c3,if_pos c1,if_neg (by rw [hn];simp)] at hK
      exact litD fun q hq=>fin _ [x] q hK hq
    · have hx01:x.n=0∨x.n=1:=by
        have:=hok
        rw [sdOk,if_neg c1,if_pos c2,Bool.or_eq_true,decide_eq_true_eq,decide_eq_true_eq] at this;exact this
      have ew:IntKind.i64.wrap (1 - x.n)=1 - x.n:=i64_id (by omega) (by omega)
      have e2:(⟨2,1 - x.n⟩:Sd)=⟨x.op,1 - x.n⟩:=by rw [c2]
      rw [if_neg c3,if_neg c1,if_pos c2,e2] at hK
      rw [ew]
      refine ⟨fun hn=>?_,fun hn=>?_⟩
      · rw [if_pos hn] at hK
        exact litD fun q hq=>fin _ [⟨x.op,1 - x.n⟩] q hK hq
      · rw [if_neg (by rw [hn];simp)] at hK
        exact litD fun q hq=>fin _ [x] q hK hq
    · have hk1:=(t1 (by rw [c4];rfl)).1
      rw [if_neg c3,if_neg c1,if_neg c2,if_pos c4] at hK
      rw [ex hk1]
      have hnew:=newD x
      rw [hnew]
      refine ⟨trivial,?_⟩
      have hpl:=hlen (k - 1) (by omega) n
      refine ih (k - 1) n (by omega) (by omega) (by omega) fun q hq=>?_
      rw [Heap.set_none] at hq
      have hrq:r≠q:=Ne.symm hq.1
      generalize psF f m (k - 1) n=ys at hK hpl ⊢
      have hld:((H.set r [I x.op,I x.n]).set q (cD ys)) r=some [I x.op,I x.n]:=by rw [Heap.set_other hrq,Heap.set_same]
      (try simp (maxSteps:=1000000) (disch:=first | assumption | (apply ν6;assumption)) only [vz,vu,vv,eqS,eF_,↓c1_,↓c2_,tabs,reduceCtorEq,ι5,↓reduceIte,ν1,ν2,ν3,ν4,ν5,ι1,ι2,ι3,ι4,load_at hld,newV])
      intro s hsq hsr hs
      have hqs:q≠s:=Ne.symm hsq
      have hx1:[x].length=1:=rfl
      have hgs:((((H.set r [I x.op,I x.n]).set q (cD ys)).set s [I x.op,I x.n])) s=some (cD [x]):=Heap.set_same _ _ _
      refine app_DL (s:=s) (xs:=ys) (ys:=[x]) (by rw [Heap.set_other hqs,Heap.set_same]) hgs (by simp;omega) fun q' hq' hne=>?_
      rw [Heap.set_none,Heap.set_none,Heap.set_none] at hq'
      obtain ⟨n1,n2,n3,n4⟩:=hq'
      refine fin_le ?_ (hK q' n4)
      have:=hq.2
      clear hK fin hld hgs
      generalize cD (ys++[x])=z
      generalize cD ys=z2
      (intro y b hy;simp only [Heap.set,Heap.del] at hy ⊢;(repeat' split at hy)<;>(repeat' split)<;>simp_all [cells])
    · have hn2:need x.op=2:=by
        rcases need_cases x.op with h | h | h | h<;>omega
      rw [if_neg c3,if_neg c1,if_neg c2,if_neg c4] at hK
      obtain ⟨k1,k2,k3,_⟩:=t2 hn2
      have hpa:=hlen (tst f (k - 1) - 1) (by omega) n
      have hpb:=hlen (k - 1) (by omega) n
      have JJ:∀op':Int,(if n=true then oppF x.op else x.op)=op'→J91_0 (wkK K) (Ds f) (I k) (B n) (I op') (H.set r [I x.op,I x.n]):=by
        intro op' hop'
        rw [hop'] at hK
        have ex2:IntKind.i64.wrap ((tst f (k - 1):Int) - 1)=((tst f (k - 1) - 1:Nat):Int):=by rw [i64_id (by omega) (by omega)];omega
        (try simp (maxSteps:=1000000) (disch:=first | assumption | (apply ν6;assumption)) only [vz,vu,vv,eqS,eF_,↓c1_,↓c2_,tabs,reduceCtorEq,ι5,↓reduceIte,ν1,ν2,ν3,ν4,ν5,ι1,ι2,ι3,ι4,J91_0,ex k1])
        refine Pu.use (hfrom (by omega)) ?_
        (try simp (maxSteps:=1000000) (disch:=first | assumption | (apply ν6;assumption)) only [vz,vu,vv,eqS,eF_,↓c1_,↓c2_,tabs,reduceCtorEq,ι5,↓reduceIte,ν1,ν2,ν3,ν4,ν5,ι1,ι2,ι3,ι4,ex2,ex k1])
        refine ih (tst f (k - 1) - 1) n (by omega) (by omega) (by omega) fun q hq=>?_
        refine vih (k - 1) n (by omega) ?_
        refine app_DX (ex:=[]) (by rw [Heap.set_same,List.append_nil]) (by omega) fun q2 hq2 hne2=>?_
        rw [Heap.del_set hq]
        rw [Heap.set_none] at hq2
        (try simp (maxSteps:=1000000) (disch:=first | assumption | (apply ν6;assumption)) only [vz,vu,vv,eqS,eF_,↓c1_,↓c2_,tabs,reduceCtorEq,ι5,↓reduceIte,ν1,ν2,ν3,ν4,ν5,ι1,ι2,ι3,ι4])
        refine litDv ?_
        refine app_DX (ex:=[]) (by rw [Heap.set_same,List.append_nil]) (by rw [List.length_append];simp only [List.length_singleton];omega) fun q3 hq3 hne3=>?_
        rw [Heap.del_set hq2.2]
        rw [Heap.set_none] at hq3
        exact fin _ _ q3 hK hq3.2
      refine ⟨fun hn=>?_,fun hn=>?_⟩
      · refine Pu.use (l10Other_spec x.op hn2) ?_
        exact JJ _ (if_pos hn)
      · exact JJ _ (if_neg (by rw [hn];simp))
def puR (f:List Sd) (n:Bool):List Sd×Bool:=if goodF f then mdR (psF f 20 (f.length - 1) n) else ([],false)
theorem psF_len {f:List Sd} (g:GoodFm f) {k:Nat} (hk:k < f.length) (n:Bool):(psF f 20 k n).length≤40:=by
  have hl:=g.l1
  have:=(psF_ok (w:=⟨fun _ _=>false,fun _=>0,fun _=>0,0⟩) (fun k h=>by cases h) g 20 k n (by omega) hk).len
  omega
theorem PushNot_ref (f:List Sd) (hf:f.length≤1048576) (n:Bool):Pu Try.prog 40 [Ds f,B n] (.tup [Ds (puR f n).1,B (puR f n).2]):=by
  refine ⟨fun H=>CallT.fin ?_⟩
  refine W40_ok ?_;simp (maxSteps:=1000000) (disch:=first | assumption | (apply ν6;assumption)) only [W40,vz,vu,vv,eqS,eF_,↓c1_,↓c2_,tabs,reduceCtorEq,ι5,↓reduceIte,ν1,ν2,ν3,ν4,ν5,ι1,ι2,ι3,ι4]
  refine Pu.use (GoodSaid_spec f hf) ?_
  cases hg:goodF f
  · have e:puR f n=([],false):=by rw [puR,hg];rfl
    rw [e]
    (try simp (maxSteps:=1000000) (disch:=first | assumption | (apply ν6;assumption)) only [vz,vu,vv,eqS,eF_,↓c1_,↓c2_,tabs,reduceCtorEq,ι5,↓reduceIte,ν1,ν2,ν3,ν4,ν5,ι1,ι2,ι3,ι4])
    exact noD
  have g:=goodF_iff.1 hg
  have hl0:=g.l0
  have hl1:=g.l1
  have e:puR f n=mdR (psF f 20 (f.length - 1) n):=by rw [puR,hg];rfl
  have e1:IntKind.i64.wrap ((f.length:Int) - 1)=((f.length - 1:Nat):Int):=by rw [i64_id (by omega) (by omega)];omega
  rw [e]
  have hpl:=psF_len g (k:=f.length - 1) (by omega) n
  (try simp (maxSteps:=1000000) (disch:=first | assumption | (apply ν6;assumption)) only [vz,vu,vv,eqS,eF_,↓c1_,↓c2_,tabs,reduceCtorEq,ι5,↓reduceIte,ν1,ν2,ν3,ν4,ν5,ι1,ι2,ι3,ι4,e1])
  refine CallT.fin (l10Push_row f g 20 (f.length - 1) n (by omega) (by omega) (by omega) fun q hq=>?_)
  generalize psF f 20 (f.length - 1) n=r at hpl ⊢
  have hw:=Wk.own_le (q:=q) (sz:=2) (es:=r.map eD) (H:=H) (H':=H.set q (cD r)) (by omega) (szD _) hq (Heap.le_refl _)
  refine ⟨Ds r,H,by simpa only [Sep.own,List.length_map] using hw,?_⟩
  refine Pu.use (l10Made_spec r (by omega)) ?_
  (try simp (maxSteps:=1000000) (disch:=first | assumption | (apply ν6;assumption)) only [vz,vu,vv,eqS,eF_,↓c1_,↓c2_,tabs,reduceCtorEq,ι5,↓reduceIte,ν1,ν2,ν3,ν4,ν5,ι1,ι2,ι3,ι4])
  exact wkK.keep ⟨rfl,rfl⟩
theorem PushNot_impl (f:List Sd) (hf:f.length≤1048576) (n:Bool):Pu Try.prog 39 [Ds f,B n] (.tup [Ds (puR f n).1,B (puR f n).2]):=by
  refine ⟨fun H=>CallT.fin ?_⟩
  refine W39_ok ?_;simp (maxSteps:=1000000) (disch:=first | assumption | (apply ν6;assumption)) only [W39,vz,vu,vv,eqS,eF_,↓c1_,↓c2_,tabs,reduceCtorEq,ι5,↓reduceIte,ν1,ν2,ν3,ν4,ν5,ι1,ι2,ι3,ι4]
  refine Pu.use (GoodSaid_impl f hf) ?_
  cases hg:goodF f
  · have e:puR f n=([],false):=by rw [puR,hg];rfl
    rw [e]
    (try simp (maxSteps:=1000000) (disch:=first | assumption | (apply ν6;assumption)) only [vz,vu,vv,eqS,eF_,↓c1_,↓c2_,tabs,reduceCtorEq,ι5,↓reduceIte,ν1,ν2,ν3,ν4,ν5,ι1,ι2,ι3,ι4])
    exact noD
  have g:=goodF_iff.1 hg
  have hl0:=g.l0
  have hl1:=g.l1
  have e:puR f n=mdR (psF f 20 (f.length - 1) n):=by rw [puR,hg];rfl
  rw [e]
  have hpl:=psF_len g (k:=f.length - 1) (by omega) n
  have hpn:=pushNot_spec f g 20 (f.length - 1) n (by omega) (by omega) (by omega)
  rw [subF_all g] at hpn
  (try simp (maxSteps:=1000000) (disch:=first | assumption | (apply ν6;assumption)) only [vz,vu,vv,eqS,eF_,↓c1_,↓c2_,tabs,reduceCtorEq,ι5,↓reduceIte,ν1,ν2,ν3,ν4,ν5,ι1,ι2,ι3,ι4])
  refine Pu.use hpn ?_
  refine Pu.use (checkedSaid_spec _ (by omega)) ?_
  (try simp (maxSteps:=1000000) (disch:=first | assumption | (apply ν6;assumption)) only [vz,vu,vv,eqS,eF_,↓c1_,↓c2_,tabs,reduceCtorEq,ι5,↓reduceIte,ν1,ν2,ν3,ν4,ν5,ι1,ι2,ι3,ι4])
  exact wkK.keep ⟨rfl,rfl⟩
def ipB (f:List Sd):Bool:=(List.range f.length).all fun i=>!decide ((f.getD i default).op=3) || decide ((f.getD (i - 1) default).op=1)
def ipR (f:List Sd):Bool×Bool:=if goodF f then (ipB f,true) else (false,false)
theorem ipB_of {f:List Sd} (h:notP f):ipB f=true:=by
  refine List.all_eq_true.2 fun i hi=>?_
  by_cases h3:(f.getD i default).op=3
  · have:=h i (List.mem_range.1 hi) h3
    rw [decide_eq_true this.2];simp
  · rw [decide_eq_false h3];rfl
theorem isPushed_spec (f:List Sd) (g:GoodFm f):Pu Try.prog 92 [Ds f] (B (ipB f)):=by
  have hl:=g.l1
  refine Pu.of fun H=>?_
  refine W92_ok ?_;simp (maxSteps:=1000000) (disch:=first | assumption | (apply ν6;assumption)) only [W92,vz,vu,vv,eqS,eF_,↓c1_,↓c2_,tabs,reduceCtorEq,ι5,↓reduceIte,ν1,ν2,ν3,ν4,ν5,ι1,ι2,ι3,ι4]
  refine L92_0_rule (0:Nat) (fun i=>I i) (fun _=>H) (fun i=>i≤f.length∧∀j,j < i→(!decide ((f.getD j default).op=3) || decide ((f.getD (j - 1) default).op=1))=true) (fun i=>f.length - i) ⟨⟨by omega,by intros;omega⟩,.refl _,Heap.le_refl _⟩ ?_
  rintro i ⟨hi,ha⟩
  have e5:IntKind.i64.wrap ((i:Int)+1)=((i+1:Nat):Int):=by rw [i64_id (by omega) (by omega)];simp
  (try simp (maxSteps:=1000000) (disch:=first | assumption | (apply ν6;assumption)) only [vz,vu,vv,eqS,eF_,↓c1_,↓c2_,tabs,reduceCtorEq,ι5,↓reduceIte,ν1,ν2,ν3,ν4,ν5,ι1,ι2,ι3,ι4,B92_0,e5])
  refine ⟨fun h1=>⟨by omega,h1,fun r hr=>?_⟩,fun h1=>?_⟩
  · have hlt:i < f.length:=by omega
    have hle:=fun z=>Heap.le_set (b:=z) hr
    have hok:=g.ok i hlt
    have step:(!decide ((f.getD i default).op=3) || decide ((f.getD (i - 1) default).op=1))=true→∀j,j < i+1→(!decide ((f.getD j default).op=3) || decide ((f.getD (j - 1) default).op=1))=true:=fun h j hj=>by
      rcases Nat.lt_succ_iff_lt_or_eq.1 hj with h' | rfl
      · exact ha j h'
      · exact h
    refine ⟨fun h3=>?_,fun h3=>⟨i+1,⟨by omega,step (by rw [decide_eq_false h3];rfl)⟩,by omega,.refl _,hle _⟩⟩
    have hn1:need (f.getD i default).op=1:=by rw [h3];rfl
    have hi1:=(tst1 g hlt hn1).1
    have ei:IntKind.i64.wrap ((i:Int) - 1)=((i - 1:Nat):Int):=by rw [i64_id (by omega) (by omega)];omega
    rw [ei,Int.toNat_natCast]
    refine ⟨by omega,by omega,fun h4=>⟨?_,hle _⟩,fun h4=>⟨i+1,⟨by omega,step (by rw [decide_eq_true h4];simp)⟩,by omega,.refl _,hle _⟩⟩
    have:ipB f=false:=range_all_false hlt (by rw [decide_eq_true h3,decide_eq_false h4];rfl)
    rw [this]
  · have:i=f.length:=by omega
    subst this
    have:ipB f=true:=List.all_eq_true.2 fun j hj=>ha j (List.mem_range.1 hj)
    rw [this]
theorem IsPushed_ref (f:List Sd) (hf:f.length≤1048576):Pu Try.prog 45 [Ds f] (.tup [B (ipR f).1,B (ipR f).2]):=by
  refine Pu.of fun H=>?_
  refine W45_ok ?_;simp (maxSteps:=1000000) (disch:=first | assumption | (apply ν6;assumption)) only [W45,vz,vu,vv,eqS,eF_,↓c1_,↓c2_,tabs,reduceCtorEq,ι5,↓reduceIte,ν1,ν2,ν3,ν4,ν5,ι1,ι2,ι3,ι4]
  refine Pu.use (GoodSaid_spec f hf) ?_
  cases hg:goodF f
  · have e:ipR f=(false,false):=by rw [ipR,hg];rfl
    rw [e]
    (try simp (maxSteps:=1000000) (disch:=first | assumption | (apply ν6;assumption)) only [vz,vu,vv,eqS,eF_,↓c1_,↓c2_,tabs,reduceCtorEq,ι5,↓reduceIte,ν1,ν2,ν3,ν4,ν5,ι1,ι2,ι3,ι4])
  have g:=goodF_iff.1 hg
  have hl:=g.l1
  have e:ipR f=(ipB f,true):=by rw [ipR,hg];rfl
  rw [e]
  (try simp (maxSteps:=1000000) (disch:=first | assumption | (apply ν6;assumption)) only [vz,vu,vv,eqS,eF_,↓c1_,↓c2_,tabs,reduceCtorEq,ι5,↓reduceIte,ν1,ν2,ν3,ν4,ν5,ι1,ι2,ι3,ι4])
  refine L45_0_rule (0:Nat) (fun i=>I i) (fun _=>H) (fun i=>i≤f.length∧∀j,j < i→(!decide ((f.getD j default).op=3) || decide ((f.getD (j - 1) default).op=1))=true) (fun i=>f.length - i) ⟨⟨by omega,by intros;omega⟩,.refl _,Heap.le_refl _⟩ ?_
  rintro i ⟨hi,ha⟩
  have e5:IntKind.i64.wrap ((i:Int)+1)=((i+1:Nat):Int):=by rw [i64_id (by omega) (by omega)];simp
  (try simp (maxSteps:=1000000) (disch:=first | assumption | (apply ν6;assumption)) only [vz,vu,vv,eqS,eF_,↓c1_,↓c2_,tabs,reduceCtorEq,ι5,↓reduceIte,ν1,ν2,ν3,ν4,ν5,ι1,ι2,ι3,ι4,B45_0,e5])
  refine ⟨fun h1=>⟨by omega,h1,fun r hr=>?_⟩,fun h1=>?_⟩
  · have hlt:i < f.length:=by omega
    have hle:=fun z=>Heap.le_set (b:=z) hr
    have hok:=g.ok i hlt
    have step:(!decide ((f.getD i default).op=3) || decide ((f.getD (i - 1) default).op=1))=true→∀j,j < i+1→(!decide ((f.getD j default).op=3) || decide ((f.getD (j - 1) default).op=1))=true:=fun h j hj=>by
      rcases Nat.lt_succ_iff_lt_or_eq.1 hj with h' | rfl
      · exact ha j h'
      · exact h
    refine ⟨fun h3=>?_,fun h3=>⟨i+1,⟨by omega,step (by rw [decide_eq_false h3];rfl)⟩,by omega,.refl _,hle _⟩⟩
    have hn1:need (f.getD i default).op=1:=by rw [h3];rfl
    have hi1:=(tst1 g hlt hn1).1
    have ei:IntKind.i64.wrap ((i:Int) - 1)=((i - 1:Nat):Int):=by rw [i64_id (by omega) (by omega)];omega
    rw [ei,Int.toNat_natCast]
    refine ⟨by omega,by omega,fun h4=>⟨?_,hle _⟩,fun h4=>⟨i+1,⟨by omega,step (by rw [decide_eq_true h4];simp)⟩,by omega,.refl _,hle _⟩⟩
    have:ipB f=false:=range_all_false hlt (by rw [decide_eq_true h3,decide_eq_false h4];rfl)
    rw [this]
  · have:i=f.length:=by omega
    subst this
    have:ipB f=true:=List.all_eq_true.2 fun j hj=>ha j (List.mem_range.1 hj)
    rw [this]
theorem IsPushed_impl (f:List Sd) (hf:f.length≤1048576):Pu Try.prog 41 [Ds f] (.tup [B (ipR f).1,B (ipR f).2]):=by
  refine Pu.of fun H=>?_
  refine W41_ok ?_;simp (maxSteps:=1000000) (disch:=first | assumption | (apply ν6;assumption)) only [W41,vz,vu,vv,eqS,eF_,↓c1_,↓c2_,tabs,reduceCtorEq,ι5,↓reduceIte,ν1,ν2,ν3,ν4,ν5,ι1,ι2,ι3,ι4]
  refine Pu.use (GoodSaid_impl f hf) ?_
  cases hg:goodF f
  · have e:ipR f=(false,false):=by rw [ipR,hg];rfl
    rw [e]
    (try simp (maxSteps:=1000000) (disch:=first | assumption | (apply ν6;assumption)) only [vz,vu,vv,eqS,eF_,↓c1_,↓c2_,tabs,reduceCtorEq,ι5,↓reduceIte,ν1,ν2,ν3,ν4,ν5,ι1,ι2,ι3,ι4])
  have g:=goodF_iff.1 hg
  have e:ipR f=(ipB f,true):=by rw [ipR,hg];rfl
  rw [e]
  (try simp (maxSteps:=1000000) (disch:=first | assumption | (apply ν6;assumption)) only [vz,vu,vv,eqS,eF_,↓c1_,↓c2_,tabs,reduceCtorEq,ι5,↓reduceIte,ν1,ν2,ν3,ν4,ν5,ι1,ι2,ι3,ι4])
  refine Pu.use (isPushed_spec f g) ?_
  (try simp (maxSteps:=1000000) (disch:=first | assumption | (apply ν6;assumption)) only [vz,vu,vv,eqS,eF_,↓c1_,↓c2_,tabs,reduceCtorEq,ι5,↓reduceIte,ν1,ν2,ν3,ν4,ν5,ι1,ι2,ι3,ι4])
def aiR (f:List Sd):List Int×Bool:=if goodF f then (sc (atL f),true) else ([],false)
theorem atL_take {f:List Sd} {i:Nat} (h:i < f.length):atL (f.take (i+1))=atL (f.take i)++(if (f.getD i default).op=1 then [(f.getD i default).n] else []):=by
  rw [take_succ_snoc h,atL_app];simp [atL]
theorem atL_len (f:List Sd):(atL f).length≤f.length:=by
  induction f with
  | nil=>simp [atL]
  | cons x f ih=>
    have e:atL (x::f)=(if x.op=1 then [x.n] else [])++atL f:=rfl
    rw [e,List.length_append,List.length_cons]
    split<;>simp<;>omega
theorem fin_I {H G:Heap} {Ts:List Th} {q:Nat} {l:List Int} (s:St H Ts G) (i:Nat) (hi:Ts[i]?=some (cellT q (cP fI l))):wkK (fun r H'=>r=Is l∧H'=H) (rowP q l) G:=by
  have:=fin_own (sz:=1) (es:=l.map eI) (q:=q) (H:=H) (H':=G) (K:=fun r H'=>r=Is l∧H'=H) (by omega) (szI l) (s.fr _ (List.mem_of_getElem? hi) q (by simp [cellT])) (fun y b hy=>by
    by_cases e:y=q
    · subst e;rw [Heap.set_same] at hy;rw [← hy];have h1:G y=some (cP fI l):=s.get i hi;rw [h1];exact congrArg some (cells_P fI l).symm
    · rw [Heap.set_other e] at hy;exact s.le y b hy) ⟨rfl,rfl⟩
  simpa only [Go.Sep.own,List.length_map] using this
theorem atomsIn_spec (f:List Sd) (hf:f.length≤1000):Pu Try.prog 93 [Ds f] (Is (sc (atL f))):=by
  refine ⟨fun H=>CallT.fin ?_⟩
  refine W93_ok ?_;simp (maxSteps:=1000000) (disch:=first | assumption | (apply ν6;assumption)) only [W93,vz,vu,vv,eqS,eF_,↓c1_,↓c2_,tabs,reduceCtorEq,ι5,↓reduceIte,ν1,ν2,ν3,ν4,ν5,ι1,ι2,ι3,ι4]
  refine lit0I fun q0 hq0=>?_
  have st:=(St.nil H).cell hq0 (cP fI [])
  generalize H.set q0 (cP fI [])=G at st ⊢
  (try simp (maxSteps:=1000000) (disch:=first | assumption | (apply ν6;assumption)) only [vz,vu,vv,eqS,eF_,↓c1_,↓c2_,tabs,reduceCtorEq,ι5,↓reduceIte,ν1,ν2,ν3,ν4,ν5,ι1,ι2,ι3,ι4])
  refine L93_0_rule ((0:Nat),q0,G) (fun t=>rowP t.2.1 (atL (f.take t.1))) (fun t=>I t.1) (fun t=>t.2.2) (fun t=>t.1≤f.length∧St H [cellT t.2.1 (cP fI (atL (f.take t.1)))] t.2.2) (fun t=>f.length - t.1)
    ⟨⟨by simp,st⟩,.refl _,.refl _,Heap.le_refl _⟩ ?_
  clear st
  rintro ⟨i,q,G⟩ ⟨hi,st⟩
  dsimp only at hi st
  have e5:IntKind.i64.wrap ((i:Int)+1)=((i+1:Nat):Int):=by rw [i64_id (by omega) (by omega)];simp
  have hal:=atL_len (f.take i)
  rw [List.length_take] at hal
  (try simp (maxSteps:=1000000) (disch:=first | assumption | (apply ν6;assumption)) only [vz,vu,vv,eqS,eF_,↓c1_,↓c2_,tabs,reduceCtorEq,ι5,↓reduceIte,ν1,ν2,ν3,ν4,ν5,ι1,ι2,ι3,ι4,B93_0,e5])
  refine ⟨fun h1=>⟨by omega,h1,fun r hr=>?_⟩,fun h1=>?_⟩
  · have hlt:i < f.length:=by omega
    have hsu:=atL_take hlt
    generalize f.getD i default=y at hsu ⊢
    replace st:=st.cell hr [I y.op,I y.n]
    have ec:G.set r [AV.p (PV.int IntKind.i64 y.op),AV.p (PV.int IntKind.i64 y.n)]=G.set r [I y.op,I y.n]:=rfl
    rw [ec]
    generalize G.set r [I y.op,I y.n]=G2 at st ⊢
    refine ⟨fun h2=>?_,fun h2=>?_⟩
    · rw [if_pos h2] at hsu
      refine lit1 tab_23 rfl tab_3 ⟨rfl,rfl⟩ ?_
      refine st_appI (ys:=[y.n]) st 1 rfl (by simp only [List.length_singleton];omega) fun q' G' hq' st=>?_
      rw [← hsu] at st ⊢
      exact ⟨(i+1,q',G'),⟨by simp only;omega,st.drop⟩,by simp only;omega,.refl _,.refl _,Heap.le_refl _⟩
    · rw [if_neg h2,List.append_nil] at hsu
      exact ⟨(i+1,q,G2),⟨by simp only;omega,by rw [hsu];exact st.drop⟩,by simp only;omega,by simp only [hsu];exact .refl _,.refl _,Heap.le_refl _⟩
  · have:i=f.length:=by omega
    subst this
    rw [List.take_length] at st hal ⊢
    generalize atL f=A at st hal ⊢
    have hq:G q=some (cP fI A):=st.get 0 rfl
    have hsl:(srt A).length=A.length:=List.length_mergeSort ..
    refine Sort_row hq (by omega) ?_
    replace st:=st.put 0 rfl (cP fI (srt A))
    have hq:(G.set q (cP fI (srt A))) q=some (cP fI (srt A)):=Heap.set_same _ _ _
    generalize G.set q (cP fI (srt A))=G2 at st hq ⊢
    rw [show rowP q A=rowP q (srt A) by simp only [rowP,hsl]]
    refine Compact_row hq (by omega) ?_
    replace st:=st.put 0 rfl (cP fI (sc A))
    exact fin_I st 0 rfl
theorem AtomsIn_impl (f:List Sd) (hf:f.length≤1048576):Pu Try.prog 42 [Ds f] (.tup [Is (aiR f).1,B (aiR f).2]):=by
  refine ⟨fun H=>CallT.fin ?_⟩
  refine W42_ok ?_;simp (maxSteps:=1000000) (disch:=first | assumption | (apply ν6;assumption)) only [W42,vz,vu,vv,eqS,eF_,↓c1_,↓c2_,tabs,reduceCtorEq,ι5,↓reduceIte,ν1,ν2,ν3,ν4,ν5,ι1,ι2,ι3,ι4]
  refine Pu.use (GoodSaid_impl f hf) ?_
  cases hg:goodF f
  · have e:aiR f=([],false):=by rw [aiR,hg];rfl
    rw [e]
    (try simp (maxSteps:=1000000) (disch:=first | assumption | (apply ν6;assumption)) only [vz,vu,vv,eqS,eF_,↓c1_,↓c2_,tabs,reduceCtorEq,ι5,↓reduceIte,ν1,ν2,ν3,ν4,ν5,ι1,ι2,ι3,ι4])
    exact ⟨_,_,.val (v':=.tup [Is [],B false]) (wk_tup ⟨.nil,.refl _,trivial⟩),rfl,rfl⟩
  have hl:=(goodF_iff.1 hg).l1
  have e:aiR f=(sc (atL f),true):=by rw [aiR,hg];rfl
  rw [e]
  (try simp (maxSteps:=1000000) (disch:=first | assumption | (apply ν6;assumption)) only [vz,vu,vv,eqS,eF_,↓c1_,↓c2_,tabs,reduceCtorEq,ι5,↓reduceIte,ν1,ν2,ν3,ν4,ν5,ι1,ι2,ι3,ι4])
  refine Pu.use (atomsIn_spec f (by omega)) ?_
  (try simp (maxSteps:=1000000) (disch:=first | assumption | (apply ν6;assumption)) only [vz,vu,vv,eqS,eF_,↓c1_,↓c2_,tabs,reduceCtorEq,ι5,↓reduceIte,ν1,ν2,ν3,ν4,ν5,ι1,ι2,ι3,ι4])
  exact wkK.keep ⟨rfl,rfl⟩
end Go.Proofs.Ytjdhigcefkihiaa
