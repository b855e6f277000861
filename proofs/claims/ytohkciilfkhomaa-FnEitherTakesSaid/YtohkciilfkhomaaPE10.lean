/- Texts laid together: Tg7 Tg8 Tg9 Tg3 Tg10 Lt5 Lu0 Tg11 Tg12 Mg2 Tg13 Tp7. -/
import Derived.Test.YtohkciilfkhomaaPE9
set_option linter.unusedVariables false
set_option linter.unusedSimpArgs false
open Nat renaming reduceAdd→ν1,reduceLeDiff→ν2,reduceLT→ν3,reduceMul→ν4,reduceSub→ν5
open Int renaming reduceToNat→ι1,reduceSub→ι2,reduceAdd→ι3,reduceNeg→ι4
open Array renaming toList→ι5
open Ne renaming symm→ν6
open List renaming forall_mem_cons→ν7
namespace Go.Proofs.Ytohkciilfkhomaa
open Go Go.Sep Go.Pt
attribute [local irreducible] CallT
structure GoB (goals:List (List Nat)) (n:Nat):Prop where
  lt:∀g∈goals,∀x∈g,x < n
  len:goals.length≤1000
  sz:∀g∈goals,g.length≤100000
theorem GoB.get {goals:List (List Nat)} {n t:Nat} (h:GoB goals n) (ht:t < goals.length):(rwF goals t).length≤100000∧∀j,j < (rwF goals t).length→(rwF goals t).getD j 0 < n:=by
  have hm:rwF goals t∈goals:=by simp [rwF,List.getD,ht]
  exact ⟨h.sz _ hm,fun j hj=>h.lt _ hm _ (by simp [List.getD,hj])⟩
theorem wkBl {q:Nat} {xs:List Bool} {G:Heap} (hq:G q=some (cP fB xs)):Wk (rowP q xs) G (Bls xs) (G.del q):=wkB hq (fun v=>v) (fun h=>h)
theorem st_bool {H G:Heap} {Ts:List Th} {q:Nat} {xs:List Bool} (s:St H Ts G) (i:Nat) (hi:Ts[i]?=some (cellT q (cP fB xs))):wkK (fun r H'=>r=Bls xs∧H'=H) (rowP q xs) G:=by
  refine ⟨_,H,.trans (wkBl (s.get i hi)) (.forget fun y b hb=>?_),rfl,rfl⟩
  have:=s.fr _ (List.mem_of_getElem? hi)
  rw [Heap.del_other (fun e=>by have:=this q (by simp [cellT]);rw [← e,hb] at this;cases this)]
  exact s.le y b hb
theorem prtI_len (g:List (List Nat)):(prtI g).length=g.length:=by simp [prtI,mpI_len]
theorem prtI_get {g:List (List Nat)} {v:Nat} (h:v < g.length):(prtI g).getD v default=((partF (ArcOf (rwF g)) v:Nat):Int):=by rw [prtI,mpI_get _ h]
theorem fairV_spec (g:List (List Nat)) (hg:GrB g) (goals:List (List Nat)) (hgo:GoB goals g.length):Pu Try.prog 61 [Ls (gI g),Ls (gI goals)] (Bls (mpB (fairF (rwF g) goals) g.length)):=by
  refine ⟨fun H=>CallT.fin ?_⟩
  have hn:=hg.n
  have hgl:=gI_len g
  have hol:=gI_len goals
  have hon:=hgo.len
  have hpl:=prtI_len g
  have hmk:=makeN_B g.length (by omega)
  have ez:zerosA g.length [B false]=cP fB (mpB (fun _=>false) g.length):=by rw [cB_zero];rfl
  have hpf:∀v,v < g.length→partF (ArcOf (rwF g)) v < g.length:=fun v hv=>by have:=partF_le (ArcOf (rwF g)) v;omega
  have hfair:=fun v hv=>fa2_fair (goals:=goals) hg.gr (v:=v) hv
  have hpg:=fun v (h:v < g.length)=>prtI_get h
  refine W61_ok ?_;simp (maxSteps:=1000000) (disch:=first | assumption | (apply ν6;assumption)) only [W61,vz,vu,vv,eqS,eF_,↓c1_,↓c2_,tabs,reduceCtorEq,ι5,↓reduceIte,ν1,ν2,ν3,ν4,ν5,ι1,ι2,ι3,ι4,hgl]
  refine Pu.use (parts_spec g hg) ?_
  generalize partF (ArcOf (rwF g))=pf at hpf hfair hpg
  generalize prtI g=pr at hpl hpg ⊢
  (try simp (maxSteps:=1000000) (disch:=first | assumption | (apply ν6;assumption)) only [vz,vu,vv,eqS,eF_,↓c1_,↓c2_,tabs,reduceCtorEq,ι5,↓reduceIte,ν1,ν2,ν3,ν4,ν5,ι1,ι2,ι3,ι4,hmk,safeV,newV,makeSliceV])
  refine ⟨by omega,by omega,by omega,by omega,fun q1 hq1=>?_⟩
  rw [ez]
  intro q2 hq21 hq2
  have st:=((St.nil H).cell hq1 (cP fB (mpB (fun _=>false) g.length))).cell (r:=q2) (by rw [Heap.set_other hq21];exact hq2) (cP fB (mpB (fun _=>false) g.length))
  generalize (H.set q1 (cP fB (mpB (fun _=>false) g.length))).set q2 (cP fB (mpB (fun _=>false) g.length))=G1 at st ⊢
  clear hq1 hq21 hq2
  have last:∀G,St H [cellT q2 (cP fB (mpB (fun _=>false) g.length)),cellT q1 (cP fB (mpB (fa2 (rwF g) pf g.length goals goals.length) g.length))] G→
      L61_5 (wkK fun r H'=>r=Bls (mpB (fairF (rwF g) goals) g.length)∧H'=H) (Is pr) (.sl q1 1 0 g.length) (.sl q2 1 0 g.length) (I g.length) (I 0) G:=by
    intro G st
    refine L61_5_rule ((0:Nat),G) (fun z=>I z.1) (fun z=>z.2) (fun z=>z.1≤g.length∧St H [cellT q2 (cP fB (mpB (fun v=>if v < z.1 then fairF (rwF g) goals v else false) g.length)),cellT q1 (cP fB (mpB (fa2 (rwF g) pf g.length goals goals.length) g.length))] z.2) (fun z=>g.length - z.1)
      ⟨⟨by simp,by simpa using st⟩,.refl _,Heap.le_refl _⟩ ?_
    clear st G
    rintro ⟨i,G⟩ ⟨hi,st⟩
    dsimp only at hi st
    have e5:IntKind.i64.wrap ((i:Int)+1)=((i+1:Nat):Int):=by rw [i64_id (by omega) (by omega)];simp
    (try simp (maxSteps:=1000000) (disch:=first | assumption | (apply ν6;assumption)) only [vz,vu,vv,eqS,eF_,↓c1_,↓c2_,tabs,reduceCtorEq,ι5,↓reduceIte,ν1,ν2,ν3,ν4,ν5,ι1,ι2,ι3,ι4,B61_5,hpl])
    refine ⟨fun h1=>?_,fun h1=>?_⟩
    · have hlt:i < g.length:=by omega
      have hp:=hpf i hlt
      have hrd:=rdB (fa2 (rwF g) pf g.length goals goals.length) hp
      rw [hfair i hlt] at hrd
      have hset:=setB (fun v=>if v < i then fairF (rwF g) goals v else false) hlt (fairF (rwF g) goals i)
      have hup:updB (fun v=>if v < i then fairF (rwF g) goals v else false) i (fairF (rwF g) goals i)=fun v=>if v < i+1 then fairF (rwF g) goals v else false:=by
        funext v
        unfold updB
        by_cases e:v=i
        · subst e;simp
        · have:v < i+1↔v < i:=by omega
          simp [e,this]
      rw [hpg i hlt]
      (try simp (maxSteps:=1000000) (disch:=first | assumption | (apply ν6;assumption)) only [vz,vu,vv,eqS,eF_,↓c1_,↓c2_,tabs,reduceCtorEq,ι5,↓reduceIte,ν1,ν2,ν3,ν4,ν5,ι1,ι2,ι3,ι4,load_at (st.get 1 rfl),store_at (st.get 0 rfl),lnB,mpB_len,hrd,e5,Int.toNat_natCast])
      repeat refine ⟨by omega,?_⟩
      rw [hset,hup]
      exact ⟨(i+1,_),⟨by simp only;omega,st.put 0 rfl (cP fB (mpB (fun v=>if v < i+1 then fairF (rwF g) goals v else false) g.length))⟩,by simp only;omega,.refl _,Heap.le_refl _⟩
    · have:i=g.length:=by omega
      subst this
      have e:mpB (fun v=>if v < g.length then fairF (rwF g) goals v else false) g.length=mpB (fairF (rwF g) goals) g.length:=by
        unfold mpB
        apply List.map_congr_left
        intro v hv
        rw [if_pos (List.mem_range.1 hv)]
      rw [e] at st
      have:=st_bool st 0 rfl
      rw [rowP,mpB_len] at this
      exact this
  have gos:∀G,St H [cellT q2 (cP fB (mpB (fun _=>false) g.length)),cellT q1 (cP fB (mpB (fa1 (rwF g) pf g.length 0) g.length))] G→
      L61_2 (wkK fun r H'=>r=Bls (mpB (fairF (rwF g) goals) g.length)∧H'=H) (Is pr) (I g.length) (.sl q1 1 0 g.length) (.sl q2 1 0 g.length) (Ls (gI goals)) (I goals.length) (I 0) G:=by
    intro G st
    refine L61_2_rule ((0:Nat),G) (fun z=>I z.1) (fun z=>z.2) (fun z=>z.1≤goals.length∧St H [cellT q2 (cP fB (mpB (fun _=>false) g.length)),cellT q1 (cP fB (mpB (fa2 (rwF g) pf g.length goals z.1) g.length))] z.2) (fun z=>goals.length - z.1)
      ⟨⟨by simp,by rw [fa2_zero];exact st⟩,.refl _,Heap.le_refl _⟩ ?_
    clear st G
    rintro ⟨t,G⟩ ⟨ht,st⟩
    dsimp only at ht st
    have e5:IntKind.i64.wrap ((t:Int)+1)=((t+1:Nat):Int):=by rw [i64_id (by omega) (by omega)];simp
    (try simp (maxSteps:=1000000) (disch:=first | assumption | (apply ν6;assumption)) only [vz,vu,vv,eqS,eF_,↓c1_,↓c2_,tabs,reduceCtorEq,ι5,↓reduceIte,ν1,ν2,ν3,ν4,ν5,ι1,ι2,ι3,ι4,B61_2,hol,makeSliceV])
    refine ⟨fun h1=>?_,fun h1=>?_⟩
    · have hlt:t < goals.length:=by omega
      refine ⟨by omega,h1,by omega,by omega,by omega,by omega,fun q3 hq3=>?_⟩
      rw [ez,gI_get hlt]
      replace st:=st.cell hq3 (cP fB (mpB (fun _=>false) g.length))
      generalize G.set q3 (cP fB (mpB (fun _=>false) g.length))=G2 at st ⊢
      obtain ⟨hsz,hxlt⟩:=hgo.get hlt
      have hnl:=nI_len (rwF goals t)
      have hf2:=fa2_succ (rwF g) pf g.length hlt
      have hgd:goals.getD t []=rwF goals t:=rfl
      rw [hgd] at hf2
      (try simp (maxSteps:=1000000) (disch:=first | assumption | (apply ν6;assumption)) only [vz,vu,vv,eqS,eF_,↓c1_,↓c2_,tabs,reduceCtorEq,ι5,↓reduceIte,ν1,ν2,ν3,ν4,ν5,ι1,ι2,ι3,ι4,hnl])
      refine L61_3_rule ((0:Nat),G2) (fun z=>I z.1) (fun z=>z.2) (fun z=>z.1≤(rwF goals t).length∧St H [cellT q3 (cP fB (mpB (ha1 pf (rwF goals t) z.1) g.length)),cellT q2 (cP fB (mpB (fun _=>false) g.length)),cellT q1 (cP fB (mpB (fa2 (rwF g) pf g.length goals t) g.length))] z.2) (fun z=>(rwF goals t).length - z.1)
        ⟨⟨by simp,by rw [ha1_zero];exact st⟩,.refl _,Heap.le_refl _⟩ ?_
      clear st hq3
      rintro ⟨j,G⟩ ⟨hj,st⟩
      dsimp only at hj st
      have e6:IntKind.i64.wrap ((j:Int)+1)=((j+1:Nat):Int):=by rw [i64_id (by omega) (by omega)];simp
      (try simp (maxSteps:=1000000) (disch:=first | assumption | (apply ν6;assumption)) only [vz,vu,vv,eqS,eF_,↓c1_,↓c2_,tabs,reduceCtorEq,ι5,↓reduceIte,ν1,ν2,ν3,ν4,ν5,ι1,ι2,ι3,ι4,B61_3,hnl,hpl])
      refine ⟨fun h2=>?_,fun h2=>?_⟩
      · have hlj:j < (rwF goals t).length:=by omega
        refine ⟨by omega,h2,?_⟩
        rw [nI_get hlj]
        have hx:=hxlt j hlj
        have hs:=ha1_succ pf (rwF goals t) hlj
        generalize (rwF goals t).getD j 0=w at hx hs ⊢
        have hp:=hpf w hx
        have hset:=setB (ha1 pf (rwF goals t) j) hp true
        have hup:updB (ha1 pf (rwF goals t) j) (pf w) true=ha1 pf (rwF goals t) (j+1):=by
          rw [hs];funext p;unfold updB
          by_cases e:p=pf w<;>simp [e]
        rw [Int.toNat_natCast,hpg w hx]
        (try simp (maxSteps:=1000000) (disch:=first | assumption | (apply ν6;assumption)) only [vz,vu,vv,eqS,eF_,↓c1_,↓c2_,tabs,reduceCtorEq,ι5,↓reduceIte,ν1,ν2,ν3,ν4,ν5,ι1,ι2,ι3,ι4,store_at (st.get 0 rfl),lnB,mpB_len,e6,Int.toNat_natCast])
        refine ⟨by omega,by omega,by omega,by omega,by omega,?_⟩
        rw [hset,hup]
        exact ⟨(j+1,_),⟨by simp only;omega,st.put 0 rfl (cP fB (mpB (ha1 pf (rwF goals t) (j+1)) g.length))⟩,by simp only;omega,.refl _,Heap.le_refl _⟩
      · have:j=(rwF goals t).length:=by omega
        subst this
        generalize ha1 pf (rwF goals t) (rwF goals t).length=hs at hf2 st
        refine L61_4_rule ((0:Nat),G) (fun z=>I z.1) (fun z=>z.2) (fun z=>z.1≤g.length∧St H [cellT q3 (cP fB (mpB hs g.length)),cellT q2 (cP fB (mpB (fun _=>false) g.length)),cellT q1 (cP fB (mpB (fun p=>if p < z.1 then fa2 (rwF g) pf g.length goals t p && hs p else fa2 (rwF g) pf g.length goals t p) g.length))] z.2) (fun z=>g.length - z.1)
          ⟨⟨by simp,by simpa using st⟩,.refl _,Heap.le_refl _⟩ ?_
        clear st G
        rintro ⟨i,G⟩ ⟨hi,st⟩
        dsimp only at hi st
        have e7:IntKind.i64.wrap ((i:Int)+1)=((i+1:Nat):Int):=by rw [i64_id (by omega) (by omega)];simp
        (try simp (maxSteps:=1000000) (disch:=first | assumption | (apply ν6;assumption)) only [vz,vu,vv,eqS,eF_,↓c1_,↓c2_,tabs,reduceCtorEq,ι5,↓reduceIte,ν1,ν2,ν3,ν4,ν5,ι1,ι2,ι3,ι4,B61_4])
        refine ⟨fun h3=>?_,fun h3=>?_⟩
        · have hli:i < g.length:=by omega
          have hr1:=rdB (fun p=>if p < i then fa2 (rwF g) pf g.length goals t p && hs p else fa2 (rwF g) pf g.length goals t p) hli
          simp only [Nat.lt_irrefl,if_false] at hr1
          have hr2:=rdB hs hli
          have hup:updB (fun p=>if p < i then fa2 (rwF g) pf g.length goals t p && hs p else fa2 (rwF g) pf g.length goals t p) i (fa2 (rwF g) pf g.length goals t i && hs i)=fun p=>if p < i+1 then fa2 (rwF g) pf g.length goals t p && hs p else fa2 (rwF g) pf g.length goals t p:=by
            funext v
            unfold updB
            by_cases e:v=i
            · subst e;simp
            · have:v < i+1↔v < i:=by omega
              simp [e,this]
          have hset:=setB (fun p=>if p < i then fa2 (rwF g) pf g.length goals t p && hs p else fa2 (rwF g) pf g.length goals t p) hli (fa2 (rwF g) pf g.length goals t i && hs i)
          rw [hup] at hset
          (try simp (maxSteps:=1000000) (disch:=first | assumption | (apply ν6;assumption)) only [vz,vu,vv,eqS,eF_,↓c1_,↓c2_,tabs,reduceCtorEq,ι5,↓reduceIte,ν1,ν2,ν3,ν4,ν5,ι1,ι2,ι3,ι4,load_at (st.get 2 rfl),lnB,mpB_len,hr1,Int.toNat_natCast])
          refine ⟨by omega,by omega,by omega,?_⟩
          have hput:=st.put 2 rfl (cP fB (mpB (fun p=>if p < i+1 then fa2 (rwF g) pf g.length goals t p && hs p else fa2 (rwF g) pf g.length goals t p) g.length))
          cases hfi:fa2 (rwF g) pf g.length goals t i
          · rw [hfi,Bool.false_and] at hset
            (try simp (maxSteps:=1000000) (disch:=first | assumption | (apply ν6;assumption)) only [vz,vu,vv,eqS,eF_,↓c1_,↓c2_,tabs,reduceCtorEq,ι5,↓reduceIte,ν1,ν2,ν3,ν4,ν5,ι1,ι2,ι3,ι4,store_at (st.get 2 rfl),lnB,mpB_len,e7,Int.toNat_natCast])
            refine ⟨by omega,by omega,by omega,?_⟩
            rw [hset]
            exact ⟨(i+1,_),⟨by simp only;omega,hput⟩,by simp only;omega,.refl _,Heap.le_refl _⟩
          · rw [hfi,Bool.true_and] at hset
            (try simp (maxSteps:=1000000) (disch:=first | assumption | (apply ν6;assumption)) only [vz,vu,vv,eqS,eF_,↓c1_,↓c2_,tabs,reduceCtorEq,ι5,↓reduceIte,ν1,ν2,ν3,ν4,ν5,ι1,ι2,ι3,ι4,load_at (st.get 0 rfl),hr2,store_at (st.get 2 rfl),lnB,mpB_len,e7,Int.toNat_natCast])
            refine ⟨by omega,by omega,by omega,by omega,by omega,by omega,?_⟩
            rw [hset]
            exact ⟨(i+1,_),⟨by simp only;omega,hput⟩,by simp only;omega,.refl _,Heap.le_refl _⟩
        · have:i=g.length:=by omega
          subst this
          have e:mpB (fun p=>if p < g.length then fa2 (rwF g) pf g.length goals t p && hs p else fa2 (rwF g) pf g.length goals t p) g.length=mpB (fa2 (rwF g) pf g.length goals (t+1)) g.length:=by
            rw [hf2]
            unfold mpB
            apply List.map_congr_left
            intro v hv
            rw [if_pos (List.mem_range.1 hv)]
          rw [e] at st
          (try simp (maxSteps:=1000000) (disch:=first | assumption | (apply ν6;assumption)) only [vz,vu,vv,eqS,eF_,↓c1_,↓c2_,tabs,reduceCtorEq,ι5,↓reduceIte,ν1,ν2,ν3,ν4,ν5,ι1,ι2,ι3,ι4,e5])
          exact ⟨(t+1,G),⟨by simp only;omega,st.drop⟩,by simp only;omega,.refl _,Heap.le_refl _⟩
    · have:t=goals.length:=by omega
      subst this
      exact last G st
  refine L61_0_rule ((0:Nat),G1) (fun z=>I z.1) (fun z=>z.2) (fun z=>z.1≤g.length∧St H [cellT q2 (cP fB (mpB (fun _=>false) g.length)),cellT q1 (cP fB (mpB (fa1 (rwF g) pf z.1 0) g.length))] z.2) (fun z=>g.length - z.1)
    ⟨⟨by simp,(st.perm (List.Perm.refl _):St H _ G1) |> fun s=>by rw [fa1_zero];exact s⟩,.refl _,Heap.le_refl _⟩ ?_
  clear st
  rintro ⟨k,G⟩ ⟨hk,st⟩
  dsimp only at hk st
  have e5:IntKind.i64.wrap ((k:Int)+1)=((k+1:Nat):Int):=by rw [i64_id (by omega) (by omega)];simp
  (try simp (maxSteps:=1000000) (disch:=first | assumption | (apply ν6;assumption)) only [vz,vu,vv,eqS,eF_,↓c1_,↓c2_,tabs,reduceCtorEq,ι5,↓reduceIte,ν1,ν2,ν3,ν4,ν5,ι1,ι2,ι3,ι4,B61_0,hgl,hol])
  refine ⟨fun h1=>?_,fun h1=>?_⟩
  · have hlt:k < g.length:=by omega
    refine ⟨by omega,h1,?_⟩
    rw [gI_get hlt]
    have hrn:=nI_len (rwF g k)
    have hrl:=hg.row hlt
    have hpk:=hpf k hlt
    (try simp (maxSteps:=1000000) (disch:=first | assumption | (apply ν6;assumption)) only [vz,vu,vv,eqS,eF_,↓c1_,↓c2_,tabs,reduceCtorEq,ι5,↓reduceIte,ν1,ν2,ν3,ν4,ν5,ι1,ι2,ι3,ι4,hrn])
    refine L61_1_rule ((0:Nat),G) (fun z=>I z.1) (fun z=>z.2) (fun z=>z.1≤(rwF g k).length∧St H [cellT q2 (cP fB (mpB (fun _=>false) g.length)),cellT q1 (cP fB (mpB (fa1 (rwF g) pf k z.1) g.length))] z.2) (fun z=>(rwF g k).length - z.1)
      ⟨⟨by simp,st⟩,.refl _,Heap.le_refl _⟩ ?_
    clear st G
    rintro ⟨j,G⟩ ⟨hj,st⟩
    dsimp only at hj st
    have e6:IntKind.i64.wrap ((j:Int)+1)=((j+1:Nat):Int):=by rw [i64_id (by omega) (by omega)];simp
    (try simp (maxSteps:=1000000) (disch:=first | assumption | (apply ν6;assumption)) only [vz,vu,vv,eqS,eF_,↓c1_,↓c2_,tabs,reduceCtorEq,ι5,↓reduceIte,ν1,ν2,ν3,ν4,ν5,ι1,ι2,ι3,ι4,B61_1,hrn,hpl])
    refine ⟨fun h2=>?_,fun h2=>?_⟩
    · have hlj:j < (rwF g k).length:=by omega
      refine ⟨by omega,h2,?_⟩
      rw [nI_get hlj]
      have hw:=hg.lt hlj
      have hs:=fa1_succ (rwF g) pf hlj
      generalize (rwF g k).getD j 0=w at hw hs ⊢
      have hr1:=rdB (fa1 (rwF g) pf k j) hpk
      have hup:updB (fa1 (rwF g) pf k j) (pf k) (fa1 (rwF g) pf k j (pf k) || decide (pf w=pf k))=fa1 (rwF g) pf k (j+1):=by
        rw [hs];funext p;unfold updB
        by_cases e:p=pf k<;>simp [e]
      have hset:=setB (fa1 (rwF g) pf k j) hpk (fa1 (rwF g) pf k j (pf k) || decide (pf w=pf k))
      rw [hup] at hset
      have hput:=st.put 1 rfl (cP fB (mpB (fa1 (rwF g) pf k (j+1)) g.length))
      rw [Int.toNat_natCast,hpg w hw,hpg k hlt]
      (try simp (maxSteps:=1000000) (disch:=first | assumption | (apply ν6;assumption)) only [vz,vu,vv,eqS,eF_,↓c1_,↓c2_,tabs,reduceCtorEq,ι5,↓reduceIte,ν1,ν2,ν3,ν4,ν5,ι1,ι2,ι3,ι4,load_at (st.get 1 rfl),lnB,mpB_len,hr1,Int.toNat_natCast])
      refine ⟨by omega,by omega,by omega,by omega,by omega,by omega,by omega,?_⟩
      cases hfi:fa1 (rwF g) pf k j (pf k)
      · have ed:decide (((pf w:Nat):Int)=((pf k:Nat):Int))=decide (pf w=pf k):=by rw [decide_eq_decide];omega
        rw [hfi,Bool.false_or] at hset
        (try simp (maxSteps:=1000000) (disch:=first | assumption | (apply ν6;assumption)) only [vz,vu,vv,eqS,eF_,↓c1_,↓c2_,tabs,reduceCtorEq,ι5,↓reduceIte,ν1,ν2,ν3,ν4,ν5,ι1,ι2,ι3,ι4,store_at (st.get 1 rfl),lnB,mpB_len,e6,ed,Int.toNat_natCast])
        repeat refine ⟨by omega,?_⟩
        rw [hset]
        exact ⟨(j+1,_),⟨by simp only;omega,hput⟩,by simp only;omega,.refl _,Heap.le_refl _⟩
      · rw [hfi,Bool.true_or] at hset
        (try simp (maxSteps:=1000000) (disch:=first | assumption | (apply ν6;assumption)) only [vz,vu,vv,eqS,eF_,↓c1_,↓c2_,tabs,reduceCtorEq,ι5,↓reduceIte,ν1,ν2,ν3,ν4,ν5,ι1,ι2,ι3,ι4,store_at (st.get 1 rfl),lnB,mpB_len,e6,Int.toNat_natCast])
        refine ⟨by omega,by omega,by omega,?_⟩
        rw [hset]
        exact ⟨(j+1,_),⟨by simp only;omega,hput⟩,by simp only;omega,.refl _,Heap.le_refl _⟩
    · have:j=(rwF g k).length:=by omega
      subst this
      rw [fa1_next] at st
      (try simp (maxSteps:=1000000) (disch:=first | assumption | (apply ν6;assumption)) only [vz,vu,vv,eqS,eF_,↓c1_,↓c2_,tabs,reduceCtorEq,ι5,↓reduceIte,ν1,ν2,ν3,ν4,ν5,ι1,ι2,ι3,ι4,e5])
      exact ⟨(k+1,G),⟨by simp only;omega,st⟩,by simp only;omega,.refl _,Heap.le_refl _⟩
  · have:k=g.length:=by omega
    subst this
    exact gos G st
end Go.Proofs.Ytohkciilfkhomaa
namespace Go.Proofs.Ytohkciilfkhomaa
open Go Go.Sep Go.Pt
attribute [local irreducible] CallT
noncomputable def meK (row:Nat→List Nat) (n:Nat) (some:List Nat) (goals:List (List Nat)) (k:Nat):Int:=bestF (farF row n some) ((List.range k).filter (fairF row goals))
theorem meK_succ (row:Nat→List Nat) (n:Nat) (some:List Nat) (goals:List (List Nat)) (k:Nat):meK row n some goals (k+1)=if fairF row goals k=true then bput1 (farF row n some) (meK row n some goals k) k else meK row n some goals k:=by
  unfold meK
  rw [List.range_succ,List.filter_append]
  by_cases h:fairF row goals k=true
  · rw [if_pos h,← bestF_snoc];simp [h]
  · rw [if_neg h];simp [h]
theorem meK_bd (row:Nat→List Nat) (n:Nat) (some:List Nat) (goals:List (List Nat)) (k:Nat):meK row n some goals k < k∧-1≤meK row n some goals k:=by
  unfold meK
  rcases bestF_cases (farF row n some) ((List.range k).filter (fairF row goals)) with ⟨e,_⟩ | ⟨v,h,e,_⟩
  · omega
  · have:=List.mem_range.1 (List.mem_filter.1 h).1
    omega
theorem meeting_spec (g:List (List Nat)) (hg:GrB g) (some:List Nat) (hs:∀v∈some,v < g.length) (hsl:some.length≤100000) (goals:List (List Nat)) (hgo:GoB goals g.length) :
    Pu Try.prog 37 [Ls (gI g),Is (nI some),Ls (gI goals)] (I (meetF (rwF g) g.length some goals)):=by
  refine Pu.of fun H=>?_
  have hn:=hg.n
  refine W37_ok ?_;simp (maxSteps:=1000000) (disch:=first | assumption | (apply ν6;assumption)) only [W37,vz,vu,vv,eqS,eF_,↓c1_,↓c2_,tabs,reduceCtorEq,ι5,↓reduceIte,ν1,ν2,ν3,ν4,ν5,ι1,ι2,ι3,ι4]
  refine Pu.use (sp_stepsFrom g hg some hs hsl) ?_
  refine Pu.use (fairV_spec g hg goals hgo) ?_
  have hml:=mpI_len (farF (rwF g) g.length some) g.length
  have hbl:=mpB_len (fairF (rwF g) goals) g.length
  (try simp (maxSteps:=1000000) (disch:=first | assumption | (apply ν6;assumption)) only [vz,vu,vv,eqS,eF_,↓c1_,↓c2_,tabs,reduceCtorEq,ι5,↓reduceIte,ν1,ν2,ν3,ν4,ν5,ι1,ι2,ι3,ι4,hbl])
  refine L37_0_rule (0:Nat) (fun k=>I (meK (rwF g) g.length some goals k)) (fun k=>I k) (fun _=>H) (fun k=>k≤g.length) (fun k=>g.length - k) ⟨by simp,.refl _,.refl _,Heap.le_refl _⟩ ?_
  intro k hk
  have e5:IntKind.i64.wrap ((k:Int)+1)=((k+1:Nat):Int):=by rw [i64_id (by omega) (by omega)];simp
  (try simp (maxSteps:=1000000) (disch:=first | assumption | (apply ν6;assumption)) only [vz,vu,vv,eqS,eF_,↓c1_,↓c2_,tabs,reduceCtorEq,ι5,↓reduceIte,ν1,ν2,ν3,ν4,ν5,ι1,ι2,ι3,ι4,B37_0,hbl,hml,e5])
  refine ⟨fun h1=>?_,fun h1=>?_⟩
  · have hlt:k < g.length:=by omega
    have hsc:=meK_succ (rwF g) g.length some goals k
    obtain ⟨hb1,hb2⟩:=meK_bd (rwF g) g.length some goals k
    have hg1:=mpI_get (farF (rwF g) g.length some) hlt
    have hg2:=fun (b:Nat) (hb:b < g.length)=>mpI_get (farF (rwF g) g.length some) hb
    have hf:=mpB_get (fairF (rwF g) goals) hlt
    generalize farF (rwF g) g.length some=far at hsc hg1 hg2
    rw [hf]
    refine ⟨by omega,h1,?_⟩
    generalize meK (rwF g) g.length some goals k=mk at hsc hb1 hb2 ⊢
    have yes:meK (rwF g) g.length some goals (k+1)=(k:Int)→∃s':Nat,s'≤g.length∧g.length - s' < g.length - k∧(I (k:Int)).wk (I (meK (rwF g) g.length some goals s'))∧(I ((k+1:Nat):Int)).wk (I s'):=
      fun h=>⟨k+1,by omega,by omega,by rw [h];exact .refl _,.refl _⟩
    have no:meK (rwF g) g.length some goals (k+1)=mk→∃s':Nat,s'≤g.length∧g.length - s' < g.length - k∧(I mk).wk (I (meK (rwF g) g.length some goals s'))∧(I ((k+1:Nat):Int)).wk (I s'):=
      fun h=>⟨k+1,by omega,by omega,by rw [h];exact .refl _,.refl _⟩
    rw [hg1]
    refine ⟨fun h2=>⟨by omega,by omega,fun h3=>⟨fun h4=>?_,fun h4=>⟨by omega,by omega,by omega,by omega,?_⟩⟩,fun h3=>?_⟩,fun h2=>?_⟩
    · exact yes (by rw [hsc,if_pos h2,bput1,if_pos ⟨h3,.inl h4⟩])
    · rw [hg2 mk.toNat (by omega)]
      refine ⟨fun h5=>yes ?_,fun h5=>no ?_⟩
      · rw [hsc,if_pos h2,bput1,if_pos ⟨h3,.inr h5⟩]
      · rw [hsc,if_pos h2,bput1,if_neg (fun h=>h5 (h.2.resolve_left h4))]
    · exact no (by rw [hsc,if_pos h2,bput1,if_neg (fun h=>h3 h.1)])
    · exact no (by rw [hsc,if_neg (by rw [h2];simp)])
  · have:k=g.length:=by omega
    subst this
    rfl
end Go.Proofs.Ytohkciilfkhomaa
namespace Go.Proofs.Ytohkciilfkhomaa
open Go Go.Sep Go.Pt
attribute [local irreducible] CallT
theorem sk_val {H G:Heap} {Ts:List Th} {x:AV} {l D:List Nat} (s:St H Ts G) (i:Nat) (hi:Ts[i]?=some (skT x l D)):wkK (fun r H'=>r=Is (nI l)∧H'=H) x G:=by
  have h:SK x l G D:=s.get i hi
  rcases h with ⟨rfl,rfl,rfl⟩ | ⟨q,J,rfl,hq,rfl⟩
  · exact ⟨_,_,.trans (.val .nil) (.forget s.le),rfl,rfl⟩
  · have w:Wk (.sl q 1 0 l.length) G (Is (nI l)) (G.del q):=by
      refine Wk.frzS (es:=(nI l++J).map fI) (by rw [hq,List.map_map];rfl) ?_
      have:=FrzS.part (r:=q) (es:=(nI l++J).map fI) 0 l.length (by rw [List.length_map,List.length_append,nI_len];omega)
      have e:((((nI l++J).map fI).drop 0).take l.length).map (fun v=>[v])=(nI l).map eI:=by
        rw [List.drop_zero,← List.map_take,List.take_left' (nI_len l),List.map_map];rfl
      rw [e] at this
      exact this
    refine ⟨_,H,.trans w (.forget fun y b hb=>?_),rfl,rfl⟩
    have:=s.fr _ (List.mem_of_getElem? hi)
    rw [Heap.del_other (fun e=>by have:=this q (by simp [skT]);rw [← e,hb] at this;cases this)]
    exact s.le y b hb
noncomputable def cB (row:Nat→List Nat) (v w:Nat):Bool:=decide (partF (ArcOf row) v=partF (ArcOf row) w)
theorem inF_cB (row:Nat→List Nat) (v:Nat):inF row v=(row v).filter (cB row v):=by
  unfold inF
  apply List.filter_congr
  intro w _
  rw [cB,decide_eq_decide]
  exact partF_iff.symm
noncomputable def inG (g:List (List Nat)):List (List Nat):=(List.range g.length).map (inF (rwF g))
theorem inG_len (g:List (List Nat)):(inG g).length=g.length:=by simp [inG]
theorem inG_row {g:List (List Nat)} (hg:GrB g):rwF (inG g)=inF (rwF g):=by
  have:=rwF_mapOk (inF_ok hg.gr)
  exact this
noncomputable def wiR (g:List (List Nat)) (k j:Nat):List (List Nat):=(List.range g.length).map fun v=>if v < k then inF (rwF g) v else if v=k then ((rwF g k).take j).filter (cB (rwF g) k) else []
theorem wiR_len (g:List (List Nat)) (k j:Nat):(wiR g k j).length=g.length:=by simp [wiR]
theorem wiR_zero (g:List (List Nat)):wiR g 0 0=List.replicate g.length []:=by
  apply List.ext_getElem
  · simp [wiR]
  · intro i h1 h2;simp [wiR]
theorem wiR_next (g:List (List Nat)) (k:Nat):wiR g k (rwF g k).length=wiR g (k+1) 0:=by
  unfold wiR
  apply List.map_congr_left
  intro v _
  rw [List.take_length,← inF_cB]
  by_cases h1:v < k
  · rw [if_pos h1,if_pos (by omega)]
  · by_cases h2:v=k
    · subst h2;simp
    · rw [if_neg h1,if_neg h2,if_neg (by omega)];simp
theorem wiR_all (g:List (List Nat)):wiR g g.length 0=inG g:=by
  unfold wiR inG
  apply List.map_congr_left
  intro v hv
  rw [if_pos (List.mem_range.1 hv)]
theorem wiR_get {g:List (List Nat)} {k j:Nat} (h:k < g.length):rwF (wiR g k j) k=((rwF g k).take j).filter (cB (rwF g) k):=by simp [rwF,wiR,List.getD,h]
theorem wiR_succ {g:List (List Nat)} {k j:Nat} (hj:j < (rwF g k).length):wiR g k (j+1)=if cB (rwF g) k ((rwF g k).getD j 0)=true then (wiR g k j).set k (((rwF g k).take j).filter (cB (rwF g) k)++[(rwF g k).getD j 0]) else wiR g k j:=by
  have ht:(rwF g k).take (j+1)=(rwF g k).take j++[(rwF g k).getD j 0]:=take_succ_snoc hj
  generalize (rwF g k).getD j 0=w at ht ⊢
  by_cases hc:cB (rwF g) k w=true
  · rw [if_pos hc]
    apply List.ext_getElem
    · simp [wiR]
    · intro v h1 h2
      simp only [wiR,List.getElem_map,List.getElem_range,List.getElem_set,ht,List.filter_append]
      by_cases e:k=v
      · subst e;simp [hc]
      · have:¬v=k:=fun h=>e h.symm
        simp [e,this]
  · rw [if_neg hc]
    unfold wiR
    apply List.map_congr_left
    intro v _
    simp [ht,hc]
theorem within_spec (g:List (List Nat)) (hg:GrB g):Pu Try.prog 75 [Ls (gI g),Is (prtI g)] (Ls (gI (inG g))):=by
  refine ⟨fun H=>CallT.finish ?_⟩
  have hn:=hg.n
  have hgl:=gI_len g
  have hpl:=prtI_len g
  have hpg:=fun v (h:v < g.length)=>prtI_get h
  refine W75_ok ?_;simp (maxSteps:=1000000) (disch:=first | assumption | (apply ν6;assumption)) only [W75,vz,vu,vv,eqS,eF_,↓c1_,↓c2_,tabs,reduceCtorEq,ι5,↓reduceIte,ν1,ν2,ν3,ν4,ν5,ι1,ι2,ι3,ι4,makeSliceV,hgl]
  refine ⟨by omega,by omega,by omega,by omega,fun q hq=>?_⟩
  have st:=tab_new (n:=g.length) (St.nil H) (q:=q) hq
  rw [← gI_nil,← wiR_zero g] at st
  generalize H.set q (zerosA g.length [.p .nil])=G1 at st ⊢
  refine L75_0_rule ((0:Nat),[q],G1) (fun s=>I s.1) (fun s=>s.2.2) (fun s=>s.1≤g.length∧St H [tabT q (gI (wiR g s.1 0)) s.2.1] s.2.2) (fun s=>g.length - s.1)
    ⟨⟨by simp,st⟩,.refl _,Heap.le_refl _⟩ ?_
  clear st
  rintro ⟨k,D,G⟩ ⟨hk,st⟩
  dsimp only at hk st
  have e5:IntKind.i64.wrap ((k:Int)+1)=((k+1:Nat):Int):=by rw [i64_id (by omega) (by omega)];simp
  (try simp (maxSteps:=1000000) (disch:=first | assumption | (apply ν6;assumption)) only [vz,vu,vv,eqS,eF_,↓c1_,↓c2_,tabs,reduceCtorEq,ι5,↓reduceIte,ν1,ν2,ν3,ν4,ν5,ι1,ι2,ι3,ι4,B75_0,hgl])
  refine ⟨fun h1=>?_,fun h1=>?_⟩
  · have hlt:k < g.length:=by omega
    have hrl:=hg.row hlt
    refine ⟨by omega,h1,?_⟩
    rw [gI_get hlt]
    have hrn:=nI_len (rwF g k)
    (try simp (maxSteps:=1000000) (disch:=first | assumption | (apply ν6;assumption)) only [vz,vu,vv,eqS,eF_,↓c1_,↓c2_,tabs,reduceCtorEq,ι5,↓reduceIte,ν1,ν2,ν3,ν4,ν5,ι1,ι2,ι3,ι4,hrn])
    refine L75_1_rule ((0:Nat),D,G) (fun s=>I s.1) (fun s=>s.2.2) (fun s=>s.1≤(rwF g k).length∧St H [tabT q (gI (wiR g k s.1)) s.2.1] s.2.2) (fun s=>(rwF g k).length - s.1)
      ⟨⟨by simp,st⟩,.refl _,Heap.le_refl _⟩ ?_
    clear st D
    rintro ⟨j,D,G⟩ ⟨hj,st⟩
    dsimp only at hj st
    have e6:IntKind.i64.wrap ((j:Int)+1)=((j+1:Nat):Int):=by rw [i64_id (by omega) (by omega)];simp
    (try simp (maxSteps:=1000000) (disch:=first | assumption | (apply ν6;assumption)) only [vz,vu,vv,eqS,eF_,↓c1_,↓c2_,tabs,reduceCtorEq,ι5,↓reduceIte,ν1,ν2,ν3,ν4,ν5,ι1,ι2,ι3,ι4,B75_1,hrn,hpl])
    refine ⟨fun h2=>?_,fun h2=>?_⟩
    · have hlj:j < (rwF g k).length:=by omega
      refine ⟨by omega,h2,?_⟩
      rw [nI_get hlj]
      have hw:=hg.lt hlj
      have hsc:=wiR_succ hlj
      generalize (rwF g k).getD j 0=w at hw hsc ⊢
      have htl:(gI (wiR g k j)).length=g.length:=by rw [gI_len,wiR_len]
      have hget:(gI (wiR g k j)).getD k default=nI (((rwF g k).take j).filter (cB (rwF g) k)):=by rw [gI_get (by rw [wiR_len];exact hlt),wiR_get hlt]
      have hfl:(((rwF g k).take j).filter (cB (rwF g) k)).length≤500000:=Nat.le_trans (List.length_filter_le _ _) (by rw [List.length_take];omega)
      rw [Int.toNat_natCast,hpg k hlt,hpg w hw]
      have hcb:(((partF (ArcOf (rwF g)) k:Nat):Int)=((partF (ArcOf (rwF g)) w:Nat):Int))↔cB (rwF g) k w=true:=by rw [cB,decide_eq_true_eq];omega
      (try simp (maxSteps:=1000000) (disch:=first | assumption | (apply ν6;assumption)) only [vz,vu,vv,eqS,eF_,↓c1_,↓c2_,tabs,reduceCtorEq,ι5,↓reduceIte,ν1,ν2,ν3,ν4,ν5,ι1,ι2,ι3,ι4,e6])
      refine ⟨by omega,by omega,by omega,by omega,fun h3=>?_,fun h3=>?_⟩
      · rw [if_pos (hcb.1 h3)] at hsc
        have:=fun (K:Heap→Prop)=>tab_push (K:=K) st 0 rfl htl hlt (w:Int) (by rw [hget,nI_len];omega)
        refine this _ fun G' D' st=>?_
        rw [hget,← nI_one,← nI_app,← gI_set,← hsc] at st
        exact ⟨(j+1,D',G'),⟨by simp only;omega,st⟩,by simp only;omega,.refl _,Heap.le_refl _⟩
      · rw [if_neg (fun h=>h3 (hcb.2 h))] at hsc
        exact ⟨(j+1,D,G),⟨by simp only;omega,by rw [hsc];exact st⟩,by simp only;omega,.refl _,Heap.le_refl _⟩
    · have:j=(rwF g k).length:=by omega
      subst this
      rw [wiR_next] at st
      (try simp (maxSteps:=1000000) (disch:=first | assumption | (apply ν6;assumption)) only [vz,vu,vv,eqS,eF_,↓c1_,↓c2_,tabs,reduceCtorEq,ι5,↓reduceIte,ν1,ν2,ν3,ν4,ν5,ι1,ι2,ι3,ι4,e5])
      exact ⟨(k+1,D,G),⟨by simp only;omega,st⟩,by simp only;omega,.refl _,Heap.le_refl _⟩
  · have:k=g.length:=by omega
    subst this
    rw [wiR_all] at st
    have e:(gI (inG g)).length=g.length:=by rw [gI_len,inG_len]
    rw [← e]
    exact tab_whole (fun G D s=>.ofWkK (lii_val (s.get 0 rfl) ⟨s.ndT 0 rfl,s.fr _ (List.mem_cons_self ..),s.le⟩)) st
end Go.Proofs.Ytohkciilfkhomaa
namespace Go.Proofs.Ytohkciilfkhomaa
open Go Go.Sep Go.Pt
attribute [local irreducible] CallT
theorem sp_l11Far (g:List (List Nat)) (hg:GrB g) (some:List Nat) (hs:∀v∈some,v < g.length) (hsl:some.length≤100000):Pu Try.prog 71 [Ls (gI g),Is (nI some)] (Is (mpI (farF (rwF g) g.length some) g.length)):=by
  refine ⟨fun H=>CallT.fin ?_⟩
  have hn:=hg.n
  have hgl:=gI_len g
  have hil:=nI_len some
  have hrow:=hg.gr.lt
  have hml:∀f,(mpI f g.length).length=g.length:=fun f=>mpI_len f g.length
  have lnm:∀f,(cP fI (mpI f g.length)).length=g.length:=fun f=>by rw [cI_len,mpI_len]
  refine W71_ok ?_;simp (maxSteps:=1000000) (disch:=first | assumption | (apply ν6;assumption)) only [W71,vz,vu,vv,eqS,eF_,↓c1_,↓c2_,tabs,reduceCtorEq,ι5,↓reduceIte,ν1,ν2,ν3,ν4,ν5,ι1,ι2,ι3,ι4,makeSliceV,hgl,hil]
  refine ⟨by omega,by omega,by omega,by omega,fun q hq=>?_⟩
  have st:=(St.nil H).cell hq (cP fI (mpI (fun v=>if v < 0 then -1 else 0) g.length))
  have ez:zerosA g.length [I 0]=cP fI (mpI (fun v=>if v < 0 then -1 else 0) g.length):=by
    rw [cP_rep,mpI_const];simp
  rw [ez]
  generalize H.set q (cP fI (mpI (fun v=>if v < 0 then -1 else 0) g.length))=G1 at st ⊢
  have rounds:∀q2 G,St H [cellT q2 (cP fI (nI some)),cellT q (cP fI (mpI (sI0 some some.length) g.length))] G→
      L71_2 (wkK fun r H'=>r=Is (mpI (farF (rwF g) g.length some) g.length)∧H'=H) (Ls (gI g)) (.sl q 1 0 g.length) (rowP q2 (nI some)) G:=by
    intro q2 G st
    refine L71_2_rule ((0:Nat),([]:List Nat),q2,G) (fun s=>.sl s.2.2.1 1 s.2.1.length (bst (rwF g) some s.1).q.length) (fun s=>s.2.2.2)
      (fun s=>BInv (rwF g) g.length some s.1 (bst (rwF g) some s.1)∧St H [cellT s.2.2.1 (cP fI (nI s.2.1++nI (bst (rwF g) some s.1).q)),cellT q (cP fI (mpI (bst (rwF g) some s.1).s g.length))] s.2.2.2)
      (fun s=>g.length+some.length - s.1) ⟨⟨B_ini hs,by rw [sI0_all] at st;exact st⟩,by simp [rowP,nI_len,bst,bini];exact .refl _,Heap.le_refl _⟩ ?_
    clear st G q2
    rintro ⟨i,J,q2,G⟩ ⟨hb,st⟩
    dsimp only at hb st
    generalize hbe:bst (rwF g) some i=b at hb st
    simp only [hbe]
    have hms:=hb.ms
    (try simp (maxSteps:=1000000) (disch:=first | assumption | (apply ν6;assumption)) only [vz,vu,vv,eqS,eF_,↓c1_,↓c2_,tabs,reduceCtorEq,ι5,↓reduceIte,ν1,ν2,ν3,ν4,ν5,ι1,ι2,ι3,ι4,B71_2])
    refine ⟨fun h1=>?_,fun h1=>?_⟩
    · obtain ⟨k,bq,hbq⟩:∃k bq,b.q=k::bq:=by
        cases e:b.q with
        | nil=>rw [e] at h1;simp at h1
        | cons k bq=>exact ⟨k,bq,rfl⟩
      have hstep:bst (rwF g) some (i+1)=bstep (rwF g) b:=by rw [bst,hbe]
      have hnxt:=B_step hrow hb (by rw [hbq];simp)
      rw [bstep_cons hbq] at hstep hnxt
      have hk0:0≤b.s k:=hb.qs k (by rw [hbq];simp)
      have hkn:=hb.lt k hk0
      have hki:=hb.hi k
      rw [hbq] at st hms
      simp only [List.length_cons] at hms
      have rdk:∀(J l:List Nat),(List.take 1 (List.drop J.length (cP fI (nI J++nI (k::l))))).headD AV.any=I k:=by
        intro J l
        have e:nI (k::l)=(k:Int)::nI l:=rfl
        rw [cI_app,List.drop_left' (by rw [cI_len,nI_len]),e];rfl
      have ln:∀(J l:List Nat),(cP fI (nI J++nI (k::l))).length=J.length+(l.length+1):=by
        intro J l;rw [cI_len,List.length_append,nI_len,nI_len,List.length_cons]
      have hrl:=hg.row hkn
      have hrn:=nI_len (rwF g k)
      have hlq:b.q.length=bq.length+1:=by rw [hbq];rfl
      (try simp (maxSteps:=1000000) (disch:=first | assumption | (apply ν6;assumption)) only [vz,vu,vv,eqS,eF_,↓c1_,↓c2_,tabs,reduceCtorEq,ι5,↓reduceIte,ν1,ν2,ν3,ν4,ν5,ι1,ι2,ι3,ι4,load_at (st.get 0 rfl),rdk,ln,hgl,hlq])
      refine ⟨by omega,by omega,by omega,by omega,by omega,?_⟩
      rw [gI_get hkn]
      (try simp (maxSteps:=1000000) (disch:=first | assumption | (apply ν6;assumption)) only [vz,vu,vv,eqS,eF_,↓c1_,↓c2_,tabs,reduceCtorEq,ι5,↓reduceIte,ν1,ν2,ν3,ν4,ν5,ι1,ι2,ι3,ι4,hrn])
      have eJ:∀(J l:List Nat),nI J++nI (k::l)=nI (J++[k])++nI l:=fun J l=>by rw [← nI_app,← nI_app];simp
      rw [eJ] at st
      have et:(((bq.length+1:Nat):Int) - 1).toNat=bq.length:=by omega
      refine ⟨by omega,by omega,by omega,?_⟩
      refine L71_3_rule ((0:Nat),J++[k],q2,G) (fun s=>.sl s.2.2.1 1 s.2.1.length (((rwF g k).take s.1).foldl (bput (b.s k+1)) ⟨b.s,bq⟩).q.length) (fun s=>I s.1) (fun s=>s.2.2.2)
        (fun s=>s.1≤(rwF g k).length∧St H [cellT s.2.2.1 (cP fI (nI s.2.1++nI ((((rwF g k).take s.1).foldl (bput (b.s k+1)) ⟨b.s,bq⟩).q))),cellT q (cP fI (mpI (((rwF g k).take s.1).foldl (bput (b.s k+1)) ⟨b.s,bq⟩).s g.length))] s.2.2.2)
        (fun s=>(rwF g k).length - s.1) ⟨⟨by simp,st⟩,by simp only [List.length_append,List.length_singleton,et,List.take_zero,List.foldl_nil];exact .refl _,.refl _,Heap.le_refl _⟩ ?_
      clear st J q2 G
      rintro ⟨j,J,q2,G⟩ ⟨hj,st⟩
      dsimp only at hj st
      have hbr:=BRow.fold (n:=g.length) (k:=k) (d:=b.s k+1) (b0:=⟨b.s,bq⟩) (by omega) (l:=(rwF g k).take j) fun w hw=>hrow k w (List.mem_of_mem_take hw)
      generalize hc:((rwF g k).take j).foldl (bput (b.s k+1)) ⟨b.s,bq⟩=c at hbr st
      have hcm:=hbr.ms
      simp only at hcm
      have hck:c.s k=b.s k:=hbr.old k hk0
      have e5:IntKind.i64.wrap ((j:Int)+1)=((j+1:Nat):Int):=by rw [i64_id (by omega) (by omega)];simp
      simp only [hc]
      (try simp (maxSteps:=1000000) (disch:=first | assumption | (apply ν6;assumption)) only [vz,vu,vv,eqS,eF_,↓c1_,↓c2_,tabs,reduceCtorEq,ι5,↓reduceIte,ν1,ν2,ν3,ν4,ν5,ι1,ι2,ι3,ι4,B71_3,hrn])
      refine ⟨fun h2=>?_,fun h2=>?_⟩
      · have hlj:j < (rwF g k).length:=by omega
        refine ⟨by omega,h2,?_⟩
        rw [nI_get hlj]
        have hw:=hg.lt hlj
        have hsc:=fold_take_succ (bput (b.s k+1)) ⟨b.s,bq⟩ hlj
        rw [hc] at hsc
        have edf:(rwF g k).getD j default=(rwF g k).getD j 0:=rfl
        rw [edf] at hsc
        generalize (rwF g k).getD j 0=w at hw hsc ⊢
        have rdw:=fun (f:Nat→Int) (v:Nat) (hv:v < g.length)=>(cI_rd (l:=mpI f g.length) (i:=v) (by rw [mpI_len];exact hv)).trans (by rw [mpI_get f hv])
        have lnm:∀f,(cP fI (mpI f g.length)).length=g.length:=fun f=>by rw [cI_len,mpI_len]
        have hwb:=rdw c.s w hw
        have hkb:=rdw c.s k hkn
        (try simp (maxSteps:=1000000) (disch:=first | assumption | (apply ν6;assumption)) only [vz,vu,vv,eqS,eF_,↓c1_,↓c2_,tabs,reduceCtorEq,ι5,↓reduceIte,ν1,ν2,ν3,ν4,ν5,ι1,ι2,ι3,ι4,load_at (st.get 1 rfl),lnm,hwb,Int.toNat_natCast])
        refine ⟨by omega,by omega,by omega,fun h3=>?_,fun h3=>?_⟩
        · have hsc2:bput (b.s k+1) c w=⟨updI c.s w (b.s k+1),c.q++[w]⟩:=by rw [bput,if_pos h3]
          rw [hsc2] at hsc
          have e6:IntKind.i64.wrap (b.s k+1)=b.s k+1:=i64_id (by omega) (by omega)
          (try simp (maxSteps:=1000000) (disch:=first | assumption | (apply ν6;assumption)) only [vz,vu,vv,eqS,eF_,↓c1_,↓c2_,tabs,reduceCtorEq,ι5,↓reduceIte,ν1,ν2,ν3,ν4,ν5,ι1,ι2,ι3,ι4,load_at (st.get 1 rfl),store_at (st.get 1 rfl),lnm,hkb,hck,e6,Int.toNat_natCast])
          refine ⟨by omega,by omega,by omega,by omega,by omega,by omega,?_⟩
          have hset:=cI_set (l:=mpI c.s g.length) (t:=w) (by rw [mpI_len];exact hw) (b.s k+1)
          rw [hset,mpI_set]
          replace st:=st.put 1 rfl (cP fI (mpI (updI c.s w (b.s k+1)) g.length))
          generalize G.set q (cP fI (mpI (updI c.s w (b.s k+1)) g.length))=G2 at st ⊢
          refine lit1 tab_24 rfl tab_3 ⟨rfl,rfl⟩ ?_
          refine st_appN (w:=w) st 0 rfl rfl (by omega) fun q' G' hq' st=>?_
          (try simp (maxSteps:=1000000) (disch:=first | assumption | (apply ν6;assumption)) only [vz,vu,vv,eqS,eF_,↓c1_,↓c2_,tabs,reduceCtorEq,ι5,↓reduceIte,ν1,ν2,ν3,ν4,ν5,ι1,ι2,ι3,ι4,e5])
          refine ⟨(j+1,[],q',G'),⟨by simp only;omega,by simp only [hsc];exact st⟩,by simp only;omega,?_,.refl _,Heap.le_refl _⟩
          simp only [hsc,List.length_append,List.length_singleton];exact .refl _
        · have hsc2:bput (b.s k+1) c w=c:=by rw [bput,if_neg h3]
          rw [hsc2] at hsc
          (try simp (maxSteps:=1000000) (disch:=first | assumption | (apply ν6;assumption)) only [vz,vu,vv,eqS,eF_,↓c1_,↓c2_,tabs,reduceCtorEq,ι5,↓reduceIte,ν1,ν2,ν3,ν4,ν5,ι1,ι2,ι3,ι4,e5])
          refine ⟨(j+1,J,q2,G),⟨by simp only;omega,by simp only [hsc];exact st⟩,by simp only;omega,?_,.refl _,Heap.le_refl _⟩
          simp only [hsc];exact .refl _
      · have:j=(rwF g k).length:=by omega
        subst this
        rw [List.take_length] at hc
        rw [hc] at hstep hnxt
        (try simp (maxSteps:=1000000) (disch:=first | assumption | (apply ν6;assumption)) only [vz,vu,vv,eqS,eF_,↓c1_,↓c2_,tabs,reduceCtorEq,ι5,↓reduceIte,ν1,ν2,ν3,ν4,ν5,ι1,ι2,ι3,ι4])
        refine ⟨(i+1,J,q2,G),⟨by simp only [hstep];exact hnxt,by simp only [hstep];exact st⟩,by simp only;omega,?_,Heap.le_refl _⟩
        simp only [hstep];exact .refl _
    · have hq0:b.q=[]:=List.eq_nil_of_length_eq_zero (by omega)
      rw [hq0] at hms
      have hfar:=far_of (row:=rwF g) (n:=g.length) (some:=some) (i:=i) (by simp at hms;omega) (by rw [hbe];exact hq0)
      rw [hbe] at hfar
      rw [hfar]
      have:=st_int st 1 rfl
      rw [rowP,mpI_len] at this
      exact this
  have seeds:∀G,St H [cellT q (cP fI (mpI (sI0 some 0) g.length))] G→L71_1 (wkK fun r H'=>r=Is (mpI (farF (rwF g) g.length some) g.length)∧H'=H) (Ls (gI g)) (Is (nI some)) (.sl q 1 0 g.length) (Is (nI some)) (I some.length) (I 0) G:=by
    intro G st
    refine L71_1_rule ((0:Nat),G) (fun s=>I s.1) (fun s=>s.2) (fun s=>s.1≤some.length∧St H [cellT q (cP fI (mpI (sI0 some s.1) g.length))] s.2) (fun s=>some.length - s.1)
      ⟨⟨by simp,st⟩,.refl _,Heap.le_refl _⟩ ?_
    clear st G
    rintro ⟨k,G⟩ ⟨hk,st⟩
    dsimp only at hk st
    (try simp (maxSteps:=1000000) (disch:=first | assumption | (apply ν6;assumption)) only [vz,vu,vv,eqS,eF_,↓c1_,↓c2_,tabs,reduceCtorEq,ι5,↓reduceIte,ν1,ν2,ν3,ν4,ν5,ι1,ι2,ι3,ι4,B71_1,hil])
    refine ⟨fun h1=>?_,fun h1=>?_⟩
    · have hlt:k < some.length:=by omega
      refine ⟨by omega,h1,?_⟩
      rw [nI_get hlt]
      have hv:=hs (some.getD k 0) (by simp [List.getD,hlt])
      have hsc:=sI0_succ hlt
      generalize some.getD k 0=v at hv hsc ⊢
      have e5:IntKind.i64.wrap ((k:Int)+1)=((k+1:Nat):Int):=by rw [i64_id (by omega) (by omega)];simp
      (try simp (maxSteps:=1000000) (disch:=first | assumption | (apply ν6;assumption)) only [vz,vu,vv,eqS,eF_,↓c1_,↓c2_,tabs,reduceCtorEq,ι5,↓reduceIte,ν1,ν2,ν3,ν4,ν5,ι1,ι2,ι3,ι4,store_at (st.get 0 rfl),lnm,e5,Int.toNat_natCast])
      refine ⟨by omega,by omega,by omega,?_⟩
      have hset:=cI_set (l:=mpI (sI0 some k) g.length) (t:=v) (by rw [mpI_len];exact hv) 0
      rw [hset,mpI_set,hsc]
      exact ⟨(k+1,_),⟨by simp only;omega,st.put 0 rfl (cP fI (mpI (sI0 some (k+1)) g.length))⟩,by simp only;omega,.refl _,Heap.le_refl _⟩
    · have:k=some.length:=by omega
      subst this
      refine l1Own_row (nI some) (by omega) fun q2 hq2=>?_
      replace st:=st.cell hq2 (cP fI (nI some))
      exact rounds q2 _ st
  refine L71_0_rule ((0:Nat),G1) (fun s=>I s.1) (fun s=>s.2) (fun s=>s.1≤g.length∧St H [cellT q (cP fI (mpI (fun v=>if v < s.1 then -1 else 0) g.length))] s.2) (fun s=>g.length - s.1)
    ⟨⟨by simp,st⟩,.refl _,Heap.le_refl _⟩ ?_
  clear st G1
  rintro ⟨k,G⟩ ⟨hk,st⟩
  dsimp only at hk st
  (try simp (maxSteps:=1000000) (disch:=first | assumption | (apply ν6;assumption)) only [vz,vu,vv,eqS,eF_,↓c1_,↓c2_,tabs,reduceCtorEq,ι5,↓reduceIte,ν1,ν2,ν3,ν4,ν5,ι1,ι2,ι3,ι4,B71_0,hil])
  refine ⟨fun h1=>?_,fun h1=>?_⟩
  · have hlt:k < g.length:=by omega
    have e5:IntKind.i64.wrap ((k:Int)+1)=((k+1:Nat):Int):=by rw [i64_id (by omega) (by omega)];simp
    (try simp (maxSteps:=1000000) (disch:=first | assumption | (apply ν6;assumption)) only [vz,vu,vv,eqS,eF_,↓c1_,↓c2_,tabs,reduceCtorEq,ι5,↓reduceIte,ν1,ν2,ν3,ν4,ν5,ι1,ι2,ι3,ι4,store_at (st.get 0 rfl),lnm,e5,Int.toNat_natCast])
    refine ⟨by omega,by omega,by omega,?_⟩
    have hset:=cI_set (l:=mpI (fun v=>if v < k then -1 else 0) g.length) (t:=k) (by rw [mpI_len];exact hlt) (-1)
    have hup:updI (fun v=>if v < k then -1 else 0) k (-1)=fun v=>if v < k+1 then -1 else 0:=by
      funext v
      unfold updI
      by_cases e:v=k
      · subst e;simp
      · have:v < k+1↔v < k:=by omega
        simp [e,this]
    rw [hset,mpI_set,hup]
    exact ⟨(k+1,_),⟨by simp only;omega,st.put 0 rfl (cP fI (mpI (fun v=>if v < k+1 then -1 else 0) g.length))⟩,by simp only;omega,.refl _,Heap.le_refl _⟩
  · have:k=g.length:=by omega
    subst this
    have e0:mpI (fun v=>if v < g.length then -1 else 0) g.length=mpI (sI0 some 0) g.length:=by
      rw [sI0_zero]
      unfold mpI
      apply List.map_congr_left
      intro v hv
      rw [if_pos (List.mem_range.1 hv)]
    rw [e0] at st
    exact seeds G st
end Go.Proofs.Ytohkciilfkhomaa
namespace Go.Proofs.Ytohkciilfkhomaa
open Go Go.Sep Go.Pt
attribute [local irreducible] CallT
theorem filter_range_succ (p:Nat→Bool) (k:Nat):(List.range (k+1)).filter p=if p k=true then (List.range k).filter p++[k] else (List.range k).filter p:=by
  rw [List.range_succ,List.filter_append]
  by_cases h:p k=true<;>simp [h]
theorem filter_range_len (p:Nat→Bool) (k:Nat):((List.range k).filter p).length≤k:=by
  have:=List.length_filter_le p (List.range k)
  rwa [List.length_range] at this
theorem l11Fair_spec (g:List (List Nat)) (hg:GrB g) (hg2:GrB (turnG g)) (goals:List (List Nat)) (hgo:GoB goals g.length):Pu Try.prog 72 [Ls (gI g),Ls (gI goals)] (Is (nI ((List.range g.length).filter (fairF (rwF g) goals)))):=by
  refine ⟨fun H=>CallT.fin ?_⟩
  have hn:=hg.n
  have hgl:=gI_len g
  have hol:=gI_len goals
  have hon:=hgo.len
  have hpl:=prtI_len g
  have hig:=gI_len (inG g)
  rw [inG_len] at hig
  have hpf:∀v,v < g.length→partF (ArcOf (rwF g)) v < g.length:=fun v hv=>by have:=partF_le (ArcOf (rwF g)) v;omega
  have hfair:=fun v hv=>fair_ref (goals:=goals) hg.gr (v:=v) hv
  have hpg:=fun v (h:v < g.length)=>prtI_get h
  have haw:=aw1_succ (rwF g)
  have hgi:∀k,k < g.length→(gI (inG g)).getD k default=nI (inF (rwF g) k):=fun k h=>by rw [gI_get (by rw [inG_len];exact h),inG_row hg]
  have hil:∀k,(inF (rwF g) k).length≤(rwF g k).length:=fun k=>by rw [inF_cB];exact List.length_filter_le _ _
  refine W72_ok ?_;simp (maxSteps:=1000000) (disch:=first | assumption | (apply ν6;assumption)) only [W72,vz,vu,vv,eqS,eF_,↓c1_,↓c2_,tabs,reduceCtorEq,ι5,↓reduceIte,ν1,ν2,ν3,ν4,ν5,ι1,ι2,ι3,ι4,hgl]
  refine Pu.use (l11Parts_spec g hg hg2) ?_
  refine Pu.use (within_spec g hg) ?_
  generalize partF (ArcOf (rwF g))=pf at hpf hfair hpg haw
  generalize prtI g=pr at hpl hpg ⊢
  have ez:zerosA g.length [B false]=cP fB (mpB (aw1 (rwF g) 0) g.length):=by rw [cB_zero];rfl
  have ez3:zerosA g.length [I 0]=cP fI (mpI (fun p=>((mtF pf goals 0 p:Nat):Int)) g.length):=by rw [cP_rep,mpI_const];rfl
  (try simp (maxSteps:=1000000) (disch:=first | assumption | (apply ν6;assumption)) only [vz,vu,vv,eqS,eF_,↓c1_,↓c2_,tabs,reduceCtorEq,ι5,↓reduceIte,ν1,ν2,ν3,ν4,ν5,ι1,ι2,ι3,ι4,makeSliceV,hig])
  refine ⟨by omega,by omega,by omega,by omega,fun q1 hq1=>?_⟩
  refine ⟨by omega,by omega,by omega,by omega,fun q2 hq21 hq2=>?_⟩
  rw [ez,ez3] at *
  have st:=((St.nil H).cell hq1 (cP fB (mpB (aw1 (rwF g) 0) g.length))).cell (r:=q2) (by rw [Heap.set_other hq21];exact hq2) (cP fI (mpI (fun p=>((mtF pf goals 0 p:Nat):Int)) g.length))
  generalize (H.set q1 (cP fB (mpB (aw1 (rwF g) 0) g.length))).set q2 (cP fI (mpI (fun p=>((mtF pf goals 0 p:Nat):Int)) g.length))=G1 at st ⊢
  clear hq1 hq21 hq2
  have last:∀G,St H [cellT q2 (cP fI (mpI (fun p=>((mtF pf goals goals.length p:Nat):Int)) g.length)),cellT q1 (cP fB (mpB (aw1 (rwF g) g.length) g.length))] G→
      L72_3 (wkK fun r H'=>r=Is (nI ((List.range g.length).filter (fairF (rwF g) goals)))∧H'=H) (Ls (gI goals)) (Is pr) (.sl q1 1 0 g.length) (.sl q2 1 0 g.length) (.p .nil) (I g.length) (I 0) G:=by
    intro G st
    have st:=(st.push (skT (.p .nil) [] []) ⟨.nil,fun y hy=>(by cases hy),Heap.le_refl _⟩ (.inl ⟨rfl,rfl,rfl⟩))
    refine L72_3_rule ((0:Nat),(.p .nil:AV),([]:List Nat),G) (fun z=>z.2.1) (fun z=>I z.1) (fun z=>z.2.2.2) (fun z=>z.1≤g.length∧St H [skT z.2.1 ((List.range z.1).filter (fairF (rwF g) goals)) z.2.2.1,cellT q2 (cP fI (mpI (fun p=>((mtF pf goals goals.length p:Nat):Int)) g.length)),cellT q1 (cP fB (mpB (aw1 (rwF g) g.length) g.length))] z.2.2.2) (fun z=>g.length - z.1)
      ⟨⟨by simp,by simpa using st⟩,.refl _,.refl _,Heap.le_refl _⟩ ?_
    clear st
    rintro ⟨i,x,D,G⟩ ⟨hi,st⟩
    dsimp only at hi st
    have e5:IntKind.i64.wrap ((i:Int)+1)=((i+1:Nat):Int):=by rw [i64_id (by omega) (by omega)];simp
    have hfl:=filter_range_len (fairF (rwF g) goals) i
    (try simp (maxSteps:=1000000) (disch:=first | assumption | (apply ν6;assumption)) only [vz,vu,vv,eqS,eF_,↓c1_,↓c2_,tabs,reduceCtorEq,ι5,↓reduceIte,ν1,ν2,ν3,ν4,ν5,ι1,ι2,ι3,ι4,B72_3,hpl,hol])
    refine ⟨fun h1=>?_,fun h1=>?_⟩
    · have hlt:i < g.length:=by omega
      have hp:=hpf i hlt
      have hr1:=rdB (aw1 (rwF g) g.length) hp
      have hr2:=rdN (fun p=>((mtF pf goals goals.length p:Nat):Int)) hp
      have hf:=hfair i hlt
      have hsc:=filter_range_succ (fairF (rwF g) goals) i
      rw [hpg i hlt]
      (try simp (maxSteps:=1000000) (disch:=first | assumption | (apply ν6;assumption)) only [vz,vu,vv,eqS,eF_,↓c1_,↓c2_,tabs,reduceCtorEq,ι5,↓reduceIte,ν1,ν2,ν3,ν4,ν5,ι1,ι2,ι3,ι4,load_at (st.get 2 rfl),lnB,mpB_len,hr1,Int.toNat_natCast])
      refine ⟨by omega,by omega,by omega,by omega,by omega,?_⟩
      have no:fairF (rwF g) goals i=false→∃z:Nat×AV×List Nat×Heap,(z.1≤g.length∧St H [skT z.2.1 ((List.range z.1).filter (fairF (rwF g) goals)) z.2.2.1,cellT q2 (cP fI (mpI (fun p=>((mtF pf goals goals.length p:Nat):Int)) g.length)),cellT q1 (cP fB (mpB (aw1 (rwF g) g.length) g.length))] z.2.2.2)∧g.length - z.1 < g.length - i∧x.wk z.2.1∧(I ((i+1:Nat):Int)).wk (I z.1)∧z.2.2.2.le G:=by
        intro h
        rw [if_neg (by rw [h];simp)] at hsc
        exact ⟨(i+1,x,D,G),⟨by simp only;omega,by simp only [hsc];exact st⟩,by simp only;omega,.refl _,.refl _,Heap.le_refl _⟩
      cases ha:aw1 (rwF g) g.length (pf i)
      · rw [ha,Bool.false_and] at hf
        (try simp (maxSteps:=1000000) (disch:=first | assumption | (apply ν6;assumption)) only [vz,vu,vv,eqS,eF_,↓c1_,↓c2_,tabs,reduceCtorEq,ι5,↓reduceIte,ν1,ν2,ν3,ν4,ν5,ι1,ι2,ι3,ι4,e5])
        exact no hf.symm
      · rw [ha,Bool.true_and] at hf
        (try simp (maxSteps:=1000000) (disch:=first | assumption | (apply ν6;assumption)) only [vz,vu,vv,eqS,eF_,↓c1_,↓c2_,tabs,reduceCtorEq,ι5,↓reduceIte,ν1,ν2,ν3,ν4,ν5,ι1,ι2,ι3,ι4,load_at (st.get 1 rfl),lnN,mpI_len,hr2,e5,Int.toNat_natCast])
        refine ⟨by omega,by omega,by omega,by omega,by omega,fun h2=>?_,fun h2=>?_⟩
        · have ht:fairF (rwF g) goals i=true:=by rw [← hf,decide_eq_true_eq];omega
          rw [if_pos ht] at hsc
          refine lit1 tab_24 rfl tab_3 ⟨rfl,rfl⟩ ?_
          refine sk_app (w:=i) st 0 rfl (by omega) fun q' G' st=>?_
          simp only [List.set_cons_zero] at st
          rw [← hsc] at st
          (try simp (maxSteps:=1000000) (disch:=first | assumption | (apply ν6;assumption)) only [vz,vu,vv,eqS,eF_,↓c1_,↓c2_,tabs,reduceCtorEq,ι5,↓reduceIte,ν1,ν2,ν3,ν4,ν5,ι1,ι2,ι3,ι4,e5])
          exact ⟨(i+1,_,[q'],G'),⟨by simp only;omega,st⟩,by simp only;omega,.refl _,.refl _,Heap.le_refl _⟩
        · refine no ?_
          rw [← hf,decide_eq_false_iff_not]
          omega
    · have:i=g.length:=by omega
      subst this
      exact sk_val st 0 rfl
  have gos:∀G,St H [cellT q2 (cP fI (mpI (fun p=>((mtF pf goals 0 p:Nat):Int)) g.length)),cellT q1 (cP fB (mpB (aw1 (rwF g) g.length) g.length))] G→
      L72_1 (wkK fun r H'=>r=Is (nI ((List.range g.length).filter (fairF (rwF g) goals)))∧H'=H) (Ls (gI g)) (Ls (gI goals)) (Is pr) (.sl q1 1 0 g.length) (.sl q2 1 0 g.length) (Ls (gI goals)) (I goals.length) (I 0) G:=by
    intro G st
    refine L72_1_rule ((0:Nat),G) (fun z=>I z.1) (fun z=>z.2) (fun z=>z.1≤goals.length∧St H [cellT q2 (cP fI (mpI (fun p=>((mtF pf goals z.1 p:Nat):Int)) g.length)),cellT q1 (cP fB (mpB (aw1 (rwF g) g.length) g.length))] z.2) (fun z=>goals.length - z.1)
      ⟨⟨by simp,st⟩,.refl _,Heap.le_refl _⟩ ?_
    clear st G
    rintro ⟨t,G⟩ ⟨ht,st⟩
    dsimp only at ht st
    have e5:IntKind.i64.wrap ((t:Int)+1)=((t+1:Nat):Int):=by rw [i64_id (by omega) (by omega)];simp
    (try simp (maxSteps:=1000000) (disch:=first | assumption | (apply ν6;assumption)) only [vz,vu,vv,eqS,eF_,↓c1_,↓c2_,tabs,reduceCtorEq,ι5,↓reduceIte,ν1,ν2,ν3,ν4,ν5,ι1,ι2,ι3,ι4,B72_1,hol,hgl])
    refine ⟨fun h1=>?_,fun h1=>?_⟩
    · have hlt:t < goals.length:=by omega
      refine ⟨by omega,h1,?_⟩
      rw [gI_get hlt]
      obtain ⟨hsz,hxlt⟩:=hgo.get hlt
      have hnl:=nI_len (rwF goals t)
      have hgd:goals.getD t []=rwF goals t:=rfl
      (try simp (maxSteps:=1000000) (disch:=first | assumption | (apply ν6;assumption)) only [vz,vu,vv,eqS,eF_,↓c1_,↓c2_,tabs,reduceCtorEq,ι5,↓reduceIte,ν1,ν2,ν3,ν4,ν5,ι1,ι2,ι3,ι4,hnl])
      refine L72_2_rule ((0:Nat),G) (fun z=>I z.1) (fun z=>z.2) (fun z=>z.1≤(rwF goals t).length∧St H [cellT q2 (cP fI (mpI (fun p=>((mtP pf goals t z.1 p:Nat):Int)) g.length)),cellT q1 (cP fB (mpB (aw1 (rwF g) g.length) g.length))] z.2) (fun z=>(rwF goals t).length - z.1)
        ⟨⟨by simp,by rw [mtP_zero];exact st⟩,.refl _,Heap.le_refl _⟩ ?_
      clear st G
      rintro ⟨j,G⟩ ⟨hj,st⟩
      dsimp only at hj st
      have e6:IntKind.i64.wrap ((j:Int)+1)=((j+1:Nat):Int):=by rw [i64_id (by omega) (by omega)];simp
      (try simp (maxSteps:=1000000) (disch:=first | assumption | (apply ν6;assumption)) only [vz,vu,vv,eqS,eF_,↓c1_,↓c2_,tabs,reduceCtorEq,ι5,↓reduceIte,ν1,ν2,ν3,ν4,ν5,ι1,ι2,ι3,ι4,B72_2,hnl,hpl])
      refine ⟨fun h2=>?_,fun h2=>?_⟩
      · have hlj:j < (rwF goals t).length:=by omega
        refine ⟨by omega,h2,?_⟩
        rw [nI_get hlj]
        have hx:=hxlt j hlj
        have hs:=mtP_succ pf goals (j:=t) (t:=j) hlj
        rw [hgd] at hs
        generalize (rwF goals t).getD j 0=w at hx hs ⊢
        have hp:=hpf w hx
        have hr:=rdN (fun p=>((mtP pf goals t j p:Nat):Int)) hp
        rw [Int.toNat_natCast,hpg w hx]
        (try simp (maxSteps:=1000000) (disch:=first | assumption | (apply ν6;assumption)) only [vz,vu,vv,eqS,eF_,↓c1_,↓c2_,tabs,reduceCtorEq,ι5,↓reduceIte,ν1,ν2,ν3,ν4,ν5,ι1,ι2,ι3,ι4,load_at (st.get 0 rfl),lnN,mpI_len,hr,e6,Int.toNat_natCast])
        refine ⟨by omega,by omega,by omega,by omega,by omega,fun h3=>?_,fun h3=>?_⟩
        · have hset:=setN (fun p=>((mtP pf goals t j p:Nat):Int)) hp ((t+1:Nat):Int)
          have hup:updI (fun p=>((mtP pf goals t j p:Nat):Int)) (pf w) ((t+1:Nat):Int)=fun p=>((mtP pf goals t (j+1) p:Nat):Int):=by
            funext p
            rw [hs]
            unfold updI
            by_cases e:p=pf w
            · subst e
              have h3':mtP pf goals t j (pf w)=t:=by omega
              simp only [if_pos,h3',and_self]
            · simp only [e,false_and,if_false]
          (try simp (maxSteps:=1000000) (disch:=first | assumption | (apply ν6;assumption)) only [vz,vu,vv,eqS,eF_,↓c1_,↓c2_,tabs,reduceCtorEq,ι5,↓reduceIte,ν1,ν2,ν3,ν4,ν5,ι1,ι2,ι3,ι4,store_at (st.get 0 rfl),lnN,mpI_len,e5,e6,Int.toNat_natCast])
          repeat refine ⟨by omega,?_⟩
          rw [hset,hup]
          exact ⟨(j+1,_),⟨by simp only;omega,st.put 0 rfl (cP fI (mpI (fun p=>((mtP pf goals t (j+1) p:Nat):Int)) g.length))⟩,by simp only;omega,.refl _,Heap.le_refl _⟩
        · have e:mtP pf goals t (j+1)=mtP pf goals t j:=by
            funext p
            rw [hs]
            simp only
            by_cases h:p=pf w∧mtP pf goals t j p=t
            · obtain ⟨rfl,h⟩:=h
              exact absurd (by omega) h3
            · rw [if_neg h]
          exact ⟨(j+1,G),⟨by simp only;omega,by simp only [e];exact st⟩,by simp only;omega,.refl _,Heap.le_refl _⟩
      · have:j=(rwF goals t).length:=by omega
        subst this
        have hal:=mtP_all pf goals t
        rw [hgd] at hal
        rw [hal] at st
        (try simp (maxSteps:=1000000) (disch:=first | assumption | (apply ν6;assumption)) only [vz,vu,vv,eqS,eF_,↓c1_,↓c2_,tabs,reduceCtorEq,ι5,↓reduceIte,ν1,ν2,ν3,ν4,ν5,ι1,ι2,ι3,ι4,e5])
        exact ⟨(t+1,G),⟨by simp only;omega,st⟩,by simp only;omega,.refl _,Heap.le_refl _⟩
    · have:t=goals.length:=by omega
      subst this
      exact last G st
  refine L72_0_rule ((0:Nat),G1) (fun z=>I z.1) (fun z=>z.2) (fun z=>z.1≤g.length∧St H [cellT q2 (cP fI (mpI (fun p=>((mtF pf goals 0 p:Nat):Int)) g.length)),cellT q1 (cP fB (mpB (aw1 (rwF g) z.1) g.length))] z.2) (fun z=>g.length - z.1)
    ⟨⟨by simp,st⟩,.refl _,Heap.le_refl _⟩ ?_
  clear st
  rintro ⟨k,G⟩ ⟨hk,st⟩
  dsimp only at hk st
  have e5:IntKind.i64.wrap ((k:Int)+1)=((k+1:Nat):Int):=by rw [i64_id (by omega) (by omega)];simp
  (try simp (maxSteps:=1000000) (disch:=first | assumption | (apply ν6;assumption)) only [vz,vu,vv,eqS,eF_,↓c1_,↓c2_,tabs,reduceCtorEq,ι5,↓reduceIte,ν1,ν2,ν3,ν4,ν5,ι1,ι2,ι3,ι4,B72_0,hig,hol,hpl])
  refine ⟨fun h1=>?_,fun h1=>?_⟩
  · have hlt:k < g.length:=by omega
    have hrl:=hg.row hlt
    have hikl:=hil k
    have hp:=hpf k hlt
    have hr:=rdB (aw1 (rwF g) k) hp
    have hnl:=nI_len (inF (rwF g) k)
    have hup:updB (aw1 (rwF g) k) (pf k) (aw1 (rwF g) k (pf k) || decide (0 < (inF (rwF g) k).length))=aw1 (rwF g) (k+1):=by
      rw [haw];funext p;unfold updB
      by_cases e:p=pf k
      · subst e;simp
      · simp [e]
    have hset:=setB (aw1 (rwF g) k) hp (aw1 (rwF g) k (pf k) || decide (0 < (inF (rwF g) k).length))
    rw [hup] at hset
    have hput:=st.put 1 rfl (cP fB (mpB (aw1 (rwF g) (k+1)) g.length))
    rw [hgi k hlt,hpg k hlt]
    (try simp (maxSteps:=1000000) (disch:=first | assumption | (apply ν6;assumption)) only [vz,vu,vv,eqS,eF_,↓c1_,↓c2_,tabs,reduceCtorEq,ι5,↓reduceIte,ν1,ν2,ν3,ν4,ν5,ι1,ι2,ι3,ι4,load_at (st.get 1 rfl),lnB,mpB_len,hr,hnl,Int.toNat_natCast])
    refine ⟨by omega,by omega,by omega,by omega,by omega,by omega,by omega,?_⟩
    cases ha:aw1 (rwF g) k (pf k)
    · have ed:decide ((0:Int) < ((inF (rwF g) k).length:Int))=decide (0 < (inF (rwF g) k).length):=by rw [decide_eq_decide];omega
      rw [ha,Bool.false_or] at hset
      (try simp (maxSteps:=1000000) (disch:=first | assumption | (apply ν6;assumption)) only [vz,vu,vv,eqS,eF_,↓c1_,↓c2_,tabs,reduceCtorEq,ι5,↓reduceIte,ν1,ν2,ν3,ν4,ν5,ι1,ι2,ι3,ι4,store_at (st.get 1 rfl),lnB,mpB_len,e5,ed,gt_iff_lt,Int.toNat_natCast])
      repeat refine ⟨by omega,?_⟩
      rw [hset]
      exact ⟨(k+1,_),⟨by simp only;omega,hput⟩,by simp only;omega,.refl _,Heap.le_refl _⟩
    · rw [ha,Bool.true_or] at hset
      (try simp (maxSteps:=1000000) (disch:=first | assumption | (apply ν6;assumption)) only [vz,vu,vv,eqS,eF_,↓c1_,↓c2_,tabs,reduceCtorEq,ι5,↓reduceIte,ν1,ν2,ν3,ν4,ν5,ι1,ι2,ι3,ι4,store_at (st.get 1 rfl),lnB,mpB_len,e5,Int.toNat_natCast])
      repeat refine ⟨by omega,?_⟩
      rw [hset]
      exact ⟨(k+1,_),⟨by simp only;omega,hput⟩,by simp only;omega,.refl _,Heap.le_refl _⟩
  · have:k=g.length:=by omega
    subst this
    exact gos G st
end Go.Proofs.Ytohkciilfkhomaa
namespace Go.Proofs.Ytohkciilfkhomaa
open Go Go.Sep Go.Pt
attribute [local irreducible] CallT
end Go.Proofs.Ytohkciilfkhomaa
namespace Go.Sep
open Go Go.RowKit Go.Proofs.Ytohkciilfkhomaa
structure ResU (R:AV→Heap→List Nat→Prop):Prop where
  loc:∀{r G G' D},R r G D→(∀y∈D,∀b,G y=some b→G' y=some b)→R r G' D
  gd:∀{r G D},R r G D→Gd2 r∧∀y∈D,∀bs,G y=some bs→∀c∈bs,GdC c
  sh:∀{r G D n G0},(∀q,n≤q→G0 q=none)→R r G D→R (sh2 n r) (Heap.or G0 (shH n G)) (D.map (·+n))
theorem thawU {R:AV→Heap→List Nat→Prop} (hR:ResU R) {P:Program} {f:Nat} {args args':List AV} {G G1:Heap} {K:AV→Heap→Prop}
    (hf:∀{K:AV→Heap→Prop},(∀r G D,R r G D→New (fun _=>none) G D→K r G)→CallT P f args' (fun _=>none) K)
    (hw:Wk (.tup args) G (.tup args') G1) (h:∀r G' D,R r G' D→New G G' D→K r G'):CallT P f args G K:=by
  refine CallT.thawX (Q':=fun r H'=>∃D,R r H' D∧D.Nodup∧∀y,y∉D→H' y=none) ?_ ?_ hw ?_
  · refine CallT.fin (hf fun r G D hl hn=>⟨_,only D G,.forget (only_le D G),D,hR.loc hl fun y hy b hb=>by rw [only_in hy];exact hb,hn.nd,fun y hy=>only_out hy⟩)
  · rintro r H' ⟨D,hl,_,hout⟩
    refine ⟨(hR.gd hl).1,fun q cs hq=>?_⟩
    by_cases hD:q∈D
    · exact (hR.gd hl).2 q hD cs hq
    · rw [hout q hD] at hq;cases hq
  · rintro r H' n ⟨D,hl,hnd,hout⟩ hn
    refine h _ _ (D.map (·+n)) (hR.sh hn hl) ⟨?_,fun y hy=>?_,fun y b hb=>by simp only [Heap.or,hb]⟩
    · exact List.pairwise_map.2 (hnd.imp fun h e=>h (Nat.add_right_cancel e))
    · obtain ⟨z,_,rfl⟩:=List.mem_map.1 hy
      exact hn _ (by omega)
end Go.Sep
namespace Go.Proofs.Ytohkciilfkhomaa
open Go Go.Sep Go.Pt
attribute [local irreducible] CallT
theorem LPg.sl {p:Pg} {v:AV} {G:Heap} {D:List Nat} (h:LPg p v G D):∃q1 q2,v=.agg [I p.wide,I p.vars,.sl q1 2 0 p.start.length,.sl q2 2 0 p.cmds.length]:=by
  obtain ⟨x,y,E1,E2,rfl,rfl,hx,hy⟩:=h
  obtain ⟨qx,rfl⟩:=LRow.sl hx
  obtain ⟨qy,rfl⟩:=LRow.sl hy
  exact ⟨qx,qy,rfl⟩
end Go.Proofs.Ytohkciilfkhomaa
namespace Go.Proofs.Ytohkciilfkhomaa
open Go Go.Sep Go.Pt
attribute [local irreducible] CallT
theorem lit_row {x:Int} {G:Heap} {K:AV→Heap→Prop} (h:∀q,G q=none→K (.sl q 1 0 1) (G.set q (cP fI [x]))):buildSliceV tab 24 1 [(0,I x)] G (wkK K):=by
  simp only [buildSliceV,tab_24,tab_3]
  refine ⟨by omega,?_⟩
  exact fun r hr=>wkK.keep (h r hr)
theorem nxt_at {s:Nat→Int} {row:Nat→List Nat} {v j:Nat} (hj:j < (row v).length) (hn:∀i,i < j→s ((row v).getD i 0)≠s v - 1) (hp:s ((row v).getD j 0)=s v - 1):nxtF s row v=(row v).getD j 0:=by
  have e:(row v).find? (fun w=>decide (s w=s v - 1))=some ((row v).getD j 0):=by
    rw [List.find?_eq_some_iff_getElem]
    refine ⟨by simpa using hp,j,hj,by simp [List.getD,hj],fun i hi=>?_⟩
    have:=hn i hi
    simp [List.getD,show i < (row v).length by omega] at this
    simpa using this
  rw [nxtF,e];rfl
theorem near_at {s:Nat→Int} {row:Nat→List Nat} (h:Near s row) {v:Nat} (hv:0 < s v):∃j,j < (row v).length∧s ((row v).getD j 0)=s v - 1:=by
  obtain ⟨w,h1,h2⟩:=h.nx v hv
  obtain ⟨j,hj,e⟩:=List.getElem_of_mem h1
  exact ⟨j,hj,by simp [List.getD,hj,e,h2]⟩
theorem toF_turn {g:List (List Nat)} (hg:GrB g) (to:List Nat):farF (rwF (turnG g)) (turnG g).length to=toF (rwF g) g.length to:=by rw [turnG_row hg.gr,turnG_len];rfl
theorem itK_succ (s:Nat→Int) (row:Nat→List Nat) (v k:Nat):(List.range (k+1+1)).map (itF s row v)=(List.range (k+1)).map (itF s row v)++[nxtF s row (itF s row v k)]:=by
  rw [List.range_succ,List.map_append];rfl
def wayV (row:Nat→List Nat) (n:Nat) (some to:List Nat):AV:=.tup [Is (nI (lwayF row n some to)),B (!decide (bestF (toF row n to) some < 0))]
def RPt (l:List Nat) (ok:Bool) (r:AV) (G:Heap) (D:List Nat):Prop:=∃x,r=.tup [x,B ok]∧RN (LPl eI) 1 x (nI l) G D
theorem RPt.res (l:List Nat) (ok:Bool):ResU (RPt l ok):=by
  refine ⟨?_,?_,?_⟩
  · rintro r G G' D ⟨v,rfl,h⟩ hf
    exact ⟨v,rfl,h.local (LPl.local eI) hf⟩
  · rintro r G D ⟨v,rfl,h⟩
    have gb:Gd1 (B ok):=.inr ⟨.p (.bool ok),fun _=>rfl⟩
    have gv:Gd1 v∧∀y∈D,∀bs,G y=some bs→∀c∈bs,GdC c:=by
      rcases rnI_cases h with ⟨rfl,_,rfl⟩ | ⟨q,rfl,hq,rfl⟩
      · exact ⟨.inr ⟨.p .nil,fun _=>rfl⟩,fun y hy=>by cases hy⟩
      · refine ⟨.inr ⟨.inl ⟨_,_,_,_,rfl⟩,fun _=>rfl⟩,fun y hy bs hb c hc=>?_⟩
        rw [List.mem_singleton.1 hy,hq] at hb;cases hb
        obtain ⟨z,_,rfl⟩:=List.mem_map.1 hc
        exact .p (.int _ _)
    refine ⟨.inl ⟨_,rfl,fun u hu=>?_⟩,gv.2⟩
    rcases List.mem_cons.1 hu with rfl | hu
    · exact gv.1
    · rw [List.mem_singleton] at hu;rw [hu];exact gb
  · rintro r G D n G0 h0 ⟨v,rfl,h⟩
    rcases rnI_cases h with ⟨rfl,hl,rfl⟩ | ⟨q,rfl,hq,rfl⟩
    · exact ⟨_,rfl,.inl ⟨rfl,hl,rfl⟩⟩
    · refine ⟨_,rfl,?_⟩
      have e:shC n (rowP q (nI l))=rowP (q+n) (nI l):=rfl
      refine rnI_mk ?_
      have em:(cP fI (nI l)).map (shC n)=cP fI (nI l):=by rw [cP,List.map_map];rfl
      simp only [Heap.or,h0 (q+n) (by omega),shH,Nat.le_add_left,if_true,Nat.add_sub_cancel,hq,Option.map_some,em]
theorem l11Path_row (g:List (List Nat)) (hg:GrB g) (hg2:GrB (turnG g)) (some to:List Nat) (hs:∀v∈some,v < g.length) (hsl:some.length≤500000) (ht:∀v∈to,v < g.length) (htl:to.length≤100000)
    {H:Heap} {K:AV→Heap→Prop} (hK:∀x G D,RN (LPl eI) 1 x (nI (lwayF (rwF g) g.length some to)) G D→New H G D→K (.tup [x,B (!decide (bestF (toF (rwF g) g.length to) some < 0))]) G) :
    CallT Try.prog 73 [Ls (gI g),Is (nI some),Is (nI to)] H K:=by
  have hn:=hg.n
  have hgl:=gI_len g
  have hsn:=nI_len some
  refine W73_ok ?_;simp (maxSteps:=1000000) (disch:=first | assumption | (apply ν6;assumption)) only [W73,vz,vu,vv,eqS,eF_,↓c1_,↓c2_,tabs,reduceCtorEq,ι5,↓reduceIte,ν1,ν2,ν3,ν4,ν5,ι1,ι2,ι3,ι4,hsn]
  refine Pu.use (sp_spec.l11Turn g hg) ?_
  have hfar:=sp_l11Far (turnG g) hg2 to (by rw [turnG_len];exact ht) htl
  rw [toF_turn hg,turnG_len] at hfar
  refine Pu.use hfar ?_
  have hnear:=toF_near hg.gr ht
  have hbd:=toF_bd hg.gr ht
  have hwl:lwayF (rwF g) g.length some to=if bestF (toF (rwF g) g.length to) some < 0 then [] else wayF (toF (rwF g) g.length to) (rwF g) (bestF (toF (rwF g) g.length to) some).toNat:=rfl
  have hbc:=bestF_cases (toF (rwF g) g.length to)
  generalize toF (rwF g) g.length to=far at hnear hbd hwl hbc hK
  have hml:=mpI_len far g.length
  have hmg:=fun v (h:v < g.length)=>mpI_get far h
  (try simp (maxSteps:=1000000) (disch:=first | assumption | (apply ν6;assumption)) only [vz,vu,vv,eqS,eF_,↓c1_,↓c2_,tabs,reduceCtorEq,ι5,↓reduceIte,ν1,ν2,ν3,ν4,ν5,ι1,ι2,ι3,ι4])
  have go:∀(v q:Nat) (G:Heap),v < g.length→0≤far v→bestF far some=(v:Int)→St H [rnI (rowP q (nI [v])) (nI [v]) [q]] G→
      L73_1 K (Ls (gI g)) (Is (mpI far g.length)) (I v) (rowP q (nI [v])) G:=by
    intro v q G hv h0 hb st
    have hvb:=hbd v
    refine L73_1_rule ((0:Nat),q,G) (fun z=>I (itF far (rwF g) v z.1:Nat)) (fun z=>rowP z.2.1 (nI ((List.range (z.1+1)).map (itF far (rwF g) v)))) (fun z=>z.2.2) (fun z=>(z.1:Int)≤far v∧St H [rnI (rowP z.2.1 (nI ((List.range (z.1+1)).map (itF far (rwF g) v)))) (nI ((List.range (z.1+1)).map (itF far (rwF g) v))) [z.2.1]] z.2.2) (fun z=>(far v).toNat - z.1)
      ⟨⟨by simpa using h0,st⟩,.refl _,.refl _,Heap.le_refl _⟩ ?_
    clear st q G
    rintro ⟨k,q,G⟩ ⟨hk,st⟩
    dsimp only at hk st
    have hsk:=itF_s hnear (v:=v) k hk
    have hbk:=hbd (itF far (rwF g) v k)
    have hisc:=itK_succ far (rwF g) v k
    have hik:itF far (rwF g) v (k+1)=nxtF far (rwF g) (itF far (rwF g) v k):=rfl
    generalize hu:itF far (rwF g) v k=u at hsk hbk hisc hik
    have hun:u < g.length:=hbk.2.2 (by omega)
    simp only [hu]
    (try simp (maxSteps:=1000000) (disch:=first | assumption | (apply ν6;assumption)) only [vz,vu,vv,eqS,eF_,↓c1_,↓c2_,tabs,reduceCtorEq,ι5,↓reduceIte,ν1,ν2,ν3,ν4,ν5,ι1,ι2,ι3,ι4,B73_1,hml,hgl])
    rw [hmg u hun]
    refine ⟨by omega,by omega,fun h1=>?_,fun h1=>?_⟩
    · refine ⟨by omega,by omega,?_⟩
      rw [gI_get hun]
      have hrn:=nI_len (rwF g u)
      have hrl:=hg.row hun
      have e6:IntKind.i64.wrap (far u - 1)=far u - 1:=i64_id (by omega) (by omega)
      (try simp (maxSteps:=1000000) (disch:=first | assumption | (apply ν6;assumption)) only [vz,vu,vv,eqS,eF_,↓c1_,↓c2_,tabs,reduceCtorEq,ι5,↓reduceIte,ν1,ν2,ν3,ν4,ν5,ι1,ι2,ι3,ι4,hrn])
      refine L73_2_rule (0:Nat) (fun _=>I (u:Nat)) (fun j=>I j) (fun _=>G) (fun j=>j≤(rwF g u).length∧∀i,i < j→far ((rwF g u).getD i 0)≠far u - 1) (fun j=>(rwF g u).length - j) ⟨⟨by simp,fun i hi=>by omega⟩,.refl _,.refl _,Heap.le_refl _⟩ ?_
      rintro j ⟨hj,hno⟩
      have e5:IntKind.i64.wrap ((j:Int)+1)=((j+1:Nat):Int):=by rw [i64_id (by omega) (by omega)];simp
      (try simp (maxSteps:=1000000) (disch:=first | assumption | (apply ν6;assumption)) only [vz,vu,vv,eqS,eF_,↓c1_,↓c2_,tabs,reduceCtorEq,ι5,↓reduceIte,ν1,ν2,ν3,ν4,ν5,ι1,ι2,ι3,ι4,B73_2,hrn,hml])
      refine ⟨fun h2=>?_,fun h2=>?_⟩
      · have hlj:j < (rwF g u).length:=by omega
        refine ⟨by omega,h2,?_⟩
        rw [nI_get hlj,Int.toNat_natCast]
        have hw:=hg.lt hlj
        have hnx:=nxt_at (s:=far) (row:=rwF g) (v:=u) hlj hno
        generalize hwe:(rwF g u).getD j 0=w at hw hnx ⊢
        rw [hmg w hw,hmg u hun,e6]
        refine ⟨by omega,by omega,by omega,by omega,fun h3=>?_,fun h3=>?_⟩
        · have hnx:=hnx h3
          rw [hnx] at hisc hik
          refine lit1 tab_24 rfl tab_3 ⟨rfl,rfl⟩ ?_
          refine rn_appI (ys:=[(w:Int)]) st 0 rfl (by rw [nI_len,List.length_map,List.length_range];simp only [List.length_cons,List.length_nil];omega) fun q' G' hq' st=>?_
          simp only [List.set_cons_zero] at st
          rw [← nI_one,← nI_app,← hisc] at st ⊢
          exact ⟨(k+1,q',G'),⟨by simp only;omega,st⟩,by simp only;omega,by simp only [hik];exact .refl _,.refl _,Heap.le_refl _⟩
        · (try simp (maxSteps:=1000000) (disch:=first | assumption | (apply ν6;assumption)) only [vz,vu,vv,eqS,eF_,↓c1_,↓c2_,tabs,reduceCtorEq,ι5,↓reduceIte,ν1,ν2,ν3,ν4,ν5,ι1,ι2,ι3,ι4,e5])
          refine ⟨j+1,⟨by omega,fun i hi=>?_⟩,by omega,.refl _,.refl _⟩
          rcases Nat.lt_succ_iff_lt_or_eq.1 hi with h | rfl
          · exact hno i h
          · rw [hwe];exact h3
      · exfalso
        obtain ⟨i,hi,hp⟩:=near_at hnear (v:=u) h1
        exact hno i (by omega) hp
    · have hek:(far v).toNat+1=k+1:=by omega
      have hway:lwayF (rwF g) g.length some to=(List.range (k+1)).map (itF far (rwF g) v):=by
        rw [hwl,if_neg (by omega),hb,Int.toNat_natCast,wayF,hek]
      have hdb:decide (bestF far some < 0)=false:=by rw [decide_eq_false_iff_not];omega
      have:=hK (rowP q (nI ((List.range (k+1)).map (itF far (rwF g) v)))) G [q] (by rw [hway];exact st.get 0 rfl) ⟨st.ndT 0 rfl,st.fr _ (List.mem_cons_self ..),st.le⟩
      rw [hdb] at this
      exact this
  refine L73_0_rule (0:Nat) (fun k=>I (bestF far (some.take k))) (fun k=>I k) (fun _=>H) (fun k=>k≤some.length) (fun k=>some.length - k) ⟨by simp,.refl _,.refl _,Heap.le_refl _⟩ ?_
  intro k hk
  have e5:IntKind.i64.wrap ((k:Int)+1)=((k+1:Nat):Int):=by rw [i64_id (by omega) (by omega)];simp
  (try simp (maxSteps:=1000000) (disch:=first | assumption | (apply ν6;assumption)) only [vz,vu,vv,eqS,eF_,↓c1_,↓c2_,tabs,reduceCtorEq,ι5,↓reduceIte,ν1,ν2,ν3,ν4,ν5,ι1,ι2,ι3,ι4,B73_0,hsn,hml,e5])
  refine ⟨fun h1=>?_,fun h1=>?_⟩
  · have hlt:k < some.length:=by omega
    refine ⟨by omega,h1,?_⟩
    rw [nI_get hlt,Int.toNat_natCast]
    have hv:=hs (some.getD k 0) (by simp [List.getD,hlt])
    have hsc:bestF far (some.take (k+1))=bput1 far (bestF far (some.take k)) (some.getD k 0):=by
      rw [take_succ_snoc hlt,bestF_snoc];rfl
    have hbk:bestF far (some.take k) < 0∨bestF far (some.take k) < g.length:=by
      rcases hbc (some.take k) with ⟨e,_⟩ | ⟨u,hu,e,_⟩
      · omega
      · have:=hs u (List.mem_of_mem_take hu)
        omega
    generalize some.getD k 0=w at hv hsc ⊢
    generalize bestF far (some.take k)=mk at hsc hbk ⊢
    have yes:bestF far (some.take (k+1))=(w:Int)→∃s':Nat,s'≤some.length∧some.length - s' < some.length - k∧(I (w:Int)).wk (I (bestF far (some.take s')))∧(I ((k+1:Nat):Int)).wk (I s'):=
      fun h=>⟨k+1,by omega,by omega,by rw [h];exact .refl _,.refl _⟩
    have no:bestF far (some.take (k+1))=mk→∃s':Nat,s'≤some.length∧some.length - s' < some.length - k∧(I mk).wk (I (bestF far (some.take s')))∧(I ((k+1:Nat):Int)).wk (I s'):=
      fun h=>⟨k+1,by omega,by omega,by rw [h];exact .refl _,.refl _⟩
    rw [hmg w hv]
    have hp:¬mk < 0→0≤mk∧mk < g.length∧mk.toNat < g.length:=by clear yes no;omega
    refine ⟨by clear yes no;omega,by clear yes no;omega,fun h3=>⟨fun h4=>?_,fun h4=>⟨by clear yes no;omega,by clear yes no;omega,(hp h4).1,(hp h4).2.1,?_⟩⟩,fun h3=>?_⟩
    · exact yes (by rw [hsc,bput1,if_pos ⟨h3,.inl h4⟩])
    · rw [hmg mk.toNat (hp h4).2.2]
      refine ⟨fun h5=>yes ?_,fun h5=>no ?_⟩
      · rw [hsc,bput1,if_pos ⟨h3,.inr h5⟩]
      · rw [hsc,bput1,if_neg (fun h=>h5 (h.2.resolve_left h4))]
    · exact no (by rw [hsc,bput1,if_neg (fun h=>h3 h.1)])
  · have:k=some.length:=by omega
    subst this
    rw [List.take_length]
    refine ⟨fun h2=>?_,fun h2=>?_⟩
    · have:=hK (.p .nil) H [] (.inl ⟨rfl,by rw [hwl,if_pos h2];rfl,rfl⟩) ⟨.nil,fun y hy=>(by cases hy),Heap.le_refl _⟩
      rw [decide_eq_true h2] at this
      exact this
    · rcases hbc some with ⟨e,_⟩ | ⟨v,hv,e,h0,_⟩
      · omega
      · rw [e] at h2 ⊢
        refine lit_row fun q hq=>?_
        have st:=(St.nil H).push (rnI (rowP q (nI [v])) (nI [v]) [q]) (New.cell (b:=cP fI (nI [v])) hq) (rnI_mk (Heap.set_same _ _ _))
        exact go v q _ (hs v hv) h0 e st
theorem rn_wk2 {x:AV} {l:List Int} {G:Heap} {D:List Nat} (h:RN (LPl eI) 1 x l G D) (y:AV):∃G',Wk (.tup [x,y]) G (.tup [Is l,y]) G'∧∀z,z∉D→G' z=G z:=by
  rcases rnI_cases h with ⟨rfl,rfl,rfl⟩ | ⟨q,rfl,hq,rfl⟩
  · exact ⟨G,.val (wk_tup ⟨.nil,.refl _,trivial⟩),fun _ _=>rfl⟩
  · refine ⟨G.del q,?_,fun z hz=>Heap.del_other (by simpa using hz)⟩
    have:=wkPart (off:=0) (n:=l.length) hq (by omega) [y] []
    rwa [List.drop_zero,List.take_length] at this
theorem l11Path_spec (g:List (List Nat)) (hg:GrB g) (hg2:GrB (turnG g)) (some to:List Nat) (hs:∀v∈some,v < g.length) (hsl:some.length≤500000) (ht:∀v∈to,v < g.length) (htl:to.length≤100000) :
    Pu Try.prog 73 [Ls (gI g),Is (nI some),Is (nI to)] (wayV (rwF g) g.length some to):=by
  refine ⟨fun H=>CallT.fin (l11Path_row g hg hg2 some to hs hsl ht htl fun x G D hx hn=>?_)⟩
  obtain ⟨G',w,f⟩:=rn_wk2 hx (B (!decide (bestF (toF (rwF g) g.length to) some < 0)))
  refine ⟨_,H,.trans w (.forget fun z b hb=>?_),rfl,rfl⟩
  rw [f z (fun hz=>by rw [hn.fr z hz] at hb;cases hb)]
  exact hn.le z b hb
end Go.Proofs.Ytohkciilfkhomaa
namespace Go.Proofs.Ytohkciilfkhomaa
open Go Go.Sep Go.Pt
attribute [local irreducible] CallT
theorem turnG_B {g:List (List Nat)} (hg:GrB g):GrB (turnG g):=by
  have ht:=turn_ok hg.gr
  refine ⟨?_,by rw [turnG_len];exact hg.n,?_⟩
  · intro l hl x hx
    obtain ⟨v,_,rfl⟩:=List.mem_map.1 hl
    rw [turnG_len]
    exact ht.lt v x hx
  · rw [prT_sum,turnG_len,turnG_row hg.gr]
    have e:turnF (rwF g) g.length=rowP' (prT g g.length 0):=by funext w;exact (prT_turn g w).symm
    rw [e,sumN_rows (prT_lt hg.gr)]
    exact hg.arcs
theorem inG_B {g:List (List Nat)} (hg:GrB g):GrB (inG g):=by
  refine ⟨?_,by rw [inG_len];exact hg.n,?_⟩
  · intro l hl x hx
    obtain ⟨v,_,rfl⟩:=List.mem_map.1 hl
    rw [inG_len]
    exact hg.gr.lt v x (inF_mem.1 hx).1
  · rw [prT_sum,inG_len,inG_row hg]
    refine Nat.le_trans (sumN_mono fun v=>?_) (by rw [← prT_sum];exact hg.arcs)
    rw [inF_cB];exact List.length_filter_le _ _
theorem st_appL {H G:Heap} {Ts:List Th} {q:Nat} {xs:List Int} (s:St H Ts G) (i:Nat) (hi:Ts[i]?=some (cellT q (cP fI xs))) {q2 off n:Nat} {l:List Int} (hq2:G q2=some (cP fI l)) (hb:off+n≤l.length) (hl:xs.length+n≤1000000) {K:AV→Heap→Prop}
    (h:∀q' G',G q'=none→St H (Ts.set i (cellT q' (cP fI (xs++(l.drop off).take n)))) G'→K (rowP q' (xs++(l.drop off).take n)) G'):appendV tab 24 24 (rowP q xs) (.sl q2 1 off n) G (wkK K):=by
  have hq:G q=some (cP fI xs):=s.get i hi
  simp only [appendV,tab_24,tab_3,srcV,baseV,hq,hq2]
  have e1:List.take (n*1) (List.drop off (cP fI l))=cP fI ((l.drop off).take n):=by rw [Nat.mul_one,cP,← List.map_drop,← List.map_take]
  have e3:List.take (xs.length*1) (List.drop 0 (cP fI xs))=cP fI xs:=by rw [List.drop_zero,Nat.mul_one];exact List.take_of_length_le (by rw [cI_len];exact Nat.le_refl _)
  rw [e1,e3,cI_len,cI_len]
  refine ⟨trivial,by omega,trivial,by omega,by omega,by omega,cP_all _,fun r' hr'=>wkK.keep ?_⟩
  have hl2:((l.drop off).take n).length=n:=by rw [List.length_take,List.length_drop];omega
  have:=h r' _ hr' (s.moved i hi hr')
  rw [rowP,List.length_append,hl2,cI_app] at this
  exact this
theorem ownF_eq (row:Nat→List Nat) (m:Nat) (l:List Nat):ownF row m l=l.filter fun v=>decide (partF (ArcOf row) v=partF (ArcOf row) m):=by
  unfold ownF
  apply List.filter_congr
  intro v _
  rw [decide_eq_decide]
  exact ⟨fun h=>partF_iff.2 h.symm,fun h=>(partF_iff.1 h).symm⟩
noncomputable def laS (row:Nat→List Nat) (n:Nat) (some:List Nat) (goals:List (List Nat)):List Nat:=if meetF row n some goals < 0 then [] else stemF row n (meetF row n some goals).toNat some
noncomputable def laL (row:Nat→List Nat) (n:Nat) (some:List Nat) (goals:List (List Nat)):List Nat:=if meetF row n some goals < 0 then [] else ringF row n (meetF row n some goals).toNat goals
noncomputable def laB (row:Nat→List Nat) (n:Nat) (some:List Nat) (goals:List (List Nat)):Bool:=!decide (meetF row n some goals < 0)
noncomputable def lassoV (row:Nat→List Nat) (n:Nat) (some:List Nat) (goals:List (List Nat)):AV:=.tup [Is (nI (laS row n some goals)),Is (nI (laL row n some goals)),B (laB row n some goals)]
theorem l11Lasso_spec (g:List (List Nat)) (hg:GrB g) (some:List Nat) (hs:∀v∈some,v < g.length) (hsl:some.length≤100000) (goals:List (List Nat)) (b:Nat) (hgo:GoB goals g.length) (hgb:∀l∈goals,l.length≤b) (hB:(goals.length+1)*(g.length+b+2)≤800000) :
    Pu Try.prog 55 [Ls (gI g),Is (nI some),Ls (gI goals)] (lassoV (rwF g) g.length some goals):=by
  refine ⟨fun H=>CallT.fin ?_⟩
  have hn:=hg.n
  have hg2:=turnG_B hg
  have hgi:=inG_B hg
  have hgi2:=turnG_B hgi
  have hgl:=gI_len g
  have hol:=gI_len goals
  have hon:=hgo.len
  have hfl:=filter_range_len (fairF (rwF g) goals) g.length
  have hfn:=nI_len ((List.range g.length).filter (fairF (rwF g) goals))
  refine W55_ok ?_;simp (maxSteps:=1000000) (disch:=first | assumption | (apply ν6;assumption)) only [W55,vz,vu,vv,eqS,eF_,↓c1_,↓c2_,tabs,reduceCtorEq,ι5,↓reduceIte,ν1,ν2,ν3,ν4,ν5,ι1,ι2,ι3,ι4,hfn]
  refine Pu.use (sp_l11Far g hg some hs hsl) ?_
  refine Pu.use (l11Fair_spec g hg hg2 goals hgo) ?_
  have hmeet:bestF (farF (rwF g) g.length some) ((List.range g.length).filter (fairF (rwF g) goals))=meetF (rwF g) g.length some goals:=rfl
  have hfm:∀v∈(List.range g.length).filter (fairF (rwF g) goals),v < g.length:=fun v hv=>List.mem_range.1 (List.mem_filter.1 hv).1
  have hml:=mpI_len (farF (rwF g) g.length some) g.length
  have hmg:=fun v (h:v < g.length)=>mpI_get (farF (rwF g) g.length some) h
  have hbc:=bestF_cases (farF (rwF g) g.length some)
  generalize farF (rwF g) g.length some=far at hmeet hml hmg hbc
  generalize (List.range g.length).filter (fairF (rwF g) goals)=fl at hmeet hfl hfn hfm
  (try simp (maxSteps:=1000000) (disch:=first | assumption | (apply ν6;assumption)) only [vz,vu,vv,eqS,eF_,↓c1_,↓c2_,tabs,reduceCtorEq,ι5,↓reduceIte,ν1,ν2,ν3,ν4,ν5,ι1,ι2,ι3,ι4,hfn])
  refine L55_0_rule (0:Nat) (fun k=>I (bestF far (fl.take k))) (fun k=>I k) (fun _=>H) (fun k=>k≤fl.length) (fun k=>fl.length - k) ⟨by simp,.refl _,.refl _,Heap.le_refl _⟩ ?_
  intro k hk
  have e5:IntKind.i64.wrap ((k:Int)+1)=((k+1:Nat):Int):=by rw [i64_id (by omega) (by omega)];simp
  (try simp (maxSteps:=1000000) (disch:=first | assumption | (apply ν6;assumption)) only [vz,vu,vv,eqS,eF_,↓c1_,↓c2_,tabs,reduceCtorEq,ι5,↓reduceIte,ν1,ν2,ν3,ν4,ν5,ι1,ι2,ι3,ι4,B55_0,hfn,hml,e5])
  refine ⟨fun h1=>?_,fun h1=>?_⟩
  · have hlt:k < fl.length:=by omega
    refine ⟨by omega,h1,?_⟩
    rw [nI_get hlt,Int.toNat_natCast]
    have hv:=hfm (fl.getD k 0) (by simp [List.getD,hlt])
    have hsc:bestF far (fl.take (k+1))=bput1 far (bestF far (fl.take k)) (fl.getD k 0):=by
      rw [take_succ_snoc hlt,bestF_snoc];rfl
    have hbk:bestF far (fl.take k) < 0∨bestF far (fl.take k) < g.length:=by
      rcases hbc (fl.take k) with ⟨e,_⟩ | ⟨u,hu,e,_⟩
      · omega
      · have:=hfm u (List.mem_of_mem_take hu)
        omega
    generalize fl.getD k 0=w at hv hsc ⊢
    generalize bestF far (fl.take k)=mk at hsc hbk ⊢
    have yes:bestF far (fl.take (k+1))=(w:Int)→∃s':Nat,s'≤fl.length∧fl.length - s' < fl.length - k∧(I (w:Int)).wk (I (bestF far (fl.take s')))∧(I ((k+1:Nat):Int)).wk (I s'):=
      fun h=>⟨k+1,by omega,by omega,by rw [h];exact .refl _,.refl _⟩
    have no:bestF far (fl.take (k+1))=mk→∃s':Nat,s'≤fl.length∧fl.length - s' < fl.length - k∧(I mk).wk (I (bestF far (fl.take s')))∧(I ((k+1:Nat):Int)).wk (I s'):=
      fun h=>⟨k+1,by omega,by omega,by rw [h];exact .refl _,.refl _⟩
    rw [hmg w hv]
    have hp:¬mk < 0→0≤mk∧mk < g.length∧mk.toNat < g.length:=by clear yes no;omega
    refine ⟨by clear yes no;omega,by clear yes no;omega,fun h3=>⟨fun h4=>?_,fun h4=>⟨by clear yes no;omega,by clear yes no;omega,(hp h4).1,(hp h4).2.1,?_⟩⟩,fun h3=>?_⟩
    · exact yes (by rw [hsc,bput1,if_pos ⟨h3,.inl h4⟩])
    · rw [hmg mk.toNat (hp h4).2.2]
      refine ⟨fun h5=>yes ?_,fun h5=>no ?_⟩
      · rw [hsc,bput1,if_pos ⟨h3,.inr h5⟩]
      · rw [hsc,bput1,if_neg (fun h=>h5 (h.2.resolve_left h4))]
    · exact no (by rw [hsc,bput1,if_neg (fun h=>h3 h.1)])
  · have:k=fl.length:=by omega
    subst this
    rw [List.take_length,hmeet]
    clear hmeet hbc hmg hml hfm hfl hfn e5
    refine ⟨fun h2=>?_,fun h2=>?_⟩
    · have e:lassoV (rwF g) g.length some goals=.tup [Is [],Is [],B false]:=by
        rw [lassoV,laS,laL,laB,if_pos h2,if_pos h2,decide_eq_true h2];rfl
      rw [e]
      exact ⟨_,_,.val (v':=.tup [Is [],Is [],B false]) (wk_tup ⟨.nil,.nil,.refl _,trivial⟩),rfl,rfl⟩
    · obtain ⟨m,em,hm,hfair,hreach⟩:=meetF_pos hg.gr hs h2
      have e:lassoV (rwF g) g.length some goals=.tup [Is (nI (stemF (rwF g) g.length m some)),Is (nI (ringF (rwF g) g.length m goals)),B true]:=by
        rw [lassoV,laS,laL,laB,if_neg h2,if_neg h2,em,Int.toNat_natCast,decide_eq_false (by omega)];rfl
      rw [e,em]
      obtain ⟨FL,hsl2,hrl2,hbst,hpos⟩:=fair_lasso (b:=b) hg.gr hm hfair (fun l hl=>⟨hgo.lt l hl,hgb l hl⟩) hreach
      have hinv:=loopF_inv (b:=b) hg.gr hm hfair (fun l hl=>⟨hgo.lt l hl,hgb l hl⟩)
      refine lit1 tab_24 rfl tab_3 ⟨rfl,rfl⟩ ?_
      have hmo:∀v∈[m],v < g.length:=fun v hv=>by rw [List.mem_singleton.1 hv];exact hm
      refine Pu.use (l11Path_spec g hg hg2 some [m] hs (by omega) hmo (by simp)) ?_
      unfold wayV
      (try simp (maxSteps:=1000000) (disch:=first | assumption | (apply ν6;assumption)) only [vz,vu,vv,eqS,eF_,↓c1_,↓c2_,tabs,reduceCtorEq,ι5,↓reduceIte,ν1,ν2,ν3,ν4,ν5,ι1,ι2,ι3,ι4])
      refine Pu.use (l11Parts_spec g hg hg2) ?_
      refine Pu.use (within_spec g hg) ?_
      refine lit_row fun q hq=>?_
      have st:St H [cellT q (cP fI (nI [m]))] (H.set q (cP fI [(m:Int)])):=(St.nil H).cell hq _
      generalize H.set q (cP fI [(m:Int)])=G at st ⊢
      have hpl:=prtI_len g
      have hpg:=fun v (h:v < g.length)=>prtI_get h
      have hil:=inG_len g
      have hirow:=inG_row hg
      have hilg:=gI_len (inG g)
      rw [hil] at hilg
      have hst:nI (stemF (rwF g) g.length m some)=(nI (lwayF (rwF g) g.length some [m])).take ((nI (lwayF (rwF g) g.length some [m])).length - 1):=by
        rw [nI_take,nI_len,stemF,List.dropLast_eq_take]
      rw [hst]
      have hstl:(nI (lwayF (rwF g) g.length some [m])).length=(lwayF (rwF g) g.length some [m]).length:=nI_len _
      have hlwl:(lwayF (rwF g) g.length some [m]).length≤g.length+2:=(lwayF_spec hg.gr hmo hbst).2
      generalize nI (lwayF (rwF g) g.length some [m])=stm at hstl ⊢
      (try simp (maxSteps:=1000000) (disch:=first | assumption | (apply ν6;assumption)) only [vz,vu,vv,eqS,eF_,↓c1_,↓c2_,tabs,reduceCtorEq,ι5,↓reduceIte,ν1,ν2,ν3,ν4,ν5,ι1,ι2,ι3,ι4,hol])
      clear hq
      have e0:loopF (rwF g) g.length m (goals.take 0)=[m]:=rfl
      refine L55_1_rule ((0:Nat),q,G) (fun z=>rowP z.2.1 (nI (loopF (rwF g) g.length m (goals.take z.1)))) (fun z=>I z.1) (fun z=>z.2.2) (fun z=>z.1≤goals.length∧St H [cellT z.2.1 (cP fI (nI (loopF (rwF g) g.length m (goals.take z.1))))] z.2.2) (fun z=>goals.length - z.1)
        ⟨⟨by simp,st⟩,.refl _,.refl _,Heap.le_refl _⟩ ?_
      clear st q G
      rintro ⟨t,q,G⟩ ⟨ht,st⟩
      dsimp only at ht st
      have hli:=hinv t ht
      have hll:=hli.len
      have hlast:=hli.last
      have hne:=hli.ne
      have hmul:(goals.take t).length*(g.length+b)≤goals.length*(g.length+b):=Nat.mul_le_mul_right _ (by rw [List.length_take];omega)
      have hB2:(goals.length+1)*(g.length+b+2)=goals.length*(g.length+b)+goals.length*2+(g.length+b+2):=by rw [Nat.add_mul,Nat.one_mul,Nat.mul_add]
      have e5:IntKind.i64.wrap ((t:Int)+1)=((t+1:Nat):Int):=by rw [i64_id (by omega) (by omega)];simp
      generalize hacc:loopF (rwF g) g.length m (goals.take t)=acc at st hli hll hlast hne
      have hal:(nI acc).length=acc.length:=nI_len acc
      simp only [hacc]
      (try simp (maxSteps:=1000000) (disch:=first | assumption | (apply ν6;assumption)) only [vz,vu,vv,eqS,eF_,↓c1_,↓c2_,tabs,reduceCtorEq,ι5,↓reduceIte,ν1,ν2,ν3,ν4,ν5,ι1,ι2,ι3,ι4,B55_1,hol,hal])
      refine ⟨fun h3=>?_,fun h3=>?_⟩
      · have hlt:t < goals.length:=by omega
        refine ⟨by omega,h3,?_⟩
        rw [gI_get hlt]
        obtain ⟨hsz,hxlt⟩:=hgo.get hlt
        have hnl:=nI_len (rwF goals t)
        have hmem:rwF goals t∈goals:=by simp [rwF,List.getD,hlt]
        (try simp (maxSteps:=1000000) (disch:=first | assumption | (apply ν6;assumption)) only [vz,vu,vv,eqS,eF_,↓c1_,↓c2_,tabs,reduceCtorEq,ι5,↓reduceIte,ν1,ν2,ν3,ν4,ν5,ι1,ι2,ι3,ι4,hnl])
        have st:=st.push (rnI (.p .nil) (nI (((rwF goals t).take 0).filter fun v=>decide (partF (ArcOf (rwF g)) v=partF (ArcOf (rwF g)) m))) []) ⟨.nil,fun y hy=>(by cases hy),Heap.le_refl _⟩ (.inl ⟨rfl,rfl,rfl⟩)
        refine L55_2_rule ((0:Nat),(.p .nil:AV),([]:List Nat),G) (fun z=>z.2.1) (fun z=>I z.1) (fun z=>z.2.2.2)
          (fun z=>z.1≤(rwF goals t).length∧St H [rnI z.2.1 (nI (((rwF goals t).take z.1).filter fun v=>decide (partF (ArcOf (rwF g)) v=partF (ArcOf (rwF g)) m))) z.2.2.1,cellT q (cP fI (nI acc))] z.2.2.2) (fun z=>(rwF goals t).length - z.1)
          ⟨⟨by simp,st⟩,.refl _,.refl _,Heap.le_refl _⟩ ?_
        clear st
        rintro ⟨j,x,D,G⟩ ⟨hj,st⟩
        dsimp only at hj st
        have e6:IntKind.i64.wrap ((j:Int)+1)=((j+1:Nat):Int):=by rw [i64_id (by omega) (by omega)];simp
        have hpm:=hpg m hm
        (try simp (maxSteps:=1000000) (disch:=first | assumption | (apply ν6;assumption)) only [vz,vu,vv,eqS,eF_,↓c1_,↓c2_,tabs,reduceCtorEq,ι5,↓reduceIte,ν1,ν2,ν3,ν4,ν5,ι1,ι2,ι3,ι4,B55_2,hnl,hpl,hpm,Int.toNat_natCast])
        refine ⟨fun h4=>?_,fun h4=>?_⟩
        · have hlj:j < (rwF goals t).length:=by omega
          refine ⟨by omega,h4,?_⟩
          rw [nI_get hlj]
          have hx:=hxlt j hlj
          have htk:(rwF goals t).take (j+1)=(rwF goals t).take j++[(rwF goals t).getD j 0]:=take_succ_snoc hlj
          have hfl:(((rwF goals t).take j).filter fun v=>decide (partF (ArcOf (rwF g)) v=partF (ArcOf (rwF g)) m)).length≤100000:=Nat.le_trans (List.length_filter_le _ _) (by rw [List.length_take];omega)
          generalize (rwF goals t).getD j 0=w at hx htk ⊢
          rw [Int.toNat_natCast,hpg w hx,e6]
          refine ⟨by omega,by omega,by omega,by omega,fun h5=>?_,fun h5=>?_⟩
          · have hd:decide (partF (ArcOf (rwF g)) w=partF (ArcOf (rwF g)) m)=true:=by rw [decide_eq_true_eq];omega
            refine lit1 tab_24 rfl tab_3 ⟨rfl,rfl⟩ ?_
            refine rn_appI (ys:=[(w:Int)]) st 0 rfl (by rw [nI_len];simp only [List.length_cons,List.length_nil];omega) fun q' G' hq' st=>?_
            simp only [List.set_cons_zero] at st
            rw [← nI_one,← nI_app] at st ⊢
            have ef:((rwF goals t).take (j+1)).filter (fun v=>decide (partF (ArcOf (rwF g)) v=partF (ArcOf (rwF g)) m))=((rwF goals t).take j).filter (fun v=>decide (partF (ArcOf (rwF g)) v=partF (ArcOf (rwF g)) m))++[w]:=by
              rw [htk,List.filter_append,List.filter_cons,if_pos hd];rfl
            rw [← ef] at st ⊢
            exact ⟨(j+1,_,[q'],G'),⟨by simp only;omega,st⟩,by simp only;omega,.refl _,.refl _,Heap.le_refl _⟩
          · have hd:¬decide (partF (ArcOf (rwF g)) w=partF (ArcOf (rwF g)) m)=true:=by rw [decide_eq_true_eq];omega
            have ef:((rwF goals t).take (j+1)).filter (fun v=>decide (partF (ArcOf (rwF g)) v=partF (ArcOf (rwF g)) m))=((rwF goals t).take j).filter (fun v=>decide (partF (ArcOf (rwF g)) v=partF (ArcOf (rwF g)) m)):=by
              rw [htk,List.filter_append,List.filter_cons,if_neg hd];simp
            exact ⟨(j+1,x,D,G),⟨by simp only;omega,by simp only [ef];exact st⟩,by simp only;omega,.refl _,.refl _,Heap.le_refl _⟩
        · have:j=(rwF goals t).length:=by omega
          subst this
          rw [List.take_length,← ownF_eq] at st
          obtain ⟨hbest,hleg,hlp⟩:=loop_leg hg.gr hli (hfair.2 _ hmem) (hgo.lt _ hmem) (hgb _ hmem)
          have hown:∀v∈ownF (rwF g) m (rwF goals t),v < g.length:=fun v hv=>hgo.lt _ hmem v (ownF_mem.1 hv).1
          have hol2:(ownF (rwF g) m (rwF goals t)).length≤100000:=Nat.le_trans (List.length_filter_le _ _) hsz
          have hlegd:legF (rwF g) g.length m acc (rwF goals t)=acc++(lwayF (inF (rwF g)) g.length [lastF acc] (ownF (rwF g) m (rwF goals t))).tail:=rfl
          have hwl2:=(lwayF_spec (inF_ok hg.gr) hown hbest).2
          have hown0:ownF (rwF g) m (rwF goals t)≠[]:=by
            obtain ⟨y,y1,y2⟩:=hfair.2 _ hmem
            exact List.ne_nil_of_mem (ownF_mem.2 ⟨y1,y2⟩)
          have hnext:loopF (rwF g) g.length m (goals.take (t+1))=legF (rwF g) g.length m acc (rwF goals t):=by
            have:goals.take (t+1)=goals.take t++[rwF goals t]:=take_succ_snoc hlt
            rw [this,loopF_snoc,hacc]
          generalize ownF (rwF g) m (rwF goals t)=own at st hbest hleg hlp hown hol2 hlegd hwl2 hown0
          rcases rnI_cases (st.get 0 rfl) with ⟨_,h0,_⟩ | ⟨q4,rfl,hq4,rfl⟩
          · exact absurd (List.map_eq_nil_iff.1 h0) hown0
          have e7:IntKind.i64.wrap ((acc.length:Int) - 1)=((acc.length - 1:Nat):Int):=by rw [i64_id (by omega) (by omega)];omega
          have e8:((acc.length:Int) - ((acc.length - 1:Nat):Int)).toNat=1:=by omega
          (try simp (maxSteps:=1000000) (disch:=first | assumption | (apply ν6;assumption)) only [vz,vu,vv,eqS,eF_,↓c1_,↓c2_,tabs,reduceCtorEq,ι5,↓reduceIte,ν1,ν2,ν3,ν4,ν5,ι1,ι2,ι3,ι4,hal,e7,e8,Int.toNat_natCast])
          refine ⟨by omega,by omega,by omega,?_⟩
          have hqa:G q=Option.some (cP fI (nI acc)):=st.get 1 rfl
          have hne4:q≠q4:=fun e=>st.disjI 0 1 rfl rfl (by decide) q4 (by simp [rnT]) (by simp [cellT,e])
          have hlastI:((nI acc).drop (acc.length - 1)).take 1=nI [lastF acc]:=by
            rw [nI_drop,nI_take]
            congr 1
            have:acc.length - 1 < acc.length:=by omega
            rw [drop_cons this];rfl
          have hwk:Wk (.tup [Ls (gI (inG g)),.sl q 1 ((acc.length - 1)*1) 1,rowP q4 (nI own)]) G (.tup [Ls (gI (inG g)),Is (nI [lastF acc]),Is (nI own)]) ((G.del q).del q4):=by
            refine .trans (Wk.frzS (r:=q) (es:=(nI acc).map fI) (v':=.tup [Ls (gI (inG g)),Is (nI [lastF acc]),rowP q4 (nI own)]) (by rw [hqa,List.map_map];rfl) (.tup (.cons (.same _) (.cons ?_ (.cons (.same _) .nil)))))
              (Wk.frzS (r:=q4) (es:=(nI own).map fI) (by rw [Heap.del_other (Ne.symm hne4),hq4,List.map_map];rfl) (.tup (.cons (.same _) (.cons (.same _) (.cons ?_ .nil)))))
            · have:=FrzS.part (r:=q) (es:=(nI acc).map fI) (acc.length - 1) 1 (by rw [List.length_map,nI_len];omega)
              have e:((((nI acc).map fI).drop (acc.length - 1)).take 1).map (fun v=>[v])=(nI [lastF acc]).map eI:=by
                rw [← List.map_drop,← List.map_take,hlastI,List.map_map];rfl
              rw [e] at this
              rw [Nat.mul_one];exact this
            · have:=FrzS.part (r:=q4) (es:=(nI own).map fI) 0 (nI own).length (by simp)
              have e:((((nI own).map fI).drop 0).take (nI own).length).map (fun v=>[v])=(nI own).map eI:=by
                rw [List.drop_zero,List.take_of_length_le (by simp),List.map_map];rfl
              rw [e] at this
              exact this
          have hrow:=fun {H:Heap} {K:AV→Heap→Prop}=>l11Path_row (inG g) hgi hgi2 [lastF acc] own (fun v hv=>by rw [inG_len,List.mem_singleton.1 hv];exact hlast.2) (by simp) (fun v hv=>by rw [inG_len];exact hown v hv) hol2 (H:=H) (K:=K)
          rw [hirow,hil] at hrow
          generalize lwayF (inF (rwF g)) g.length [lastF acc] own=leg at hrow hlegd hlp hwl2
          refine thawU (RPt.res leg _) (fun hK=>hrow fun v G D h1 h2=>hK _ _ _ ⟨v,rfl,h1⟩ h2) hwk fun rr G7 D7 hr7 hn7=>?_
          obtain ⟨vr,rfl,hrs⟩:=hr7
          replace st:=st.push (rnI vr (nI leg) D7) hn7 hrs
          rcases rnI_cases (st.get 0 rfl) with ⟨_,h0,_⟩ | ⟨q5,rfl,hq5,rfl⟩
          · have:=congrArg List.length h0
            rw [nI_len,List.length_nil] at this
            omega
          have hnleg:=nI_len leg
          have e9:((leg.length:Int) - 1).toNat=leg.length - 1:=by omega
          (try simp (maxSteps:=1000000) (disch:=first | assumption | (apply ν6;assumption)) only [vz,vu,vv,eqS,eF_,↓c1_,↓c2_,tabs,reduceCtorEq,ι5,↓reduceIte,ν1,ν2,ν3,ν4,ν5,ι1,ι2,ι3,ι4,hnleg,e9,e5])
          refine ⟨by omega,by omega,by omega,?_⟩
          refine st_appL st 2 rfl hq5 (by rw [nI_len];omega) (by rw [nI_len];omega) fun q' G' hq' st=>?_
          have et:((nI leg).drop 1).take (leg.length - 1)=nI leg.tail:=by
            rw [List.take_of_length_le (by rw [List.length_drop,nI_len];omega),nI_drop,List.drop_one]
          rw [et,← nI_app,← hlegd,← hnext] at st ⊢
          exact ⟨(t+1,q',G'),⟨by simp only;omega,st.drop.drop⟩,by simp only;omega,.refl _,.refl _,Heap.le_refl _⟩
      · have:t=goals.length:=by omega
        subst this
        rw [List.take_length] at hacc hli
        obtain ⟨hbest,hlw,hbl⟩:=loop_back hg.gr hli hfair.1
        have e7:IntKind.i64.wrap ((acc.length:Int) - 1)=((acc.length - 1:Nat):Int):=by rw [i64_id (by omega) (by omega)];omega
        have e8:IntKind.i64.wrap ((stm.length:Int) - 1)=((stm.length - 1:Nat):Int):=by rw [i64_id (by omega) (by omega)];omega
        have hrl:=cI_rd (l:=nI acc) (i:=acc.length - 1) (by rw [nI_len];omega)
        rw [nI_get (by omega)] at hrl
        have hlr:acc.getD (acc.length - 1) 0=lastF acc:=rfl
        rw [hlr] at hrl
        have hrow:=inG_row hg
        have hgl2:(gI (inG g)).getD (lastF acc) default=nI (inF (rwF g) (lastF acc)):=by rw [gI_get (by rw [inG_len];exact hlast.2),hrow]
        (try simp (maxSteps:=1000000) (disch:=first | assumption | (apply ν6;assumption)) only [vz,vu,vv,eqS,eF_,↓c1_,↓c2_,tabs,reduceCtorEq,ι5,↓reduceIte,ν1,ν2,ν3,ν4,ν5,ι1,ι2,ι3,ι4,load_at (st.get 0 rfl),e7,e8,hrl,cI_len,hal,hilg,hgl2,Int.toNat_natCast])
        refine ⟨by omega,by omega,by omega,by omega,by omega,?_⟩
        refine lit1 tab_24 rfl tab_3 ⟨rfl,rfl⟩ ?_
        have hin:(inF (rwF g) (lastF acc)).length≤500000:=by
          rw [inF_cB];exact Nat.le_trans (List.length_filter_le _ _) (hg.row hlast.2)
        have hps:=l11Path_spec (inG g) hgi hgi2 (inF (rwF g) (lastF acc)) [m] (fun v hv=>by rw [inG_len];exact hg.gr.lt _ v (inF_mem.1 hv).1) hin (fun v hv=>by rw [inG_len];exact hmo v hv) (by simp)
        rw [hirow,hil] at hps
        refine Pu.use hps ?_
        unfold wayV
        have hring:ringF (rwF g) g.length m goals=acc++(backF (rwF g) g.length m acc).dropLast:=by rw [ringF,hacc]
        have hback:lwayF (inF (rwF g)) g.length (inF (rwF g) (lastF acc)) [m]=backF (rwF g) g.length m acc:=rfl
        rw [hback,hring]
        have hbp:=hlw.pos
        generalize backF (rwF g) g.length m acc=back at hbp hbl
        have hbkl:=nI_len back
        have e9:IntKind.i64.wrap ((back.length:Int) - 1)=((back.length - 1:Nat):Int):=by rw [i64_id (by omega) (by omega)];omega
        (try simp (maxSteps:=1000000) (disch:=first | assumption | (apply ν6;assumption)) only [vz,vu,vv,eqS,eF_,↓c1_,↓c2_,tabs,reduceCtorEq,ι5,↓reduceIte,ν1,ν2,ν3,ν4,ν5,ι1,ι2,ι3,ι4,hbkl,e9,Int.toNat_natCast])
        refine ⟨by omega,by omega,by omega,fun e he=>?_,by omega,by omega,by omega,fun e he=>?_,?_⟩
        · obtain ⟨x,_,rfl⟩:=List.mem_map.1 he;rfl
        · obtain ⟨x,_,rfl⟩:=List.mem_map.1 he;rfl
        have ed:(nI back).take (back.length - 1)=nI back.dropLast:=by rw [nI_take,List.dropLast_eq_take]
        rw [ed]
        refine st_appI st 0 rfl (by rw [nI_len,nI_len,List.length_dropLast];omega) fun q' G' hq' st=>?_
        rw [← nI_app] at st ⊢
        simp only [List.set_cons_zero] at st
        have hg':G' q'=Option.some (cP fI (nI (acc++back.dropLast))):=st.get 0 rfl
        refine ⟨_,H,.trans (Wk.frzS (r:=q') (es:=(nI (acc++back.dropLast)).map fI) (v':=.tup [Is (stm.take (stm.length - 1)),Is (nI (acc++back.dropLast)),B true]) (by rw [hg',List.map_map];rfl) (.tup (.cons (.same _) (.cons ?_ (.cons (.same _) .nil))))) (.forget fun y z hz=>?_),rfl,rfl⟩
        · have:=FrzS.part (r:=q') (es:=(nI (acc++back.dropLast)).map fI) 0 (nI (acc++back.dropLast)).length (by simp)
          have e:((((nI (acc++back.dropLast)).map fI).drop 0).take (nI (acc++back.dropLast)).length).map (fun v=>[v])=(nI (acc++back.dropLast)).map eI:=by
            rw [List.drop_zero,List.take_of_length_le (by simp),List.map_map];rfl
          rw [e] at this
          exact this
        · have hfr:=st.fr _ (List.mem_cons_self ..) q' (by simp [cellT])
          rw [Heap.del_other (fun e=>by rw [e,hfr] at hz;cases hz)]
          exact st.le y z hz
end Go.Proofs.Ytohkciilfkhomaa
namespace Go.Proofs.Ytohkciilfkhomaa
open Go Go.Sep Go.Pt
attribute [local irreducible] CallT
def cellV (l:List Int):PV:=if l=[] then .nil else .sl (l.map eI)
def refN (a:Au) (k s:Nat):List Int:=(outN a k s).foldl put []
def refR (a:Au) (k:Nat):List (List Int):=(List.range a.states.toNat).map (refN a k)
theorem refR_len (a:Au) (k:Nat):(refR a k).length=a.states.toNat:=by simp [refR]
theorem refR_zero (a:Au):refR a 0=List.replicate a.states.toNat []:=by
  rw [refR]
  apply List.ext_getElem
  · simp
  · intro i h1 h2;simp [refN,outN]
theorem refR_get (a:Au) (k:Nat) {s:Nat} (h:s < a.states.toNat):(refR a k).getD s default=refN a k s:=by simp [refR,List.getD,h]
theorem refN_lt (a:Au) (k s:Nat):(refN a k s).Pairwise (· < ·):=(foldl_put _ [] List.Pairwise.nil).1
theorem foldl_len (xs:List Int):∀l,(xs.foldl put l).length≤l.length+xs.length:=by
  induction xs with
  | nil=>intro l;simp
  | cons a xs ih=>intro l;have:=ih (put l a);have:=put_len l a;rw [List.foldl_cons,List.length_cons];omega
theorem refN_len (a:Au) (k s:Nat):(refN a k s).length≤a.edges.length:=by
  have:=foldl_len (outN a k s) []
  have h2:=outN_len a k s
  rw [List.length_nil] at this
  unfold refN;omega
theorem refR_succ (a:Au) {k:Nat} (hk:k < a.edges.length) (h0:0≤(a.edges.getD k default).src) (h1:(a.edges.getD k default).src < a.states) :
    refR a (k+1)=(refR a k).set (a.edges.getD k default).src.toNat (put (refN a k (a.edges.getD k default).src.toNat) (a.edges.getD k default).dst):=by
  have hs:=take_succ_snoc hk
  generalize a.edges.getD k default=e at hs h0 h1 ⊢
  apply List.ext_getElem
  · simp [refR]
  · intro s h2 h3
    simp only [refR,List.getElem_map,List.getElem_range,List.getElem_set]
    simp only [refN,outN,hs,List.filter_append,List.map_append]
    by_cases he:e.src.toNat=s
    · subst he
      rw [if_pos rfl]
      have:e.src=(e.src.toNat:Int):=by omega
      simp [← this]
    · rw [if_neg he]
      have:¬e.src=(s:Int):=by omega
      simp [this]
theorem refR_all (a:Au):refR a a.edges.length=nextG a:=by
  rw [refR,nextG]
  apply List.map_congr_left
  intro s _
  rw [refN,puts_sc]
theorem put_ne (l:List Int) (n:Int):put l n≠[]:=by
  intro h
  have:=(put_mem l n n).2 (.inl rfl)
  rw [h] at this;cases this
theorem map_rd {α:Type} [Inhabited α] {f:α→AV} {rows:List α} {i:Nat} (h:i < rows.length):(List.take 1 (List.drop (i*1) (rows.map f))).headD AV.any=f (rows.getD i default):=by
  rw [Nat.mul_one,← List.map_drop,drop_cons h];rfl
theorem map_sp {α:Type} {f:α→AV} {rows:List α} {i:Nat} {l:α} (h:i < rows.length):List.take (i*1) (rows.map f)++[f l]++List.drop (i*1+1) (rows.map f)=(rows.set i l).map f:=by
  rw [Nat.mul_one,List.set_eq_take_append_cons_drop,if_pos h,List.map_append,List.map_cons,List.map_take,List.map_drop];simp
theorem cellV_wk (l:List Int):AV.wk (.p (cellV l)) (Is l):=by
  unfold cellV
  split
  · rename_i h;subst h;exact .nil
  · exact .refl _
abbrev cG (rows:List (List Int)):List AV:=rows.map fun l=>AV.p (cellV l)
theorem fin_tab {q:Nat} {rows:List (List Int)} {H G:Heap} (hq:H q=none) (hG:G q=some (cG rows)) (hle:Heap.le H G):wkK (fun r H'=>r=Ls rows∧H'=H) (.sl q 1 0 rows.length) G:=by
  have e:cells (rows.map eL)=rows.map fun l=>AV.p (.sl (l.map eI)):=cells_P (fun l:List Int=>PV.sl (l.map eI)) rows
  have w1:Wk (.sl q 1 0 rows.length) G (.sl q 1 0 rows.length) (G.set q (cells (rows.map eL))):=.cell hG (by rw [e];simp) fun i a a' h1 h2=>by
    rw [e] at h2
    rw [List.getElem?_map] at h1 h2
    cases hr:rows[i]? with
    | none=>rw [hr] at h1;cases h1
    | some l=>
      rw [hr] at h1 h2
      cases h1;cases h2
      exact cellV_wk l
  have:=fin_own (sz:=1) (es:=rows.map eL) (q:=q) (H:=H) (H':=G.set q (cells (rows.map eL))) (K:=fun r H'=>r=Ls rows∧H'=H) (by omega) (sized_map (f:=eL) (fun _=>rfl) rows) hq (Heap.set_le hle) ⟨rfl,rfl⟩
  obtain ⟨v',H',w2,h2⟩:=this
  simp only [Go.Sep.own,List.length_map] at w2
  exact ⟨v',H',.trans w1 w2,h2⟩
theorem l12Graph_spec (a:Au) (fa:GoodF a):Pu Try.prog 56 [aAu a] (Ls (nextG a)):=by
  have hst:=fa.st
  have hed:=fa.ed
  refine ⟨fun H=>CallT.fin ?_⟩
  have hz:((a.states.toNat:Nat):Int)=a.states:=by omega
  refine W56_ok ?_;simp (maxSteps:=1000000) (disch:=first | assumption | (apply ν6;assumption)) only [W56,vz,vu,vv,eqS,eF_,↓c1_,↓c2_,tabs,reduceCtorEq,ι5,↓reduceIte,ν1,ν2,ν3,ν4,ν5,ι1,ι2,ι3,ι4,makeSliceV]
  intro r hr
  refine ⟨by omega,by omega,by omega,by omega,fun q hq1 hq=>?_⟩
  have st:=(St.nil H).cell hr [I a.states,Is a.first,Es a.edges,Ls a.goals]
  replace st:=st.cell (r:=q) (by rw [Heap.set_other hq1];exact hq) (zerosA a.states.toNat [.p .nil])
  have ez:zerosA a.states.toNat [.p .nil]=cG (refR a 0):=by
    rw [refR_zero]
    apply List.ext_getElem
    · simp [zerosA_len]
    · intro i h1 h2
      have:∀(n i:Nat) (h:i < (zerosA n [AV.p .nil]).length),(zerosA n [AV.p .nil])[i]=.p .nil:=by
        intro n
        induction n with
        | zero=>intro i h;simp [zerosA] at h
        | succ n ih=>
          intro i h
          cases i with
          | zero=>simp [zerosA_succ]
          | succ i=>simp [zerosA_succ,ih]
      rw [this];simp [cellV]
  rw [ez] at st ⊢
  generalize (H.set r [I a.states,Is a.first,Es a.edges,Ls a.goals]).set q (cG (refR a 0))=G1 at st ⊢
  (try simp (maxSteps:=1000000) (disch:=first | assumption | (apply ν6;assumption)) only [vz,vu,vv,eqS,eF_,↓c1_,↓c2_,tabs,reduceCtorEq,ι5,↓reduceIte,ν1,ν2,ν3,ν4,ν5,ι1,ι2,ι3,ι4,load_at (st.get 1 rfl)])
  refine L56_0_rule ((0:Nat),G1) (fun s=>I s.1) (fun s=>s.2) (fun s=>s.1≤a.edges.length∧St H [cellT q (cG (refR a s.1)),cellT r [I a.states,Is a.first,Es a.edges,Ls a.goals]] s.2) (fun s=>a.edges.length - s.1)
    ⟨⟨by simp,st⟩,.refl _,Heap.le_refl _⟩ ?_
  clear st
  rintro ⟨k,G⟩ ⟨hk,st⟩
  dsimp only at hk st
  (try simp (maxSteps:=1000000) (disch:=first | assumption | (apply ν6;assumption)) only [vz,vu,vv,eqS,eF_,↓c1_,↓c2_,tabs,reduceCtorEq,ι5,↓reduceIte,ν1,ν2,ν3,ν4,ν5,ι1,ι2,ι3,ι4,B56_0])
  refine ⟨fun h1=>⟨by omega,h1,?_⟩,fun h1=>?_⟩
  · have hlt:k < a.edges.length:=by omega
    have hm:a.edges.getD k default∈a.edges:=getD_all (p:=fun x=>x∈a.edges) (fun _ h=>h) hlt
    have hei:=edIn_iff.1 (fa.ei _ hm)
    have hsucc:=refR_succ a hlt (by omega) (by omega)
    generalize a.edges.getD k default=e at hei hsucc ⊢
    intro r5 hr5
    replace st:=st.cell hr5 [I e.src,I e.lt,I e.dst]
    generalize G.set r5 [I e.src,I e.lt,I e.dst]=G2 at st ⊢
    have hi:e.src.toNat < (refR a k).length:=by rw [refR_len];omega
    have hrd:=map_rd (f:=fun l=>AV.p (cellV l)) hi
    rw [refR_get a k (by omega)] at hrd
    have hln:(refR a k).length=a.states.toNat:=refR_len a k
    have hol:=refN_len a k e.src.toNat
    have hsp:∀l',List.take (e.src.toNat*1) (cG (refR a k))++[AV.p (cellV l')]++List.drop (e.src.toNat*1+1) (cG (refR a k))=cG ((refR a k).set e.src.toNat l'):=fun l'=>map_sp hi
    (try simp (maxSteps:=1000000) (disch:=first | assumption | (apply ν6;assumption)) only [vz,vu,vv,eqS,eF_,↓c1_,↓c2_,tabs,reduceCtorEq,ι5,↓reduceIte,ν1,ν2,ν3,ν4,ν5,ι1,ι2,ι3,ι4,load_at (st.get 0 rfl)])
    refine ⟨by omega,by omega,?_⟩
    (try simp (maxSteps:=1000000) (disch:=first | assumption | (apply ν6;assumption)) only [vz,vu,vv,eqS,eF_,↓c1_,↓c2_,tabs,reduceCtorEq,ι5,↓reduceIte,ν1,ν2,ν3,ν4,ν5,ι1,ι2,ι3,ι4,load_at (st.get 0 rfl),load_at (st.get 1 rfl),hrd,hln])
    refine ⟨by omega,?_⟩
    refine CallT.args (args':=[Is (refN a k e.src.toNat),I e.dst]) ?_ ⟨cellV_wk _,.refl _,trivial⟩
    refine Pu.use (l1Put_spec _ e.dst (refN_lt a k _) (by omega)) ?_
    have ec:Is (put (refN a k e.src.toNat) e.dst)=.p (cellV (put (refN a k e.src.toNat) e.dst)):=by rw [cellV,if_neg (put_ne _ _)]
    rw [ec]
    generalize put (refN a k e.src.toNat) e.dst=l' at hsucc ⊢
    (try simp (maxSteps:=1000000) (disch:=first | assumption | (apply ν6;assumption)) only [vz,vu,vv,eqS,eF_,↓c1_,↓c2_,tabs,reduceCtorEq,ι5,↓reduceIte,ν1,ν2,ν3,ν4,ν5,ι1,ι2,ι3,ι4,load_at (st.get 0 rfl),store_at (st.get 1 rfl),hln])
    refine ⟨by omega,by omega,by omega,?_⟩
    rw [hsp,← hsucc]
    refine ⟨(k+1,_),⟨by simp only;omega,(st.put 1 rfl (cG (refR a (k+1)))).drop⟩,by simp only;omega,?_,Heap.le_refl _⟩
    rw [wk_int,i64_id (by omega) (by omega)];simp
  · have:k=a.edges.length:=by omega
    subst this
    have hg:G q=some (cG (refR a a.edges.length)):=st.get 0 rfl
    have:=fin_tab (H:=H) hq hg st.le
    rw [refR_len] at this
    rw [refR_all] at this
    exact this
end Go.Proofs.Ytohkciilfkhomaa
namespace Go.Proofs.Ytohkciilfkhomaa
open Go Go.Sep Go.Pt
attribute [local irreducible] CallT
def nN (l:List Int):List Nat:=l.map Int.toNat
theorem nN_len (l:List Int):(nN l).length=l.length:=by simp [nN]
theorem nN_lt {l:List Int} {n:Nat} (h:∀x∈l,0≤x∧x < n):∀v∈nN l,v < n:=by
  intro v hv
  obtain ⟨x,hx,rfl⟩:=List.mem_map.1 hv
  have:=h x hx;omega
theorem nI_of {l:List Int} {n:Nat} (h:∀x∈l,0≤x∧x < n):nI (nN l)=l:=nI_nN fun x hx=>(h x hx).1
def gA (a:Au):List (List Nat):=(nextG a).map nN
theorem gI_of {g:List (List Int)} {n:Nat} (h:∀l∈g,∀x∈l,0≤x∧x < n):gI (g.map nN)=g:=by
  unfold gI
  rw [List.map_map]
  conv=>rhs;rw [← List.map_id g]
  apply List.map_congr_left
  intro l hl
  exact nI_of (h l hl)
theorem gA_len (a:Au):(gA a).length=a.states.toNat:=by simp [gA,nextG_len]
theorem nextG_bd {a:Au} (fa:GoodF a):∀l∈nextG a,(∀x∈l,0≤x∧x < a.states.toNat)∧l.length≤2400:=by
  intro l hl
  obtain ⟨s,_,rfl⟩:=List.mem_map.1 hl
  have hed:=fa.ed
  refine ⟨fun x hx=>?_,?_⟩
  · rw [sc_mem] at hx
    simp only [outN,List.mem_map,List.mem_filter] at hx
    obtain ⟨e,⟨he,_⟩,rfl⟩:=hx
    have:=edIn_iff.1 (fa.ei e (List.mem_of_mem_take he))
    omega
  · have:=sc_len (outN a a.edges.length s)
    have:=outN_len a a.edges.length s
    omega
theorem sumN_le {f:Nat→Nat} {b:Nat} (h:∀v,f v≤b) (n:Nat):sumN f n≤n*b:=by
  induction n with
  | zero=>simp [sumN]
  | succ n ih=>rw [sumN_succ,Nat.add_mul];have:=h n;omega
theorem GrB_of {g:List (List Nat)} {b:Nat} (h1:∀l∈g,∀x∈l,x < g.length) (h2:∀l∈g,l.length≤b) (hn:g.length≤100000) (hb:g.length*b≤500000):GrB g:=by
  refine ⟨h1,hn,?_⟩
  rw [prT_sum]
  refine Nat.le_trans (sumN_le (b:=b) (fun v=>?_) _) hb
  by_cases hv:v < g.length
  · refine h2 _ ?_
    simp [rwF,List.getD,hv]
  · rw [rwF_out (by omega)];simp
theorem gA_B {a:Au} (fa:GoodF a):GrB (gA a):=by
  have hst:=fa.st
  have hl:=gA_len a
  refine GrB_of (b:=2400) (fun l hl2 x hx=>?_) (fun l hl2=>?_) (by omega) (by rw [hl];exact Nat.le_trans (Nat.mul_le_mul_right 2400 (show a.states.toNat≤96 by omega)) (by decide))
  · obtain ⟨r,hr,rfl⟩:=List.mem_map.1 hl2
    rw [hl]
    exact nN_lt (nextG_bd fa r hr).1 x hx
  · obtain ⟨r,hr,rfl⟩:=List.mem_map.1 hl2
    rw [nN_len];exact (nextG_bd fa r hr).2
theorem gA_I {a:Au} (fa:GoodF a):gI (gA a)=nextG a:=gI_of fun l hl=>(nextG_bd fa l hl).1
theorem rising_in {l:List Int} {n:Int} (h:rising l n=true):∀x∈l,0≤x∧x < n:=by
  intro x hx
  obtain ⟨i,hi,rfl⟩:=List.mem_iff_getElem.1 hx
  have:=rising_at h i hi
  rw [getD_lt hi] at this
  omega
structure AutoN (a:Au):Prop where
  f:GoodF a
  fr:∀x∈a.first,0≤x∧x < a.states.toNat
  go:∀l∈a.goals,∀x∈l,0≤x∧x < a.states.toNat
theorem autoN {a:Au} (h:goodA a=true):AutoN a:=by
  have f:=good_facts h
  have hst:=f.st
  rw [goodA_def] at h
  simp only [goalsOk,Bool.and_eq_true,decide_eq_true_eq,List.all_eq_true] at h
  obtain ⟨h1,h2,h3,⟨h4,h5⟩,h6⟩:=h
  refine ⟨f,fun x hx=>?_,fun l hl x hx=>?_⟩
  · have:=rising_in h2 x hx;omega
  · have:=rising_in (h5 l hl) x hx;omega
def goN (gs:List (List Int)):List (List Nat):=gs.map nN
theorem AutoN.gob {a:Au} (h:AutoN a):GoB (goN a.goals) (gA a).length∧(∀l∈goN a.goals,l.length≤96)∧((goN a.goals).length+1)*((gA a).length+96+2)≤800000:=by
  have hgl:=h.f.gl
  have hst:=h.f.st
  have hl:=gA_len a
  have e:(goN a.goals).length=a.goals.length:=by simp [goN]
  have h96:∀l∈goN a.goals,l.length≤96:=by
    intro l hl2
    obtain ⟨r,hr,rfl⟩:=List.mem_map.1 hl2
    rw [nN_len];exact (h.f.gi r hr).2
  refine ⟨⟨fun l hl2 x hx=>?_,by omega,fun l hl2=>by have:=h96 l hl2;omega⟩,h96,?_⟩
  · obtain ⟨r,hr,rfl⟩:=List.mem_map.1 hl2
    rw [hl];exact nN_lt (h.go r hr) x hx
  · rw [e,hl]
    exact Nat.le_trans (Nat.mul_le_mul (show a.goals.length+1≤7 by omega) (show a.states.toNat+96+2≤194 by omega)) (by decide)
noncomputable def fairA (a:Au):Bool:=laB (rwF (gA a)) (gA a).length (nN a.first) (goN a.goals)
theorem lasso_A {a:Au} (h:AutoN a):Pu Try.prog 55 [Ls (nextG a),Is a.first,Ls a.goals] (lassoV (rwF (gA a)) (gA a).length (nN a.first) (goN a.goals)):=by
  obtain ⟨h1,h2,h3⟩:=h.gob
  have hl:=gA_len a
  have hf:=h.f.fi
  have:=l11Lasso_spec (gA a) (gA_B h.f) (nN a.first) (by rw [hl];exact nN_lt h.fr) (by rw [nN_len];omega) (goN a.goals) 96 h1 h2 h3
  rwa [gA_I h.f,nI_of h.fr,goN,gI_of h.go] at this
noncomputable def ieR (a:Au):Bool×Bool:=if goodA a then (!fairA a,true) else (false,false)
end Go.Proofs.Ytohkciilfkhomaa
namespace Go.Proofs.Ytohkciilfkhomaa
open Go Go.Sep Go.Pt
attribute [local irreducible] CallT
theorem filt_sum (L:List Ed) (n:Nat):sumN (fun v=>(L.filter fun e=>decide (e.src=(v:Int))).length) n≤L.length:=by
  induction L with
  | nil=>
    have:∀n,sumN (fun _=>0) n=0:=fun n=>by
      induction n with
      | zero=>rfl
      | succ n ih=>rw [sumN_succ,ih]
    simp only [List.filter_nil,List.length_nil,this];exact Nat.le_refl _
  | cons e L ih=>
    have h1:∀n,sumN (fun v=>((e::L).filter fun e=>decide (e.src=(v:Int))).length) n=sumN (fun v=>(L.filter fun e=>decide (e.src=(v:Int))).length) n+sumN (fun v=>if e.src=(v:Int) then 1 else 0) n:=by
      intro n
      induction n with
      | zero=>rfl
      | succ n ih2=>
        rw [sumN_succ,sumN_succ,sumN_succ,ih2,List.filter_cons]
        by_cases h:e.src=(n:Int)
        · simp only [h,decide_true,if_true,List.length_cons];omega
        · simp only [h,decide_false,if_false,Bool.false_eq_true];omega
    have h2:∀n:Nat,sumN (fun v=>if e.src=(v:Int) then 1 else 0) n≤if e.src < (n:Int) then 1 else 0:=by
      intro n
      induction n with
      | zero=>simp [sumN]
      | succ n ih2=>
        rw [sumN_succ]
        by_cases h:e.src=(n:Int)
        · rw [if_pos h,if_pos (by omega)];rw [if_neg (by omega)] at ih2;omega
        · rw [if_neg h]
          by_cases h3:e.src < (n:Int)
          · rw [if_pos h3] at ih2;rw [if_pos (by omega)];omega
          · rw [if_neg h3] at ih2;rw [if_neg (by omega)];omega
    rw [h1,List.length_cons]
    have:=h2 n
    split at this<;>omega
def gO (a:Au):List (List Nat):=(outR a a.edges.length).map nN
theorem gO_len (a:Au):(gO a).length=a.states.toNat:=by simp [gO,outR_len]
theorem gO_row (a:Au) {s:Nat} (h:s < a.states.toNat):rwF (gO a) s=nN (outN a a.edges.length s):=by
  simp [rwF,gO,outR,List.getD,h]
theorem gA_row (a:Au) {s:Nat} (h:s < a.states.toNat):rwF (gA a) s=nN (sc (outN a a.edges.length s)):=by
  simp [rwF,gA,nextG,List.getD,h]
theorem outN_bd {a:Au} (fa:GoodX a) {s:Nat}:∀x∈outN a a.edges.length s,0≤x∧x < a.states.toNat:=by
  intro x hx
  simp only [outN,List.mem_map,List.mem_filter] at hx
  obtain ⟨e,⟨he,_⟩,rfl⟩:=hx
  have:=edIn_iff.1 (fa.ei e (List.mem_of_mem_take he))
  have:=fa.st
  omega
theorem GrB_sum {g:List (List Nat)} (h1:∀v,v < g.length→∀x∈rwF g v,x < g.length) (hn:g.length≤100000) (hs:sumN (fun v=>(rwF g v).length) g.length≤500000):GrB g:=by
  refine ⟨fun l hl x hx=>?_,hn,?_⟩
  · obtain ⟨v,hv,rfl⟩:=List.mem_iff_getElem.1 hl
    refine h1 v hv x ?_
    simpa [rwF,List.getD,hv] using hx
  · rw [prT_sum];exact hs
theorem sumN_mono {f g:Nat→Nat} {n:Nat} (h:∀v,v < n→f v≤g v):sumN f n≤sumN g n:=by
  induction n with
  | zero=>exact Nat.le_refl _
  | succ n ih=>rw [sumN_succ,sumN_succ];have:=ih fun v hv=>h v (by omega);have:=h n (by omega);omega
theorem gO_B {a:Au} (fa:GoodX a):GrB (gO a):=by
  have hst:=fa.st
  have hed:=fa.ed
  have hl:=gO_len a
  refine GrB_sum (fun v hv x hx=>?_) (by omega) ?_
  · rw [hl] at hv ⊢
    rw [gO_row a hv] at hx
    exact nN_lt (outN_bd fa) x hx
  · refine Nat.le_trans (sumN_mono (g:=fun v=>(a.edges.filter fun e=>decide (e.src=(v:Int))).length) fun v hv=>?_) (Nat.le_trans (filt_sum _ _) (by omega))
    rw [gO_row a (by omega),nN_len,outN,List.take_length,List.length_map];exact Nat.le_refl _
theorem gO_gA {a:Au} (v w:Nat):w∈rwF (gO a) v↔w∈rwF (gA a) v:=by
  by_cases h:v < a.states.toNat
  · rw [gO_row a h,gA_row a h]
    simp only [nN,List.mem_map,sc_mem]
  · rw [rwF_out (by rw [gO_len];omega),rwF_out (by rw [gA_len];omega)]
structure PrB (p:Au):Prop where
  x:GoodX p
  n:p.states≤4608
  fr:∀x∈p.first,0≤x∧x < p.states.toNat
  fl:p.first.length≤9216
  gl:p.goals.length≤12
  go:∀l∈p.goals,∀x∈l,0≤x∧x < p.states.toNat
  gs:∀l∈p.goals,l.length≤9216
theorem PrB.gob {p:Au} (h:PrB p) {n:Nat} (hn:n=p.states.toNat):GoB (goN p.goals) n∧(∀l∈goN p.goals,l.length≤9216)∧((goN p.goals).length+1)*(n+9216+2)≤800000:=by
  have hgl:=h.gl
  have hst:=h.x.st
  have hs:=h.n
  have e:(goN p.goals).length=p.goals.length:=by simp [goN]
  have h96:∀l∈goN p.goals,l.length≤9216:=by
    intro l hl2
    obtain ⟨r,hr,rfl⟩:=List.mem_map.1 hl2
    rw [nN_len];exact h.gs r hr
  refine ⟨⟨fun l hl2 x hx=>?_,by omega,fun l hl2=>by have:=h96 l hl2;omega⟩,h96,?_⟩
  · obtain ⟨r,hr,rfl⟩:=List.mem_map.1 hl2
    rw [hn];exact nN_lt (h.go r hr) x hx
  · rw [e]
    exact Nat.le_trans (Nat.mul_le_mul (show p.goals.length+1≤13 by omega) (show n+9216+2≤13826 by omega)) (by decide)
noncomputable def impF (p:Au):Bool:=decide (meetF (rwF (gA p)) (gA p).length (nN p.first) (goN p.goals) < 0)
theorem arc_iff {p:Au} (h:GoodX p) {v w:Nat}:w∈rwF (gA p) v↔∃e∈p.edges,e.src=(v:Int)∧e.dst=(w:Int):=by
  have hst:=h.st
  by_cases hv:v < p.states.toNat
  · rw [gA_row p hv]
    simp only [nN,List.mem_map,sc_mem,outN,List.take_length,List.mem_filter,decide_eq_true_eq]
    constructor
    · rintro ⟨x,⟨e,⟨he,h1⟩,rfl⟩,h2⟩
      have:=edIn_iff.1 (h.ei e he)
      exact ⟨e,he,h1,by omega⟩
    · rintro ⟨e,he,h1,h2⟩
      exact ⟨e.dst,⟨e,⟨he,h1⟩,rfl⟩,by omega⟩
  · rw [rwF_out (by rw [gA_len];omega)]
    constructor
    · intro hx;cases hx
    · rintro ⟨e,he,h1,h2⟩
      have:=edIn_iff.1 (h.ei e he)
      omega
theorem gO_I {p:Au} (h:GoodX p):gI (gO p)=outR p p.edges.length:=gI_of (n:=p.states.toNat) fun l hl x hx=>by
  obtain ⟨s,hs,rfl⟩:=List.mem_map.1 hl
  exact outN_bd h x hx
theorem meeting_O {p:Au} (h:PrB p):Pu Try.prog 37 [Ls (outR p p.edges.length),Is p.first,Ls p.goals] (I (meetF (rwF (gO p)) (gO p).length (nN p.first) (goN p.goals))):=by
  have hl:=gO_len p
  obtain ⟨h1,h2,h3⟩:=h.gob hl
  have hf:=h.fl
  have:=meeting_spec (gO p) (gO_B h.x) (nN p.first) (by rw [hl];exact nN_lt h.fr) (by rw [nN_len];omega) (goN p.goals) h1
  rwa [gO_I h.x,nI_of h.fr,goN,gI_of h.go] at this
end Go.Proofs.Ytohkciilfkhomaa
