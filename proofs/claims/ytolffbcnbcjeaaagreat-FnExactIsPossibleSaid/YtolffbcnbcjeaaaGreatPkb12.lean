/- The row of the law that IsPossible answers as the reference does: whatever the arguments, it answers true, and what it is told reads as it did. -/
import Derived.Test.YtolffbcnbcjeaaaGreatPkb11
import Derived.Test.YtolffbcnbcjeaaaGreatRows
import Derived.WalkKit
import Derived.ProofKit
import Derived.OpenShut
set_option linter.unusedVariables false
set_option linter.unusedSimpArgs false
open Nat renaming reduceAdd→ν1,reduceLeDiff→ν2,reduceLT→ν3,reduceMul→ν4,reduceSub→ν5
open Int renaming reduceToNat→ι1,reduceSub→ι2,reduceAdd→ι3,reduceNeg→ι4
open Array renaming toList→ι5
open Ne renaming symm→ν6
open List renaming forall_mem_cons→ν7
namespace Go.Proofs.YtolffbcnbcjeaaaGreat
open Go Go.Sep Go.Pt
attribute [local irreducible] CallT
theorem row0_len {f:List Sd} (h:(tr f).length≤5) {g l n:Nat} (hg:g < nF f) (hl:l < 8) (hn:n≤nF f):(all0 f g++(row0 f g l++cell0 f g l n)).length≤32*256+512:=by
  have hb:=nF_bd h
  have c0:∀g l n,(cell0 f g l n).length≤n:=fun g l n=>by
    unfold cell0
    rw [List.length_map]
    have:=List.length_filter_le (fun (k:Nat)=>decide (guF f l k=g)) (List.range n)
    rwa [List.length_range] at this
  have r0:∀g l,(row0 f g l).length≤l*32:=fun g l=>by
    induction l with
    | zero=>simp [row0]
    | succ l ih=>rw [row0_succ,List.length_append];have:=c0 g l (nF f);omega
  have a0:∀g,(all0 f g).length≤g*256:=fun g=>by
    induction g with
    | zero=>simp [all0]
    | succ g ih=>rw [all0_succ,List.length_append];have:=r0 g 8;omega
  rw [List.length_append,List.length_append]
  have h1:=c0 g l n
  have h2:=r0 g l
  have h3:=a0 g
  omega
theorem l13Auto_spec (f:List Sd) (b:Bool) (g:GoodFm f) (ht:(tr f).length≤5):Pu Tryz.prog 53 [Ds f,B (!b)] (aAu (autoB f b)):=by
  have hl:=g.l1
  have hl0:=g.l0
  have hb:=nF_bd ht
  have htl:(tr f).length≤1000:=by omega
  have eu:IntKind.u64.wrap ((tr f).length:Int)=(tr f).length:=by rw [IntKind.wrap_u64];omega
  have hN:=nF_int f
  have ew:IntKind.i64.wrap (1*2^(min (tr f).length IntKind.i64.bits))=(nF f:Int):=by
    rw [Nat.min_eq_left (by show (tr f).length≤64;omega),Int.one_mul,hN,i64_id (by omega) (by omega)]
  have e1:IntKind.i64.wrap ((f.length:Int) - 1)=(f.length:Int) - 1:=i64_id (by omega) (by omega)
  refine ⟨fun H=>CallT.fin ?_⟩
  refine CallT.ghost W53_hb fun z1 hz1=>?_
  refine CallT.ghost W53_hb fun z2 hz2=>?_
  have st:=lent (LPl.local eE) (LPl.has eE) 3 (lent (LPl.local eI) (LPl.has eI) 1 (((St.nil H).cell hz1 []).cell hz2 []) 1 rfl) 0 rfl
  generalize (H.set z1 []).set z2 []=G at st ⊢
  clear hz1 hz2
  refine W53_ok ?_;simp (maxSteps:=1000000) (disch:=first | assumption | (apply ν6;assumption)) only [W53,vz,vu,vv,eqS,eF_,↓c1_,↓c2_,tabs,reduceCtorEq,ι5,↓reduceIte,ν1,ν2,ν3,ν4,ν5,ι1,ι2,ι3,ι4]
  intro r4 hr4
  replace st:=st.cell hr4 [I 0,.p .nil,.p .nil,.p .nil]
  generalize G.set r4 [I 0,.p .nil,.p .nil,.p .nil]=G1 at st ⊢
  refine Pu.use (l13Tracked_spec f g) ?_
  (try simp (maxSteps:=1000000) (disch:=first | assumption | (apply ν6;assumption)) only [vz,vu,vv,eqS,eF_,↓c1_,↓c2_,tabs,reduceCtorEq,ι5,↓reduceIte,ν1,ν2,ν3,ν4,ν5,ι1,ι2,ι3,ι4,eu,Int.toNat_natCast,ew])
  refine ⟨by omega,?_⟩
  refine Pu.use (l13Goals_spec f g ht) ?_
  (try simp (maxSteps:=1000000) (disch:=first | assumption | (apply ν6;assumption)) only [vz,vu,vv,eqS,eF_,↓c1_,↓c2_,tabs,reduceCtorEq,ι5,↓reduceIte,ν1,ν2,ν3,ν4,ν5,ι1,ι2,ι3,ι4])
  intro r7 hr7
  replace st:=st.cell hr7 [I (nF f),.p .nil,.p .nil,Ls (goalsK f f.length)]
  generalize G1.set r7 [I (nF f),.p .nil,.p .nil,Ls (goalsK f f.length)]=G2 at st ⊢
  clear hr4 hr7
  have st:=st.perm (Us:=[cellT r7 [I (nF f),.p .nil,.p .nil,Ls (goalsK f f.length)],cellT r4 [I 0,.p .nil,.p .nil,.p .nil],riT z1 (.p .nil) [] [z1],reT z2 (.p .nil) [] [z2]]) (((List.Perm.swap _ _ _).cons _).cons _)
  refine L53_0_rule ((0:Nat),(.p .nil:AV),[z1],(.p .nil:AV),[z2],G2) (fun s=>I s.1) (fun s=>s.2.2.2.2.2)
    (fun s=>s.1≤nF f∧St H [cellT r7 [I (nF f),s.2.1,s.2.2.2.1,Ls (goalsK f f.length)],cellT r4 [I 0,.p .nil,.p .nil,.p .nil],riT z1 s.2.1 (gw s.1 (rooB f b)) s.2.2.1,reT z2 s.2.2.2.1 (all0 f s.1) s.2.2.2.2.1] s.2.2.2.2.2) (fun s=>nF f - s.1) ⟨⟨by simp,st⟩,.refl _,Heap.le_refl _⟩ ?_
  clear st
  rintro ⟨g0,x,D1,y,D2,G⟩ ⟨hg,st⟩
  dsimp only at hg st
  have e5:IntKind.i64.wrap ((g0:Int)+1)=((g0+1:Nat):Int):=by rw [i64_id (by omega) (by omega)];simp
  (try simp (maxSteps:=1000000) (disch:=first | assumption | (apply ν6;assumption)) only [vz,vu,vv,eqS,eF_,↓c1_,↓c2_,tabs,reduceCtorEq,ι5,↓reduceIte,ν1,ν2,ν3,ν4,ν5,ι1,ι2,ι3,ι4,B53_0,e1])
  refine ⟨fun h1=>?_,fun h1=>?_⟩
  · have hlt:g0 < nF f:=by omega
    refine Pu.use (l13Says_spec (tr f) g0 ((f.length:Int) - 1) htl) ?_
    have hsucc:=gw_succ g0 (rooB f b)
    have hgl:=gw_len g0 (rooB f b)
    have hrp:rooB f b g0=(saysF (tr f) g0 ((f.length:Int) - 1)==b):=rfl
    rw [hrp] at hsucc
    have key:∀x D1 G,St H [cellT r7 [I (nF f),x,y,Ls (goalsK f f.length)],cellT r4 [I 0,.p .nil,.p .nil,.p .nil],riT z1 x (gw (g0+1) (rooB f b)) D1,reT z2 y (all0 f g0) D2] G→∀K N1,(∀y D2 G,St H [cellT r7 [I (nF f),x,y,Ls (goalsK f f.length)],cellT r4 [I 0,.p .nil,.p .nil,.p .nil],riT z1 x (gw (g0+1) (rooB f b)) D1,reT z2 y (all0 f (g0+1)) D2] G→N1 (I ((g0+1:Nat):Int)) G)→
        L53_1 K N1 (Ds f) (B (!b)) (.ptr r4 0) (Is (tr f)) (I (nF f)) (.ptr r7 0) (I g0) (I 0) G:=by
      clear st hsucc
      intro x D1 G st K N1 hN1
      refine L53_1_rule ((0:Nat),y,D2,G) (fun s=>I s.1) (fun s=>s.2.2.2)
        (fun s=>s.1≤8∧St H [cellT r7 [I (nF f),x,s.2.1,Ls (goalsK f f.length)],cellT r4 [I 0,.p .nil,.p .nil,.p .nil],riT z1 x (gw (g0+1) (rooB f b)) D1,reT z2 s.2.1 (all0 f g0++row0 f g0 s.1) s.2.2.1] s.2.2.2) (fun s=>8 - s.1) ⟨⟨by simp,by simpa [row0] using st⟩,.refl _,Heap.le_refl _⟩ ?_
      clear st y D2
      rintro ⟨l,y,D2,G⟩ ⟨hl8,st⟩
      dsimp only at hl8 st
      have e6:IntKind.i64.wrap ((l:Int)+1)=((l+1:Nat):Int):=by rw [i64_id (by omega) (by omega)];simp
      (try simp (maxSteps:=1000000) (disch:=first | assumption | (apply ν6;assumption)) only [vz,vu,vv,eqS,eF_,↓c1_,↓c2_,tabs,reduceCtorEq,ι5,↓reduceIte,ν1,ν2,ν3,ν4,ν5,ι1,ι2,ι3,ι4,B53_1])
      refine ⟨fun h2=>?_,fun h2=>?_⟩
      · refine L53_2_rule ((0:Nat),y,D2,G) (fun s=>I s.1) (fun s=>s.2.2.2)
          (fun s=>s.1≤nF f∧St H [cellT r7 [I (nF f),x,s.2.1,Ls (goalsK f f.length)],cellT r4 [I 0,.p .nil,.p .nil,.p .nil],riT z1 x (gw (g0+1) (rooB f b)) D1,reT z2 s.2.1 (all0 f g0++(row0 f g0 l++cell0 f g0 l s.1)) s.2.2.1] s.2.2.2) (fun s=>nF f - s.1) ⟨⟨by simp,by simpa [cell0] using st⟩,.refl _,Heap.le_refl _⟩ ?_
        clear st y D2
        rintro ⟨n,y,D2,G⟩ ⟨hn,st⟩
        dsimp only at hn st
        have e7:IntKind.i64.wrap ((n:Int)+1)=((n+1:Nat):Int):=by rw [i64_id (by omega) (by omega)];simp
        (try simp (maxSteps:=1000000) (disch:=first | assumption | (apply ν6;assumption)) only [vz,vu,vv,eqS,eF_,↓c1_,↓c2_,tabs,reduceCtorEq,ι5,↓reduceIte,ν1,ν2,ν3,ν4,ν5,ι1,ι2,ι3,ι4,B53_2])
        refine ⟨fun h3=>?_,fun h3=>?_⟩
        · refine Pu.use (l13Guess_spec f g l n (by omega)) ?_
          have hc:=cell0_succ f g0 l n
          have hlen:=row0_len ht hlt (l:=l) (n:=n) (by omega) hn
          (try simp (maxSteps:=1000000) (disch:=first | assumption | (apply ν6;assumption)) only [vz,vu,vv,eqS,eF_,↓c1_,↓c2_,tabs,reduceCtorEq,ι5,↓reduceIte,ν1,ν2,ν3,ν4,ν5,ι1,ι2,ι3,ι4,load_at (st.get 0 rfl),e7])
          refine ⟨fun h4=>?_,fun h4=>?_⟩
          · rw [if_pos h4] at hc
            refine lit_edge (x:=⟨g0,l,n⟩) ?_
            refine rz_appE (ys:=[⟨g0,l,n⟩]) st 3 rfl (by simp only [List.length_cons,List.length_nil];omega) fun q' G' hq' st=>?_
            rw [List.append_assoc,List.append_assoc,← hc] at st ⊢
            obtain ⟨es',hes⟩:∃es',all0 f g0++(row0 f g0 l++cell0 f g0 l (n+1))=es':=⟨_,rfl⟩
            rw [hes] at st ⊢
            (try simp (maxSteps:=1000000) (disch:=first | assumption | (apply ν6;assumption)) only [vz,vu,vv,eqS,eF_,↓c1_,↓c2_,tabs,reduceCtorEq,ι5,↓reduceIte,ν1,ν2,ν3,ν4,ν5,ι1,ι2,ι3,ι4,store_at (st.get 0 rfl),e7])
            replace st:=st.put 0 rfl [I (nF f),x,rowE q' es',Ls (goalsK f f.length)]
            rw [← hes] at st
            exact ⟨(n+1,_,[q'],_),⟨by simp only;omega,st⟩,by simp only;omega,.refl _,by rw [hes];exact Heap.le_refl _⟩
          · rw [if_neg h4] at hc
            exact ⟨(n+1,y,D2,G),⟨by simp only;omega,by rw [hc];exact st⟩,by simp only;omega,.refl _,Heap.le_refl _⟩
        · have:n=nF f:=by omega
          subst this
          rw [← row0_succ] at st
          (try simp (maxSteps:=1000000) (disch:=first | assumption | (apply ν6;assumption)) only [vz,vu,vv,eqS,eF_,↓c1_,↓c2_,tabs,reduceCtorEq,ι5,↓reduceIte,ν1,ν2,ν3,ν4,ν5,ι1,ι2,ι3,ι4,e6])
          exact ⟨(l+1,y,D2,G),⟨by simp only;omega,st⟩,by simp only;omega,.refl _,Heap.le_refl _⟩
      · have:l=8:=by omega
        subst this
        rw [← all0_succ] at st
        (try simp (maxSteps:=1000000) (disch:=first | assumption | (apply ν6;assumption)) only [vz,vu,vv,eqS,eF_,↓c1_,↓c2_,tabs,reduceCtorEq,ι5,↓reduceIte,ν1,ν2,ν3,ν4,ν5,ι1,ι2,ι3,ι4,e5])
        exact hN1 _ _ _ st
    have fin:∀x D1 G,St H [cellT r7 [I (nF f),x,y,Ls (goalsK f f.length)],cellT r4 [I 0,.p .nil,.p .nil,.p .nil],riT z1 x (gw (g0+1) (rooB f b)) D1,reT z2 y (all0 f g0) D2] G→∀K,
        L53_1 K (fun w8 H'=>∃s:Nat×AV×List Nat×AV×List Nat×Heap,(s.1≤nF f∧St H [cellT r7 [I (nF f),s.2.1,s.2.2.2.1,Ls (goalsK f f.length)],cellT r4 [I 0,.p .nil,.p .nil,.p .nil],riT z1 s.2.1 (gw s.1 (rooB f b)) s.2.2.1,reT z2 s.2.2.2.1 (all0 f s.1) s.2.2.2.2.1] s.2.2.2.2.2)∧nF f - s.1 < nF f - g0∧AV.wk w8 (I s.1)∧Heap.le s.2.2.2.2.2 H') (Ds f) (B (!b)) (.ptr r4 0) (Is (tr f)) (I (nF f)) (.ptr r7 0) (I g0) (I 0) G:=
      fun x D1 G st K=>key x D1 G st K _ fun y D2 G st=>⟨(g0+1,x,D1,y,D2,G),⟨by simp only;omega,st⟩,by simp only;omega,.refl _,Heap.le_refl _⟩
    generalize saysF (tr f) g0 ((f.length:Int) - 1)=sy at hsucc ⊢
    have hb4:sy=b∨sy=!b:=by cases sy<;>cases b<;>simp
    rcases hb4 with hb4 | hb4
    · subst sy
      rw [if_pos (by simp)] at hsucc
      obtain ⟨l',hl'⟩:∃l',gw (g0+1) (rooB f b)=l':=⟨_,rfl⟩
      cases b
      all_goals
        (try simp (maxSteps:=1000000) (disch:=first | assumption | (apply ν6;assumption)) only [vz,vu,vv,eqS,eF_,↓c1_,↓c2_,tabs,reduceCtorEq,ι5,↓reduceIte,ν1,ν2,ν3,ν4,ν5,ι1,ι2,ι3,ι4,load_at (st.get 0 rfl)])
        refine lit1 tab_22 rfl tab_3 ⟨rfl,rfl⟩ ?_
        refine rz_appI (ys:=[(g0:Int)]) st 2 rfl (by simp only [List.length_singleton];omega) fun q' G' hq' st=>?_
        rw [← hsucc] at st ⊢
        rw [hl'] at st ⊢
        (try simp (maxSteps:=1000000) (disch:=first | assumption | (apply ν6;assumption)) only [vz,vu,vv,eqS,eF_,↓c1_,↓c2_,tabs,reduceCtorEq,ι5,↓reduceIte,ν1,ν2,ν3,ν4,ν5,ι1,ι2,ι3,ι4,store_at (st.get 0 rfl)])
        replace st:=st.put 0 rfl [I (nF f),rowP q' l',y,Ls (goalsK f f.length)]
        rw [← hl'] at st
        have:=fin _ _ _ st
        rw [hl'] at this
        exact this _
    · subst sy
      rw [if_neg (by cases b<;>simp)] at hsucc
      cases b
      all_goals
        (try simp (maxSteps:=1000000) (disch:=first | assumption | (apply ν6;assumption)) only [vz,vu,vv,eqS,eF_,↓c1_,↓c2_,tabs,reduceCtorEq,ι5,↓reduceIte,ν1,ν2,ν3,ν4,ν5,ι1,ι2,ι3,ι4])
        exact fin x D1 G (by rw [hsucc];exact st) _
  · have:g0=nF f:=by omega
    subst this
    have hx:=RZ.sl (st.get 2 rfl:RZ (LPl eI) 1 z1 x _ G D1)
    have hy:=RZ.sl (st.get 3 rfl:RZ (LPl eE) 3 z2 y _ G D2)
    (try simp (maxSteps:=1000000) (disch:=first | assumption | (apply ν6;assumption)) only [vz,vu,vv,eqS,eF_,↓c1_,↓c2_,tabs,reduceCtorEq,ι5,↓reduceIte,ν1,ν2,ν3,ν4,ν5,ι1,ι2,ι3,ι4,load_at (st.get 0 rfl),store_at (st.get 1 rfl)])
    replace st:=st.put 1 rfl [I (nF f),x,y,Ls (goalsK f f.length)]
    have:=fin_au (gs:=goalsK f f.length) (n:=nF f) st 2 3 rfl rfl (by decide)
    refine ⟨?_,this⟩
    rcases hx with rfl | ⟨q,rfl⟩<;>rcases hy with rfl | ⟨q,rfl⟩<;>rfl
theorem afR_sm (f:List Sd):smAu (afR f).1∧totAu (afR f).1≤10000:=by
  unfold afR
  split
  · exact good_tot (good_facts (autoB_good (b:=true) (goodT_facts ‹_›).2))
  · exact zeroA_tot
end Go.Proofs.YtolffbcnbcjeaaaGreat
namespace Go.Proofs.YtolffbcnbcjeaaaGreat
open Go Go.Sep Go.Pt
attribute [local irreducible] CallT
theorem AutoFor_val (f:List Sd) (hl:f.length≤1048576):Pu Tryz.prog 55 [Ds f] (.tup [aAu (afR f).1,B (afR f).2]):=by
  refine ⟨fun H=>CallT.fin (AutoFor_impl f hl fun v G D hv hn=>?_)⟩
  obtain ⟨G',w,fr⟩:=LAu.wk hv hn.nd (fun v=>.tup [v,B (afR f).2]) (fun h=>.tup (.cons h (.cons (.same _) .nil)))
  refine ⟨_,H,.trans w (.forget fun y b hb=>?_),rfl,rfl⟩
  rw [fr y (fun hy=>by rw [hn.fr y hy] at hb;cases hb)]
  exact hn.le y b hb
noncomputable def ipR (f:List Sd):Bool×Bool:=if goodT f then (fairA (autoB f true),true) else (false,false)
theorem IsPossible_ref (f:List Sd) (hl:f.length≤1048576):Pu Tryz.prog 17 [Ds f] (.tup [B (ipR f).1,B (ipR f).2]):=by
  refine Pu.of fun H=>?_
  refine W17_ok ?_;simp (maxSteps:=1000000) (disch:=first | assumption | (apply ν6;assumption)) only [W17,vz,vu,vv,eqS,eF_,↓c1_,↓c2_,tabs,reduceCtorEq,ι5,↓reduceIte,ν1,ν2,ν3,ν4,ν5,ι1,ι2,ι3,ι4]
  refine Pu.use (l13Good_spec f hl) ?_
  cases ht:goodT f
  · (try simp (maxSteps:=1000000) (disch:=first | assumption | (apply ν6;assumption)) only [vz,vu,vv,eqS,eF_,↓c1_,↓c2_,tabs,reduceCtorEq,ι5,↓reduceIte,ν1,ν2,ν3,ν4,ν5,ι1,ι2,ι3,ι4])
    simp [ipR,ht]
  · obtain ⟨g,h5⟩:=goodT_facts ht
    have hgo:=autoB_good (b:=true) h5
    (try simp (maxSteps:=1000000) (disch:=first | assumption | (apply ν6;assumption)) only [vz,vu,vv,eqS,eF_,↓c1_,↓c2_,tabs,reduceCtorEq,ι5,↓reduceIte,ν1,ν2,ν3,ν4,ν5,ι1,ι2,ι3,ι4])
    refine Pu.use (l13Auto_spec f true g h5) ?_
    refine Pu.use (IsEmpty_ref _ (autoB_sm h5)) ?_
    (try simp (maxSteps:=1000000) (disch:=first | assumption | (apply ν6;assumption)) only [vz,vu,vv,eqS,eF_,↓c1_,↓c2_,tabs,reduceCtorEq,ι5,↓reduceIte,ν1,ν2,ν3,ν4,ν5,ι1,ι2,ι3,ι4])
    first | exact ⟨by simp [ipR,ieR,ht,hgo],Heap.le_refl _⟩ | simp [ipR,ieR,ht,hgo]
theorem IsPossible_impl (f:List Sd) (hl:f.length≤1048576):Pu Tryz.prog 19 [Ds f] (.tup [B (ipR f).1,B (ipR f).2]):=by
  refine Pu.of fun H=>?_
  refine W19_ok ?_;simp (maxSteps:=1000000) (disch:=first | assumption | (apply ν6;assumption)) only [W19,vz,vu,vv,eqS,eF_,↓c1_,↓c2_,tabs,reduceCtorEq,ι5,↓reduceIte,ν1,ν2,ν3,ν4,ν5,ι1,ι2,ι3,ι4]
  refine Pu.use (AutoFor_val f hl) ?_
  have hsm:=afR_sm f
  cases ht:goodT f
  · have e:afR f=(zeroA,false):=by simp [afR,ht]
    rw [e]
    (try simp (maxSteps:=1000000) (disch:=first | assumption | (apply ν6;assumption)) only [vz,vu,vv,eqS,eF_,↓c1_,↓c2_,tabs,reduceCtorEq,ι5,↓reduceIte,ν1,ν2,ν3,ν4,ν5,ι1,ι2,ι3,ι4])
    intro r hr
    have hle:=Heap.le_set (b:=[I zeroA.states,Is zeroA.first,Es zeroA.edges,Ls zeroA.goals]) hr
    (try simp (maxSteps:=1000000) (disch:=first | assumption | (apply ν6;assumption)) only [vz,vu,vv,eqS,eF_,↓c1_,↓c2_,tabs,reduceCtorEq,ι5,↓reduceIte,ν1,ν2,ν3,ν4,ν5,ι1,ι2,ι3,ι4])
    exact ⟨by simp [ipR,ht],hle⟩
  · obtain ⟨g,h5⟩:=goodT_facts ht
    have hgo:=autoB_good (b:=true) h5
    have e:afR f=(autoB f true,true):=by simp [afR,ht]
    have hip:ipR f=(fairA (autoB f true),true):=by simp [ipR,ht]
    rw [e,hip]
    generalize autoB f true=a at hgo
    have hN:=autoN hgo
    (try simp (maxSteps:=1000000) (disch:=first | assumption | (apply ν6;assumption)) only [vz,vu,vv,eqS,eF_,↓c1_,↓c2_,tabs,reduceCtorEq,ι5,↓reduceIte,ν1,ν2,ν3,ν4,ν5,ι1,ι2,ι3,ι4])
    intro r hr
    have hle:=Heap.le_set (b:=[I a.states,Is a.first,Es a.edges,Ls a.goals]) hr
    have gr:(H.set r [I a.states,Is a.first,Es a.edges,Ls a.goals]) r=some [I a.states,Is a.first,Es a.edges,Ls a.goals]:=Heap.set_same _ _ _
    (try simp (maxSteps:=1000000) (disch:=first | assumption | (apply ν6;assumption)) only [vz,vu,vv,eqS,eF_,↓c1_,↓c2_,tabs,reduceCtorEq,ι5,↓reduceIte,ν1,ν2,ν3,ν4,ν5,ι1,ι2,ι3,ι4])
    generalize H.set r [I a.states,Is a.first,Es a.edges,Ls a.goals]=G at hle gr ⊢
    (try simp (maxSteps:=1000000) (disch:=first | assumption | (apply ν6;assumption)) only [vz,vu,vv,eqS,eF_,↓c1_,↓c2_,tabs,reduceCtorEq,ι5,↓reduceIte,ν1,ν2,ν3,ν4,ν5,ι1,ι2,ι3,ι4,load_at gr])
    refine Pu.use (next_spec a hN.f) ?_
    (try simp (maxSteps:=1000000) (disch:=first | assumption | (apply ν6;assumption)) only [vz,vu,vv,eqS,eF_,↓c1_,↓c2_,tabs,reduceCtorEq,ι5,↓reduceIte,ν1,ν2,ν3,ν4,ν5,ι1,ι2,ι3,ι4,load_at gr])
    refine Pu.use (meeting_A hN) ?_
    (try simp (maxSteps:=1000000) (disch:=first | assumption | (apply ν6;assumption)) only [vz,vu,vv,eqS,eF_,↓c1_,↓c2_,tabs,reduceCtorEq,ι5,↓reduceIte,ν1,ν2,ν3,ν4,ν5,ι1,ι2,ι3,ι4])
    refine ⟨?_,hle⟩
    rw [fairA,laB]
    generalize meetF (rwF (gA a)) (gA a).length (nN a.first) (goN a.goals)=mm
    have e3:decide (0≤mm)=!decide (mm < 0):=by rw [Bool.eq_iff_iff];simp
    rw [e3]
theorem FnExactIsPossible_true {f:List Sd} (ho:ok f.length):Pu Tryz.prog 4 [Ds f] (B true):=by
  refine Pu.of fun H=>?_
  refine W4_ok ?_;simp (maxSteps:=1000000) (disch:=first | assumption | (apply ν6;assumption)) only [W4,vz,vu,vv,eqS,eF_,↓c1_,↓c2_,tabs,reduceCtorEq,ι5,↓reduceIte,ν1,ν2,ν3,ν4,ν5,ι1,ι2,ι3,ι4]
  refine Pu.use (szSaidS_spec f 1048576 (by omega) (by omega) ho) ?_
  (try simp (maxSteps:=1000000) (disch:=first | assumption | (apply ν6;assumption)) only [vz,vu,vv,eqS,eF_,↓c1_,↓c2_,tabs,reduceCtorEq,ι5,↓reduceIte,ν1,ν2,ν3,ν4,ν5,ι1,ι2,ι3,ι4])
  refine fun h1=>?_
  have hl:f.length≤1048576:=by
    unfold szR at h1
    split at h1<;>omega
  refine Pu.use (toSaidS_spec f hl) ?_
  refine Pu.use (IsPossible_ref f hl) ?_
  have hI:=IsPossible_impl f hl
  generalize (ipR f).1=o at hI ⊢
  generalize (ipR f).2=ok at hI ⊢
  (try simp (maxSteps:=1000000) (disch:=first | assumption | (apply ν6;assumption)) only [vz,vu,vv,eqS,eF_,↓c1_,↓c2_,tabs,reduceCtorEq,ι5,↓reduceIte,ν1,ν2,ν3,ν4,ν5,ι1,ι2,ι3,ι4])
  refine toSaidS_live f hl fun va G1 Da la na=>?_
  obtain ⟨qx,rfl,hqx,rfl⟩:=LD_row la
  have st:=(St.nil H).push (cellT qx (cD f)) na hqx
  clear la na hqx
  refine Pu.thaw hI (.tup2 (.bool _) (.bool _)) (wkD (st.get 0 rfl) (fun v=>.tup [v]) (fun h=>.tup (.cons h .nil))) ?_
  (try simp (maxSteps:=1000000) (disch:=first | assumption | (apply ν6;assumption)) only [vz,vu,vv,eqS,eF_,↓c1_,↓c2_,tabs,reduceCtorEq,ι5,↓reduceIte,ν1,ν2,ν3,ν4,ν5,ι1,ι2,ι3,ι4])
  refine Pu.use (toSaidS_spec f hl) ?_
  refine eqD_row (st.get 0 rfl) hl ?_
  (try simp (maxSteps:=1000000) (disch:=first | assumption | (apply ν6;assumption)) only [vz,vu,vv,eqS,eF_,↓c1_,↓c2_,tabs,reduceCtorEq,ι5,↓reduceIte,ν1,ν2,ν3,ν4,ν5,ι1,ι2,ι3,ι4])
  exact st.le
end Go.Proofs.YtolffbcnbcjeaaaGreat
namespace Go.Proofs.YtolffbcnbcjeaaaGreat.isPossible
open Go Go.Sep Go.ChangeShapes Go.WideShapes Go.ChangeAt Go.RowKit
theorem own:ownKnob Tryz.prog.godebug=none:=by kernel_rfl
theorem told (avs:List AV) (h:ArgsT Tryz.prog [41] avs):CallT Tryz.prog 4 avs (fun _=>none) (fun v _=>v=.p (.bool true)):=by
  obtain ⟨a,b,rfl,h1,h⟩:=args_cons h
  cases args_nil h
  obtain ⟨x1,hx1,rfl⟩:=arg_saids h1
  exact (FnExactIsPossible_true hx1).use rfl
set_option maxRecDepth 100000 in
theorem lifted (os:Os) (started:os.Started) (H:Type) (enc:TypeId×Value→H) :
    ReturnsInHanded {} Tryz.checked os 4 .any (Rows.fnExactIsPossibleSpec.pre6 enc Tryz.prog Tryz.f4 Rows.fnExactIsPossibleRow.domain false) (Rows.fnExactIsPossibleSpec.post enc Tryz.prog Tryz.f4 false true false false):=by
  refine returnsInHanded_of_change (C:=Tryz.checked) own started (by kernel_rfl) Tryz.func4
    (ChangeSpec.witness6 (enc:=enc) (C:=Tryz.checked) false ⟨#[],#[.slice none 0 0],[]⟩ 12 (by kernel_rfl) (by kernel_rfl) (by kernel_rfl) (by kernel_rfl)) ?_
  intro W base args ds gs before hval hW _ _
  refine row_of_true (n:=12) (tb:=4) (by kernel_rfl) rfl (by kernel_rfl) (by kernel_rfl) ?_ ?_ ?_ hval hW
  · have:(Tryz.f4.params.toList.all fun t=>Tryz.prog.readableRec t && decide (t < Tryz.prog.types.size) && plainB Tryz.prog 12 t)=true:=by kernel_rfl
    intro t ht
    have:=List.all_eq_true.1 this t ht
    rw [Bool.and_eq_true,Bool.and_eq_true,decide_eq_true_eq] at this
    exact ⟨this.1.1,this.1.2,this.2⟩
  · intro ds hd
    rw [Tryz.params4] at hd
    match ds,hd with
    | [a],_=>rfl
  · rw [Tryz.params4]
    exact told
theorem over:Rows.fnExactIsPossibleRow.holds Tryz.pinned (OpenSpec.ofChange Rows.fnExactIsPossibleSpec):=
  OpenClaim.holds_of_wide 4 Tryz.f4 rfl rfl rfl rfl rfl rfl rfl ⟨rfl,rfl,rfl,rfl,rfl⟩ rfl rfl rfl rfl rfl (by kernel_rfl) Tryz.func4 (by kernel_rfl)
    (of_decide_eq_true (by kernel_rfl)) (by unfold Func.isWrapper;first | (rw [if_pos (by decide +kernel)];kernel_rfl) | (rw [if_neg (by decide +kernel)];exact ⟨rfl,rfl⟩))
    (fun os started H enc _=>lifted os started H enc)
theorem proved:Rows.FnExactIsPossibleSaid:=
  over
#print axioms proved
end Go.Proofs.YtolffbcnbcjeaaaGreat.isPossible
