/- Texts laid together: Mb0 Ps1 Ms0 Ma6 Ma7 Ma8 Lb1c Dr1. -/
import Derived.Test.YtohkciilfkhomaaPE6
import Derived.Lib.SlicesCompact
set_option linter.unusedVariables false
set_option linter.unusedSimpArgs false
open Nat renaming reduceAdd→ν1,reduceLeDiff→ν2,reduceLT→ν3,reduceMul→ν4,reduceSub→ν5
open Int renaming reduceToNat→ι1,reduceSub→ι2,reduceAdd→ι3,reduceNeg→ι4
open Array renaming toList→ι5
open Ne renaming symm→ν6
open List renaming forall_mem_cons→ν7
namespace Go.Proofs.Ytohkciilfkhomaa
open Go Go.Sep Go.Pt
attribute [local irreducible] CallT
def RZ {α:Type} (L:Lay α) (sz z:Nat) (x:AV) (xs:List α) (G:Heap) (D:List Nat):Prop:=(x=.p .nil∧xs=[]∧D=[z]∧G z=some [])∨LRow L sz xs x G D
theorem RZ.local {α:Type} {L:Lay α} {sz z:Nat} (hL:L.Local) {x:AV} {xs:List α} {G G':Heap} {D:List Nat} (h:RZ L sz z x xs G D) (hf:∀y∈D,∀b,G y=some b→G' y=some b):RZ L sz z x xs G' D:=by
  rcases h with ⟨h1,h2,rfl,h3⟩ | h
  · exact .inl ⟨h1,h2,rfl,hf z (by simp) _ h3⟩
  · exact .inr (h.local hL hf)
theorem RZ.has {α:Type} {L:Lay α} {sz z:Nat} (hL:L.Has) {x:AV} {xs:List α} {G:Heap} {D:List Nat} (h:RZ L sz z x xs G D):∀y∈D,G y≠none:=by
  rcases h with ⟨h1,h2,rfl,h3⟩ | h
  · intro y hy;rw [List.mem_singleton.1 hy,h3];simp
  · exact h.has hL
theorem RZ.row {α:Type} {L:Lay α} {sz z:Nat} {x:AV} {xs:List α} {G:Heap} {D:List Nat} (h:RZ L sz z x xs G D):∃x',AV.wk x x'∧LRow L sz xs x' G D:=by
  rcases h with ⟨rfl,rfl,rfl,h3⟩ | h
  · exact ⟨.sl z sz 0 0,.nilo _ _ _,z,[],[],rfl,h3,⟨rfl,rfl⟩,rfl⟩
  · exact ⟨x,.refl _,h⟩
theorem RZ.sl {α:Type} {L:Lay α} {sz z:Nat} {x:AV} {xs:List α} {G:Heap} {D:List Nat} (h:RZ L sz z x xs G D):x=.p .nil∨∃q,x=.sl q sz 0 xs.length:=by
  rcases h with ⟨h1,_⟩ | ⟨q,cs,D',h1,_⟩
  · exact .inl h1
  · exact .inr ⟨q,h1⟩
def rzT {α:Type} {L:Lay α} (hL:L.Local) (hh:L.Has) (sz z:Nat) (x:AV) (xs:List α) (D:List Nat):Th:=⟨D,fun G=>RZ L sz z x xs G D,fun h f=>h.local hL f,fun h=>h.has hh⟩
abbrev riT (z:Nat) (x:AV) (xs:List Int) (D:List Nat):Th:=rzT (LPl.local eI) (LPl.has eI) 1 z x xs D
abbrev reT (z:Nat) (x:AV) (xs:List Ed) (D:List Nat):Th:=rzT (LPl.local eE) (LPl.has eE) 3 z x xs D
abbrev rgT (z:Nat) (x:AV) (xs:List (List Int)) (D:List Nat):Th:=rzT LIc.local LIc.has 1 z x xs D
theorem lent {α:Type} {L:Lay α} (hL:L.Local) (hh:L.Has) (sz:Nat) {H G:Heap} {Ts:List Th} {z:Nat} (s:St H Ts G) (i:Nat) (h:Ts[i]?=some (cellT z [])):St H (Ts.set i (rzT hL hh sz z (.p .nil) [] [z])) G:=
  s.repl i h _ (by simp [rzT]) (fun y hy=>.inl hy) (fun y b hb _=>hb) (.inl ⟨rfl,rfl,rfl,s.get i h⟩)
theorem owned_i {H G:Heap} {Ts:List Th} {q:Nat} {l:List Int} (s:St H Ts G) (i:Nat) (h:Ts[i]?=some (cellT q (cP fI l))):St H (Ts.set i (riT 0 (rowP q l) l [q])) G:=
  s.repl i h _ (by simp [rzT]) (fun y hy=>.inl hy) (fun y b hb _=>hb) (.inr (LI_mk' (s.get i h)))
theorem RZ.app {tab:Tab} {t0 t1 e0 e1 sz z:Nat} {d d1 ed:TD} {α:Type} {e:α→List PV} (h1:tab t0=some d) (h2:d.k=.slice e0) (h3:tab e0=some ed) (h4:tab t1=some d1) (h5:d1.k=.slice e1) (h6:ed.size=sz) {bz:Nat} (h7:ed.bytes=bz)
    (hsz:∀a,(e a).length=sz) {H G:Heap} {Ts:List Th} {x y:AV} {xs ys:List α} {D:List Nat} {hL:(LPl e).Local} {hh:(LPl e).Has} (s:St H Ts G) (i:Nat) (hi:Ts[i]?=some (rzT hL hh sz z x xs D)) (hy:y=.p (.sl (ys.map e)))
    (hl:(xs.length+ys.length)*bz≤140737488355328) (hl2:xs.length+ys.length≤9223372036854775807) {K:AV→Heap→Prop}
    (h:∀q' G',G q'=none→St H (Ts.set i (rzT hL hh sz z (.sl q' sz 0 (xs++ys).length) (xs++ys) [q'])) G'→K (.sl q' sz 0 (xs++ys).length) G'):appendV tab t0 t1 x y G (wkK K):=by
  subst hy
  have hrz:RZ (LPl e) sz z x xs G D:=s.get i hi
  rcases hrz with ⟨rfl,rfl,rfl,hz⟩ | ⟨q,cs,D',rfl,hq,hll,rfl⟩
  · refine app_nil h1 h2 h3 h4 h5 h6 h7 (.inl rfl) (.inl rfl) (sized_map hsz ys) (by simpa using hl) (by simpa using hl2) fun q' hq'=>?_
    have:=h q' _ hq' (s.repl i hi (rzT hL hh sz z (.sl q' sz 0 ([]++ys).length) ([]++ys) [q']) (by simp [rzT]) (fun y hy=>by
      simp only [rzT,List.mem_singleton] at hy;subst hy;exact .inr hq') (G':=G.set q' (cells (ys.map e))) (fun y b hb _=>Heap.le_set hq' y b hb) (.inr ⟨q',_,[],rfl,Heap.set_same _ _ _,LL.plain _,rfl⟩))
    simpa [Go.Sep.own] using this
  · have hq0:cs=cells (xs.map e)∧D'=[]:=by
      have key:∀(xs:List α) (cs:List AV) (D:List Nat),LL (LPl e) xs cs G D→cs=cells (xs.map e)∧D=[]:=by
        intro xs
        induction xs with
        | nil=>rintro cs D ⟨rfl,rfl⟩;exact ⟨rfl,rfl⟩
        | cons a xs ih=>
          rintro cs D ⟨c1,c2,D1,D2,rfl,rfl,⟨rfl,rfl⟩,h2⟩
          obtain ⟨rfl,rfl⟩:=ih _ _ h2
          exact ⟨by simp [cells],rfl⟩
      exact key _ _ _ hll
    obtain ⟨rfl,rfl⟩:=hq0
    have:=app_own (x:=.p (.sl (ys.map e))) (r:=q) (es:=xs.map e) (fs:=ys.map e) (H:=G) (K:=K) h1 h2 h3 h4 h5 h6 h7 (.inl rfl) hq (sized_map hsz xs) (sized_map hsz ys)
      (by simpa using hl) (by simpa using hl2) fun q' hq'=>by
        have:=h q' ((G.del q).set q' (cells ((xs++ys).map e))) hq' (s.repl i hi (rzT hL hh sz z (.sl q' sz 0 (xs++ys).length) (xs++ys) [q']) (by simp [rzT]) (fun y hy=>by
          simp only [rzT,List.mem_singleton] at hy;subst hy;exact .inr hq') (fun y b hb hy=>by
            simp only [rzT,List.mem_singleton] at hy
            rw [Heap.set_other (fun e=>by rw [e,hq'] at hb;cases hb),Heap.del_other hy];exact hb) (.inr ⟨q',_,[],rfl,Heap.set_same _ _ _,LL.plain _,rfl⟩))
        simpa only [Go.Sep.own,List.length_map,List.map_append,List.length_append] using this
    simpa only [Go.Sep.own,List.length_map] using this
theorem rz_appE {H G:Heap} {Ts:List Th} {z:Nat} {x:AV} {xs ys:List Ed} {D:List Nat} (s:St H Ts G) (i:Nat) (hi:Ts[i]?=some (reT z x xs D)) (hl:xs.length+ys.length≤1000000) {K:AV→Heap→Prop}
    (h:∀q' G',G q'=none→St H (Ts.set i (reT z (rowE q' (xs++ys)) (xs++ys) [q'])) G'→K (rowE q' (xs++ys)) G'):appendV tab 25 25 x (Es ys) G (wkK K):=
  RZ.app (bz:=24) tab_25 rfl tab_46 tab_25 rfl rfl rfl (fun _=>rfl) s i hi rfl (by omega) (by omega) h
theorem rz_appI {H G:Heap} {Ts:List Th} {z:Nat} {x:AV} {xs ys:List Int} {D:List Nat} (s:St H Ts G) (i:Nat) (hi:Ts[i]?=some (riT z x xs D)) (hl:xs.length+ys.length≤1000000) {K:AV→Heap→Prop}
    (h:∀q' G',G q'=none→St H (Ts.set i (riT z (rowP q' (xs++ys)) (xs++ys) [q'])) G'→K (rowP q' (xs++ys)) G'):appendV tab 24 24 x (Is ys) G (wkK K):=
  RZ.app (bz:=8) tab_24 rfl tab_3 tab_24 rfl rfl rfl (fun _=>rfl) s i hi rfl (by omega) (by omega) h
theorem rz_pushL {H G:Heap} {Ts:List Th} {z qn ql:Nat} {x:AV} {gs:List (List Int)} {l:List Int} {D:List Nat} (s:St H (cellT ql [rowP qn l]::cellT qn (cP fI l)::Ts) G) (i:Nat) (hi:Ts[i]?=some (rgT z x gs D)) (hlen:gs.length≤100000) {K:AV→Heap→Prop}
    (h:∀q' D' G',G q'=none→St H (Ts.set i (rgT z (.sl q' 1 0 (gs.length+1)) (gs++[l]) D')) G'→K (.sl q' 1 0 (gs.length+1)) G'):appendV tab 26 26 x (.sl ql 1 0 1) G (wkK K):=by
  have s1:=(s.pick (i+2) hi).perm (Us:=[rgT z x gs D,cellT ql [rowP qn l],cellT qn (cP fI l)]++Ts.eraseIdx i) (List.Perm.refl _)
  have hrz:RZ LIc 1 z x gs G D:=s1.get 0 rfl
  have hql:G ql=some [rowP qn l]:=s1.get 1 rfl
  have hqn:G qn=some (cP fI l):=s1.get 2 rfl
  have fin:∀q' D' G',G q'=none→LRow LIc 1 (gs++[l]) (.sl q' 1 0 (gs.length+1)) G' D'→D'.Nodup→(∀y∈D',y∈D∨y=qn∨y=q')→(∀y b,G y=some b→y∉D→y≠ql→y≠qn→G' y=some b)→K (.sl q' 1 0 (gs.length+1)) G':=by
    intro q' D' G' hq' hrow hnd hsub hfr
    refine h q' D' G' hq' ?_
    have s2:=s1.step [rgT z (.sl q' 1 0 (gs.length+1)) (gs++[l]) D'] (by simpa [rzT] using hnd) (fun t ht y hy=>by
      rw [List.mem_singleton] at ht;subst ht
      rcases hsub y hy with h1 | h1 | h1
      · exact .inl ⟨rgT z x gs D,by simp,h1⟩
      · exact .inl ⟨cellT qn (cP fI l),by simp,by rw [h1];simp [cellT]⟩
      · exact .inr (by rw [h1];exact hq')) (fun y b hb hy=>hfr y b hb (hy (rgT z x gs D) (by simp)) (fun e=>hy (cellT ql [rowP qn l]) (by simp) (by rw [e];simp [cellT])) (fun e=>hy (cellT qn (cP fI l)) (by simp) (by rw [e];simp [cellT]))) (fun t ht=>by
      rw [List.mem_singleton] at ht;subst ht;exact .inr hrow)
    obtain ⟨hi',-⟩:=List.getElem?_eq_some_iff.1 hi
    exact s2.perm (perm_set Ts i hi' _).symm
  have nqn:∀{q'},G q'=none→q'≠qn:=fun hq' e=>by rw [e,hqn] at hq';cases hq'
  have nql:∀{q'},G q'=none→q'≠ql:=fun hq' e=>by rw [e,hql] at hq';cases hq'
  have dq:qn∉D:=fun hm=>(s1.disjI 0 2 rfl rfl (by decide)) qn hm (by simp [cellT])
  have nnl:qn≠ql:=fun e=>by
    have:=(s1.disjI 1 2 rfl rfl (by decide)) ql (by simp [cellT])
    exact this (by simp [cellT,e])
  have nd:=s1.ndT 0 rfl
  simp only [appendV,tab_26,tab_24,srcV,hql]
  rcases hrz with ⟨rfl,rfl,rfl,hz⟩ | ⟨q,cs,D',rfl,hq,hll,rfl⟩
  · simp only [baseV]
    refine ⟨trivial,by simp,by omega,by omega,rfl,fun q' hq'=>wkK.keep ?_⟩
    refine fin q' [q',qn] _ hq' ⟨q',[rowP qn l],[qn],rfl,Heap.set_same _ _ _,⟨[rowP qn l],[],[qn],[],rfl,by simp,⟨_,rfl,LI_mk' (by rw [Heap.set_other (Ne.symm (nqn hq'))];exact hqn)⟩,⟨rfl,rfl⟩⟩,rfl⟩ (by simp [nqn hq']) (fun y hy=>?_) (fun y b hb _ _ _=>Heap.le_set hq' y b hb)
    simp only [List.mem_cons,List.not_mem_nil,or_false] at hy
    rcases hy with rfl | rfl<;>simp
  · have hcl:cs.length=gs.length:=by rw [LL.size LIc.size hll,Nat.mul_one]
    simp only [baseV,hq]
    have e1:List.take (gs.length*1) (List.drop 0 cs)=cs:=by rw [List.drop_zero,Nat.mul_one,← hcl,List.take_length]
    have e2:List.take (1*1) (List.drop 0 [rowP qn l])=[rowP qn l]:=rfl
    refine ⟨trivial,by simp,trivial,by omega,by omega,by omega,rfl,fun q' hq'=>wkK.keep ?_⟩
    rw [e1,e2]
    have nq:q'≠q:=fun e=>by rw [e,hq] at hq';cases hq'
    have old:∀y b,G y=some b→y≠q→((G.del q).set q' (cs++[rowP qn l])) y=some b:=fun y b hb hy=>by
      rw [Heap.set_other (fun e=>by rw [e,hq'] at hb;cases hb),Heap.del_other hy];exact hb
    simp only [rzT,List.nodup_cons] at nd
    simp only [List.mem_cons,not_or] at dq
    have hq'D:q'∉D':=fun hm=>LL.has LIc.has hll q' hm hq'
    refine fin q' (q'::(D'++[qn])) _ hq' ⟨q',cs++[rowP qn l],D'++[qn],by simp,Heap.set_same _ _ _,LL.snoc ⟨_,rfl,LI_mk' (old _ _ hqn dq.1)⟩ (LL.local LIc.local hll fun y hy b hb=>old y b hb (fun e=>nd.1 (e ▸ hy))),rfl⟩ ?_ (fun y hy=>?_) (fun y b hb hy h5 h6=>?_)
    · rw [List.nodup_cons,List.nodup_append]
      refine ⟨by simp only [List.mem_append,List.mem_singleton,not_or];exact ⟨hq'D,nqn hq'⟩,nd.2,by simp,fun a ha b hb e=>?_⟩
      rw [List.mem_singleton] at hb
      exact dq.2 (by rw [← hb,← e];exact ha)
    · simp only [List.mem_cons,List.mem_append,List.not_mem_nil,or_false] at hy ⊢
      rcases hy with rfl | hy | rfl
      · exact .inr (.inr rfl)
      · exact .inl (.inr hy)
      · exact .inr (.inl rfl)
    · rw [List.mem_cons,not_or] at hy
      exact old y b hb hy.1
theorem mul_bd {a b A B:Int} (h1:0≤a∧a≤A) (h2:0≤b∧b≤B):0≤a*b∧a*b≤A*B:=⟨Int.mul_nonneg h1.1 h2.1,Int.mul_le_mul h1.2 h2.2 h2.1 (by omega)⟩
end Go.Proofs.Ytohkciilfkhomaa
namespace Go.Pt
def sc (zs:List Int):List Int:=Lib.compact (zs.mergeSort fun x y=>decide (x≤y))
theorem srt_perm (zs:List Int):List.Perm (zs.mergeSort fun x y=>decide (x≤y)) zs:=List.mergeSort_perm zs _
theorem srt_sorted (zs:List Int):(zs.mergeSort fun x y=>decide (x≤y)).Pairwise (·≤·):=by
  have:=List.pairwise_mergeSort (le:=fun x y:Int=>decide (x≤y)) (fun a b c h1 h2=>by simp only [decide_eq_true_eq] at *;omega) (fun a b=>by simp only [Bool.or_eq_true,decide_eq_true_eq];omega) zs
  exact this.imp fun h=>by simpa using h
theorem keeps_iff (ys:List Int) (j:Nat) (hj:j < ys.length):Lib.keeps ys.toArray j=true↔j=0∨ys[j - 1]'(by omega)≠ys[j]:=by
  unfold Lib.keeps
  by_cases h0:j=0
  · simp [h0]
  · have h1:j - 1 < ys.length:=by omega
    simp [h0,hj,h1]
    omega
theorem compact_mem {ys:List Int} (hs:ys.Pairwise (·≤·)) (x:Int):x∈Lib.compact ys↔x∈ys:=by
  unfold Lib.compact Lib.compactUpTo
  simp only [List.mem_map,List.mem_filter,List.mem_range]
  constructor
  · rintro ⟨j,⟨hj,_⟩,rfl⟩
    simp [hj]
  · intro hx
    obtain ⟨j,hj,rfl⟩:=List.mem_iff_getElem.1 hx
    have key:∀n j (hj:j < ys.length),j≤n→∃i,∃hi:i < ys.length,Lib.keeps ys.toArray i=true∧ys[i]=ys[j]:=by
      intro n
      induction n with
      | zero=>intro j hj h;exact ⟨j,hj,(keeps_iff ys j hj).2 (.inl (by omega)),rfl⟩
      | succ n ih=>
        intro j hj h
        by_cases hk:Lib.keeps ys.toArray j=true
        · exact ⟨j,hj,hk,rfl⟩
        · rw [keeps_iff ys j hj] at hk
          have h1:j≠0:=fun e=>hk (.inl e)
          have h2:ys[j - 1]'(by omega)=ys[j]:=by
            by_cases e:ys[j - 1]'(by omega)=ys[j]
            · exact e
            · exact absurd (.inr e) hk
          obtain ⟨i,hi,hki,e⟩:=ih (j - 1) (by omega) (by omega)
          exact ⟨i,hi,hki,by rw [e,h2]⟩
    obtain ⟨i,hi,hk,e⟩:=key j j hj (Nat.le_refl _)
    exact ⟨i,⟨hi,hk⟩,by simp [hi,e]⟩
theorem compact_lt {ys:List Int} (hs:ys.Pairwise (·≤·)):(Lib.compact ys).Pairwise (· < ·):=by
  unfold Lib.compact Lib.compactUpTo
  rw [List.pairwise_map]
  have hr:((List.range ys.length).filter (Lib.keeps ys.toArray)).Pairwise (· < ·):=List.Pairwise.filter _ List.pairwise_lt_range
  refine List.Pairwise.imp_of_mem ?_ hr
  intro i j hi hj hij
  rw [List.mem_filter,List.mem_range] at hi hj
  have hle:=List.pairwise_iff_getElem.1 hs
  have h1:=(keeps_iff ys j hj.1).1 hj.2
  have e1:ys.toArray[i]! = ys[i]'hi.1:=by simp [hi.1]
  have e2:ys.toArray[j]! = ys[j]'hj.1:=by simp [hj.1]
  rw [e1,e2]
  rcases h1 with h1 | h1
  · omega
  · have h2:=hle (j - 1) j (by omega) hj.1 (by omega)
    by_cases e:i=j - 1
    · subst e
      omega
    · have h3:=hle i (j - 1) hi.1 (by omega) (by omega)
      omega
theorem sc_mem (zs:List Int) (x:Int):x∈sc zs↔x∈zs:=by
  unfold sc
  rw [compact_mem (srt_sorted zs)]
  exact (srt_perm zs).mem_iff
theorem sc_lt (zs:List Int):(sc zs).Pairwise (· < ·):=compact_lt (srt_sorted zs)
theorem rise_ext:∀{xs ys:List Int},xs.Pairwise (· < ·)→ys.Pairwise (· < ·)→(∀x,x∈xs↔x∈ys)→xs=ys
  | [],[],_,_,_=>rfl
  | [],b::ys,_,_,h=>absurd ((h b).2 (by simp)) (by simp)
  | a::xs,[],_,_,h=>absurd ((h a).1 (by simp)) (by simp)
  | a::xs,b::ys,h1,h2,h=>by
    rw [List.pairwise_cons] at h1 h2
    have e:a=b:=by
      rcases List.mem_cons.1 ((h a).1 (by simp)) with e | e
      · exact e
      · have k1:=h2.1 a e
        rcases List.mem_cons.1 ((h b).2 (by simp)) with e' | e'
        · omega
        · have k2:=h1.1 b e';omega
    subst e
    refine congrArg _ (rise_ext h1.2 h2.2 fun x=>?_)
    constructor
    · intro hx
      rcases List.mem_cons.1 ((h x).1 (by simp [hx])) with e | e
      · have:=h1.1 x hx;omega
      · exact e
    · intro hx
      rcases List.mem_cons.1 ((h x).2 (by simp [hx])) with e | e
      · have:=h2.1 x hx;omega
      · exact e
theorem compact_len (ys:List Int):(Lib.compact ys).length≤ys.length:=by
  unfold Lib.compact Lib.compactUpTo
  rw [List.length_map]
  exact Nat.le_trans (List.length_filter_le _ _) (by simp)
theorem sc_len (zs:List Int):(sc zs).length≤zs.length:=by
  unfold sc
  exact Nat.le_trans (compact_len _) (by rw [List.length_mergeSort];exact Nat.le_refl _)
def put (l:List Int) (n:Int):List Int:=if n∈l then l else l.takeWhile (· < n)++n::l.dropWhile (· < n)
theorem put_mem (l:List Int) (n x:Int):x∈put l n↔x=n∨x∈l:=by
  unfold put
  split
  · rename_i h
    exact ⟨.inr,fun h'=>by rcases h' with rfl | h';exact h;exact h'⟩
  · rw [List.mem_append,List.mem_cons]
    have:x∈l↔x∈l.takeWhile (· < n)∨x∈l.dropWhile (· < n):=by
      rw [← List.mem_append,List.takeWhile_append_dropWhile]
    rw [this]
    constructor
    · rintro (h | h | h)
      · exact .inr (.inl h)
      · exact .inl h
      · exact .inr (.inr h)
    · rintro (h | h | h)
      · exact .inr (.inl h)
      · exact .inl h
      · exact .inr (.inr h)
theorem drop_ge {l:List Int} {n:Int} (hs:l.Pairwise (· < ·)):∀x∈l.dropWhile (· < n),n≤x:=by
  induction l with
  | nil=>intro x hx;simp at hx
  | cons a l ih=>
    rw [List.pairwise_cons] at hs
    intro x hx
    rw [List.dropWhile_cons] at hx
    split at hx
    · exact ih hs.2 x hx
    · rename_i h
      simp only [decide_eq_true_eq] at h
      rcases List.mem_cons.1 hx with rfl | hx
      · omega
      · have:=hs.1 x hx;omega
theorem take_lt {l:List Int} {n:Int}:∀x∈l.takeWhile (· < n),x < n:=by
  induction l with
  | nil=>intro x hx;simp at hx
  | cons a l ih=>
    intro x hx
    rw [List.takeWhile_cons] at hx
    split at hx
    · rename_i h
      rcases List.mem_cons.1 hx with rfl | hx
      · simpa using h
      · exact ih x hx
    · simp at hx
theorem put_lt {l:List Int} (n:Int) (hs:l.Pairwise (· < ·)):(put l n).Pairwise (· < ·):=by
  unfold put
  split
  · exact hs
  · rename_i hn
    rw [List.pairwise_append,List.pairwise_cons]
    have h2:=drop_ge (n:=n) hs
    have h3:∀x∈l.dropWhile (· < n),n < x:=fun x hx=>by
      have:=h2 x hx
      have hm:x∈l:=(List.dropWhile_suffix _).subset hx
      have:x≠n:=fun e=>hn (e ▸ hm)
      omega
    refine ⟨List.Pairwise.sublist (List.takeWhile_prefix _).sublist hs,⟨h3,List.Pairwise.sublist (List.dropWhile_suffix _).sublist hs⟩,fun a ha b hb=>?_⟩
    have h4:=take_lt a ha
    rcases List.mem_cons.1 hb with rfl | hb
    · exact h4
    · have:=h3 b hb;omega
theorem put_len (l:List Int) (n:Int):(put l n).length≤l.length+1:=by
  unfold put
  split
  · omega
  · have:(l.takeWhile (· < n)).length+(l.dropWhile (· < n)).length=l.length:=by rw [← List.length_append,List.takeWhile_append_dropWhile]
    rw [List.length_append,List.length_cons];omega
theorem foldl_put (xs:List Int):∀(l:List Int),l.Pairwise (· < ·)→(xs.foldl put l).Pairwise (· < ·)∧∀x,x∈xs.foldl put l↔x∈l∨x∈xs:=by
  induction xs with
  | nil=>intro l hl;exact ⟨hl,fun x=>by simp⟩
  | cons a xs ih=>
    intro l hl
    obtain ⟨h1,h2⟩:=ih (put l a) (put_lt a hl)
    refine ⟨h1,fun x=>?_⟩
    rw [List.foldl_cons,h2,put_mem,List.mem_cons]
    constructor
    · rintro ((h | h) | h)
      · exact .inr (.inl h)
      · exact .inl h
      · exact .inr (.inr h)
    · rintro (h | h | h)
      · exact .inl (.inr h)
      · exact .inl (.inl h)
      · exact .inr h
theorem puts_sc (xs:List Int):xs.foldl put []=sc xs:=by
  have:=foldl_put xs [] List.Pairwise.nil
  exact rise_ext this.1 (sc_lt xs) fun x=>by rw [this.2,sc_mem];simp
end Go.Pt
namespace Go.Proofs.Ytohkciilfkhomaa
open Go Go.Sep Go.Pt
attribute [local irreducible] CallT
theorem tw_split {l:List Int} {n:Int}:∀{k:Nat},k≤l.length→(∀j,j < k→l.getD j default < n)→(k=l.length∨¬l.getD k default < n)→l.takeWhile (· < n)=l.take k∧l.dropWhile (· < n)=l.drop k:=by
  induction l with
  | nil=>intro k hk _ _;simp
  | cons a l ih=>
    intro k hk h1 h2
    cases k with
    | zero=>
      have:¬a < n:=by
        rcases h2 with h2 | h2
        · simp at h2
        · simpa using h2
      simp [this]
    | succ k=>
      have h0:a < n:=by simpa using h1 0 (by omega)
      have:=ih (k:=k) (by simpa using hk) (fun j hj=>by simpa using h1 (j+1) (by omega)) (by
        rcases h2 with h2 | h2
        · left;simpa using h2
        · right;simpa using h2)
      simp [h0,this.1,this.2]
theorem l1Put_spec (l:List Int) (n:Int) (hs:l.Pairwise (· < ·)) (hl:l.length≤100000):Pu Try.prog 52 [Is l,I n] (Is (put l n)):=by
  refine ⟨fun H=>CallT.fin ?_⟩
  refine W52_ok ?_;simp (maxSteps:=1000000) (disch:=first | assumption | (apply ν6;assumption)) only [W52,vz,vu,vv,eqS,eF_,↓c1_,↓c2_,tabs,reduceCtorEq,ι5,↓reduceIte,ν1,ν2,ν3,ν4,ν5,ι1,ι2,ι3,ι4]
  refine L52_0_rule (0:Nat) (fun i=>I i) (fun _=>H) (fun k=>k≤l.length∧∀j,j < k→l.getD j default < n) (fun k=>l.length - k) ⟨⟨by omega,by intros;omega⟩,.refl _,Heap.le_refl _⟩ ?_
  rintro k ⟨hk,ha⟩
  have ins:((k=l.length∨¬l.getD k default < n)∧n∉l)→J52_1 (wkK fun r H'=>r=Is (put l n)∧H'=H) (Is l) (I n) (I k) H:=by
    rintro ⟨h2,hn⟩
    have ht:=tw_split hk ha h2
    (try simp (maxSteps:=1000000) (disch:=first | assumption | (apply ν6;assumption)) only [vz,vu,vv,eqS,eF_,↓c1_,↓c2_,tabs,reduceCtorEq,ι5,↓reduceIte,ν1,ν2,ν3,ν4,ν5,ι1,ι2,ι3,ι4,J52_1])
    refine lit0I fun q0 hq0=>?_
    (try simp (maxSteps:=1000000) (disch:=first | assumption | (apply ν6;assumption)) only [vz,vu,vv,eqS,eF_,↓c1_,↓c2_,tabs,reduceCtorEq,ι5,↓reduceIte,ν1,ν2,ν3,ν4,ν5,ι1,ι2,ι3,ι4,sliceV])
    refine ⟨by omega,by omega,by omega,szI l,?_⟩
    have hlt:(l.take k).length=k:=by rw [List.length_take,Nat.min_eq_left hk]
    refine app_topI (xs:=[]) (ys:=l.take k) hq0 (by simp only [List.length_nil,hlt];omega) fun q1 hq1=>?_
    rw [List.nil_append]
    refine push_topI hq1 (by omega) fun q2 hq2=>?_
    (try simp (maxSteps:=1000000) (disch:=first | assumption | (apply ν6;assumption)) only [vz,vu,vv,eqS,eF_,↓c1_,↓c2_,tabs,reduceCtorEq,ι5,↓reduceIte,ν1,ν2,ν3,ν4,ν5,ι1,ι2,ι3,ι4,sliceV])
    refine ⟨by omega,by omega,by omega,szI l,?_⟩
    have e1:List.take ((l.length:Int) - k).toNat (l.drop k)=l.drop k:=List.take_of_length_le (by rw [List.length_drop];omega)
    rw [e1]
    have e2:l.take k++[n]++l.drop k=put l n:=by rw [put,if_neg hn,ht.1,ht.2];simp
    refine app_topI (xs:=l.take k++[n]) (ys:=l.drop k) hq2 (by simp only [List.length_append,hlt,List.length_drop,List.length_singleton];omega) fun q3 hq3=>?_
    rw [e2]
    exact fin_int hq3 (Heap.le_refl _)
  have here:(k=l.length∨¬l.getD k default < n)→J52_2 (wkK fun r H'=>r=Is (put l n)∧H'=H) (Is l) (I n) (I k) H:=by
    intro h2
    have ht:=tw_split hk ha h2
    have ge:∀x∈l.drop k,n≤x:=by rw [← ht.2];exact drop_ge hs
    have lt:∀x∈l.take k,x < n:=by rw [← ht.1];exact take_lt
    (try simp (maxSteps:=1000000) (disch:=first | assumption | (apply ν6;assumption)) only [vz,vu,vv,eqS,eF_,↓c1_,↓c2_,tabs,reduceCtorEq,ι5,↓reduceIte,ν1,ν2,ν3,ν4,ν5,ι1,ι2,ι3,ι4,J52_2])
    refine ⟨fun h3=>⟨by omega,h3,fun h4=>?_,fun h4=>ins ⟨h2,fun hm=>?_⟩⟩,fun h3=>ins ⟨h2,fun hm=>?_⟩⟩
    · have hkl:k < l.length:=by omega
      have hm:n∈l:=by rw [← h4];exact getD_all (p:=fun x=>x∈l) (fun _ h=>h) hkl
      exact wkK.keep ⟨by rw [put,if_pos hm],rfl⟩
    · have hkl:k < l.length:=by omega
      rw [← List.take_append_drop k l] at hm
      rcases List.mem_append.1 hm with hm | hm
      · have:=lt n hm;omega
      · rw [drop_cons hkl] at hm ge
        rcases List.mem_cons.1 hm with hm | hm
        · exact h4 hm.symm
        · have h5:=ge _ (List.mem_cons_self ..)
          have h6:(l.drop k).Pairwise (· < ·):=List.Pairwise.sublist (List.drop_sublist k l) hs
          rw [drop_cons hkl,List.pairwise_cons] at h6
          have:=h6.1 n hm
          omega
    · rw [← List.take_append_drop k l,List.drop_of_length_le (by omega),List.append_nil] at hm
      have:=lt n hm;omega
  (try simp (maxSteps:=1000000) (disch:=first | assumption | (apply ν6;assumption)) only [vz,vu,vv,eqS,eF_,↓c1_,↓c2_,tabs,reduceCtorEq,ι5,↓reduceIte,ν1,ν2,ν3,ν4,ν5,ι1,ι2,ι3,ι4,B52_0])
  refine ⟨fun h1=>⟨by omega,h1,fun h2=>⟨k+1,⟨by omega,fun j hj=>?_⟩,by omega,?_⟩,fun h2=>here (.inr h2)⟩,fun h1=>here (.inl (by omega))⟩
  · rcases Nat.lt_succ_iff_lt_or_eq.1 hj with h | rfl
    · exact ha j h
    · exact h2
  · rw [wk_int,i64_id (by omega) (by omega)];simp
end Go.Proofs.Ytohkciilfkhomaa
namespace Go.Proofs.Ytohkciilfkhomaa
open Go Go.Sep Go.Pt
attribute [local irreducible] CallT
theorem rising_at {l:List Int} {n:Int} (h:rising l n=true):∀i,i < l.length→(i:Int)≤l.getD i default∧l.getD i default < n:=by
  intro i
  induction i with
  | zero=>
    intro hi
    have:=riseAt_iff.1 (List.all_eq_true.1 h 0 (List.mem_range.2 hi))
    omega
  | succ i ih=>
    intro hi
    have h1:=ih (by omega)
    have:=riseAt_iff.1 (List.all_eq_true.1 h (i+1) (List.mem_range.2 hi))
    simp only [Nat.add_sub_cancel] at this
    omega
theorem rising_sm {l:List Int} {n:Int} (h:rising l n=true) (hn:n≤10000):smI l∧l.length≤n.toNat:=by
  have hl:l.length≤n.toNat:=by
    by_cases h0:l.length=0
    · omega
    · have:=rising_at h (l.length - 1) (by omega)
      omega
  refine ⟨⟨by omega,fun x hx=>?_⟩,hl⟩
  obtain ⟨i,hi,rfl⟩:=List.mem_iff_getElem.1 hx
  have:=rising_at h i hi
  rw [getD_lt hi] at this
  omega
structure GoodF (a:Au):Prop where
  st:1≤a.states∧a.states≤96
  fi:smI a.first∧a.first.length≤96
  ed:a.edges.length≤2400
  ei:∀e∈a.edges,edIn a.states e=true
  gl:a.goals.length≤6
  gi:∀g∈a.goals,smI g∧g.length≤96
theorem good_facts {a:Au} (h:goodA a=true):GoodF a:=by
  rw [goodA_def] at h
  simp only [goalsOk,Bool.and_eq_true,decide_eq_true_eq,List.all_eq_true] at h
  obtain ⟨h1,h2,h3,⟨h4,h5⟩,h6⟩:=h
  have f:=rising_sm h2 (by omega)
  refine ⟨h1,⟨f.1,by omega⟩,h3,fun e he=>?_,h4,fun g hg=>?_⟩
  · obtain ⟨i,hi,rfl⟩:=List.mem_iff_getElem.1 he
    have:=(edAt_iff.1 (List.all_eq_true.1 h6 i (List.mem_range.2 hi))).1
    rwa [getD_lt hi] at this
  · have:=rising_sm (h5 g hg) (by omega)
    exact ⟨this.1,by omega⟩
def mvE (l:List Ed) (n:Int):List Ed:=l.map fun e=>⟨e.src+n,e.lt,e.dst+n⟩
theorem mvE_len (l:List Ed) (n:Int):(mvE l n).length=l.length:=by simp [mvE]
theorem mv_len (l:List Int) (n:Int):(mv l n).length=l.length:=by simp [mv]
def eiF (a b:Au):List Int:=a.first++mv b.first a.states
def eiE (a b:Au) (i:Nat):List Ed:=a.edges++mvE (b.edges.take i) a.states
theorem eiE_zero (a b:Au):eiE a b 0=a.edges:=by simp [eiE,mvE]
theorem eiE_succ (a b:Au) {i:Nat} (h:i < b.edges.length):eiE a b (i+1)=eiE a b i++[⟨(b.edges.getD i default).src+a.states,(b.edges.getD i default).lt,(b.edges.getD i default).dst+a.states⟩]:=by
  simp only [eiE];rw [take_succ_snoc h];simp [mvE]
def eiG (a b:Au) (k:Nat):List Int:=goalAt a k++mv (goalAt b k) a.states
def eiGs (a b:Au) (m:Nat):List (List Int):=(List.range m).map (eiG a b)
theorem eiGs_succ (a b:Au) (m:Nat):eiGs a b (m+1)=eiGs a b m++[eiG a b m]:=by simp [eiGs,List.range_succ]
theorem eiGs_len (a b:Au) (m:Nat):(eiGs a b m).length=m:=by simp [eiGs]
def eiT (a b:Au):Au:=⟨a.states+b.states,eiF a b,eiE a b b.edges.length,eiGs a b (max a.goals.length b.goals.length)⟩
def zeroA:Au:=⟨0,[],[],[]⟩
def eiR (a b:Au):Au×Bool:=if goodA a && goodA b && goodA (eiT a b) then (eiT a b,true) else (zeroA,false)
theorem goalAt_sm {a:Au} (h:GoodF a) (k:Nat):smI (goalAt a k)∧(goalAt a k).length≤96:=by
  have hs:=h.st
  unfold goalAt
  split
  · have hm:a.goals.getD (k:Int).toNat default∈a.goals:=getD_all (p:=fun x=>x∈a.goals) (fun _ h=>h) (by omega)
    exact h.gi _ hm
  · refine ⟨⟨by rw [below_len];omega,fun x hx=>?_⟩,by rw [below_len];omega⟩
    simp only [below,List.mem_map,List.mem_range] at hx
    obtain ⟨i,hi,rfl⟩:=hx
    omega
theorem eiT_sm {a b:Au} (ha:GoodF a) (hb:GoodF b):smAu (eiT a b):=by
  have h1:=ha.fi.2
  have h2:=hb.fi.2
  have h3:=ha.ed
  have h4:=hb.ed
  have h5:=ha.gl
  have h6:=hb.gl
  refine ⟨by simp only [eiT,eiF,List.length_append,mv_len];omega,by simp only [eiT,eiE,List.length_append,mvE_len,List.length_take];omega,by simp only [eiT,eiGs_len];omega,fun c hc=>?_⟩
  simp only [eiT,eiGs,List.mem_map,List.mem_range] at hc
  obtain ⟨k,_,rfl⟩:=hc
  have e1:=(goalAt_sm ha k).2
  have e2:=(goalAt_sm hb k).2
  simp only [eiG,List.length_append,mv_len];omega
theorem zero_live {H:Heap} {z1 z2 z3:Nat} (h1:H z1=none) (h2:H z2=none) (h3:H z3=none) (n21:z2≠z1) (n31:z3≠z1) (n32:z3≠z2) {K:AV→Heap→Prop} {G:Heap} (hle:Heap.le (((H.set z1 []).set z2 []).set z3 []) G)
    (h:∀v G D,LAu zeroA v G D→New H G D→K (.tup [v,B false]) G):wkK K (.tup [zA,B false]) G:=by
  have n12:=Ne.symm n21
  have n13:=Ne.symm n31
  have n23:=Ne.symm n32
  have e1:(((H.set z1 []).set z2 []).set z3 []) z1=some []:=by rw [Heap.set_other n13,Heap.set_other n12,Heap.set_same]
  have e2:(((H.set z1 []).set z2 []).set z3 []) z2=some []:=by rw [Heap.set_other n23,Heap.set_same]
  have e3:(((H.set z1 []).set z2 []).set z3 []) z3=some []:=Heap.set_same _ _ _
  refine ⟨_,_,.trans (.val (v':=.tup [.agg [I 0,.sl z1 1 0 0,.sl z2 3 0 0,.sl z3 1 0 0],B false]) (wk_tup ⟨wk_agg ⟨.refl _,.nilo _ _ _,.nilo _ _ _,.nilo _ _ _,trivial⟩,.refl _,trivial⟩)) (.forget hle),?_⟩
  refine h _ _ ([z1]++([z2]++[z3])) ⟨_,_,_,[z1],[z2],[z3],rfl,rfl,⟨z1,[],[],rfl,e1,⟨rfl,rfl⟩,rfl⟩,⟨z2,[],[],rfl,e2,⟨rfl,rfl⟩,rfl⟩,⟨z3,[],[],rfl,e3,⟨rfl,rfl⟩,rfl⟩⟩ ⟨by simp [n12,n13,n23],fun y hy=>?_,?_⟩
  · simp at hy
    rcases hy with rfl | rfl | rfl<;>assumption
  · (intro y b hy;simp only [Heap.set,Heap.del] at hy ⊢;(repeat' split at hy)<;>(repeat' split)<;>simp_all [cells])
theorem or2 {A B P R:Prop} (h1:A∨B) (h:P):(A→P)∧(¬A→(B→P)∧(¬B→R)):=⟨fun _=>h,fun na=>⟨fun _=>h,fun nb=>absurd h1 (by simp [na,nb])⟩⟩
theorem Either_impl (a b:Au) (sa:smAu a) (sb:smAu b) {H:Heap} {K:AV→Heap→Prop} (h:∀v G D,LAu (eiR a b).1 v G D→New H G D→K (.tup [v,B (eiR a b).2]) G):CallT Try.prog 7 [aAu a,aAu b] H K:=by
  refine CallT.fin ?_
  refine CallT.ghost W7_hb fun z1 hz1=>?_
  refine CallT.ghost W7_hb fun z2 hz2=>?_
  refine CallT.ghost W7_hb fun z3 hz3=>?_
  rw [Heap.set_none] at hz2
  rw [Heap.set_none,Heap.set_none] at hz3
  obtain ⟨n21,hz2⟩:=hz2
  obtain ⟨n32,n31,hz3⟩:=hz3
  have zl:=fun (G:Heap) (hle:Heap.le (((H.set z1 []).set z2 []).set z3 []) G) (h:∀v G D,LAu zeroA v G D→New H G D→K (.tup [v,B false]) G)=>zero_live hz1 hz2 hz3 n21 n31 n32 hle h
  have e1:(((H.set z1 []).set z2 []).set z3 []) z3=some []:=Heap.set_same _ _ _
  have hB:∀{y},(((H.set z1 []).set z2 []).set z3 []) y=none→H y=none:=fun hy=>by
    simp only [Heap.set_none] at hy;exact hy.2.2.2
  have leB:Heap.le H (((H.set z1 []).set z2 []).set z3 []):=Heap.le_setN (Heap.le_setN (Heap.le_set hz1) hz2) hz3
  generalize (((H.set z1 []).set z2 []).set z3 [])=H3 at zl e1 hB leB ⊢
  refine W7_ok ?_;simp (maxSteps:=1000000) (disch:=first | assumption | (apply ν6;assumption)) only [W7,vz,vu,vv,eqS,eF_,↓c1_,↓c2_,tabs,reduceCtorEq,ι5,↓reduceIte,ν1,ν2,ν3,ν4,ν5,ι1,ι2,ι3,ι4]
  intro r hr r1 nr1 hr1 r2 nr21 nr2 hr2
  have gr:(((H3.set r [I a.states,Is a.first,Es a.edges,Ls a.goals]).set r1 [I b.states,Is b.first,Es b.edges,Ls b.goals]).set r2 [I 0,.p .nil,.p .nil,.p .nil]) r=some [I a.states,Is a.first,Es a.edges,Ls a.goals]:=by rw [Heap.set_other (Ne.symm nr2),Heap.set_other (Ne.symm nr1),Heap.set_same]
  have gr1:(((H3.set r [I a.states,Is a.first,Es a.edges,Ls a.goals]).set r1 [I b.states,Is b.first,Es b.edges,Ls b.goals]).set r2 [I 0,.p .nil,.p .nil,.p .nil]) r1=some [I b.states,Is b.first,Es b.edges,Ls b.goals]:=by rw [Heap.set_other (Ne.symm nr21),Heap.set_same]
  have gr2:(((H3.set r [I a.states,Is a.first,Es a.edges,Ls a.goals]).set r1 [I b.states,Is b.first,Es b.edges,Ls b.goals]).set r2 [I 0,.p .nil,.p .nil,.p .nil]) r2=some [I 0,.p .nil,.p .nil,.p .nil]:=Heap.set_same _ _ _
  have le0:Heap.le H3 (((H3.set r [I a.states,Is a.first,Es a.edges,Ls a.goals]).set r1 [I b.states,Is b.first,Es b.edges,Ls b.goals]).set r2 [I 0,.p .nil,.p .nil,.p .nil]):=Heap.le_setN (Heap.le_setN (Heap.le_set hr) hr1) hr2
  have hB0:∀{y},(((H3.set r [I a.states,Is a.first,Es a.edges,Ls a.goals]).set r1 [I b.states,Is b.first,Es b.edges,Ls b.goals]).set r2 [I 0,.p .nil,.p .nil,.p .nil]) y=none→H3 y=none:=fun hy=>by
    simp only [Heap.set_none] at hy;exact hy.2.2.2
  have hHr2:H r2=none:=hB hr2
  generalize (((H3.set r [I a.states,Is a.first,Es a.edges,Ls a.goals]).set r1 [I b.states,Is b.first,Es b.edges,Ls b.goals]).set r2 [I 0,.p .nil,.p .nil,.p .nil])=G0 at gr gr1 gr2 le0 hB0 ⊢
  have bad:∀{G},Heap.le G0 G→eiR a b=(zeroA,false)→wkK K (.tup [zA,B false]) G:=fun hle e=>zl _ (Heap.le_trans le0 hle) (by rw [e] at h;exact h)
  have ne:∀{G:Heap} {y c q},G y=some c→G q=none→y≠q:=fun h1 h2 e=>by rw [e,h2] at h1;cases h1
  have setid:G0.set r2 [I 0,.p .nil,.p .nil,.p .nil]=G0:=by
    funext y
    by_cases e:y=r2
    · subst e;rw [Heap.set_same,gr2]
    · rw [Heap.set_other e]
  (try simp (maxSteps:=1000000) (disch:=first | assumption | (apply ν6;assumption)) only [vz,vu,vv,eqS,eF_,↓c1_,↓c2_,tabs,reduceCtorEq,ι5,↓reduceIte,ν1,ν2,ν3,ν4,ν5,ι1,ι2,ι3,ι4,load_at gr])
  refine Pu.use (GoodAuto_impl a sa) ?_
  cases ga:goodA a
  · (try simp (maxSteps:=1000000) (disch:=first | assumption | (apply ν6;assumption)) only [vz,vu,vv,eqS,eF_,↓c1_,↓c2_,tabs,reduceCtorEq,ι5,↓reduceIte,ν1,ν2,ν3,ν4,ν5,ι1,ι2,ι3,ι4,store_at gr2])
    rw [setid]
    (try simp (maxSteps:=1000000) (disch:=first | assumption | (apply ν6;assumption)) only [vz,vu,vv,eqS,eF_,↓c1_,↓c2_,tabs,reduceCtorEq,ι5,↓reduceIte,ν1,ν2,ν3,ν4,ν5,ι1,ι2,ι3,ι4,load_at gr2])
    exact bad (Heap.le_refl _) (by simp only [eiR,ga,Bool.false_and,Bool.false_eq_true,if_false])
  (try simp (maxSteps:=1000000) (disch:=first | assumption | (apply ν6;assumption)) only [vz,vu,vv,eqS,eF_,↓c1_,↓c2_,tabs,reduceCtorEq,ι5,↓reduceIte,ν1,ν2,ν3,ν4,ν5,ι1,ι2,ι3,ι4,load_at gr1])
  refine Pu.use (GoodAuto_impl b sb) ?_
  cases gb:goodA b
  · (try simp (maxSteps:=1000000) (disch:=first | assumption | (apply ν6;assumption)) only [vz,vu,vv,eqS,eF_,↓c1_,↓c2_,tabs,reduceCtorEq,ι5,↓reduceIte,ν1,ν2,ν3,ν4,ν5,ι1,ι2,ι3,ι4,store_at gr2])
    rw [setid]
    (try simp (maxSteps:=1000000) (disch:=first | assumption | (apply ν6;assumption)) only [vz,vu,vv,eqS,eF_,↓c1_,↓c2_,tabs,reduceCtorEq,ι5,↓reduceIte,ν1,ν2,ν3,ν4,ν5,ι1,ι2,ι3,ι4,load_at gr2])
    exact bad (Heap.le_refl _) (by simp only [eiR,gb,Bool.and_false,Bool.false_and,Bool.false_eq_true,if_false])
  have fa:=good_facts ga
  have fb:=good_facts gb
  have sta:=fa.st
  have stb:=fb.st
  have hed:=fa.ed
  have hed2:=fb.ed
  have hfi:=fa.fi.2
  have hfi2:=fb.fi.2
  have es:IntKind.i64.wrap (a.states+b.states)=a.states+b.states:=i64_id (by omega) (by omega)
  (try simp (maxSteps:=1000000) (disch:=first | assumption | (apply ν6;assumption)) only [vz,vu,vv,eqS,eF_,↓c1_,↓c2_,tabs,reduceCtorEq,ι5,↓reduceIte,ν1,ν2,ν3,ν4,ν5,ι1,ι2,ι3,ι4,load_at gr,load_at gr1,es])
  refine Pu.use (moved_spec b.first a.states fb.fi.1 (by omega)) ?_
  (try simp (maxSteps:=1000000) (disch:=first | assumption | (apply ν6;assumption)) only [vz,vu,vv,eqS,eF_,↓c1_,↓c2_,tabs,reduceCtorEq,ι5,↓reduceIte,ν1,ν2,ν3,ν4,ν5,ι1,ι2,ι3,ι4,load_at gr,load_at gr1])
  refine lit2 tab_26 rfl tab_24 ⟨rfl,rfl⟩ ?_
  (try simp (maxSteps:=1000000) (disch:=first | assumption | (apply ν6;assumption)) only [vz,vu,vv,eqS,eF_,↓c1_,↓c2_,tabs,reduceCtorEq,ι5,↓reduceIte,ν1,ν2,ν3,ν4,ν5,ι1,ι2,ι3,ι4,load_at gr,load_at gr1])
  refine ConcatI_spec [a.first,mv b.first a.states] (by simp [mv_len];omega) (by simp) fun q1 hq1=>?_
  have efl:[a.first,mv b.first a.states].flatten=eiF a b:=by simp [eiF]
  rw [efl]
  have le1:Heap.le G0 (G0.set q1 (cP fI (eiF a b))):=Heap.le_set hq1
  have g1r:=le1 _ _ gr
  have g1r1:=le1 _ _ gr1
  have g1r2:=le1 _ _ gr2
  have g1q:(G0.set q1 (cP fI (eiF a b))) q1=some (cP fI (eiF a b)):=Heap.set_same _ _ _
  have hB1:∀{y},(G0.set q1 (cP fI (eiF a b))) y=none→G0 y=none:=fun hy=>by
    rw [Heap.set_none] at hy;exact hy.2
  generalize G0.set q1 (cP fI (eiF a b))=G1 at g1r g1r1 g1r2 g1q le1 hB1 ⊢
  (try simp (maxSteps:=1000000) (disch:=first | assumption | (apply ν6;assumption)) only [vz,vu,vv,eqS,eF_,↓c1_,↓c2_,tabs,reduceCtorEq,ι5,↓reduceIte,ν1,ν2,ν3,ν4,ν5,ι1,ι2,ι3,ι4,load_at g1r,load_at g1r1])
  refine CloneE_row a.edges (by omega) fun qe hqe=>?_
  have g2r:=Heap.le_set (b:=cE a.edges) hqe _ _ g1r
  have g2r1:=Heap.le_set (b:=cE a.edges) hqe _ _ g1r1
  (try simp (maxSteps:=1000000) (disch:=first | assumption | (apply ν6;assumption)) only [vz,vu,vv,eqS,eF_,↓c1_,↓c2_,tabs,reduceCtorEq,ι5,↓reduceIte,ν1,ν2,ν3,ν4,ν5,ι1,ι2,ι3,ι4,load_at g2r,load_at g2r1])
  intro r6 hr6e hr6
  have n16:r1≠r6:=ne g1r1 hr6
  have n1e:r1≠qe:=ne g1r1 hqe
  (try simp (maxSteps:=1000000) (disch:=first | assumption | (apply ν6;assumption)) only [vz,vu,vv,eqS,eF_,↓c1_,↓c2_,tabs,reduceCtorEq,ι5,↓reduceIte,ν1,ν2,ν3,ν4,ν5,ι1,ι2,ι3,ι4,load_at g1r1])
  have les:∀i,(eiE a b i).length≤5000:=fun i=>by
    simp only [eiE,List.length_append,mvE_len,List.length_take];omega
  refine L7_0_rule ((0:Nat),qe) (fun s=>I s.1) (fun s=>(G1.set s.2 (cE (eiE a b s.1))).set r6 [I (a.states+b.states),rowP q1 (eiF a b),rowE s.2 (eiE a b s.1),.p .nil])
    (fun s=>s.1≤b.edges.length∧G1 s.2=none∧s.2≠r6) (fun s=>b.edges.length - s.1) ⟨⟨by simp,hqe,Ne.symm hr6e⟩,.refl _,?_⟩ ?_
  · simp only [eiE_zero]
    exact Heap.le_refl _
  rintro ⟨i,q⟩ ⟨hi,hq,hq6⟩
  dsimp only at hi hq hq6
  have hle:Heap.le G1 ((G1.set q (cE (eiE a b i))).set r6 [I (a.states+b.states),rowP q1 (eiF a b),rowE q (eiE a b i),.p .nil]):=Heap.le_setN (Heap.le_set hq) hr6
  have g6:((G1.set q (cE (eiE a b i))).set r6 [I (a.states+b.states),rowP q1 (eiF a b),rowE q (eiE a b i),.p .nil]) r6=some [I (a.states+b.states),rowP q1 (eiF a b),rowE q (eiE a b i),.p .nil]:=Heap.set_same _ _ _
  have gq:((G1.set q (cE (eiE a b i))).set r6 [I (a.states+b.states),rowP q1 (eiF a b),rowE q (eiE a b i),.p .nil]) q=some (cE (eiE a b i)):=by rw [Heap.set_other hq6,Heap.set_same]
  have hB2:∀{y},((G1.set q (cE (eiE a b i))).set r6 [I (a.states+b.states),rowP q1 (eiF a b),rowE q (eiE a b i),.p .nil]) y=none→G1 y=none:=fun hy=>by
    simp only [Heap.set_none] at hy;exact hy.2.2
  have hli:=les i
  generalize (G1.set q (cE (eiE a b i))).set r6 [I (a.states+b.states),rowP q1 (eiF a b),rowE q (eiE a b i),.p .nil]=G2 at hle g6 gq hB2 ⊢
  have gr2':=hle _ _ g1r
  have gr12':=hle _ _ g1r1
  have gr22':=hle _ _ g1r2
  have gq1:=hle _ _ g1q
  (try simp (maxSteps:=1000000) (disch:=first | assumption | (apply ν6;assumption)) only [vz,vu,vv,eqS,eF_,↓c1_,↓c2_,tabs,reduceCtorEq,ι5,↓reduceIte,ν1,ν2,ν3,ν4,ν5,ι1,ι2,ι3,ι4,B7_0])
  refine ⟨fun h1=>⟨by omega,h1,?_⟩,fun h1=>?_⟩
  · have hlt:i < b.edges.length:=by omega
    have hm:b.edges.getD i default∈b.edges:=getD_all (p:=fun x=>x∈b.edges) (fun _ h=>h) hlt
    have hei:=edIn_iff.1 (fb.ei _ hm)
    have hsucc:eiE a b (i+1)=eiE a b i++[⟨(b.edges.getD i default).src+a.states,(b.edges.getD i default).lt,(b.edges.getD i default).dst+a.states⟩]:=eiE_succ a b hlt
    generalize b.edges.getD i default=x at hei hsucc ⊢
    intro r8 hr8
    have x1:IntKind.i64.wrap (x.src+a.states)=x.src+a.states:=i64_id (by omega) (by omega)
    have x2:IntKind.i64.wrap (x.dst+a.states)=x.dst+a.states:=i64_id (by omega) (by omega)
    have le8:=Heap.le_set (b:=[I x.src,I x.lt,I x.dst]) hr8
    have g68:=le8 _ _ g6
    have gr8:=le8 _ _ gr2'
    have g88:(G2.set r8 [I x.src,I x.lt,I x.dst]) r8=some [I x.src,I x.lt,I x.dst]:=Heap.set_same _ _ _
    have gq8:=le8 _ _ gq
    have hle8:=Heap.le_trans hle le8
    have hB8:∀{y},(G2.set r8 [I x.src,I x.lt,I x.dst]) y=none→G1 y=none:=fun hy=>by
      rw [Heap.set_none] at hy;exact hB2 hy.2
    (try simp (maxSteps:=1000000) (disch:=first | assumption | (apply ν6;assumption)) only [vz,vu,vv,eqS,eF_,↓c1_,↓c2_,tabs,reduceCtorEq,ι5,↓reduceIte,ν1,ν2,ν3,ν4,ν5,ι1,ι2,ι3,ι4,load_at g68,load_at gr8,load_at g88,x1,x2])
    generalize G2.set r8 [I x.src,I x.lt,I x.dst]=G3 at g68 gr8 g88 gq8 hle8 hB8 ⊢
    refine lit_edge (x:=⟨x.src+a.states,x.lt,x.dst+a.states⟩) ?_
    refine app_edges gq8 (by simp only [List.length_cons,List.length_nil];omega) fun q' hq' hne=>?_
    rw [← hsucc]
    have h6':((G3.del q).set q' (cE (eiE a b (i+1)))) r6=some [I (a.states+b.states),rowP q1 (eiF a b),rowE q (eiE a b i),.p .nil]:=by
      rw [Heap.set_other (ne g68 hq'),Heap.del_other (Ne.symm hq6)];exact g68
    (try simp (maxSteps:=1000000) (disch:=first | assumption | (apply ν6;assumption)) only [vz,vu,vv,eqS,eF_,↓c1_,↓c2_,tabs,reduceCtorEq,ι5,↓reduceIte,ν1,ν2,ν3,ν4,ν5,ι1,ι2,ι3,ι4,store_at h6'])
    refine ⟨(i+1,q'),⟨by simp only;omega,hB8 hq',Ne.symm (ne g68 hq')⟩,by simp only;omega,?_,?_⟩
    · rw [wk_int,i64_id (by omega) (by omega)];simp
    · simp only
      generalize [I (a.states+b.states),rowP q1 (eiF a b),rowE q' (eiE a b (i+1)),.p .nil]=z6
      generalize cE (eiE a b (i+1))=z
      intro y bb hbb
      by_cases y6:y=r6
      · subst y6;rw [Heap.set_same] at hbb ⊢;exact hbb
      rw [Heap.set_other y6] at hbb ⊢
      by_cases yq:y=q'
      · subst yq;rw [Heap.set_same] at hbb ⊢;exact hbb
      rw [Heap.set_other yq] at hbb ⊢
      rw [Heap.del_other (fun e=>by rw [e,hq] at hbb;cases hbb)]
      exact hle8 y bb hbb
  have hil:i=b.edges.length:=by omega
  subst hil
  (try simp (maxSteps:=1000000) (disch:=first | assumption | (apply ν6;assumption)) only [vz,vu,vv,eqS,eF_,↓c1_,↓c2_,tabs,reduceCtorEq,ι5,↓reduceIte,ν1,ν2,ν3,ν4,ν5,ι1,ι2,ι3,ι4,load_at gr2',load_at gr12'])
  have hmax:(if (b.goals.length:Int) > (a.goals.length:Int) then (b.goals.length:Int) else (a.goals.length:Int))=((max a.goals.length b.goals.length:Nat):Int):=by
    split<;>omega
  rw [hmax]
  have hgl:=fa.gl
  have hgl2:=fb.gl
  have hm6:max a.goals.length b.goals.length≤6:=by omega
  generalize hmm:max a.goals.length b.goals.length=m at hm6
  have ffs:=les b.edges.length
  refine L7_1_rule ((0:Nat),(.p .nil:AV),G2,([]:List Nat)) (fun s=>I s.1) (fun s=>s.2.2.1)
    (fun s=>s.1≤m∧s.2.2.1 r6=some [I (a.states+b.states),rowP q1 (eiF a b),rowE q (eiE a b b.edges.length),s.2.1]∧(∀y bb,G2 y=some bb→y≠r6→s.2.2.1 y=some bb)∧GAt s.2.1 (eiGs a b s.1) s.2.2.1 s.2.2.2∧s.2.2.2.Nodup∧(∀y∈s.2.2.2,G2 y=none)) (fun s=>m - s.1)
    ⟨⟨by simp,g6,fun y bb hy _=>hy,GAt.nil _,by simp,by simp⟩,.refl _,Heap.le_refl _⟩ ?_
  rintro ⟨k,x,G,D⟩ ⟨hk,k6,kold,kg,knd,kfr⟩
  dsimp only at hk k6 kold kg knd kfr
  have nr6:r≠r6:=ne g1r hr6
  have nr16:r1≠r6:=ne g1r1 hr6
  have nr26:r2≠r6:=ne g1r2 hr6
  have nq16:q1≠r6:=ne g1q hr6
  have kr:=kold _ _ gr2' nr6
  have kr1:=kold _ _ gr12' nr16
  have kr2:=kold _ _ gr22' nr26
  have kq1:=kold _ _ gq1 nq16
  have kq:=kold _ _ gq hq6
  have n6D:r6∉D:=fun hm=>by have:=kfr _ hm;rw [g6] at this;cases this
  (try simp (maxSteps:=1000000) (disch:=first | assumption | (apply ν6;assumption)) only [vz,vu,vv,eqS,eF_,↓c1_,↓c2_,tabs,reduceCtorEq,ι5,↓reduceIte,ν1,ν2,ν3,ν4,ν5,ι1,ι2,ι3,ι4,B7_1])
  refine ⟨fun h1=>?_,fun h1=>?_⟩
  · have hkm:k < m:=by omega
    have sa1:=goalAt_sm fa k
    have sb1:=goalAt_sm fb k
    (try simp (maxSteps:=1000000) (disch:=first | assumption | (apply ν6;assumption)) only [vz,vu,vv,eqS,eF_,↓c1_,↓c2_,tabs,reduceCtorEq,ι5,↓reduceIte,ν1,ν2,ν3,ν4,ν5,ι1,ι2,ι3,ι4,load_at k6,load_at kr,load_at kr1])
    refine Pu.use (goalOf_spec a k (by omega) (by omega)) ?_
    (try simp (maxSteps:=1000000) (disch:=first | assumption | (apply ν6;assumption)) only [vz,vu,vv,eqS,eF_,↓c1_,↓c2_,tabs,reduceCtorEq,ι5,↓reduceIte,ν1,ν2,ν3,ν4,ν5,ι1,ι2,ι3,ι4,load_at k6,load_at kr,load_at kr1])
    refine Pu.use (goalOf_spec b k (by omega) (by omega)) ?_
    (try simp (maxSteps:=1000000) (disch:=first | assumption | (apply ν6;assumption)) only [vz,vu,vv,eqS,eF_,↓c1_,↓c2_,tabs,reduceCtorEq,ι5,↓reduceIte,ν1,ν2,ν3,ν4,ν5,ι1,ι2,ι3,ι4,load_at k6,load_at kr,load_at kr1])
    refine Pu.use (moved_spec (goalAt b k) a.states sb1.1 (by omega)) ?_
    (try simp (maxSteps:=1000000) (disch:=first | assumption | (apply ν6;assumption)) only [vz,vu,vv,eqS,eF_,↓c1_,↓c2_,tabs,reduceCtorEq,ι5,↓reduceIte,ν1,ν2,ν3,ν4,ν5,ι1,ι2,ι3,ι4,load_at k6,load_at kr,load_at kr1])
    refine lit2 tab_26 rfl tab_24 ⟨rfl,rfl⟩ ?_
    (try simp (maxSteps:=1000000) (disch:=first | assumption | (apply ν6;assumption)) only [vz,vu,vv,eqS,eF_,↓c1_,↓c2_,tabs,reduceCtorEq,ι5,↓reduceIte,ν1,ν2,ν3,ν4,ν5,ι1,ι2,ι3,ι4,load_at k6,load_at kr,load_at kr1])
    refine ConcatI_spec [goalAt a k,mv (goalAt b k) a.states] (by simp [mv_len];omega) (by simp) fun qn hqn=>?_
    have eg:[goalAt a k,mv (goalAt b k) a.states].flatten=eiG a b k:=by simp [eiG]
    rw [eg]
    have leN:=Heap.le_set (b:=cP fI (eiG a b k)) hqn
    have k6n:=leN _ _ k6
    have kqn:(G.set qn (cP fI (eiG a b k))) qn=some (cP fI (eiG a b k)):=Heap.set_same _ _ _
    have kgn:=kg.local fun y _ bb hb=>leN y bb hb
    have hqnG2:G2 qn=none:=by
      cases hh:G2 qn with
      | none=>rfl
      | some bb=>
        by_cases e:qn=r6
        · rw [e,k6] at hqn;cases hqn
        · rw [kold _ _ hh e] at hqn;cases hqn
    have kDn:∀y∈D,y≠qn:=fun y hy e=>by
      obtain ⟨cs,D',hll,h2⟩:=kg
      rcases h2 with ⟨_,_,rfl⟩ | ⟨qg,_,hqg,rfl⟩
      · cases hy
      · rcases List.mem_cons.1 hy with rfl | hy
        · rw [e,hqn] at hqg;cases hqg
        · exact LL.has LIc.has hll y hy (by rw [e];exact hqn)
    have koldN:∀y bb,G2 y=some bb→y≠r6→(G.set qn (cP fI (eiG a b k))) y=some bb:=fun y bb hy h6=>leN _ _ (kold y bb hy h6)
    generalize G.set qn (cP fI (eiG a b k))=Gn at k6n kqn kgn koldN ⊢
    (try simp (maxSteps:=1000000) (disch:=first | assumption | (apply ν6;assumption)) only [vz,vu,vv,eqS,eF_,↓c1_,↓c2_,tabs,reduceCtorEq,ι5,↓reduceIte,ν1,ν2,ν3,ν4,ν5,ι1,ι2,ι3,ι4,load_at k6n])
    refine lit_live1 fun ql hql=>?_
    have leL:=Heap.le_set (b:=[AV.sl qn 1 0 (eiG a b k).length]) hql
    have k6l:=leL _ _ k6n
    (try simp (maxSteps:=1000000) (disch:=first | assumption | (apply ν6;assumption)) only [vz,vu,vv,eqS,eF_,↓c1_,↓c2_,tabs,reduceCtorEq,ι5,↓reduceIte,ν1,ν2,ν3,ν4,ν5,ι1,ι2,ι3,ι4,load_at k6l])
    refine GAt.push (l:=eiG a b k) (kgn.local fun y _ bb hb=>leL y bb hb) knd (leL _ _ kqn) (fun hm=>kDn _ hm rfl) (Heap.set_same _ _ _) (by rw [eiGs_len];omega) fun q' G' D'' hq' kg' knd' kD' kold'=>?_
    have koldL:∀y bb,G2 y=some bb→y≠r6→(Gn.set ql [AV.sl qn 1 0 (eiG a b k).length]) y=some bb:=fun y bb hy h6=>leL _ _ (koldN y bb hy h6)
    have k6':=kold' _ _ k6l n6D
    rw [eiGs_len,← eiGs_succ] at kg'
    rw [eiGs_len]
    have fr'':∀y∈D'',G2 y=none:=fun y hy=>by
      rcases kD' y hy with h | rfl | rfl
      · exact kfr y h
      · exact hqnG2
      · cases hh:G2 y with
        | none=>rfl
        | some bb=>
          by_cases e:y=r6
          · rw [e,k6l] at hq';cases hq'
          · rw [koldL _ _ hh e] at hq';cases hq'
    have n6'':r6∉D'':=fun hm=>by have:=fr'' _ hm;rw [g6] at this;cases this
    (try simp (maxSteps:=1000000) (disch:=first | assumption | (apply ν6;assumption)) only [vz,vu,vv,eqS,eF_,↓c1_,↓c2_,tabs,reduceCtorEq,ι5,↓reduceIte,ν1,ν2,ν3,ν4,ν5,ι1,ι2,ι3,ι4,store_at k6'])
    refine ⟨(k+1,.sl q' 1 0 (k+1),G'.set r6 [I (a.states+b.states),rowP q1 (eiF a b),rowE q (eiE a b b.edges.length),.sl q' 1 0 (k+1)],D''),⟨by simp only;omega,Heap.set_same _ _ _,fun y bb hy h6=>?_,kg'.local fun y hy bb hb=>?_,knd',fr''⟩,by simp only;omega,?_,Heap.le_refl _⟩
    · simp only
      rw [Heap.set_other h6]
      exact kold' _ _ (koldL _ _ hy h6) (fun hm=>by rw [kfr y hm] at hy;cases hy)
    · simp only
      rw [Heap.set_other (fun e=>n6'' (by rw [← e];exact hy))];exact hb
    · rw [wk_int,i64_id (by omega) (by omega)];simp
  · have hkm:k=m:=by omega
    subst hkm
    have efs:(eiT a b)=⟨a.states+b.states,eiF a b,eiE a b b.edges.length,eiGs a b k⟩:=by rw [eiT,hmm]
    obtain ⟨x',Dg,hx',hg',hnd',hfr',hxw⟩:∃x' Dg,LII (eiGs a b k) x' G Dg∧(∀y∈Dg,H y=none)∧Dg.Nodup∧(q1∉Dg∧q∉Dg∧r2∉Dg)∧AV.wk x x':=by
      obtain ⟨cs,D',hll,h2⟩:=kg
      have hH:∀{y},G2 y=none→H y=none:=fun hy=>hB (hB0 (hB1 (hB2 hy)))
      rcases h2 with ⟨rfl,rfl,rfl⟩ | ⟨qg,rfl,hqg,rfl⟩
      · have hk0:k=0:=by have:=LL.size LIc.size hll;rw [eiGs_len] at this;simpa using this.symm
        subst hk0
        have hz3':=hle _ _ (le1 _ _ (le0 _ _ e1))
        have hz36:z3≠r6:=ne (le1 _ _ (le0 _ _ e1)) hr6
        refine ⟨.sl z3 1 0 0,[z3],⟨z3,[],[],rfl,kold _ _ hz3' hz36,⟨rfl,rfl⟩,rfl⟩,fun y hy=>by rw [List.mem_singleton] at hy;rw [hy];exact hz3,by simp,⟨?_,?_,?_⟩,.nilo _ _ _⟩
        · rw [List.mem_singleton];exact Ne.symm (ne (le0 _ _ e1) hq1)
        · rw [List.mem_singleton];exact Ne.symm (ne (le1 _ _ (le0 _ _ e1)) hq)
        · rw [List.mem_singleton];rintro rfl;rw [e1] at hr2;cases hr2
      · refine ⟨_,_,⟨qg,cs,D',rfl,hqg,hll,rfl⟩,fun y hy=>hH (kfr y hy),knd,⟨?_,?_,?_⟩,.refl _⟩
        · intro hm;have:=kfr _ hm;rw [gq1] at this;cases this
        · intro hm;have:=kfr _ hm;rw [gq] at this;cases this
        · intro hm;have:=kfr _ hm;rw [gr22'] at this;cases this
    have nq1q:q1≠q:=ne g1q hq
    have hL:LAu (eiT a b) (.agg [I (a.states+b.states),rowP q1 (eiF a b),rowE q (eiE a b b.edges.length),x']) G ([q1]++([q]++Dg)):=by
      rw [efs]
      exact ⟨_,_,_,[q1],[q],Dg,rfl,rfl,LI_mk' kq1,LE_mk kq,hx'⟩
    have hN:([q1]++([q]++Dg)).Nodup:=by
      rw [List.singleton_append,List.singleton_append,List.nodup_cons,List.nodup_cons]
      exact ⟨by rw [List.mem_cons,not_or];exact ⟨nq1q,hfr'.1⟩,hfr'.2.1,hnd'⟩
    have hle3:Heap.le H3 G:=fun y bb hy=>kold _ _ (hle _ _ (le1 _ _ (le0 _ _ hy))) (ne (le1 _ _ (le0 _ _ hy)) hr6)
    have hleH:Heap.le H G:=Heap.le_trans leB hle3
    have hFr:∀y∈[q1]++([q]++Dg),H y=none:=fun y hy=>by
      simp only [List.mem_append,List.mem_singleton] at hy
      rcases hy with rfl | rfl | hy
      · exact hB (hB0 hq1)
      · exact hB (hB0 (hB1 hq))
      · exact hg' y hy
    (try simp (maxSteps:=1000000) (disch:=first | assumption | (apply ν6;assumption)) only [vz,vu,vv,eqS,eF_,↓c1_,↓c2_,tabs,reduceCtorEq,ι5,↓reduceIte,ν1,ν2,ν3,ν4,ν5,ι1,ι2,ι3,ι4,load_at k6])
    refine CallT.args (args':=[.agg [I (a.states+b.states),rowP q1 (eiF a b),rowE q (eiE a b b.edges.length),x']]) ?_ ⟨wk_agg ⟨.refl _,.refl _,.refl _,hxw,trivial⟩,trivial⟩
    obtain ⟨qx,rfl⟩:=LRow.sl hx'
    refine checkedAuto_live hL hN (eiT_sm fa fb) (fun hgo=>?_) (fun hgo=>?_)
    · have er:eiR a b=(eiT a b,true):=by simp only [eiR,ga,gb,hgo,Bool.and_self,if_true]
      rw [er] at h
      (try simp (maxSteps:=1000000) (disch:=first | assumption | (apply ν6;assumption)) only [vz,vu,vv,eqS,eF_,↓c1_,↓c2_,tabs,reduceCtorEq,ι5,↓reduceIte,ν1,ν2,ν3,ν4,ν5,ι1,ι2,ι3,ι4,store_at kr2])
      refine wkK.keep (h _ _ _ (hL.local fun y hy bb hb=>?_) ⟨hN,hFr,?_⟩)
      · rw [Heap.set_other];· exact hb
        rintro rfl
        simp only [List.mem_append,List.mem_singleton] at hy
        rcases hy with h5 | h5 | h5
        · exact ne gr2 hq1 h5
        · exact ne g1r2 hq h5
        · exact hfr'.2.2 h5
      · exact Heap.le_setN hleH hHr2
    · have er:eiR a b=(zeroA,false):=by simp only [eiR,ga,gb,hgo,Bool.and_false,Bool.false_eq_true,if_false]
      (try simp (maxSteps:=1000000) (disch:=first | assumption | (apply ν6;assumption)) only [vz,vu,vv,eqS,eF_,↓c1_,↓c2_,tabs,reduceCtorEq,ι5,↓reduceIte,ν1,ν2,ν3,ν4,ν5,ι1,ι2,ι3,ι4,store_at kr2])
      exact zl _ (Heap.le_setN hle3 hr2) (by rw [er] at h;exact h)
theorem Either_ref (a b:Au) (sa:smAu a) (sb:smAu b) {H:Heap} {K:AV→Heap→Prop} (h:∀v G D,LAu (eiR a b).1 v G D→New H G D→K (.tup [v,B (eiR a b).2]) G):CallT Try.prog 8 [aAu a,aAu b] H K:=by
  refine CallT.fin ?_
  refine CallT.ghost W8_hb fun z1 hz1=>?_
  refine CallT.ghost W8_hb fun z2 hz2=>?_
  refine CallT.ghost W8_hb fun z3 hz3=>?_
  rw [Heap.set_none] at hz2
  rw [Heap.set_none,Heap.set_none] at hz3
  obtain ⟨n21,hz2⟩:=hz2
  obtain ⟨n32,n31,hz3⟩:=hz3
  have zl:=fun (G:Heap) (hle:Heap.le (((H.set z1 []).set z2 []).set z3 []) G) (h:∀v G D,LAu zeroA v G D→New H G D→K (.tup [v,B false]) G)=>zero_live hz1 hz2 hz3 n21 n31 n32 hle h
  have e1:(((H.set z1 []).set z2 []).set z3 []) z3=some []:=Heap.set_same _ _ _
  have hB:∀{y},(((H.set z1 []).set z2 []).set z3 []) y=none→H y=none:=fun hy=>by
    simp only [Heap.set_none] at hy;exact hy.2.2.2
  have leB:Heap.le H (((H.set z1 []).set z2 []).set z3 []):=Heap.le_setN (Heap.le_setN (Heap.le_set hz1) hz2) hz3
  generalize (((H.set z1 []).set z2 []).set z3 [])=H3 at zl e1 hB leB ⊢
  refine W8_ok ?_;simp (maxSteps:=1000000) (disch:=first | assumption | (apply ν6;assumption)) only [W8,vz,vu,vv,eqS,eF_,↓c1_,↓c2_,tabs,reduceCtorEq,ι5,↓reduceIte,ν1,ν2,ν3,ν4,ν5,ι1,ι2,ι3,ι4]
  intro r hr r1 nr1 hr1 r2 nr21 nr2 hr2
  have gr:(((H3.set r [I a.states,Is a.first,Es a.edges,Ls a.goals]).set r1 [I b.states,Is b.first,Es b.edges,Ls b.goals]).set r2 [I 0,.p .nil,.p .nil,.p .nil]) r=some [I a.states,Is a.first,Es a.edges,Ls a.goals]:=by rw [Heap.set_other (Ne.symm nr2),Heap.set_other (Ne.symm nr1),Heap.set_same]
  have gr1:(((H3.set r [I a.states,Is a.first,Es a.edges,Ls a.goals]).set r1 [I b.states,Is b.first,Es b.edges,Ls b.goals]).set r2 [I 0,.p .nil,.p .nil,.p .nil]) r1=some [I b.states,Is b.first,Es b.edges,Ls b.goals]:=by rw [Heap.set_other (Ne.symm nr21),Heap.set_same]
  have gr2:(((H3.set r [I a.states,Is a.first,Es a.edges,Ls a.goals]).set r1 [I b.states,Is b.first,Es b.edges,Ls b.goals]).set r2 [I 0,.p .nil,.p .nil,.p .nil]) r2=some [I 0,.p .nil,.p .nil,.p .nil]:=Heap.set_same _ _ _
  have le0:Heap.le H3 (((H3.set r [I a.states,Is a.first,Es a.edges,Ls a.goals]).set r1 [I b.states,Is b.first,Es b.edges,Ls b.goals]).set r2 [I 0,.p .nil,.p .nil,.p .nil]):=Heap.le_setN (Heap.le_setN (Heap.le_set hr) hr1) hr2
  have hB0:∀{y},(((H3.set r [I a.states,Is a.first,Es a.edges,Ls a.goals]).set r1 [I b.states,Is b.first,Es b.edges,Ls b.goals]).set r2 [I 0,.p .nil,.p .nil,.p .nil]) y=none→H3 y=none:=fun hy=>by
    simp only [Heap.set_none] at hy;exact hy.2.2.2
  have hHr2:H r2=none:=hB hr2
  generalize (((H3.set r [I a.states,Is a.first,Es a.edges,Ls a.goals]).set r1 [I b.states,Is b.first,Es b.edges,Ls b.goals]).set r2 [I 0,.p .nil,.p .nil,.p .nil])=G0 at gr gr1 gr2 le0 hB0 ⊢
  have bad:∀{G},Heap.le G0 G→eiR a b=(zeroA,false)→wkK K (.tup [zA,B false]) G:=fun hle e=>zl _ (Heap.le_trans le0 hle) (by rw [e] at h;exact h)
  have ne:∀{G:Heap} {y c q},G y=some c→G q=none→y≠q:=fun h1 h2 e=>by rw [e,h2] at h1;cases h1
  have setid:G0.set r2 [I 0,.p .nil,.p .nil,.p .nil]=G0:=by
    funext y
    by_cases e:y=r2
    · subst e;rw [Heap.set_same,gr2]
    · rw [Heap.set_other e]
  (try simp (maxSteps:=1000000) (disch:=first | assumption | (apply ν6;assumption)) only [vz,vu,vv,eqS,eF_,↓c1_,↓c2_,tabs,reduceCtorEq,ι5,↓reduceIte,ν1,ν2,ν3,ν4,ν5,ι1,ι2,ι3,ι4,load_at gr])
  refine Pu.use (GoodAuto_spec a sa) ?_
  cases ga:goodA a
  · (try simp (maxSteps:=1000000) (disch:=first | assumption | (apply ν6;assumption)) only [vz,vu,vv,eqS,eF_,↓c1_,↓c2_,tabs,reduceCtorEq,ι5,↓reduceIte,ν1,ν2,ν3,ν4,ν5,ι1,ι2,ι3,ι4,store_at gr2])
    rw [setid]
    (try simp (maxSteps:=1000000) (disch:=first | assumption | (apply ν6;assumption)) only [vz,vu,vv,eqS,eF_,↓c1_,↓c2_,tabs,reduceCtorEq,ι5,↓reduceIte,ν1,ν2,ν3,ν4,ν5,ι1,ι2,ι3,ι4,load_at gr2])
    exact bad (Heap.le_refl _) (by simp only [eiR,ga,Bool.false_and,Bool.false_eq_true,if_false])
  (try simp (maxSteps:=1000000) (disch:=first | assumption | (apply ν6;assumption)) only [vz,vu,vv,eqS,eF_,↓c1_,↓c2_,tabs,reduceCtorEq,ι5,↓reduceIte,ν1,ν2,ν3,ν4,ν5,ι1,ι2,ι3,ι4,load_at gr1])
  refine Pu.use (GoodAuto_spec b sb) ?_
  cases gb:goodA b
  · (try simp (maxSteps:=1000000) (disch:=first | assumption | (apply ν6;assumption)) only [vz,vu,vv,eqS,eF_,↓c1_,↓c2_,tabs,reduceCtorEq,ι5,↓reduceIte,ν1,ν2,ν3,ν4,ν5,ι1,ι2,ι3,ι4,store_at gr2])
    rw [setid]
    (try simp (maxSteps:=1000000) (disch:=first | assumption | (apply ν6;assumption)) only [vz,vu,vv,eqS,eF_,↓c1_,↓c2_,tabs,reduceCtorEq,ι5,↓reduceIte,ν1,ν2,ν3,ν4,ν5,ι1,ι2,ι3,ι4,load_at gr2])
    exact bad (Heap.le_refl _) (by simp only [eiR,gb,Bool.and_false,Bool.false_and,Bool.false_eq_true,if_false])
  have fa:=good_facts ga
  have fb:=good_facts gb
  have sta:=fa.st
  have stb:=fb.st
  have hed:=fa.ed
  have hed2:=fb.ed
  have hfi:=fa.fi.2
  have hfi2:=fb.fi.2
  have es:IntKind.i64.wrap (a.states+b.states)=a.states+b.states:=i64_id (by omega) (by omega)
  have n0:buildN tab 25 0 []=some (fun r=>.sl r 3 0 0,[]):=by
    simp only [buildN,tab_25,tab_46,ifN,fillV,zerosA]
    rfl
  (try simp (maxSteps:=1000000) (disch:=first | assumption | (apply ν6;assumption)) only [vz,vu,vv,eqS,eF_,↓c1_,↓c2_,tabs,reduceCtorEq,ι5,↓reduceIte,ν1,ν2,ν3,ν4,ν5,ι1,ι2,ι3,ι4,load_at gr,load_at gr1,es,n0,safeV_some,newV_some])
  refine l12Behind_row a.first b.first a.states fa.fi.1 fb.fi.1 (by omega) fun q1 hq1=>?_
  have efl:a.first++mv b.first a.states=eiF a b:=rfl
  rw [efl]
  have le1:Heap.le G0 (G0.set q1 (cP fI (eiF a b))):=Heap.le_set hq1
  have g1r:=le1 _ _ gr
  have g1r1:=le1 _ _ gr1
  have g1r2:=le1 _ _ gr2
  have g1q:(G0.set q1 (cP fI (eiF a b))) q1=some (cP fI (eiF a b)):=Heap.set_same _ _ _
  have hB1:∀{y},(G0.set q1 (cP fI (eiF a b))) y=none→G0 y=none:=fun hy=>by
    rw [Heap.set_none] at hy;exact hy.2
  generalize G0.set q1 (cP fI (eiF a b))=G1 at g1r g1r1 g1r2 g1q le1 hB1 ⊢
  (try simp (maxSteps:=1000000) (disch:=first | assumption | (apply ν6;assumption)) only [vz,vu,vv,eqS,eF_,↓c1_,↓c2_,tabs,reduceCtorEq,ι5,↓reduceIte,ν1,ν2,ν3,ν4,ν5,ι1,ι2,ι3,ι4,load_at g1r,load_at g1r1])
  intro q0 hq0
  have nrq0:r≠q0:=ne g1r hq0
  have nr1q0:r1≠q0:=ne g1r1 hq0
  have nrq0':q0≠r:=Ne.symm nrq0
  have nr1q0':q0≠r1:=Ne.symm nr1q0
  (try simp (maxSteps:=1000000) (disch:=first | assumption | (apply ν6;assumption)) only [vz,vu,vv,eqS,eF_,↓c1_,↓c2_,tabs,reduceCtorEq,ι5,↓reduceIte,ν1,ν2,ν3,ν4,ν5,ι1,ι2,ι3,ι4,load_at g1r,load_at g1r1])
  refine app_topE (xs:=[]) (ys:=a.edges) hq0 (by simp only [List.length_nil];omega) fun qe hqe=>?_
  rw [List.nil_append]
  have nrqe:r≠qe:=ne g1r hqe
  have nr1qe:r1≠qe:=ne g1r1 hqe
  (try simp (maxSteps:=1000000) (disch:=first | assumption | (apply ν6;assumption)) only [vz,vu,vv,eqS,eF_,↓c1_,↓c2_,tabs,reduceCtorEq,ι5,↓reduceIte,ν1,ν2,ν3,ν4,ν5,ι1,ι2,ι3,ι4,load_at g1r,load_at g1r1])
  intro r6 hr6e hr6
  have n16:r1≠r6:=ne g1r1 hr6
  have n1e:r1≠qe:=ne g1r1 hqe
  (try simp (maxSteps:=1000000) (disch:=first | assumption | (apply ν6;assumption)) only [vz,vu,vv,eqS,eF_,↓c1_,↓c2_,tabs,reduceCtorEq,ι5,↓reduceIte,ν1,ν2,ν3,ν4,ν5,ι1,ι2,ι3,ι4,load_at g1r1])
  have les:∀i,(eiE a b i).length≤5000:=fun i=>by
    simp only [eiE,List.length_append,mvE_len,List.length_take];omega
  refine L8_0_rule ((0:Nat),qe) (fun s=>I s.1) (fun s=>(G1.set s.2 (cE (eiE a b s.1))).set r6 [I (a.states+b.states),rowP q1 (eiF a b),rowE s.2 (eiE a b s.1),.p .nil])
    (fun s=>s.1≤b.edges.length∧G1 s.2=none∧s.2≠r6) (fun s=>b.edges.length - s.1) ⟨⟨by simp,hqe,Ne.symm hr6e⟩,.refl _,?_⟩ ?_
  · simp only [eiE_zero]
    exact Heap.le_refl _
  rintro ⟨i,q⟩ ⟨hi,hq,hq6⟩
  dsimp only at hi hq hq6
  have hle:Heap.le G1 ((G1.set q (cE (eiE a b i))).set r6 [I (a.states+b.states),rowP q1 (eiF a b),rowE q (eiE a b i),.p .nil]):=Heap.le_setN (Heap.le_set hq) hr6
  have g6:((G1.set q (cE (eiE a b i))).set r6 [I (a.states+b.states),rowP q1 (eiF a b),rowE q (eiE a b i),.p .nil]) r6=some [I (a.states+b.states),rowP q1 (eiF a b),rowE q (eiE a b i),.p .nil]:=Heap.set_same _ _ _
  have gq:((G1.set q (cE (eiE a b i))).set r6 [I (a.states+b.states),rowP q1 (eiF a b),rowE q (eiE a b i),.p .nil]) q=some (cE (eiE a b i)):=by rw [Heap.set_other hq6,Heap.set_same]
  have hB2:∀{y},((G1.set q (cE (eiE a b i))).set r6 [I (a.states+b.states),rowP q1 (eiF a b),rowE q (eiE a b i),.p .nil]) y=none→G1 y=none:=fun hy=>by
    simp only [Heap.set_none] at hy;exact hy.2.2
  have hli:=les i
  generalize (G1.set q (cE (eiE a b i))).set r6 [I (a.states+b.states),rowP q1 (eiF a b),rowE q (eiE a b i),.p .nil]=G2 at hle g6 gq hB2 ⊢
  have gr2':=hle _ _ g1r
  have gr12':=hle _ _ g1r1
  have gr22':=hle _ _ g1r2
  have gq1:=hle _ _ g1q
  (try simp (maxSteps:=1000000) (disch:=first | assumption | (apply ν6;assumption)) only [vz,vu,vv,eqS,eF_,↓c1_,↓c2_,tabs,reduceCtorEq,ι5,↓reduceIte,ν1,ν2,ν3,ν4,ν5,ι1,ι2,ι3,ι4,B8_0])
  refine ⟨fun h1=>⟨by omega,h1,?_⟩,fun h1=>?_⟩
  · have hlt:i < b.edges.length:=by omega
    have hm:b.edges.getD i default∈b.edges:=getD_all (p:=fun x=>x∈b.edges) (fun _ h=>h) hlt
    have hei:=edIn_iff.1 (fb.ei _ hm)
    have hsucc:eiE a b (i+1)=eiE a b i++[⟨(b.edges.getD i default).src+a.states,(b.edges.getD i default).lt,(b.edges.getD i default).dst+a.states⟩]:=eiE_succ a b hlt
    generalize b.edges.getD i default=x at hei hsucc ⊢
    intro r8 hr8
    have x1:IntKind.i64.wrap (x.src+a.states)=x.src+a.states:=i64_id (by omega) (by omega)
    have x2:IntKind.i64.wrap (x.dst+a.states)=x.dst+a.states:=i64_id (by omega) (by omega)
    have le8:=Heap.le_set (b:=[I x.src,I x.lt,I x.dst]) hr8
    have g68:=le8 _ _ g6
    have gr8:=le8 _ _ gr2'
    have g88:(G2.set r8 [I x.src,I x.lt,I x.dst]) r8=some [I x.src,I x.lt,I x.dst]:=Heap.set_same _ _ _
    have gq8:=le8 _ _ gq
    have hle8:=Heap.le_trans hle le8
    have hB8:∀{y},(G2.set r8 [I x.src,I x.lt,I x.dst]) y=none→G1 y=none:=fun hy=>by
      rw [Heap.set_none] at hy;exact hB2 hy.2
    (try simp (maxSteps:=1000000) (disch:=first | assumption | (apply ν6;assumption)) only [vz,vu,vv,eqS,eF_,↓c1_,↓c2_,tabs,reduceCtorEq,ι5,↓reduceIte,ν1,ν2,ν3,ν4,ν5,ι1,ι2,ι3,ι4,load_at g68,load_at gr8,load_at g88,x1,x2])
    generalize G2.set r8 [I x.src,I x.lt,I x.dst]=G3 at g68 gr8 g88 gq8 hle8 hB8 ⊢
    refine lit_edge (x:=⟨x.src+a.states,x.lt,x.dst+a.states⟩) ?_
    refine app_edges gq8 (by simp only [List.length_cons,List.length_nil];omega) fun q' hq' hne=>?_
    rw [← hsucc]
    have h6':((G3.del q).set q' (cE (eiE a b (i+1)))) r6=some [I (a.states+b.states),rowP q1 (eiF a b),rowE q (eiE a b i),.p .nil]:=by
      rw [Heap.set_other (ne g68 hq'),Heap.del_other (Ne.symm hq6)];exact g68
    (try simp (maxSteps:=1000000) (disch:=first | assumption | (apply ν6;assumption)) only [vz,vu,vv,eqS,eF_,↓c1_,↓c2_,tabs,reduceCtorEq,ι5,↓reduceIte,ν1,ν2,ν3,ν4,ν5,ι1,ι2,ι3,ι4,store_at h6'])
    refine ⟨(i+1,q'),⟨by simp only;omega,hB8 hq',Ne.symm (ne g68 hq')⟩,by simp only;omega,?_,?_⟩
    · rw [wk_int,i64_id (by omega) (by omega)];simp
    · simp only
      generalize [I (a.states+b.states),rowP q1 (eiF a b),rowE q' (eiE a b (i+1)),.p .nil]=z6
      generalize cE (eiE a b (i+1))=z
      intro y bb hbb
      by_cases y6:y=r6
      · subst y6;rw [Heap.set_same] at hbb ⊢;exact hbb
      rw [Heap.set_other y6] at hbb ⊢
      by_cases yq:y=q'
      · subst yq;rw [Heap.set_same] at hbb ⊢;exact hbb
      rw [Heap.set_other yq] at hbb ⊢
      rw [Heap.del_other (fun e=>by rw [e,hq] at hbb;cases hbb)]
      exact hle8 y bb hbb
  have hil:i=b.edges.length:=by omega
  subst hil
  (try simp (maxSteps:=1000000) (disch:=first | assumption | (apply ν6;assumption)) only [vz,vu,vv,eqS,eF_,↓c1_,↓c2_,tabs,reduceCtorEq,ι5,↓reduceIte,ν1,ν2,ν3,ν4,ν5,ι1,ι2,ι3,ι4,load_at gr2',load_at gr12'])
  have hgl:=fa.gl
  have hgl2:=fb.gl
  have hm6:max a.goals.length b.goals.length≤6:=by omega
  generalize hmm:max a.goals.length b.goals.length=m at hm6
  have ffs:=les b.edges.length
  refine L8_1_rule ((0:Nat),(.p .nil:AV),G2,([]:List Nat)) (fun s=>I s.1) (fun s=>s.2.2.1)
    (fun s=>s.1≤m∧s.2.2.1 r6=some [I (a.states+b.states),rowP q1 (eiF a b),rowE q (eiE a b b.edges.length),s.2.1]∧(∀y bb,G2 y=some bb→y≠r6→s.2.2.1 y=some bb)∧GAt s.2.1 (eiGs a b s.1) s.2.2.1 s.2.2.2∧s.2.2.2.Nodup∧(∀y∈s.2.2.2,G2 y=none)) (fun s=>m - s.1)
    ⟨⟨by simp,g6,fun y bb hy _=>hy,GAt.nil _,by simp,by simp⟩,.refl _,Heap.le_refl _⟩ ?_
  rintro ⟨k,x,G,D⟩ ⟨hk,k6,kold,kg,knd,kfr⟩
  dsimp only at hk k6 kold kg knd kfr
  have nr6:r≠r6:=ne g1r hr6
  have nr16:r1≠r6:=ne g1r1 hr6
  have nr26:r2≠r6:=ne g1r2 hr6
  have nq16:q1≠r6:=ne g1q hr6
  have kr:=kold _ _ gr2' nr6
  have kr1:=kold _ _ gr12' nr16
  have kr2:=kold _ _ gr22' nr26
  have kq1:=kold _ _ gq1 nq16
  have kq:=kold _ _ gq hq6
  have n6D:r6∉D:=fun hm=>by have:=kfr _ hm;rw [g6] at this;cases this
  (try simp (maxSteps:=1000000) (disch:=first | assumption | (apply ν6;assumption)) only [vz,vu,vv,eqS,eF_,↓c1_,↓c2_,tabs,reduceCtorEq,ι5,↓reduceIte,ν1,ν2,ν3,ν4,ν5,ι1,ι2,ι3,ι4,B8_1,load_at kr,load_at kr1])
  by_cases hkm:k < m
  · refine or2 (by omega) ?_
    (try simp (maxSteps:=1000000) (disch:=first | assumption | (apply ν6;assumption)) only [vz,vu,vv,eqS,eF_,↓c1_,↓c2_,tabs,reduceCtorEq,ι5,↓reduceIte,ν1,ν2,ν3,ν4,ν5,ι1,ι2,ι3,ι4,J8_2])
    have sa1:=goalAt_sm fa k
    have sb1:=goalAt_sm fb k
    (try simp (maxSteps:=1000000) (disch:=first | assumption | (apply ν6;assumption)) only [vz,vu,vv,eqS,eF_,↓c1_,↓c2_,tabs,reduceCtorEq,ι5,↓reduceIte,ν1,ν2,ν3,ν4,ν5,ι1,ι2,ι3,ι4,load_at k6,load_at kr,load_at kr1])
    refine Pu.use (l12Goal_spec a k (by omega) (by omega)) ?_
    (try simp (maxSteps:=1000000) (disch:=first | assumption | (apply ν6;assumption)) only [vz,vu,vv,eqS,eF_,↓c1_,↓c2_,tabs,reduceCtorEq,ι5,↓reduceIte,ν1,ν2,ν3,ν4,ν5,ι1,ι2,ι3,ι4,load_at k6,load_at kr,load_at kr1])
    refine Pu.use (l12Goal_spec b k (by omega) (by omega)) ?_
    (try simp (maxSteps:=1000000) (disch:=first | assumption | (apply ν6;assumption)) only [vz,vu,vv,eqS,eF_,↓c1_,↓c2_,tabs,reduceCtorEq,ι5,↓reduceIte,ν1,ν2,ν3,ν4,ν5,ι1,ι2,ι3,ι4,load_at k6,load_at kr,load_at kr1])
    refine l12Behind_row (goalAt a k) (goalAt b k) a.states sa1.1 sb1.1 (by omega) fun qn hqn=>?_
    have eg:goalAt a k++mv (goalAt b k) a.states=eiG a b k:=rfl
    rw [eg]
    have leN:=Heap.le_set (b:=cP fI (eiG a b k)) hqn
    have k6n:=leN _ _ k6
    have kqn:(G.set qn (cP fI (eiG a b k))) qn=some (cP fI (eiG a b k)):=Heap.set_same _ _ _
    have kgn:=kg.local fun y _ bb hb=>leN y bb hb
    have hqnG2:G2 qn=none:=by
      cases hh:G2 qn with
      | none=>rfl
      | some bb=>
        by_cases e:qn=r6
        · rw [e,k6] at hqn;cases hqn
        · rw [kold _ _ hh e] at hqn;cases hqn
    have kDn:∀y∈D,y≠qn:=fun y hy e=>by
      obtain ⟨cs,D',hll,h2⟩:=kg
      rcases h2 with ⟨_,_,rfl⟩ | ⟨qg,_,hqg,rfl⟩
      · cases hy
      · rcases List.mem_cons.1 hy with rfl | hy
        · rw [e,hqn] at hqg;cases hqg
        · exact LL.has LIc.has hll y hy (by rw [e];exact hqn)
    have koldN:∀y bb,G2 y=some bb→y≠r6→(G.set qn (cP fI (eiG a b k))) y=some bb:=fun y bb hy h6=>leN _ _ (kold y bb hy h6)
    generalize G.set qn (cP fI (eiG a b k))=Gn at k6n kqn kgn koldN ⊢
    (try simp (maxSteps:=1000000) (disch:=first | assumption | (apply ν6;assumption)) only [vz,vu,vv,eqS,eF_,↓c1_,↓c2_,tabs,reduceCtorEq,ι5,↓reduceIte,ν1,ν2,ν3,ν4,ν5,ι1,ι2,ι3,ι4,load_at k6n])
    refine lit_live1 fun ql hql=>?_
    have leL:=Heap.le_set (b:=[AV.sl qn 1 0 (eiG a b k).length]) hql
    have k6l:=leL _ _ k6n
    (try simp (maxSteps:=1000000) (disch:=first | assumption | (apply ν6;assumption)) only [vz,vu,vv,eqS,eF_,↓c1_,↓c2_,tabs,reduceCtorEq,ι5,↓reduceIte,ν1,ν2,ν3,ν4,ν5,ι1,ι2,ι3,ι4,load_at k6l])
    refine GAt.push (l:=eiG a b k) (kgn.local fun y _ bb hb=>leL y bb hb) knd (leL _ _ kqn) (fun hm=>kDn _ hm rfl) (Heap.set_same _ _ _) (by rw [eiGs_len];omega) fun q' G' D'' hq' kg' knd' kD' kold'=>?_
    have koldL:∀y bb,G2 y=some bb→y≠r6→(Gn.set ql [AV.sl qn 1 0 (eiG a b k).length]) y=some bb:=fun y bb hy h6=>leL _ _ (koldN y bb hy h6)
    have k6':=kold' _ _ k6l n6D
    rw [eiGs_len,← eiGs_succ] at kg'
    rw [eiGs_len]
    have fr'':∀y∈D'',G2 y=none:=fun y hy=>by
      rcases kD' y hy with h | rfl | rfl
      · exact kfr y h
      · exact hqnG2
      · cases hh:G2 y with
        | none=>rfl
        | some bb=>
          by_cases e:y=r6
          · rw [e,k6l] at hq';cases hq'
          · rw [koldL _ _ hh e] at hq';cases hq'
    have n6'':r6∉D'':=fun hm=>by have:=fr'' _ hm;rw [g6] at this;cases this
    (try simp (maxSteps:=1000000) (disch:=first | assumption | (apply ν6;assumption)) only [vz,vu,vv,eqS,eF_,↓c1_,↓c2_,tabs,reduceCtorEq,ι5,↓reduceIte,ν1,ν2,ν3,ν4,ν5,ι1,ι2,ι3,ι4,store_at k6'])
    refine ⟨(k+1,.sl q' 1 0 (k+1),G'.set r6 [I (a.states+b.states),rowP q1 (eiF a b),rowE q (eiE a b b.edges.length),.sl q' 1 0 (k+1)],D''),⟨by simp only;omega,Heap.set_same _ _ _,fun y bb hy h6=>?_,kg'.local fun y hy bb hb=>?_,knd',fr''⟩,by simp only;omega,?_,Heap.le_refl _⟩
    · simp only
      rw [Heap.set_other h6]
      exact kold' _ _ (koldL _ _ hy h6) (fun hm=>by rw [kfr y hm] at hy;cases hy)
    · simp only
      rw [Heap.set_other (fun e=>n6'' (by rw [← e];exact hy))];exact hb
    · rw [wk_int,i64_id (by omega) (by omega)];simp
  · refine ⟨fun h=>absurd h (by omega),fun _=>⟨fun h=>absurd h (by omega),fun _=>?_⟩⟩
    have hkm:k=m:=by omega
    subst hkm
    have efs:(eiT a b)=⟨a.states+b.states,eiF a b,eiE a b b.edges.length,eiGs a b k⟩:=by rw [eiT,hmm]
    obtain ⟨x',Dg,hx',hg',hnd',hfr',hxw⟩:∃x' Dg,LII (eiGs a b k) x' G Dg∧(∀y∈Dg,H y=none)∧Dg.Nodup∧(q1∉Dg∧q∉Dg∧r2∉Dg)∧AV.wk x x':=by
      obtain ⟨cs,D',hll,h2⟩:=kg
      have hH:∀{y},G2 y=none→H y=none:=fun hy=>hB (hB0 (hB1 (hB2 hy)))
      rcases h2 with ⟨rfl,rfl,rfl⟩ | ⟨qg,rfl,hqg,rfl⟩
      · have hk0:k=0:=by have:=LL.size LIc.size hll;rw [eiGs_len] at this;simpa using this.symm
        subst hk0
        have hz3':=hle _ _ (le1 _ _ (le0 _ _ e1))
        have hz36:z3≠r6:=ne (le1 _ _ (le0 _ _ e1)) hr6
        refine ⟨.sl z3 1 0 0,[z3],⟨z3,[],[],rfl,kold _ _ hz3' hz36,⟨rfl,rfl⟩,rfl⟩,fun y hy=>by rw [List.mem_singleton] at hy;rw [hy];exact hz3,by simp,⟨?_,?_,?_⟩,.nilo _ _ _⟩
        · rw [List.mem_singleton];exact Ne.symm (ne (le0 _ _ e1) hq1)
        · rw [List.mem_singleton];exact Ne.symm (ne (le1 _ _ (le0 _ _ e1)) hq)
        · rw [List.mem_singleton];rintro rfl;rw [e1] at hr2;cases hr2
      · refine ⟨_,_,⟨qg,cs,D',rfl,hqg,hll,rfl⟩,fun y hy=>hH (kfr y hy),knd,⟨?_,?_,?_⟩,.refl _⟩
        · intro hm;have:=kfr _ hm;rw [gq1] at this;cases this
        · intro hm;have:=kfr _ hm;rw [gq] at this;cases this
        · intro hm;have:=kfr _ hm;rw [gr22'] at this;cases this
    have nq1q:q1≠q:=ne g1q hq
    have hL:LAu (eiT a b) (.agg [I (a.states+b.states),rowP q1 (eiF a b),rowE q (eiE a b b.edges.length),x']) G ([q1]++([q]++Dg)):=by
      rw [efs]
      exact ⟨_,_,_,[q1],[q],Dg,rfl,rfl,LI_mk' kq1,LE_mk kq,hx'⟩
    have hN:([q1]++([q]++Dg)).Nodup:=by
      rw [List.singleton_append,List.singleton_append,List.nodup_cons,List.nodup_cons]
      exact ⟨by rw [List.mem_cons,not_or];exact ⟨nq1q,hfr'.1⟩,hfr'.2.1,hnd'⟩
    have hle3:Heap.le H3 G:=fun y bb hy=>kold _ _ (hle _ _ (le1 _ _ (le0 _ _ hy))) (ne (le1 _ _ (le0 _ _ hy)) hr6)
    have hleH:Heap.le H G:=Heap.le_trans leB hle3
    have hFr:∀y∈[q1]++([q]++Dg),H y=none:=fun y hy=>by
      simp only [List.mem_append,List.mem_singleton] at hy
      rcases hy with rfl | rfl | hy
      · exact hB (hB0 hq1)
      · exact hB (hB0 (hB1 hq))
      · exact hg' y hy
    (try simp (maxSteps:=1000000) (disch:=first | assumption | (apply ν6;assumption)) only [vz,vu,vv,eqS,eF_,↓c1_,↓c2_,tabs,reduceCtorEq,ι5,↓reduceIte,ν1,ν2,ν3,ν4,ν5,ι1,ι2,ι3,ι4,load_at k6])
    refine CallT.args (args':=[.agg [I (a.states+b.states),rowP q1 (eiF a b),rowE q (eiE a b b.edges.length),x']]) ?_ ⟨wk_agg ⟨.refl _,.refl _,.refl _,hxw,trivial⟩,trivial⟩
    obtain ⟨qx,rfl⟩:=LRow.sl hx'
    refine l12Made_live hL hN (eiT_sm fa fb) (fun hgo=>?_) (fun hgo=>?_)
    · have er:eiR a b=(eiT a b,true):=by simp only [eiR,ga,gb,hgo,Bool.and_self,if_true]
      rw [er] at h
      (try simp (maxSteps:=1000000) (disch:=first | assumption | (apply ν6;assumption)) only [vz,vu,vv,eqS,eF_,↓c1_,↓c2_,tabs,reduceCtorEq,ι5,↓reduceIte,ν1,ν2,ν3,ν4,ν5,ι1,ι2,ι3,ι4,store_at kr2])
      refine wkK.keep (h _ _ _ (hL.local fun y hy bb hb=>?_) ⟨hN,hFr,?_⟩)
      · rw [Heap.set_other];· exact hb
        rintro rfl
        simp only [List.mem_append,List.mem_singleton] at hy
        rcases hy with h5 | h5 | h5
        · exact ne gr2 hq1 h5
        · exact ne g1r2 hq h5
        · exact hfr'.2.2 h5
      · exact Heap.le_setN hleH hHr2
    · have er:eiR a b=(zeroA,false):=by simp only [eiR,ga,gb,hgo,Bool.and_false,Bool.false_eq_true,if_false]
      (try simp (maxSteps:=1000000) (disch:=first | assumption | (apply ν6;assumption)) only [vz,vu,vv,eqS,eF_,↓c1_,↓c2_,tabs,reduceCtorEq,ι5,↓reduceIte,ν1,ν2,ν3,ν4,ν5,ι1,ι2,ι3,ι4,store_at kr2])
      exact zl _ (Heap.le_setN hle3 hr2) (by rw [er] at h;exact h)
end Go.Proofs.Ytohkciilfkhomaa
namespace Go.Proofs.Ytohkciilfkhomaa
open Go Go.Sep Go.Pt
attribute [local irreducible] CallT
end Go.Proofs.Ytohkciilfkhomaa
namespace Go.Proofs.Ytohkciilfkhomaa
open Go Go.Sep Go.Pt
attribute [local irreducible] CallT
theorem eI_gd:Lay.Gd (LPl eI):=LPl.gd fun a x hx=>by
  simp only [List.mem_singleton] at hx;subst hx;exact .int _ _
theorem eE_gd:Lay.Gd (LPl eE):=LPl.gd fun a x hx=>by
  simp only [List.mem_cons,List.not_mem_nil,or_false] at hx
  rcases hx with rfl | rfl | rfl<;>exact .int _ _
theorem LIc.gd:Lay.Gd LIc:=by
  rintro a cs G D ⟨x,rfl,h⟩
  obtain ⟨h1,h2⟩:=LRow.gd eI_gd h
  exact ⟨fun c hc=>by rw [List.mem_singleton] at hc;subst hc;exact h1,h2⟩
theorem LIc.sh:Lay.Sh LIc:=by
  rintro a cs G D n G0 h0 ⟨x,rfl,h⟩
  exact ⟨shC n x,rfl,LRow.sh (LPl.sh eI) h0 h⟩
theorem LAu.gd {a:Au} {v:AV} {G:Heap} {D:List Nat} (h:LAu a v G D):Gd1 v∧∀y∈D,∀bs,G y=some bs→∀c∈bs,GdC c:=by
  obtain ⟨x,y,z,D1,D2,D3,rfl,rfl,h1,h2,h3⟩:=h
  have a1:=LRow.gd eI_gd h1
  have a2:=LRow.gd eE_gd h2
  have a3:=LRow.gd LIc.gd h3
  refine ⟨.inl ⟨_,rfl,fun c hc=>?_⟩,fun u hu=>?_⟩
  · simp only [List.mem_cons,List.not_mem_nil,or_false] at hc
    rcases hc with rfl | rfl | rfl | rfl
    · exact .p (.int _ _)
    · exact a1.1
    · exact a2.1
    · exact a3.1
  · simp only [List.mem_append] at hu
    rcases hu with hu | hu | hu
    · exact a1.2 u hu
    · exact a2.2 u hu
    · exact a3.2 u hu
theorem LAu.sh {a:Au} {v:AV} {G:Heap} {D:List Nat} {n:Nat} {G0:Heap} (h0:∀q,n≤q→G0 q=none) (h:LAu a v G D):LAu a (sh1 n v) (Heap.or G0 (shH n G)) (D.map (·+n)):=by
  obtain ⟨x,y,z,D1,D2,D3,rfl,rfl,h1,h2,h3⟩:=h
  exact ⟨shC n x,shC n y,shC n z,_,_,_,rfl,by rw [List.map_append,List.map_append],LRow.sh (LPl.sh eI) h0 h1,LRow.sh (LPl.sh eE) h0 h2,LRow.sh LIc.sh h0 h3⟩
end Go.Proofs.Ytohkciilfkhomaa
namespace Go.Proofs.Ytohkciilfkhomaa
open Go Go.Sep
attribute [local irreducible] CallT
abbrev cur (code:List Int) (k:Nat) (seed:Int):List AV:=[.p (.sl (code.map e8)),I k,U seed]
structure CodeC (code:List Int):Prop where
  byte:∀b∈code,0≤b∧b < 256
  len:code.length≤4194304
theorem and255 (x:Int):0≤bitsI .and .u64 x 255∧bitsI .and .u64 x 255 < 256:=by
  have h:(BitVec.ofInt IntKind.u64.bits x &&& BitVec.ofInt IntKind.u64.bits 255).toNat≤255:=by
    rw [BitVec.toNat_and];exact Nat.le_trans Nat.and_le_right (by decide)
  simp only [bitsI]
  rw [IntKind.wrap_u64];omega
theorem cnext_spec {code:List Int} (hc:CodeC code) {k:Nat} {seed:Int} (hk:k≤1000000000) {H:Heap} {r:Nat} (hr:H r=some (cur code k seed)) {K:AV→Heap→Prop}
    (h:∀b seed',0≤b→b < 256→K (I b) (H.set r (cur code (k+1) seed'))):CallT Try.prog 70 [.ptr r 0] H K:=by
  have hw:IntKind.i64.wrap (↑k+1)=((k+1:Nat):Int):=i64_id (by omega) (by omega)
  refine W70_ok ?_;simp (maxSteps:=1000000) (disch:=first | assumption | (apply ν6;assumption)) only [W70,vz,vu,vv,eqS,eF_,↓c1_,↓c2_,tabs,reduceCtorEq,ι5,↓reduceIte,ν1,ν2,ν3,ν4,ν5,ι1,ι2,ι3,ι4,J70_0,load_at hr,store_at hr,hw]
  have hb:∀x:Int,(0≤x∧x < 256)→0≤IntKind.i64.wrap x∧IntKind.i64.wrap x < 256:=fun x hx=>by rw [i64_id (by omega) (by omega)];exact hx
  refine ⟨fun h1=>⟨by omega,h1,fun _=>?_,fun _=>⟨by omega,?_⟩⟩,fun h1=>⟨fun _=>?_,fun _=>⟨by omega,?_⟩⟩⟩
  · have:=hb _ (getD_all (d:=default) hc.byte (i:=k) (by omega))
    exact h _ _ this.1 this.2
  · have:=hb _ (and255 ((IntKind.u64.wrap (IntKind.u64.wrap (IntKind.u64.wrap (seed*6364136223846793005)+IntKind.u64.wrap (IntKind.i64.wrap (code.getD k default)))+1442695040888963407)).fdiv (2^min 40 IntKind.u64.bits)))
    exact h _ _ this.1 this.2
  · exact h _ _ (by omega) (by omega)
  · have:=hb _ (and255 ((IntKind.u64.wrap (IntKind.u64.wrap (IntKind.u64.wrap (seed*6364136223846793005)+IntKind.u64.wrap 0)+1442695040888963407)).fdiv (2^min 40 IntKind.u64.bits)))
    exact h _ _ this.1 this.2
theorem pick_spec {code:List Int} (hc:CodeC code) {k:Nat} {seed:Int} (n:Int) (hn:n≤65536) (hk:k≤900000000) {H:Heap} {r:Nat} (hr:H r=some (cur code k seed)) {K:AV→Heap→Prop}
    (h:∀x k' seed',0≤x→(x=0∨x < n)→k≤k'→k'≤k+2→K (I x) (H.set r (cur code k' seed'))):CallT Try.prog 51 [.ptr r 0,I n] H K:=by
  have hs:H.set r (cur code k seed)=H:=by
    funext x;by_cases e:x=r
    · subst e;rw [Heap.set_same,hr]
    · rw [Heap.set_other e]
  refine W51_ok ?_;simp (maxSteps:=1000000) (disch:=first | assumption | (apply ν6;assumption)) only [W51,vz,vu,vv,eqS,eF_,↓c1_,↓c2_,tabs,reduceCtorEq,ι5,↓reduceIte,ν1,ν2,ν3,ν4,ν5,ι1,ι2,ι3,ι4]
  refine ⟨fun h1=>?_,fun h1=>?_⟩
  · have:=h 0 k seed (by omega) (.inl rfl) (by omega) (by omega)
    rwa [hs] at this
  · refine cnext_spec hc (by omega) hr fun b s1 hb0 hb1=>?_
    (try simp (maxSteps:=1000000) (disch:=first | assumption | (apply ν6;assumption)) only [vz,vu,vv,eqS,eF_,↓c1_,↓c2_,tabs,reduceCtorEq,ι5,↓reduceIte,ν1,ν2,ν3,ν4,ν5,ι1,ι2,ι3,ι4])
    refine ⟨fun h2=>?_,fun h2=>?_⟩
    · refine cnext_spec hc (by omega) (Heap.set_same _ _ _) fun b2 s2 hb2 hb3=>?_
      (try simp (maxSteps:=1000000) (disch:=first | assumption | (apply ν6;assumption)) only [vz,vu,vv,eqS,eF_,↓c1_,↓c2_,tabs,reduceCtorEq,ι5,↓reduceIte,ν1,ν2,ν3,ν4,ν5,ι1,ι2,ι3,ι4])
      rw [i64_id (n:=b*256) (by omega) (by omega),i64_id (by omega) (by omega)]
      exact ⟨by omega,h _ _ _ (Int.tmod_nonneg _ (by omega)) (.inr (Int.tmod_lt_of_pos _ (by omega))) (by omega) (by omega)⟩
    · exact ⟨by omega,h _ _ _ (Int.tmod_nonneg _ (by omega)) (.inr (Int.tmod_lt_of_pos _ (by omega))) (by omega) (by omega)⟩
theorem one_spec {code:List Int} (hc:CodeC code) {k:Nat} {seed:Int} (n:Int) (hn:n≤65536) (hk:k≤900000000) {H:Heap} {r:Nat} (hr:H r=some (cur code k seed)) {K:AV→Heap→Prop}
    (h:∀x k' seed',k≤k'→k'≤k+2→K (B x) (H.set r (cur code k' seed'))):CallT Try.prog 31 [.ptr r 0,I n] H K:=by
  refine W31_ok ?_;simp (maxSteps:=1000000) (disch:=first | assumption | (apply ν6;assumption)) only [W31,vz,vu,vv,eqS,eF_,↓c1_,↓c2_,tabs,reduceCtorEq,ι5,↓reduceIte,ν1,ν2,ν3,ν4,ν5,ι1,ι2,ι3,ι4]
  refine pick_spec hc n hn hk hr fun x k' s' _ _ h1 h2=>?_
  (try simp (maxSteps:=1000000) (disch:=first | assumption | (apply ν6;assumption)) only [vz,vu,vv,eqS,eF_,↓c1_,↓c2_,tabs,reduceCtorEq,ι5,↓reduceIte,ν1,ν2,ν3,ν4,ν5,ι1,ι2,ι3,ι4])
  exact h _ _ _ h1 h2
theorem among_spec {code:List Int} (hc:CodeC code) {k:Nat} {seed:Int} (l:List Int) (hl:0 < l.length) (hn:l.length≤65536) (hk:k≤900000000) {H:Heap} {r:Nat} (hr:H r=some (cur code k seed)) {K:AV→Heap→Prop}
    (h:∀x k' seed',x∈l→k≤k'→k'≤k+2→K (I x) (H.set r (cur code k' seed'))):CallT Try.prog 54 [.ptr r 0,Is l] H K:=by
  refine W54_ok ?_;simp (maxSteps:=1000000) (disch:=first | assumption | (apply ν6;assumption)) only [W54,vz,vu,vv,eqS,eF_,↓c1_,↓c2_,tabs,reduceCtorEq,ι5,↓reduceIte,ν1,ν2,ν3,ν4,ν5,ι1,ι2,ι3,ι4]
  refine pick_spec hc _ (by omega) hk hr fun x k' s' h0 hx h1 h2=>?_
  (try simp (maxSteps:=1000000) (disch:=first | assumption | (apply ν6;assumption)) only [vz,vu,vv,eqS,eF_,↓c1_,↓c2_,tabs,reduceCtorEq,ι5,↓reduceIte,ν1,ν2,ν3,ν4,ν5,ι1,ι2,ι3,ι4])
  refine ⟨h0,by omega,?_⟩
  exact h _ _ _ (getD_all (p:=fun b=>b∈l) (fun b hb=>hb) (by omega)) h1 h2
end Go.Proofs.Ytohkciilfkhomaa
namespace Go.Proofs.Ytohkciilfkhomaa
open Go Go.Sep Go.Pt
attribute [local irreducible] CallT
theorem Heap.del_put {H:Heap} {r:Nat} {b:List AV} (h:H r=some b):(H.del r).set r b=H:=by
  funext y
  by_cases e:y=r
  · subst e;rw [Heap.set_same,h]
  · rw [Heap.set_other e,Heap.del_other e]
theorem St.start {H:Heap} {r:Nat} {b:List AV} (h:H r=some b):St (H.del r) [cellT r b] H:=by
  have:=(St.nil (H.del r)).cell (r:=r) (Heap.del_same _ _) b
  rwa [Heap.del_put h] at this
theorem set_le {H G:Heap} {Ts:List Th} {r:Nat} {b:List AV} (st:St (H.del r) Ts G) (c:Nat) (hc:Ts[c]?=some (cellT r b)):Heap.le (H.set r b) G:=by
  intro y v hv
  by_cases e:y=r
  · subst e;rw [Heap.set_same] at hv;rw [← hv];exact st.get c hc
  · rw [Heap.set_other e] at hv
    exact st.le y v (by rw [Heap.del_other e];exact hv)
theorem dr_fin {H G:Heap} {Ts:List Th} {z1 z2 z3:Nat} {x y w:AV} {f:List Int} {es:List Ed} {gs:List (List Int)} {D1 D2 D3:List Nat} {m:Int} {r:Nat} {b:List AV} (st:St (H.del r) Ts G) (i j l c:Nat)
    (hi:(Ts[i]?=some (riT z1 x f D1)∧i≠j∧i≠l∧i≠c)∨(x=.p .nil∧f=[])) (hj:Ts[j]?=some (reT z2 y es D2)) (hl:Ts[l]?=some (rzT (LPl.local eL) (LPl.has eL) 1 z3 w gs D3)) (hc:Ts[c]?=some (cellT r b)) (hjl:j≠l) (hjc:j≠c) (hlc:l≠c)
    {K:AV→Heap→Prop} (h:K (aAu ⟨m,f,es,gs⟩) (H.set r b)):wkK K (.agg [I m,x,y,w]) G:=by
  obtain ⟨G0,E,w0,f0,e2,e3,er,eH⟩:∃(G0:Heap) (E:List Nat),Wk (.agg [I m,x,y,w]) G (.agg [I m,Is f,y,w]) G0∧(∀v,v∉E→G0 v=G v)∧(∀v∈D2,v∉E)∧(∀v∈D3,v∉E)∧r∉E∧∀v b,(H.del r) v=some b→v∉E:=by
    rcases hi with ⟨hi,h1,h2,h3⟩ | ⟨rfl,rfl⟩
    · obtain ⟨x',hx,lx⟩:=(st.get i hi:RZ (LPl eI) 1 z1 x f G D1).row
      obtain ⟨G1,w1,f1⟩:=LRow.frzV (e:=eI) (sz:=1) (v:=.agg [I m,x',y,w]) (v':=.agg [I m,Is f,y,w]) (by omega) (fun _=>rfl) (LPl.local eI) (LPl.frz eI) lx (st.ndT i hi) (fun q _ hr=>.agg (.cons (.same _) (.cons hr (.cons (.same _) (.cons (.same _) .nil)))))
      exact ⟨G1,D1,.trans (.val (v':=.agg [I m,x',y,w]) (wk_agg ⟨.refl _,hx,.refl _,.refl _,trivial⟩)) w1,f1,fun v hv=>st.disjI j i hj hi (Ne.symm h1) v hv,fun v hv=>st.disjI l i hl hi (Ne.symm h2) v hv,st.disjI c i hc hi (Ne.symm h3) r (by simp [cellT]),fun v b hb=>st.wkNone v b hb _ (List.mem_of_getElem? hi)⟩
    · exact ⟨G,[],.val (wk_agg ⟨.refl _,.nil,.refl _,.refl _,trivial⟩),fun _ _=>rfl,by simp,by simp,by simp,by simp⟩
  obtain ⟨y',hy,ly⟩:=(st.get j hj:RZ (LPl eE) 3 z2 y es G D2).row
  obtain ⟨w',hw,lw⟩:=(st.get l hl:RZ (LPl eL) 1 z3 w gs G D3).row
  have ly0:=LRow.local (LPl.local eE) ly (G':=G0) fun y hy bb hb=>by rw [f0 y (e2 y hy)];exact hb
  have wv:Wk (.agg [I m,Is f,y,w]) G0 (.agg [I m,Is f,y',w']) G0:=.val (wk_agg ⟨.refl _,.refl _,hy,hw,trivial⟩)
  obtain ⟨G1,w1,f1⟩:=LRow.frzV (e:=eE) (sz:=3) (v:=.agg [I m,Is f,y',w']) (v':=.agg [I m,Is f,Es es,w']) (by omega) (fun _=>rfl) (LPl.local eE) (LPl.frz eE) ly0 (st.ndT j hj) (fun q _ hr=>.agg (.cons (.same _) (.cons (.same _) (.cons hr (.cons (.same _) .nil)))))
  have lw1:=LRow.local (LPl.local eL) lw (G':=G1) fun y hy bb hb=>by rw [f1 y (fun hm=>st.disjI j l hj hl hjl y hm hy),f0 y (e3 y hy)];exact hb
  obtain ⟨G2,w2,f2⟩:=LRow.frzV (e:=eL) (sz:=1) (v:=.agg [I m,Is f,Es es,w']) (v':=.agg [I m,Is f,Es es,Ls gs]) (by omega) (fun _=>rfl) (LPl.local eL) (LPl.frz eL) lw1 (st.ndT l hl) (fun q _ hr=>.agg (.cons (.same _) (.cons (.same _) (.cons (.same _) (.cons hr .nil)))))
  have hsl:=set_le st c hc
  refine ⟨_,_,.trans w0 (.trans wv (.trans w1 (.trans w2 (.forget (H':=H.set r b) fun v bb hb=>?_)))),h⟩
  have hG:=hsl v bb hb
  have keep:v∉D3∧v∉D2∧v∉E:=by
    by_cases e:v=r
    · subst e
      exact ⟨st.disjI c l hc hl (Ne.symm hlc) v (by simp [cellT]),st.disjI c j hc hj (Ne.symm hjc) v (by simp [cellT]),er⟩
    · rw [Heap.set_other e] at hb
      have hb2:(H.del r) v=some bb:=by rw [Heap.del_other e];exact hb
      exact ⟨st.wkNone v bb hb2 _ (List.mem_of_getElem? hl),st.wkNone v bb hb2 _ (List.mem_of_getElem? hj),eH v bb hb2⟩
  rw [f2 v keep.1,f1 v keep.2.1,f0 v keep.2.2]
  exact hG
theorem l1Put_nil (n:Int) {H:Heap} {K:AV→Heap→Prop} (h:∀q,H q=none→K (rowP q [n]) (H.set q (cP fI [n]))):CallT Try.prog 52 [.p .nil,I n] H K:=by
  refine CallT.pre (args':=[Is [],I n]) (H':=H) ?_ (.val (wk_tup ⟨.nil,.refl _,trivial⟩))
  refine CallT.fin ?_
  refine W52_ok ?_;simp (maxSteps:=1000000) (disch:=first | assumption | (apply ν6;assumption)) only [W52,vz,vu,vv,eqS,eF_,↓c1_,↓c2_,tabs,reduceCtorEq,ι5,↓reduceIte,ν1,ν2,ν3,ν4,ν5,ι1,ι2,ι3,ι4]
  refine L52_0_rule () (fun _=>I 0) (fun _=>H) (fun _=>True) (fun _=>0) ⟨trivial,.refl _,Heap.le_refl _⟩ ?_
  rintro ⟨⟩ -
  have ins:J52_1 (wkK K) (Is []) (I n) (I 0) H:=by
    (try simp (maxSteps:=1000000) (disch:=first | assumption | (apply ν6;assumption)) only [vz,vu,vv,eqS,eF_,↓c1_,↓c2_,tabs,reduceCtorEq,ι5,↓reduceIte,ν1,ν2,ν3,ν4,ν5,ι1,ι2,ι3,ι4,J52_1])
    refine lit0I fun q0 hq0=>?_
    (try simp (maxSteps:=1000000) (disch:=first | assumption | (apply ν6;assumption)) only [vz,vu,vv,eqS,eF_,↓c1_,↓c2_,tabs,reduceCtorEq,ι5,↓reduceIte,ν1,ν2,ν3,ν4,ν5,ι1,ι2,ι3,ι4,sliceV])
    refine ⟨by omega,by omega,by omega,by simp,?_⟩
    refine app_topI (xs:=[]) (ys:=[]) hq0 (by simp) fun q1 hq1=>?_
    refine push_topI (xs:=[]) hq1 (by simp) fun q2 hq2=>?_
    (try simp (maxSteps:=1000000) (disch:=first | assumption | (apply ν6;assumption)) only [vz,vu,vv,eqS,eF_,↓c1_,↓c2_,tabs,reduceCtorEq,ι5,↓reduceIte,ν1,ν2,ν3,ν4,ν5,ι1,ι2,ι3,ι4,sliceV])
    refine ⟨by omega,by omega,by omega,by simp,?_⟩
    refine app_topI (xs:=[n]) (ys:=[]) hq2 (by simp) fun q3 hq3=>?_
    exact wkK.keep (h q3 hq3)
  (try simp (maxSteps:=1000000) (disch:=first | assumption | (apply ν6;assumption)) only [vz,vu,vv,eqS,eF_,↓c1_,↓c2_,tabs,reduceCtorEq,ι5,↓reduceIte,ν1,ν2,ν3,ν4,ν5,ι1,ι2,ι3,ι4,B52_0,J52_2])
  exact ⟨fun h1=>absurd h1 (by omega),fun _=>⟨fun h1=>absurd h1 (by omega),fun _=>ins⟩⟩
abbrev dTs (q5 q4:Nat) (m:Int) (x y w:AV) (z1 z2 z3:Nat) (f:List Int) (es:List Ed) (gs:List (List Int)) (D1 D2 D3:List Nat) (r:Nat) (c:List AV):List Th:=[cellT q5 [I m,x,y,w],cellT q4 [I 0,.p .nil,.p .nil,.p .nil],riT z1 x f D1,reT z2 y es D2,rzT (LPl.local eL) (LPl.has eL) 1 z3 w gs D3,cellT r c]
theorem auto_ret {q4:Nat} {m:Int} {x y w:AV} {G:Heap} (hx:x=.p .nil∨∃q n,x=.sl q 1 0 n) (hy:y=.p .nil∨∃q n,y=.sl q 3 0 n) (hw:w=.p .nil∨∃q n,w=.sl q 1 0 n) (hG:G q4=some [I 0,.p .nil,.p .nil,.p .nil]) {K:AV→Heap→Prop} (h:K (.agg [I m,x,y,w]) (G.set q4 [I m,x,y,w])) :
    storeV tab 28 (.ptr q4 0) (.agg [I m,x,y,w]) G fun H=>loadV tab 28 (.ptr q4 0) H fun r0=>K r0 H:=by
  have hs:(G.set q4 [I m,x,y,w]) q4=some [I m,x,y,w]:=Heap.set_same _ _ _
  rcases hx with rfl | ⟨q1,n1,rfl⟩<;>rcases hy with rfl | ⟨q2,n2,rfl⟩<;>rcases hw with rfl | ⟨q3,n3,rfl⟩<;>((try simp (maxSteps:=1000000) (disch:=first | assumption | (apply ν6;assumption)) only [vz,vu,vv,eqS,eF_,↓c1_,↓c2_,tabs,reduceCtorEq,ι5,↓reduceIte,ν1,ν2,ν3,ν4,ν5,ι1,ι2,ι3,ι4,store_at hG,load_at hs]);exact h)
theorem nils_val {H G:Heap} {Ts:List Th} {q N:Nat} (s:St H Ts G) (i:Nat) (hi:Ts[i]?=some (cellT q (zerosA N [.p .nil]))) (v:AV):∃G',Wk v G v G'∧St H (Ts.set i (rzT (LPl.local eL) (LPl.has eL) 1 0 (.sl q 1 0 N) (List.replicate N []) [q])) G':=by
  have hz:zerosA N [AV.p .nil]=List.replicate N (.p .nil):=by
    induction N with
    | zero=>rfl
    | succ N ih=>simp [zerosA,List.replicate_succ] at *
  have hc:cells ((List.replicate N ([]:List Int)).map eL)=List.replicate N (.p (.sl [])):=by
    clear hi hz
    induction N with
    | zero=>rfl
    | succ N ih=>simp only [List.replicate_succ,List.map_cons,cells,List.flatten_cons,List.map_append] at ih ⊢;rw [ih];rfl
  have hG:=s.get i hi
  refine ⟨G.set q (cells ((List.replicate N ([]:List Int)).map eL)),.cell (by exact hG) (by rw [hz,hc];simp) fun j a a' ha ha'=>?_,?_⟩
  · rw [hz] at ha
    rw [hc] at ha'
    rw [List.eq_of_mem_replicate (List.mem_of_getElem? ha),List.eq_of_mem_replicate (List.mem_of_getElem? ha')]
    exact .nil
  · refine s.repl i hi _ (by simp [rzT]) (fun y hy=>.inl hy) (fun y b hb hy=>?_) (.inr ⟨q,_,[],by rw [List.length_replicate],Heap.set_same _ _ _,LL.plain _,rfl⟩)
    have hy:y≠q:=by simpa [cellT] using hy
    rw [Heap.set_other hy];exact hb
theorem put_len1 (a b:Int):(put [a] b).length≤2:=by
  unfold put
  split
  · simp
  · by_cases h:a < b<;>simp [h]
theorem put_pw1 (a b:Int):(put [a] b).Pairwise (· < ·):=by
  unfold put
  split
  · simp
  · rename_i h
    simp at h
    by_cases h2:a < b
    · simp [h2]
    · simp [h2];omega
theorem auto_4 {code:List Int} (hc:CodeC code) {H G:Heap} {r q5 q4:Nat} {k0:Nat} {seed:Int} {m:Int} (hm:1≤m∧m≤100) {x y w:AV} {z1 z2 z3:Nat} {f:List Int} {es:List Ed} {gs0:List (List Int)} {D1 D2 D3:List Nat} (hf:f.length≤1000) (he:es.length≤10000) (n0:Nat) (hn0:n0≤4) (hg:gs0=[])
    (st:St (H.del r) (dTs q5 q4 m x y w z1 z2 z3 f es gs0 D1 D2 D3 r (cur code k0 seed)) G) (hk:k0≤600000000) {K:AV→Heap→Prop}
    (h:∀f es gs k' seed',f.length≤2000→es.length≤20000→gs.length≤10→(∀g∈gs,g.length≤10)→k0≤k'→k'≤k0+50→K (aAu ⟨m,f,es,gs⟩) (H.set r (cur code k' seed'))) :
    L28_4 (wkK K) (.ptr r 0) (.ptr q4 0) (.ptr q5 0) (I n0) G:=by
  subst hg
  refine L28_4_rule (n0,w,([]:List (List Int)),D3,k0,seed,G) (fun s=>I s.1) (fun s=>s.2.2.2.2.2.2)
    (fun s=>s.1≤n0∧s.2.2.1.length+s.1≤n0∧(∀g∈s.2.2.1,g.length≤2∧g.Pairwise (· < ·))∧k0≤s.2.2.2.2.1∧s.2.2.2.2.1+8*s.1≤k0+8*n0∧St (H.del r) (dTs q5 q4 m x y s.2.1 z1 z2 z3 f es s.2.2.1 D1 D2 s.2.2.2.1 r (cur code s.2.2.2.2.1 s.2.2.2.2.2.1)) s.2.2.2.2.2.2) (fun s=>s.1)
    ⟨⟨by simp,by simp,by simp,by simp,by simp,st⟩,.refl _,Heap.le_refl _⟩ ?_
  clear st G seed w D3
  rintro ⟨n,w,gs,D3,k,seed,G⟩ ⟨hn,hgl,hgg,hk1,hk2,st⟩
  dsimp only at hn hgl hgg hk1 hk2 st
  have e5:0 < n→IntKind.i64.wrap ((n:Int) - 1)=((n - 1:Nat):Int):=fun h=>by rw [i64_id (by omega) (by omega)];omega
  (try simp (maxSteps:=1000000) (disch:=first | assumption | (apply ν6;assumption)) only [vz,vu,vv,eqS,eF_,↓c1_,↓c2_,tabs,reduceCtorEq,ι5,↓reduceIte,ν1,ν2,ν3,ν4,ν5,ι1,ι2,ι3,ι4,B28_4])
  refine ⟨fun hpos=>?_,fun hpos=>?_⟩
  · have hn1:0 < n:=by omega
    have e5':=e5 hn1
    (try simp (maxSteps:=1000000) (disch:=first | assumption | (apply ν6;assumption)) only [vz,vu,vv,eqS,eF_,↓c1_,↓c2_,tabs,reduceCtorEq,ι5,↓reduceIte,ν1,ν2,ν3,ν4,ν5,ι1,ι2,ι3,ι4,load_at (st.get 0 rfl)])
    refine pick_spec hc m (by omega) (k:=k) (by omega) (st.get 5 rfl) fun x1 k1 s1 hx0 hx1 hk3 hk4=>?_
    replace st:=st.put 5 rfl (cur code k1 s1)
    generalize G.set r (cur code k1 s1)=G1 at st ⊢
    have hp1:=l1Put_spec [] x1 List.Pairwise.nil (by simp)
    refine CallT.pre (args':=[Is [],I x1]) (H':=G1) ?_ (.val (wk_tup ⟨.nil,.refl _,trivial⟩))
    refine Pu.use hp1 ?_
    have ep:put [] x1=[x1]:=rfl
    rw [ep]
    have nx:∀(g:List Int) (k2:Nat) (s2:Int) (G2:Heap),g.length≤2→g.Pairwise (· < ·)→k≤k2→k2≤k+8→St (H.del r) (dTs q5 q4 m x y w z1 z2 z3 f es gs D1 D2 D3 r (cur code k2 s2)) G2→G.le G→J28_5 (wkK K) (fun w12 H'=>∃s':Nat×AV×List (List Int)×List Nat×Nat×Int×Heap,(s'.1≤n0∧s'.2.2.1.length+s'.1≤n0∧(∀g∈s'.2.2.1,g.length≤2∧g.Pairwise (· < ·))∧k0≤s'.2.2.2.2.1∧s'.2.2.2.2.1+8*s'.1≤k0+8*n0∧St (H.del r) (dTs q5 q4 m x y s'.2.1 z1 z2 z3 f es s'.2.2.1 D1 D2 s'.2.2.2.1 r (cur code s'.2.2.2.2.1 s'.2.2.2.2.2.1)) s'.2.2.2.2.2.2)∧s'.1 < n∧w12.wk (I s'.1)∧Heap.le s'.2.2.2.2.2.2 H') (.ptr r 0) (.ptr q4 0) (.ptr q5 0) (I n) (Is g) G2:=by
      intro g k2 s2 G2 hg1 hg2 hk5 hk6 st _
      (try simp (maxSteps:=1000000) (disch:=first | assumption | (apply ν6;assumption)) only [vz,vu,vv,eqS,eF_,↓c1_,↓c2_,tabs,reduceCtorEq,ι5,↓reduceIte,ν1,ν2,ν3,ν4,ν5,ι1,ι2,ι3,ι4,J28_5,load_at (st.get 0 rfl)])
      refine lit1 tab_26 rfl tab_24 ⟨rfl,rfl⟩ ?_
      (try simp (maxSteps:=1000000) (disch:=first | assumption | (apply ν6;assumption)) only [vz,vu,vv,eqS,eF_,↓c1_,↓c2_,tabs,reduceCtorEq,ι5,↓reduceIte,ν1,ν2,ν3,ν4,ν5,ι1,ι2,ι3,ι4,load_at (st.get 0 rfl)])
      refine RZ.app (bz:=24) (e:=eL) (ys:=[g]) tab_26 rfl tab_24 tab_26 rfl rfl rfl (fun _=>rfl) st 4 rfl rfl (by simp only [List.length_cons,List.length_nil];omega) (by simp only [List.length_cons,List.length_nil];omega) fun q' G' hq' st=>?_
      obtain ⟨gs',hgs⟩:∃gs',gs++[g]=gs':=⟨_,rfl⟩
      have hgl':gs'.length=gs.length+1:=by rw [← hgs];simp
      have hgg':∀g∈gs',g.length≤2∧g.Pairwise (· < ·):=by
        intro g' hg'
        rw [← hgs] at hg'
        rcases List.mem_append.1 hg' with h | h
        · exact hgg _ h
        · rw [List.mem_singleton.1 h];exact ⟨hg1,hg2⟩
      rw [hgs] at st ⊢
      (try simp (maxSteps:=1000000) (disch:=first | assumption | (apply ν6;assumption)) only [vz,vu,vv,eqS,eF_,↓c1_,↓c2_,tabs,reduceCtorEq,ι5,↓reduceIte,ν1,ν2,ν3,ν4,ν5,ι1,ι2,ι3,ι4,store_at (st.get 0 rfl),e5'])
      replace st:=st.put 0 rfl [I m,x,y,.sl q' 1 0 gs'.length]
      exact ⟨(n - 1,_,gs',[q'],k2,s2,_),⟨by simp only;omega,by simp only;omega,hgg',by simp only;omega,by simp only;omega,st⟩,by simp only;omega,.refl _,Heap.le_refl _⟩
    (try simp (maxSteps:=1000000) (disch:=first | assumption | (apply ν6;assumption)) only [vz,vu,vv,eqS,eF_,↓c1_,↓c2_,tabs,reduceCtorEq,ι5,↓reduceIte,ν1,ν2,ν3,ν4,ν5,ι1,ι2,ι3,ι4])
    refine one_spec hc 2 (by omega) (k:=k1) (by omega) (st.get 5 rfl) fun b k2 s2 hk5 hk6=>?_
    replace st:=st.put 5 rfl (cur code k2 s2)
    generalize G1.set r (cur code k2 s2)=G2 at st ⊢
    (try simp (maxSteps:=1000000) (disch:=first | assumption | (apply ν6;assumption)) only [vz,vu,vv,eqS,eF_,↓c1_,↓c2_,tabs,reduceCtorEq,ι5,↓reduceIte,ν1,ν2,ν3,ν4,ν5,ι1,ι2,ι3,ι4])
    refine ⟨fun hb=>?_,fun hb=>?_⟩
    · (try simp (maxSteps:=1000000) (disch:=first | assumption | (apply ν6;assumption)) only [vz,vu,vv,eqS,eF_,↓c1_,↓c2_,tabs,reduceCtorEq,ι5,↓reduceIte,ν1,ν2,ν3,ν4,ν5,ι1,ι2,ι3,ι4,load_at (st.get 0 rfl)])
      refine pick_spec hc m (by omega) (k:=k2) (by clear nx;omega) (st.get 5 rfl) fun x2 k3 s3 hy0 hy1 hk7 hk8=>?_
      replace st:=st.put 5 rfl (cur code k3 s3)
      generalize G2.set r (cur code k3 s3)=G3 at st ⊢
      refine Pu.use (l1Put_spec [x1] x2 (by simp) (by simp)) ?_
      (try simp (maxSteps:=1000000) (disch:=first | assumption | (apply ν6;assumption)) only [vz,vu,vv,eqS,eF_,↓c1_,↓c2_,tabs,reduceCtorEq,ι5,↓reduceIte,ν1,ν2,ν3,ν4,ν5,ι1,ι2,ι3,ι4])
      exact nx _ k3 s3 G3 (put_len1 x1 x2) (put_pw1 x1 x2) (by clear nx;omega) (by clear nx;omega) st (Heap.le_refl _)
    · exact nx _ k2 s2 G2 (by simp) (by simp) (by clear nx;omega) (by clear nx;omega) st (Heap.le_refl _)
  · have:n=0:=by omega
    subst this
    have hx:=RZ.sl (st.get 2 rfl:RZ (LPl eI) 1 z1 x f G D1)
    have hy:=RZ.sl (st.get 3 rfl:RZ (LPl eE) 3 z2 y es G D2)
    have hw:=RZ.sl (st.get 4 rfl:RZ (LPl eL) 1 z3 w gs G D3)
    have vx:x=.p .nil∨∃q n,x=.sl q 1 0 n:=by rcases hx with h | ⟨q,h⟩<;>simp [h]
    have vy:y=.p .nil∨∃q n,y=.sl q 3 0 n:=by rcases hy with h | ⟨q,h⟩<;>simp [h]
    have vw:w=.p .nil∨∃q n,w=.sl q 1 0 n:=by rcases hw with h | ⟨q,h⟩<;>simp [h]
    have hg10:∀g∈gs,g.length≤10:=fun g hg=>by have:=(hgg g hg).1;omega
    refine pick_spec hc 40 (by omega) (k:=k) (by omega) (st.get 5 rfl) fun x1 k1 s1 hx0 hx1 hk3 hk4=>?_
    replace st:=st.put 5 rfl (cur code k1 s1)
    generalize G.set r (cur code k1 s1)=G1 at st ⊢
    (try simp (maxSteps:=1000000) (disch:=first | assumption | (apply ν6;assumption)) only [vz,vu,vv,eqS,eF_,↓c1_,↓c2_,tabs,reduceCtorEq,ι5,↓reduceIte,ν1,ν2,ν3,ν4,ν5,ι1,ι2,ι3,ι4,load_at (st.get 0 rfl)])
    refine ⟨fun h1=>?_,fun h1=>⟨fun h2=>?_,fun h2=>⟨fun h3=>?_,fun h3=>⟨fun h4=>?_,fun h4=>?_⟩⟩⟩⟩
    · refine lit1 tab_24 rfl tab_3 ⟨rfl,rfl⟩ ?_
      refine rz_appI (ys:=[m]) st 2 rfl (by simp only [List.length_cons,List.length_nil];omega) fun q' G' hq' st=>?_
      obtain ⟨f',hf'⟩:∃f',f++[m]=f':=⟨_,rfl⟩
      have hfl:f'.length=f.length+1:=by rw [← hf'];simp
      rw [hf'] at st ⊢
      (try simp (maxSteps:=1000000) (disch:=first | assumption | (apply ν6;assumption)) only [vz,vu,vv,eqS,eF_,↓c1_,↓c2_,tabs,reduceCtorEq,ι5,↓reduceIte,ν1,ν2,ν3,ν4,ν5,ι1,ι2,ι3,ι4,store_at (st.get 0 rfl)])
      replace st:=st.put 0 rfl [I m,rowP q' f',y,w]
      generalize G'.set q5 [I m,rowP q' f',y,w]=G2 at st ⊢
      (try simp (maxSteps:=1000000) (disch:=first | assumption | (apply ν6;assumption)) only [vz,vu,vv,eqS,eF_,↓c1_,↓c2_,tabs,reduceCtorEq,ι5,↓reduceIte,ν1,ν2,ν3,ν4,ν5,ι1,ι2,ι3,ι4,load_at (st.get 0 rfl)])
      refine auto_ret (.inr ⟨_,_,rfl⟩) vy vw (st.get 1 rfl) ?_
      replace st:=st.put 1 rfl [I m,rowP q' f',y,w]
      exact dr_fin st 2 3 4 5 (.inl ⟨rfl,by decide,by decide,by decide⟩) rfl rfl rfl (by decide) (by decide) (by decide) (h f' es gs k1 s1 (by omega) (by omega) (by omega) hg10 (by omega) (by omega))
    · refine lit_edge (x:=⟨0,0,0⟩) ?_
      refine rz_appE (ys:=[⟨0,0,0⟩]) st 3 rfl (by simp only [List.length_cons,List.length_nil];omega) fun q' G' hq' st=>?_
      obtain ⟨f',hf'⟩:∃f',es++[⟨0,0,0⟩]=f':=⟨_,rfl⟩
      have hfl:f'.length=es.length+1:=by rw [← hf'];simp
      rw [hf'] at st ⊢
      (try simp (maxSteps:=1000000) (disch:=first | assumption | (apply ν6;assumption)) only [vz,vu,vv,eqS,eF_,↓c1_,↓c2_,tabs,reduceCtorEq,ι5,↓reduceIte,ν1,ν2,ν3,ν4,ν5,ι1,ι2,ι3,ι4,store_at (st.get 0 rfl)])
      replace st:=st.put 0 rfl [I m,x,rowE q' f',w]
      generalize G'.set q5 [I m,x,rowE q' f',w]=G2 at st ⊢
      (try simp (maxSteps:=1000000) (disch:=first | assumption | (apply ν6;assumption)) only [vz,vu,vv,eqS,eF_,↓c1_,↓c2_,tabs,reduceCtorEq,ι5,↓reduceIte,ν1,ν2,ν3,ν4,ν5,ι1,ι2,ι3,ι4,load_at (st.get 0 rfl)])
      refine auto_ret vx (.inr ⟨_,_,rfl⟩) vw (st.get 1 rfl) ?_
      replace st:=st.put 1 rfl [I m,x,rowE q' f',w]
      exact dr_fin st 2 3 4 5 (.inl ⟨rfl,by decide,by decide,by decide⟩) rfl rfl rfl (by decide) (by decide) (by decide) (h f f' gs k1 s1 (by omega) (by omega) (by omega) hg10 (by omega) (by omega))
    · refine pick_spec hc 2 (by omega) (k:=k1) (by omega) (st.get 5 rfl) fun x2 k2 s2 hy0 hy1 hk5 hk6=>?_
      replace st:=st.put 5 rfl (cur code k2 s2)
      generalize G1.set r (cur code k2 s2)=G2 at st ⊢
      (try simp (maxSteps:=1000000) (disch:=first | assumption | (apply ν6;assumption)) only [vz,vu,vv,eqS,eF_,↓c1_,↓c2_,tabs,reduceCtorEq,ι5,↓reduceIte,ν1,ν2,ν3,ν4,ν5,ι1,ι2,ι3,ι4,i64_id (show -9223372036854775808≤6+x2 by omega) (show 6+x2≤9223372036854775807 by omega),makeSliceV])
      refine ⟨by omega,by omega,by omega,by omega,fun q hq=>?_⟩
      replace st:=st.cell hq (zerosA (6+x2).toNat [.p .nil])
      generalize G2.set q (zerosA (6+x2).toNat [.p .nil])=G3 at st ⊢
      obtain ⟨N,hN⟩:∃N,(6+x2).toNat=N:=⟨_,rfl⟩
      rw [hN] at st ⊢
      (try simp (maxSteps:=1000000) (disch:=first | assumption | (apply ν6;assumption)) only [vz,vu,vv,eqS,eF_,↓c1_,↓c2_,tabs,reduceCtorEq,ι5,↓reduceIte,ν1,ν2,ν3,ν4,ν5,ι1,ι2,ι3,ι4,store_at (st.get 1 rfl)])
      replace st:=st.put 1 rfl [I m,x,y,.sl q 1 0 N]
      generalize G3.set q5 [I m,x,y,.sl q 1 0 N]=G4 at st ⊢
      (try simp (maxSteps:=1000000) (disch:=first | assumption | (apply ν6;assumption)) only [vz,vu,vv,eqS,eF_,↓c1_,↓c2_,tabs,reduceCtorEq,ι5,↓reduceIte,ν1,ν2,ν3,ν4,ν5,ι1,ι2,ι3,ι4,load_at (st.get 1 rfl)])
      refine auto_ret vx vy (.inr ⟨_,_,rfl⟩) (st.get 2 rfl) ?_
      replace st:=st.put 2 rfl [I m,x,y,.sl q 1 0 N]
      obtain ⟨G5,w1,st⟩:=nils_val st 0 rfl (.agg [I m,x,y,.sl q 1 0 N])
      obtain ⟨v',H',w2,hk⟩:=dr_fin st 3 4 0 6 (.inl ⟨rfl,by decide,by decide,by decide⟩) rfl rfl rfl (by decide) (by decide) (by decide) (h f es (List.replicate N []) k2 s2 (by omega) (by omega) (by rw [List.length_replicate];omega) (fun g hg=>by rw [List.eq_of_mem_replicate hg];simp) (by omega) (by omega))
      exact ⟨v',H',.trans w1 w2,hk⟩
    · (try simp (maxSteps:=1000000) (disch:=first | assumption | (apply ν6;assumption)) only [vz,vu,vv,eqS,eF_,↓c1_,↓c2_,tabs,reduceCtorEq,ι5,↓reduceIte,ν1,ν2,ν3,ν4,ν5,ι1,ι2,ι3,ι4,store_at (st.get 0 rfl)])
      replace st:=st.put 0 rfl [I m,.p .nil,y,w]
      generalize G1.set q5 [I m,.p .nil,y,w]=G2 at st ⊢
      (try simp (maxSteps:=1000000) (disch:=first | assumption | (apply ν6;assumption)) only [vz,vu,vv,eqS,eF_,↓c1_,↓c2_,tabs,reduceCtorEq,ι5,↓reduceIte,ν1,ν2,ν3,ν4,ν5,ι1,ι2,ι3,ι4,load_at (st.get 0 rfl)])
      refine auto_ret (.inl rfl) vy vw (st.get 1 rfl) ?_
      replace st:=st.put 1 rfl [I m,.p .nil,y,w]
      exact dr_fin (z1:=0) (D1:=[]) st 2 3 4 5 (.inr ⟨rfl,rfl⟩) rfl rfl rfl (by decide) (by decide) (by decide) (h [] es gs k1 s1 (by simp) (by omega) (by omega) hg10 (by omega) (by omega))
    · refine auto_ret vx vy vw (st.get 1 rfl) ?_
      replace st:=st.put 1 rfl [I m,x,y,w]
      exact dr_fin st 2 3 4 5 (.inl ⟨rfl,by decide,by decide,by decide⟩) rfl rfl rfl (by decide) (by decide) (by decide) (h f es gs k1 s1 (by omega) (by omega) (by omega) hg10 (by omega) (by omega))
theorem put_len (l:List Int) (n:Int):(put l n).length≤l.length+1:=by
  unfold put
  split
  · omega
  · rw [List.length_append,List.length_cons]
    have e:=congrArg List.length (List.takeWhile_append_dropWhile (p:=(· < n)) (l:=l))
    rw [List.length_append] at e
    omega
theorem put_pw {l:List Int} (n:Int) (h:l.Pairwise (· < ·)):(put l n).Pairwise (· < ·):=by
  unfold put
  split
  · exact h
  · rename_i hn
    have h2:=h
    rw [← List.takeWhile_append_dropWhile (p:=(· < n)) (l:=l)] at h2
    rw [List.pairwise_append] at h2 ⊢
    refine ⟨h2.1,List.pairwise_cons.2 ⟨fun y hy=>?_,h2.2.1⟩,fun a ha b hb=>?_⟩
    · have:=drop_ge h y hy
      have:y≠n:=fun e=>hn (by rw [← e];exact List.Sublist.mem hy (List.dropWhile_sublist _))
      omega
    · rcases List.mem_cons.1 hb with rfl | hb
      · exact take_lt a ha
      · exact h2.2.2 a ha b hb
theorem auto_0 {code:List Int} (hc:CodeC code) {H G:Heap} {r q5 q4:Nat} {k0:Nat} {seed:Int} {m:Int} (hm:1≤m∧m≤100) {x y w:AV} {z1 z2 z3:Nat} {f:List Int} {D1 D2 D3:List Nat} (hf:f.length≤1000)
    (st:St (H.del r) (dTs q5 q4 m x y w z1 z2 z3 f [] [] D1 D2 D3 r (cur code k0 seed)) G) (hk:k0≤500000000) {K:AV→Heap→Prop}
    (h:∀f es gs k' seed',f.length≤2000→es.length≤20000→gs.length≤10→(∀g∈gs,g.length≤10)→k0≤k'→k'≤k0+10000→K (aAu ⟨m,f,es,gs⟩) (H.set r (cur code k' seed'))) :
    L28_0 (wkK K) (.ptr r 0) (.ptr q4 0) (.ptr q5 0) (I 0) G:=by
  refine L28_0_rule ((0:Nat),y,([]:List Ed),D2,k0,seed,G) (fun s=>I s.1) (fun s=>s.2.2.2.2.2.2)
    (fun s=>(s.1:Int)≤m∧s.2.2.1.length≤16*s.1∧k0≤s.2.2.2.2.1∧s.2.2.2.2.1≤k0+64*s.1∧St (H.del r) (dTs q5 q4 m x s.2.1 w z1 z2 z3 f s.2.2.1 [] D1 s.2.2.2.1 D3 r (cur code s.2.2.2.2.1 s.2.2.2.2.2.1)) s.2.2.2.2.2.2) (fun s=>m.toNat - s.1)
    ⟨⟨by simp only;omega,by simp,by simp,by simp,st⟩,.refl _,Heap.le_refl _⟩ ?_
  clear st G seed y D2
  rintro ⟨i,y,es,D2,k,seed,G⟩ ⟨hi,hel,hk1,hk2,st⟩
  dsimp only at hi hel hk1 hk2 st
  have e5:IntKind.i64.wrap ((i:Int)+1)=((i+1:Nat):Int):=by rw [i64_id (by omega) (by omega)];simp
  (try simp (maxSteps:=1000000) (disch:=first | assumption | (apply ν6;assumption)) only [vz,vu,vv,eqS,eF_,↓c1_,↓c2_,tabs,reduceCtorEq,ι5,↓reduceIte,ν1,ν2,ν3,ν4,ν5,ι1,ι2,ι3,ι4,B28_0,load_at (st.get 0 rfl)])
  refine ⟨fun h1=>?_,fun h1=>?_⟩
  · refine L28_1_rule ((0:Nat),y,es,D2,k,seed,G) (fun s=>I s.1) (fun s=>s.2.2.2.2.2.2)
      (fun s=>s.1≤8∧s.2.2.1.length≤16*i+2*s.1∧k0≤s.2.2.2.2.1∧s.2.2.2.2.1≤k0+64*i+8*s.1∧St (H.del r) (dTs q5 q4 m x s.2.1 w z1 z2 z3 f s.2.2.1 [] D1 s.2.2.2.1 D3 r (cur code s.2.2.2.2.1 s.2.2.2.2.2.1)) s.2.2.2.2.2.2) (fun s=>8 - s.1)
      ⟨⟨by simp,by simp only;omega,by simp only;omega,by simp only;omega,st⟩,.refl _,Heap.le_refl _⟩ ?_
    clear st G seed y D2 hel hk1 hk2 es k
    rintro ⟨c,y,es,D2,k,seed,G⟩ ⟨hc8,hel,hk1,hk2,st⟩
    dsimp only at hc8 hel hk1 hk2 st
    have e6:IntKind.i64.wrap ((c:Int)+1)=((c+1:Nat):Int):=by rw [i64_id (by omega) (by omega)];simp
    (try simp (maxSteps:=1000000) (disch:=first | assumption | (apply ν6;assumption)) only [vz,vu,vv,eqS,eF_,↓c1_,↓c2_,tabs,reduceCtorEq,ι5,↓reduceIte,ν1,ν2,ν3,ν4,ν5,ι1,ι2,ι3,ι4,B28_1,load_at (st.get 0 rfl)])
    refine ⟨fun h2=>?_,fun h2=>?_⟩
    · refine pick_spec hc 3 (by omega) (k:=k) (by omega) (st.get 5 rfl) fun n0 k1 s1 hx0 hx1 hk3 hk4=>?_
      replace st:=st.put 5 rfl (cur code k1 s1)
      generalize G.set r (cur code k1 s1)=G1 at st ⊢
      obtain ⟨n0,rfl⟩:∃n:Nat,n0=(n:Int):=⟨n0.toNat,by omega⟩
      refine L28_2_rule (n0,([]:List Int),k1,s1,G1) (fun s=>Is s.2.1) (fun s=>I s.1) (fun s=>s.2.2.2.2)
        (fun s=>s.1≤n0∧s.2.1.length+s.1≤n0∧s.2.1.Pairwise (· < ·)∧k1≤s.2.2.1∧s.2.2.1+2*s.1≤k1+2*n0∧St (H.del r) (dTs q5 q4 m x y w z1 z2 z3 f es [] D1 D2 D3 r (cur code s.2.2.1 s.2.2.2.1)) s.2.2.2.2) (fun s=>s.1)
        ⟨⟨by simp,by simp,by simp,by simp,by simp,st⟩,.nil,.refl _,Heap.le_refl _⟩ ?_
      clear st G1 s1
      rintro ⟨n,t,k2,s2,G1⟩ ⟨hn,htl,htp,hk5,hk6,st⟩
      dsimp only at hn htl htp hk5 hk6 st
      have e7:0 < n→IntKind.i64.wrap ((n:Int) - 1)=((n - 1:Nat):Int):=fun h=>by rw [i64_id (by omega) (by omega)];omega
      (try simp (maxSteps:=1000000) (disch:=first | assumption | (apply ν6;assumption)) only [vz,vu,vv,eqS,eF_,↓c1_,↓c2_,tabs,reduceCtorEq,ι5,↓reduceIte,ν1,ν2,ν3,ν4,ν5,ι1,ι2,ι3,ι4,B28_2,load_at (st.get 0 rfl)])
      refine ⟨fun h3=>?_,fun h3=>?_⟩
      · have hn1:0 < n:=by omega
        have e7':=e7 hn1
        refine pick_spec hc m (by omega) (k:=k2) (by omega) (st.get 5 rfl) fun x1 k3 s3 hy0 hy1 hk7 hk8=>?_
        replace st:=st.put 5 rfl (cur code k3 s3)
        generalize G1.set r (cur code k3 s3)=G2 at st ⊢
        refine Pu.use (l1Put_spec t x1 htp (by omega)) ?_
        have pl:=put_len t x1
        have pp:=put_pw x1 htp
        generalize put t x1=t' at pl pp ⊢
        (try simp (maxSteps:=1000000) (disch:=first | assumption | (apply ν6;assumption)) only [vz,vu,vv,eqS,eF_,↓c1_,↓c2_,tabs,reduceCtorEq,ι5,↓reduceIte,ν1,ν2,ν3,ν4,ν5,ι1,ι2,ι3,ι4,e7'])
        exact ⟨(n - 1,t',k3,s3,G2),⟨by simp only;omega,by simp only;omega,pp,by simp only;omega,by simp only;omega,st⟩,by simp only;omega,.refl _,.refl _,Heap.le_refl _⟩
      · have:n=0:=by omega
        subst this
        refine L28_3_rule ((0:Nat),y,es,D2,G1) (fun s=>I s.1) (fun s=>s.2.2.2.2)
          (fun s=>s.1≤t.length∧s.2.2.1.length≤16*i+2*c+s.1∧St (H.del r) (dTs q5 q4 m x s.2.1 w z1 z2 z3 f s.2.2.1 [] D1 s.2.2.2.1 D3 r (cur code k2 s2)) s.2.2.2.2) (fun s=>t.length - s.1)
          ⟨⟨by simp,by simp only;omega,st⟩,.refl _,Heap.le_refl _⟩ ?_
        clear st G1 y D2 hel es
        rintro ⟨j,y,es,D2,G⟩ ⟨hj,hel,st⟩
        dsimp only at hj hel st
        have e8:IntKind.i64.wrap ((j:Int)+1)=((j+1:Nat):Int):=by rw [i64_id (by omega) (by omega)];simp
        (try simp (maxSteps:=1000000) (disch:=first | assumption | (apply ν6;assumption)) only [vz,vu,vv,eqS,eF_,↓c1_,↓c2_,tabs,reduceCtorEq,ι5,↓reduceIte,ν1,ν2,ν3,ν4,ν5,ι1,ι2,ι3,ι4,B28_3,load_at (st.get 0 rfl)])
        refine ⟨fun h4=>⟨by omega,h4,?_⟩,fun h4=>?_⟩
        · generalize t.getD j default=u
          refine lit_edge (x:=⟨i,c,u⟩) ?_
          (try simp (maxSteps:=1000000) (disch:=first | assumption | (apply ν6;assumption)) only [vz,vu,vv,eqS,eF_,↓c1_,↓c2_,tabs,reduceCtorEq,ι5,↓reduceIte,ν1,ν2,ν3,ν4,ν5,ι1,ι2,ι3,ι4,load_at (st.get 0 rfl)])
          refine rz_appE (ys:=[⟨i,c,u⟩]) st 3 rfl (by simp only [List.length_cons,List.length_nil];omega) fun q' G' hq' st=>?_
          obtain ⟨es',hes⟩:∃es',es++[⟨i,c,u⟩]=es':=⟨_,rfl⟩
          have hl':es'.length=es.length+1:=by rw [← hes];simp
          rw [hes] at st ⊢
          (try simp (maxSteps:=1000000) (disch:=first | assumption | (apply ν6;assumption)) only [vz,vu,vv,eqS,eF_,↓c1_,↓c2_,tabs,reduceCtorEq,ι5,↓reduceIte,ν1,ν2,ν3,ν4,ν5,ι1,ι2,ι3,ι4,store_at (st.get 0 rfl),e8])
          replace st:=st.put 0 rfl [I m,x,rowE q' es',w]
          exact ⟨(j+1,_,es',[q'],_),⟨by simp only;omega,by simp only;omega,st⟩,by simp only;omega,.refl _,Heap.le_refl _⟩
        · (try simp (maxSteps:=1000000) (disch:=first | assumption | (apply ν6;assumption)) only [vz,vu,vv,eqS,eF_,↓c1_,↓c2_,tabs,reduceCtorEq,ι5,↓reduceIte,ν1,ν2,ν3,ν4,ν5,ι1,ι2,ι3,ι4,e6])
          exact ⟨(c+1,y,es,D2,k2,s2,G),⟨by simp only;omega,by simp only;omega,by simp only;omega,by simp only;omega,st⟩,by simp only;omega,.refl _,Heap.le_refl _⟩
    · have:c=8:=by omega
      subst this
      (try simp (maxSteps:=1000000) (disch:=first | assumption | (apply ν6;assumption)) only [vz,vu,vv,eqS,eF_,↓c1_,↓c2_,tabs,reduceCtorEq,ι5,↓reduceIte,ν1,ν2,ν3,ν4,ν5,ι1,ι2,ι3,ι4,e5])
      exact ⟨(i+1,y,es,D2,k,seed,G),⟨by simp only;omega,by simp only;omega,by simp only;omega,by simp only;omega,st⟩,by simp only;omega,.refl _,Heap.le_refl _⟩
  · have hi100:i≤100:=by omega
    refine pick_spec hc 4 (by omega) (k:=k) (by omega) (st.get 5 rfl) fun n0 k1 s1 hx0 hx1 hk3 hk4=>?_
    replace st:=st.put 5 rfl (cur code k1 s1)
    generalize G.set r (cur code k1 s1)=G1 at st ⊢
    obtain ⟨n0,rfl⟩:∃n:Nat,n0=(n:Int):=⟨n0.toNat,by omega⟩
    exact auto_4 hc hm hf (by omega) n0 (by omega) rfl st (by omega) fun f es gs k' s' a1 a2 a3 a4 a5 a6=>h f es gs k' s' a1 a2 a3 a4 (by omega) (by omega)
theorem auto_spec {code:List Int} (hc:CodeC code) {H:Heap} {r:Nat} {k0:Nat} {seed:Int} (hr:H r=some (cur code k0 seed)) (hk:k0≤400000000) (most:Int) (hm:1≤most∧most≤99) {K:AV→Heap→Prop}
    (h:∀a k' seed',smAu a→1≤a.states∧a.states≤100→k0≤k'→k'≤k0+20000→K (aAu a) (H.set r (cur code k' seed'))):CallT Try.prog 28 [.ptr r 0,I most] H K:=by
  refine CallT.fin ?_
  refine CallT.ghost W28_hb fun z2 hz2=>?_
  refine CallT.ghost W28_hb fun z3 hz3=>?_
  have st:=lent (LPl.local eL) (LPl.has eL) 1 (lent (LPl.local eE) (LPl.has eE) 3 (((St.start hr).cell hz2 []).cell hz3 []) 1 rfl) 0 rfl
  generalize (H.set z2 []).set z3 []=G0 at st ⊢
  clear hz2 hz3
  refine W28_ok ?_;simp (maxSteps:=1000000) (disch:=first | assumption | (apply ν6;assumption)) only [W28,vz,vu,vv,eqS,eF_,↓c1_,↓c2_,tabs,reduceCtorEq,ι5,↓reduceIte,ν1,ν2,ν3,ν4,ν5,ι1,ι2,ι3,ι4]
  intro q4 hq4
  replace st:=st.cell hq4 [I 0,.p .nil,.p .nil,.p .nil]
  refine pick_spec hc most (by omega) (k:=k0) (by omega) (st.get 3 rfl) fun x1 k1 s1 hx0 hx1 hk1 hk2=>?_
  replace st:=st.put 3 rfl (cur code k1 s1)
  have ec:∀H:Heap,H.set q4 [AV.p (PV.int IntKind.i64 0),AV.p PV.nil,AV.p PV.nil,AV.p PV.nil]=H.set q4 [I 0,.p .nil,.p .nil,.p .nil]:=fun _=>rfl
  rw [ec]
  generalize (G0.set q4 [I 0,.p .nil,.p .nil,.p .nil]).set r (cur code k1 s1)=G at st ⊢
  clear ec hq4
  (try simp (maxSteps:=1000000) (disch:=first | assumption | (apply ν6;assumption)) only [vz,vu,vv,eqS,eF_,↓c1_,↓c2_,tabs,reduceCtorEq,ι5,↓reduceIte,ν1,ν2,ν3,ν4,ν5,ι1,ι2,ι3,ι4,i64_id (show -9223372036854775808≤1+x1 by omega) (show 1+x1≤9223372036854775807 by omega)])
  intro q5 hq5
  replace st:=st.cell hq5 [I (1+x1),.p .nil,.p .nil,.p .nil]
  generalize G.set q5 [I (1+x1),.p .nil,.p .nil,.p .nil]=G1 at st ⊢
  clear hq5
  refine pick_spec hc (1+x1) (by omega) (k:=k1) (by omega) (st.get 4 rfl) fun x2 k2 s2 hy0 hy1 hk3 hk4=>?_
  replace st:=st.put 4 rfl (cur code k2 s2)
  generalize G1.set r (cur code k2 s2)=G2 at st ⊢
  refine l1Put_nil x2 fun q hq=>?_
  replace st:=owned_i (st.cell hq (cP fI [x2])) 0 rfl
  generalize G2.set q (cP fI [x2])=G3 at st ⊢
  (try simp (maxSteps:=1000000) (disch:=first | assumption | (apply ν6;assumption)) only [vz,vu,vv,eqS,eF_,↓c1_,↓c2_,tabs,reduceCtorEq,ι5,↓reduceIte,ν1,ν2,ν3,ν4,ν5,ι1,ι2,ι3,ι4,store_at (st.get 1 rfl)])
  replace st:=st.put 1 rfl [I (1+x1),rowP q [x2],.p .nil,.p .nil]
  generalize G3.set q5 [I (1+x1),rowP q [x2],.p .nil,.p .nil]=G4 at st ⊢
  have st1:=st.pick 5 rfl
  have st2:=st1.pick 4 rfl
  have st3:=st2.pick 5 rfl
  have st4:=st3.pick 3 rfl
  have st5:=st4.pick 5 rfl
  have st6:=st5.pick 5 rfl
  refine auto_0 hc ⟨by omega,by omega⟩ (by simp) st6 (by omega) fun f es gs k' s' a1 a2 a3 a4 a5 a6=>h _ k' s' ⟨by simp only;omega,by simp only;omega,by simp only;omega,fun g hg=>by have:=a4 g hg;omega⟩ ⟨by simp only;omega,by simp only;omega⟩ (by omega) (by omega)
end Go.Proofs.Ytohkciilfkhomaa
