/- Texts laid together: Ma2 Ma3 Ma4 Mg0 Pf1 Mf0 Lr3 Ss1 Lay Ps1. -/
import Derived.Test.YtolffbcnbcjeaaaGreatPkx6
import Derived.Sort.Grow
import Derived.Shelf.SlGeneric
import Derived.Shelf.SlLaysNS
import Derived.Test.YtolffbcnbcjeaaaGreatProg
import Derived.Lib.SlicesCompact
set_option linter.unusedVariables false
set_option linter.unusedSimpArgs false
open Go.Sep.AV renaming any → Q_
open Nat renaming reduceAdd→ν1,reduceLeDiff→ν2,reduceLT→ν3,reduceMul→ν4,reduceSub→ν5
open Int renaming reduceToNat→ι1,reduceSub→ι2,reduceAdd→ι3,reduceNeg→ι4
open Array renaming toList→ι5
open Ne renaming symm→ν6
open List renaming forall_mem_cons→ν7
namespace Go.Proofs.YtolffbcnbcjeaaaGreat
open Go Go.Sep Go.Pt
attribute [local irreducible] CallT
abbrev LE:List Ed→AV→Heap→List Nat→Prop:=LRow (LPl eE) 3
def LIc:Lay (List Int):=fun l cs G D=>∃x,cs=[x]∧LI l x G D
abbrev LII:List (List Int)→AV→Heap→List Nat→Prop:=LRow LIc 1
theorem LIc.local:Lay.Local LIc:=by
 rintro c cs G G' D ⟨x,e,h⟩ hf
 exact ⟨x,e,LRow.local (LPl.local eI) h hf⟩
theorem LIc.size:Lay.Size LIc 1:=by
 rintro c cs G D ⟨x,rfl,h⟩;rfl
theorem LIc.has:Lay.Has LIc:=by
 rintro c cs G D ⟨x,e,h⟩
 exact LRow.has (LPl.has eI) h
theorem LIc.frz:Lay.Frz LIc eL:=by
 rintro c cs G D v s pre post ⟨x,rfl,h⟩ hD hs hG
 obtain ⟨G',w,k,f⟩:=LRow.frzIn (e:=eI) (sz:=1) (pre:=pre) (post:=post) (v:=v) (by omega) (fun _=>rfl) (LPl.local eI) (LPl.frz eI) h hD hs (by rw [hG])
 exact ⟨G',w,by rw [k];rfl,f⟩
def LAu (a:Au) (v:AV) (G:Heap) (D:List Nat):Prop:=∃x y z D1 D2 D3,v=.agg [I a.states,x,y,z]∧D=D1++(D2++D3)∧LI a.first x G D1∧LE a.edges y G D2∧LII a.goals z G D3
theorem LAu.local {a:Au} {v:AV} {G G':Heap} {D:List Nat} (h:LAu a v G D) (hf:∀y∈D,∀b,G y=some b→G' y=some b):LAu a v G' D:=by
 obtain ⟨x,y,z,D1,D2,D3,e,rfl,h1,h2,h3⟩:=h
 exact ⟨x,y,z,D1,D2,D3,e,rfl,LRow.local (LPl.local eI) h1 (fun u hu=>hf u (by simp [hu])),LRow.local (LPl.local eE) h2 (fun u hu=>hf u (by simp [hu])),LRow.local LIc.local h3 (fun u hu=>hf u (by simp [hu]))⟩
theorem LAu.has {a:Au} {v:AV} {G:Heap} {D:List Nat} (h:LAu a v G D):∀y∈D,G y≠none:=by
 obtain ⟨x,y,z,D1,D2,D3,e,rfl,h1,h2,h3⟩:=h
 intro u hu
 simp only [List.mem_append] at hu
 rcases hu with hu | hu | hu
 ·exact LRow.has (LPl.has eI) h1 u hu
 ·exact LRow.has (LPl.has eE) h2 u hu
 ·exact LRow.has LIc.has h3 u hu
theorem nd3' {A B C:List Nat} (h:(A++(B++C)).Nodup):A.Nodup∧B.Nodup∧C.Nodup∧(∀y∈A,y∉B)∧(∀y∈A,y∉C)∧(∀y∈B,y∉C):=by
 rw [List.nodup_append,List.nodup_append] at h
 obtain ⟨h1,⟨h2,h3,h4⟩,h5⟩:=h
 exact ⟨h1,h2,h3,fun y hy hb=>h5 y hy y (List.mem_append_left _ hb) rfl,fun y hy hb=>h5 y hy y (List.mem_append_right _ hb) rfl,fun y hy hb=>h4 y hy y hb rfl⟩
theorem LAu.wk {a:Au} {v:AV} {G:Heap} {D:List Nat} (h:LAu a v G D) (hD:D.Nodup) (C:AV→AV) (hC:∀{q sz es a a'},FrzR q sz es a a'→FrzR q sz es (C a) (C a')):∃G',Wk (C v) G (C (aAu a)) G'∧∀y,y∉D→G' y=G y:=by
 obtain ⟨x,y,z,D1,D2,D3,rfl,rfl,h1,h2,h3⟩:=h
 obtain ⟨n1,n2,n3,d12,d13,d23⟩:=nd3' hD
 obtain ⟨G1,w1,f1⟩:=LRow.frzV (e:=eI) (sz:=1) (v:=C (.agg [I a.states,x,y,z])) (v':=C (.agg [I a.states,Is a.first,y,z])) (by omega) (fun _=>rfl) (LPl.local eI) (LPl.frz eI) h1 n1
  (fun q _ hr=>hC (.agg (.cons (.same _) (.cons hr (.cons (.same _) (.cons (.same _) .nil))))))
 have h2':=LRow.local (LPl.local eE) h2 (G':=G1) fun u hu b hb=>by rw [f1 u (fun h=>d12 u h hu)];exact hb
 obtain ⟨G2,w2,f2⟩:=LRow.frzV (e:=eE) (sz:=3) (v:=C (.agg [I a.states,Is a.first,y,z])) (v':=C (.agg [I a.states,Is a.first,Es a.edges,z])) (by omega) (fun _=>rfl) (LPl.local eE) (LPl.frz eE) h2' n2
  (fun q _ hr=>hC (.agg (.cons (.same _) (.cons (.same _) (.cons hr (.cons (.same _) .nil))))))
 have h3':=LRow.local LIc.local h3 (G':=G2) fun u hu b hb=>by rw [f2 u (fun h=>d23 u h hu),f1 u (fun h=>d13 u h hu)];exact hb
 obtain ⟨G3,w3,f3⟩:=LRow.frzV (e:=eL) (sz:=1) (v:=C (.agg [I a.states,Is a.first,Es a.edges,z])) (v':=C (aAu a)) (by omega) (fun _=>rfl) LIc.local LIc.frz h3' n3
  (fun q _ hr=>hC (.agg (.cons (.same _) (.cons (.same _) (.cons (.same _) (.cons hr .nil))))))
 refine ⟨G3,.trans w1 (.trans w2 w3),fun u hu=>?_⟩
 simp only [List.mem_append,not_or] at hu
 rw [f3 u hu.2.2,f2 u hu.2.1,f1 u hu.1]
end Go.Proofs.YtolffbcnbcjeaaaGreat
namespace Go.Proofs.YtolffbcnbcjeaaaGreat
open Go Go.Sep Go.Pt
attribute [local irreducible] CallT
theorem riseAt_iff {l:List Int} {n:Int} {i:Nat}:riseAt l n i=true↔0≤l.getD i default∧l.getD i default < n∧(i=0∨l.getD (i - 1) default < l.getD i default):=by
 simp only [riseAt,Bool.and_eq_true,Bool.or_eq_true,decide_eq_true_eq,and_assoc]
theorem rise_not {l:List Int} {n:Int} {i:Nat} (h:¬(0≤l.getD i default∧l.getD i default < n∧(i=0∨l.getD (i - 1) default < l.getD i default))):riseAt l n i=false:=by
 rw [Bool.eq_false_iff];exact fun hh=>h (riseAt_iff.1 hh)
theorem isIncreasing_spec (l:List Int) (n:Int) (hl:l.length≤1048576):Pu Tryz.prog 75 [Is l,I n] (B (rising l n)):=by
 refine Pu.of fun H=>?_
 refine W75_ok ?_;simp (maxSteps:=1000000) (disch:=first | assumption | (apply ν6;assumption)) only [W75,vz,vu,vv,eqS,eF_,↓c1_,↓c2_,tabs,reduceCtorEq,ι5,↓reduceIte,ν1,ν2,ν3,ν4,ν5,ι1,ι2,ι3,ι4]
 refine L75_0_rule (0:Nat) (fun i=>I i) (fun _=>H) (fun i=>i≤l.length∧(List.range i).all (riseAt l n)=true) (fun i=>l.length - i) ⟨⟨by omega,rfl⟩,.refl _,Heap.le_refl _⟩ ?_
 rintro i ⟨hi,ha⟩
 have ra:∀j,j < l.length→riseAt l n j=false→rising l n=false:=fun j hj h=>range_all_false hj h
 have e1:0 < (i:Int)→IntKind.i64.wrap ((i:Int) - 1)=i - 1:=fun _=>i6_ (by omega) (by omega)
 have e2:((i:Int) - 1).toNat=i - 1:=by omega
 have nx:riseAt l n i=true→(List.range (i+1)).all (riseAt l n)=true:=fun h=>by rw [range_all_succ,ha,h];rfl
 (try simp (maxSteps:=1000000) (disch:=first | assumption | (apply ν6;assumption)) only [vz,vu,vv,eqS,eF_,↓c1_,↓c2_,tabs,reduceCtorEq,ι5,↓reduceIte,ν1,ν2,ν3,ν4,ν5,ι1,ι2,ι3,ι4,B75_0])
 refine ⟨fun h1=>⟨by omega,h1,fun h2=>?_,fun h2=>⟨fun h3=>?_,fun h3=>⟨fun h4=>?_,fun h4=>?_⟩⟩⟩,fun h1=>?_⟩
 ·rw [ra i (by omega) (rise_not (by omega))]
 ·rw [ra i (by omega) (rise_not (by omega))]
 ·rw [e1 h4,e2]
  refine ⟨by omega,by omega,fun h5=>?_,fun h5=>⟨i+1,⟨by omega,nx ?_⟩,by omega,?_⟩⟩
  ·rw [ra i (by omega) (rise_not (by omega))]
  ·exact riseAt_iff.2 (by omega)
  ·rw [wk_int,i6_ (by omega) (by omega)];simp
 ·refine ⟨i+1,⟨by omega,nx ?_⟩,by omega,?_⟩
  ·exact riseAt_iff.2 (by omega)
  ·rw [wk_int,i6_ (by omega) (by omega)];simp
 ·have:i=l.length:=by omega
  subst this
  rw [rising,ha]
theorem l1Rising_spec (l:List Int) (n:Int) (hl:l.length≤1048576):Pu Tryz.prog 106 [Is l,I 0,I (n - 1)] (B (rising l n)):=by
 refine Pu.of fun H=>?_
 refine W106_ok ?_;simp (maxSteps:=1000000) (disch:=first | assumption | (apply ν6;assumption)) only [W106,vz,vu,vv,eqS,eF_,↓c1_,↓c2_,tabs,reduceCtorEq,ι5,↓reduceIte,ν1,ν2,ν3,ν4,ν5,ι1,ι2,ι3,ι4]
 refine L106_0_rule (0:Nat) (fun i=>I i) (fun _=>H) (fun i=>i≤l.length∧(List.range i).all (riseAt l n)=true) (fun i=>l.length - i) ⟨⟨by omega,rfl⟩,.refl _,Heap.le_refl _⟩ ?_
 rintro i ⟨hi,ha⟩
 have ra:∀j,j < l.length→riseAt l n j=false→rising l n=false:=fun j hj h=>range_all_false hj h
 have e1:0 < (i:Int)→IntKind.i64.wrap ((i:Int) - 1)=i - 1:=fun _=>i6_ (by omega) (by omega)
 have e2:((i:Int) - 1).toNat=i - 1:=by omega
 have nx:riseAt l n i=true→(List.range (i+1)).all (riseAt l n)=true:=fun h=>by rw [range_all_succ,ha,h];rfl
 (try simp (maxSteps:=1000000) (disch:=first | assumption | (apply ν6;assumption)) only [vz,vu,vv,eqS,eF_,↓c1_,↓c2_,tabs,reduceCtorEq,ι5,↓reduceIte,ν1,ν2,ν3,ν4,ν5,ι1,ι2,ι3,ι4,B106_0])
 refine ⟨fun h1=>⟨by omega,h1,?_⟩,fun h1=>?_⟩
 ·refine Pu.use (l1In_spec (l.getD i default) 0 (n - 1)) ?_
  cases h2:(decide (0≤l.getD i default) && decide (l.getD i default≤n - 1))
  ·(try simp (maxSteps:=1000000) (disch:=first | assumption | (apply ν6;assumption)) only [vz,vu,vv,eqS,eF_,↓c1_,↓c2_,tabs,reduceCtorEq,ι5,↓reduceIte,ν1,ν2,ν3,ν4,ν5,ι1,ι2,ι3,ι4])
   simp only [Bool.and_eq_false_iff,decide_eq_false_iff_not] at h2
   rw [ra i (by omega) (rise_not (by omega))]
  simp only [Bool.and_eq_true,decide_eq_true_eq] at h2
  (try simp (maxSteps:=1000000) (disch:=first | assumption | (apply ν6;assumption)) only [vz,vu,vv,eqS,eF_,↓c1_,↓c2_,tabs,reduceCtorEq,ι5,↓reduceIte,ν1,ν2,ν3,ν4,ν5,ι1,ι2,ι3,ι4])
  refine ⟨fun h4=>?_,fun h4=>?_⟩
  ·rw [e1 h4,e2]
   refine ⟨by omega,by omega,fun h5=>?_,fun h5=>⟨i+1,⟨by omega,nx ?_⟩,by omega,?_⟩⟩
   ·rw [ra i (by omega) (rise_not (by omega))]
   ·exact riseAt_iff.2 (by omega)
   ·rw [wk_int,i6_ (by omega) (by omega)];simp
  ·refine ⟨i+1,⟨by omega,nx ?_⟩,by omega,?_⟩
   ·exact riseAt_iff.2 (by omega)
   ·rw [wk_int,i6_ (by omega) (by omega)];simp
 ·have:i=l.length:=by omega
  subst this
  rw [rising,ha]
theorem Compare_spec (a b:Int):Pu Tryz.prog 113 [I a,I b] (I (if a < b then -1 else if a=b then 0 else 1)):=by
 have nan:∀c:Int,Pu Tryz.prog 135 [I c] (B false):=fun c=>by
  refine Pu.of fun H=>?_
  refine W135_ok ?_;simp (maxSteps:=1000000) (disch:=first | assumption | (apply ν6;assumption)) only [W135,vz,vu,vv,eqS,eF_,↓c1_,↓c2_,tabs,reduceCtorEq,ι5,↓reduceIte,ν1,ν2,ν3,ν4,ν5,ι1,ι2,ι3,ι4]
 refine Pu.of fun H=>?_
 refine W113_ok ?_;simp (maxSteps:=1000000) (disch:=first | assumption | (apply ν6;assumption)) only [W113,vz,vu,vv,eqS,eF_,↓c1_,↓c2_,tabs,reduceCtorEq,ι5,↓reduceIte,ν1,ν2,ν3,ν4,ν5,ι1,ι2,ι3,ι4]
 refine Pu.use (nan a) ?_
 (try simp (maxSteps:=1000000) (disch:=first | assumption | (apply ν6;assumption)) only [vz,vu,vv,eqS,eF_,↓c1_,↓c2_,tabs,reduceCtorEq,ι5,↓reduceIte,ν1,ν2,ν3,ν4,ν5,ι1,ι2,ι3,ι4])
 refine Pu.use (nan b) ?_
 (try simp (maxSteps:=1000000) (disch:=first | assumption | (apply ν6;assumption)) only [vz,vu,vv,eqS,eF_,↓c1_,↓c2_,tabs,reduceCtorEq,ι5,↓reduceIte,ν1,ν2,ν3,ν4,ν5,ι1,ι2,ι3,ι4])
 refine ⟨fun h=>by rw [if_pos h],fun h=>⟨fun h2=>by rw [if_neg h,if_neg (by omega)],fun h2=>by rw [if_neg h,if_pos (by omega)]⟩⟩
theorem Or3_spec (a b c:Int):Pu Tryz.prog 112 [Is [a,b,c]] (I (if a≠0 then a else if b≠0 then b else c)):=by
 refine Pu.of fun H=>?_
 refine W112_ok ?_;simp (maxSteps:=1000000) (disch:=first | assumption | (apply ν6;assumption)) only [W112,vz,vu,vv,eqS,eF_,↓c1_,↓c2_,tabs,reduceCtorEq,ι5,↓reduceIte,ν1,ν2,ν3,ν4,ν5,ι1,ι2,ι3,ι4]
 refine L112_0_rule (0:Nat) (fun i=>I i) (fun _=>H) (fun i=>i≤3∧∀j,j < i→[a,b,c].getD j 0=0) (fun i=>3 - i) ⟨⟨by omega,by intros;omega⟩,.refl _,Heap.le_refl _⟩ ?_
 rintro i ⟨hi,ha⟩
 (try simp (maxSteps:=1000000) (disch:=first | assumption | (apply ν6;assumption)) only [vz,vu,vv,eqS,eF_,↓c1_,↓c2_,tabs,reduceCtorEq,ι5,↓reduceIte,ν1,ν2,ν3,ν4,ν5,ι1,ι2,ι3,ι4,B112_0])
 have e3:∀j,[a,b,c].getD j default=[a,b,c].getD j 0:=fun _=>rfl
 rw [e3]
 refine ⟨fun h1=>⟨by omega,h1,fun h2=>?_,fun h2=>⟨i+1,⟨by omega,fun j hj=>?_⟩,by omega,?_⟩⟩,fun h1=>?_⟩
 ·refine congrArg (fun n:Int=>I n) ?_
  have a0:=ha 0
  have a1:=ha 1
  obtain rfl | rfl | rfl:i=0∨i=1∨i=2:=by omega
  ·rw [if_pos (by simpa using h2)];rfl
  ·rw [if_neg (by simpa using a0 (by omega)),if_pos (by simpa using h2)];rfl
  ·rw [if_neg (by simpa using a0 (by omega)),if_neg (by simpa using a1 (by omega))];rfl
 ·rcases Nat.lt_succ_iff_lt_or_eq.1 hj with h | rfl
  ·exact ha j h
  ·exact h2
 ·rw [wk_int,i6_ (by omega) (by omega)];simp
 ·have a0:=ha 0 (by omega)
  have a1:=ha 1 (by omega)
  have a2:=ha 2 (by omega)
  rw [if_neg (by simpa using a0),if_neg (by simpa using a1)]
  exact congrArg (fun n:Int=>I n) a2.symm
theorem compareEdges_spec (a b:Ed):Pu Tryz.prog 77 [aE a,aE b] (I (if edLt a b then -1 else if edLt b a then 1 else 0)):=by
 refine Pu.of fun H=>?_
 refine W77_ok ?_;simp (maxSteps:=1000000) (disch:=first | assumption | (apply ν6;assumption)) only [W77,vz,vu,vv,eqS,eF_,↓c1_,↓c2_,tabs,reduceCtorEq,ι5,↓reduceIte,ν1,ν2,ν3,ν4,ν5,ι1,ι2,ι3,ι4]
 intro r hr r2 n2 hr2
 have nn2:r≠r2:=Ne.symm n2
 have hle:=Heap.le_setN (b:=[I b.src,I b.lt,I b.dst]) (Heap.le_set (b:=[I a.src,I a.lt,I a.dst]) hr) hr2
 (try simp (maxSteps:=1000000) (disch:=first | assumption | (apply ν6;assumption)) only [vz,vu,vv,eqS,eF_,↓c1_,↓c2_,tabs,reduceCtorEq,ι5,↓reduceIte,ν1,ν2,ν3,ν4,ν5,ι1,ι2,ι3,ι4])
 refine Pu.use (Compare_spec a.src b.src) ?_
 (try simp (maxSteps:=1000000) (disch:=first | assumption | (apply ν6;assumption)) only [vz,vu,vv,eqS,eF_,↓c1_,↓c2_,tabs,reduceCtorEq,ι5,↓reduceIte,ν1,ν2,ν3,ν4,ν5,ι1,ι2,ι3,ι4])
 refine Pu.use (Compare_spec a.lt b.lt) ?_
 (try simp (maxSteps:=1000000) (disch:=first | assumption | (apply ν6;assumption)) only [vz,vu,vv,eqS,eF_,↓c1_,↓c2_,tabs,reduceCtorEq,ι5,↓reduceIte,ν1,ν2,ν3,ν4,ν5,ι1,ι2,ι3,ι4])
 refine Pu.use (Compare_spec a.dst b.dst) ?_
 refine lit3 tab_22 rfl tab_3 ⟨rfl,rfl⟩ ?_
 refine Pu.use (Or3_spec _ _ _) ?_
 refine ⟨?_,hle⟩
 refine congrArg (fun n:Int=>I n) ?_
 have c1:∀x y:Int,(if x < y then (-1:Int) else if x=y then 0 else 1)≠0↔x≠y:=fun x y=>by
  constructor
  ·intro h e;subst e;simp at h
  ·intro h;split<;>first | decide | (rw [if_neg h];decide)
 have key:∀x y:Int,(if x < y then (-1:Int) else if x=y then 0 else 1)=(if decide (x < y)=true then -1 else if decide (y < x)=true then 1 else 0):=fun x y=>by
  simp only [decide_eq_true_eq]
  rcases Int.lt_trichotomy x y with h | h | h
  ·rw [if_pos h,if_pos h]
  ·subst h;simp
  ·rw [if_neg (by omega),if_neg (by omega),if_neg (by omega),if_pos h]
 unfold edLt
 by_cases h1:a.src=b.src
 ·rw [if_neg (by rw [c1];exact not_not_intro h1),if_pos h1,if_pos h1.symm]
  by_cases h2:a.lt=b.lt
  ·rw [if_neg (by rw [c1];exact not_not_intro h2),if_pos h2,if_pos h2.symm]
   exact key _ _
  ·rw [if_pos (by rw [c1];exact h2)]
   have:=key a.lt b.lt
   simpa only [if_neg h2,if_neg (Ne.symm h2)] using this
 ·rw [if_pos (by rw [c1];exact h1)]
  have:=key a.src b.src
  simpa only [if_neg h1,if_neg (Ne.symm h1)] using this
theorem l12Less_spec (a b:Ed):Pu Tryz.prog 66 [aE a,aE b] (B (edLt a b)):=by
 refine Pu.of fun H=>?_
 refine W66_ok ?_;simp (maxSteps:=1000000) (disch:=first | assumption | (apply ν6;assumption)) only [W66,vz,vu,vv,eqS,eF_,↓c1_,↓c2_,tabs,reduceCtorEq,ι5,↓reduceIte,ν1,ν2,ν3,ν4,ν5,ι1,ι2,ι3,ι4]
 intro r hr r2 n2 hr2
 have nn2:r≠r2:=Ne.symm n2
 have hle:=Heap.le_setN (b:=[I b.src,I b.lt,I b.dst]) (Heap.le_set (b:=[I a.src,I a.lt,I a.dst]) hr) hr2
 (try simp (maxSteps:=1000000) (disch:=first | assumption | (apply ν6;assumption)) only [vz,vu,vv,eqS,eF_,↓c1_,↓c2_,tabs,reduceCtorEq,ι5,↓reduceIte,ν1,ν2,ν3,ν4,ν5,ι1,ι2,ι3,ι4])
 unfold edLt
 exact ⟨fun h=>⟨by rw [if_neg h],hle⟩,fun h=>⟨fun h2=>⟨by rw [if_pos h,if_neg h2],hle⟩,fun h2=>⟨by rw [if_pos h,if_pos h2],hle⟩⟩⟩
theorem areGoals1_at (l:List Int) (n:Int) (r:Nat) {H:Heap} (hr:H r=some [I n]) (hl:l.length≤1048576):PuAt Tryz.prog 111 [Is l,.ptr r 0] H (B (!rising l n)):=by
 intro K hK
 refine W111_ok ?_;simp (maxSteps:=1000000) (disch:=first | assumption | (apply ν6;assumption)) only [W111,vz,vu,vv,eqS,eF_,↓c1_,↓c2_,tabs,reduceCtorEq,ι5,↓reduceIte,ν1,ν2,ν3,ν4,ν5,ι1,ι2,ι3,ι4,lA_ hr]
 refine Pu.use (isIncreasing_spec l n hl) ?_
 (try simp (maxSteps:=1000000) (disch:=first | assumption | (apply ν6;assumption)) only [vz,vu,vv,eqS,eF_,↓c1_,↓c2_,tabs,reduceCtorEq,ι5,↓reduceIte,ν1,ν2,ν3,ν4,ν5,ι1,ι2,ι3,ι4])
 simpa using hK
theorem IndexFuncL_at (xs:List (List Int)) (g:Nat) (caps:List AV) (p:List Int→Bool) {H:Heap} (hl:xs.length≤1000000000) (hp:∀x∈xs,PuAt Tryz.prog g (Is x::caps) H (B (p x))) :
  PuAt Tryz.prog 134 [Ls xs,.fn g caps] H (I (if xs.any p then (xs.findIdx p:Int) else -1)):=by
 intro K hK
 refine CallT.fin ?_
 refine W134_ok ?_;simp (maxSteps:=1000000) (disch:=first | assumption | (apply ν6;assumption)) only [W134,vz,vu,vv,eqS,eF_,↓c1_,↓c2_,tabs,reduceCtorEq,ι5,↓reduceIte,ν1,ν2,ν3,ν4,ν5,ι1,ι2,ι3,ι4]
 refine L134_0_rule (0:Nat) (fun i=>I i) (fun _=>H) (fun i=>i≤xs.length∧∀j (hj:j < xs.length),j < i→p xs[j]=false) (fun i=>xs.length - i) ⟨⟨by omega,by intros;omega⟩,.refl _,Heap.le_refl _⟩ ?_
 rintro i ⟨hi1,ha⟩
 (try simp (maxSteps:=1000000) (disch:=first | assumption | (apply ν6;assumption)) only [vz,vu,vv,eqS,eF_,↓c1_,↓c2_,tabs,reduceCtorEq,ι5,↓reduceIte,ν1,ν2,ν3,ν4,ν5,ι1,ι2,ι3,ι4,B134_0])
 refine ⟨fun h=>⟨by omega,h,?_⟩,fun h=>?_⟩
 ·have hlt:i < xs.length:=by omega
  rw [getD_lt hlt]
  refine PuAt.use (hp _ (List.getElem_mem hlt)) ?_
  (try simp (maxSteps:=1000000) (disch:=first | assumption | (apply ν6;assumption)) only [vz,vu,vv,eqS,eF_,↓c1_,↓c2_,tabs,reduceCtorEq,ι5,↓reduceIte,ν1,ν2,ν3,ν4,ν5,ι1,ι2,ι3,ι4])
  refine ⟨fun h1=>?_,fun h1=>⟨i+1,⟨by omega,fun j hj hji=>?_⟩,by omega,?_⟩⟩
  ·have h2:xs.any p=true:=List.any_eq_true.2 ⟨xs[i],List.getElem_mem hlt,h1⟩
   have h3:xs.findIdx p=i:=by
    rw [List.findIdx_eq hlt];exact ⟨h1,fun j hj=>ha j (by omega) hj⟩
   rw [h2,h3] at hK;exact wkK.keep (by simpa using hK)
  ·rcases Nat.lt_succ_iff_lt_or_eq.1 hji with h2 | rfl
   ·exact ha j hj h2
   ·exact h1
  ·rw [wk_int,i6_ (by omega) (by omega)];simp
 ·have hi:i=xs.length:=by omega
  have h2:xs.any p=false:=by
   rw [List.any_eq_false]
   intro x hx
   obtain ⟨j,hj,rfl⟩:=List.mem_iff_getElem.1 hx
   rw [ha j hj (by omega)];simp
  rw [h2] at hK;exact wkK.keep (by simpa using hK)
theorem ContainsFuncL_at (xs:List (List Int)) (g:Nat) (caps:List AV) (p:List Int→Bool) {H:Heap} (hl:xs.length≤1000000000) (hp:∀x∈xs,PuAt Tryz.prog g (Is x::caps) H (B (p x))) :
  PuAt Tryz.prog 110 [Ls xs,.fn g caps] H (B (xs.any p)):=by
 intro K hK
 refine W110_ok ?_;simp (maxSteps:=1000000) (disch:=first | assumption | (apply ν6;assumption)) only [W110,vz,vu,vv,eqS,eF_,↓c1_,↓c2_,tabs,reduceCtorEq,ι5,↓reduceIte,ν1,ν2,ν3,ν4,ν5,ι1,ι2,ι3,ι4]
 refine PuAt.use (IndexFuncL_at xs g caps p hl hp) ?_
 (try simp (maxSteps:=1000000) (disch:=first | assumption | (apply ν6;assumption)) only [vz,vu,vv,eqS,eF_,↓c1_,↓c2_,tabs,reduceCtorEq,ι5,↓reduceIte,ν1,ν2,ν3,ν4,ν5,ι1,ι2,ι3,ι4])
 cases h:xs.any p<;>simp [h] at hK ⊢<;>exact hK
def goalsOk (n:Int) (gs:List (List Int)):Bool:=decide (gs.length≤6) && gs.all (fun g=>rising g n)
theorem not_any_not {α:Type} {p:α→Bool} {l:List α}:(!l.any fun x=>!p x)=l.all p:=by
 induction l with
 | nil=>rfl
 | cons a l ih=>simp only [List.any_cons,List.all_cons,Bool.not_or,Bool.not_not,ih]
theorem areGoals_spec (gs:List (List Int)) (n:Int) (hs:smLs gs):Pu Tryz.prog 76 [Ls gs,I n] (B (goalsOk n gs)):=by
 refine Pu.of fun H=>?_
 refine W76_ok ?_;simp (maxSteps:=1000000) (disch:=first | assumption | (apply ν6;assumption)) only [W76,vz,vu,vv,eqS,eF_,↓c1_,↓c2_,tabs,reduceCtorEq,ι5,↓reduceIte,ν1,ν2,ν3,ν4,ν5,ι1,ι2,ι3,ι4]
 intro r hr
 refine ⟨fun h=>?_,fun h=>⟨by rw [goalsOk,decide_eq_false (by omega)];rfl,Heap.le_set hr⟩⟩
 refine PuAt.use (ContainsFuncL_at gs _ _ (fun g=>!rising g n) (by have:=hs.1;omega) fun g hg=>areGoals1_at g n r (Heap.set_same _ _ _) (hs.2 g hg)) ?_
 (try simp (maxSteps:=1000000) (disch:=first | assumption | (apply ν6;assumption)) only [vz,vu,vv,eqS,eF_,↓c1_,↓c2_,tabs,reduceCtorEq,ι5,↓reduceIte,ν1,ν2,ν3,ν4,ν5,ι1,ι2,ι3,ι4])
 refine ⟨?_,Heap.le_set hr⟩
 rw [goalsOk,decide_eq_true (by omega),Bool.true_and,← not_any_not]
theorem l11Points_spec (l:List Int) (n:Int) (hl:l.length≤1048576) (hn:1≤n∧n≤96):Pu Tryz.prog 64 [Is l,I n] (B (rising l n)):=by
 refine Pu.of fun H=>?_
 have e:IntKind.i64.wrap (n - 1)=n - 1:=i6_ (by omega) (by omega)
 refine W64_ok ?_;simp (maxSteps:=1000000) (disch:=first | assumption | (apply ν6;assumption)) only [W64,vz,vu,vv,eqS,eF_,↓c1_,↓c2_,tabs,reduceCtorEq,ι5,↓reduceIte,ν1,ν2,ν3,ν4,ν5,ι1,ι2,ι3,ι4,e]
 exact Pu.use (l1Rising_spec l n hl) ⟨rfl,Heap.le_refl _⟩
theorem l11Goals_spec (gs:List (List Int)) (n:Int) (hs:smLs gs) (hn:1≤n∧n≤96):Pu Tryz.prog 65 [Ls gs,I n] (B (goalsOk n gs)):=by
 have hl:=hs.1
 refine Pu.of fun H=>?_
 refine W65_ok ?_;simp (maxSteps:=1000000) (disch:=first | assumption | (apply ν6;assumption)) only [W65,vz,vu,vv,eqS,eF_,↓c1_,↓c2_,tabs,reduceCtorEq,ι5,↓reduceIte,ν1,ν2,ν3,ν4,ν5,ι1,ι2,ι3,ι4]
 refine ⟨fun h=>by rw [goalsOk,decide_eq_false (by omega)];rfl,fun h=>?_⟩
 have hd:goalsOk n gs=gs.all (fun g=>rising g n):=by rw [goalsOk,decide_eq_true (by omega),Bool.true_and]
 refine L65_0_rule (0:Nat) (fun i=>I i) (fun _=>H) (fun i=>i≤gs.length∧(gs.take i).all (fun g=>rising g n)=true) (fun i=>gs.length - i) ⟨⟨by omega,rfl⟩,.refl _,Heap.le_refl _⟩ ?_
 rintro i ⟨hi,ha⟩
 (try simp (maxSteps:=1000000) (disch:=first | assumption | (apply ν6;assumption)) only [vz,vu,vv,eqS,eF_,↓c1_,↓c2_,tabs,reduceCtorEq,ι5,↓reduceIte,ν1,ν2,ν3,ν4,ν5,ι1,ι2,ι3,ι4,B65_0])
 refine ⟨fun h1=>⟨by omega,h1,?_⟩,fun h1=>?_⟩
 ·have hlt:i < gs.length:=by omega
  have hm:gs.getD i default∈gs:=getD_all (p:=fun x=>x∈gs) (fun _ h=>h) hlt
  refine Pu.use (l11Points_spec (gs.getD i default) n (hs.2 _ hm) hn) ?_
  cases hr:rising (gs.getD i default) n
  ·(try simp (maxSteps:=1000000) (disch:=first | assumption | (apply ν6;assumption)) only [vz,vu,vv,eqS,eF_,↓c1_,↓c2_,tabs,reduceCtorEq,ι5,↓reduceIte,ν1,ν2,ν3,ν4,ν5,ι1,ι2,ι3,ι4])
   rw [hd]
   exact congrArg (fun b:Bool=>B b) (List.all_eq_false.2 ⟨_,hm,by rw [hr];simp⟩).symm
  ·(try simp (maxSteps:=1000000) (disch:=first | assumption | (apply ν6;assumption)) only [vz,vu,vv,eqS,eF_,↓c1_,↓c2_,tabs,reduceCtorEq,ι5,↓reduceIte,ν1,ν2,ν3,ν4,ν5,ι1,ι2,ι3,ι4])
   refine ⟨i+1,⟨by omega,?_⟩,by omega,?_⟩
   ·rw [take_all_succ hlt,ha,Bool.true_and,← getD_lt (d:=default) hlt];exact hr
   ·rw [wk_int,i6_ (by omega) (by omega)];simp
 ·have:i=gs.length:=by omega
  subst this
  rw [List.take_length] at ha
  rw [hd,ha]
theorem edIn_iff {n:Int} {e:Ed}:edIn n e=true↔(0≤e.src∧e.src < n)∧(0≤e.dst∧e.dst < n)∧(0≤e.lt∧e.lt < 8):=by
 simp only [edIn,Bool.and_eq_true,decide_eq_true_eq]
theorem edAt_iff {n:Int} {es:List Ed} {i:Nat}:edAt n es i=true↔edIn n (es.getD i default)=true∧(i=0∨edLt (es.getD (i - 1) default) (es.getD i default)=true):=by
 simp only [edAt,Bool.and_eq_true,Bool.or_eq_true,decide_eq_true_eq]
theorem edAt_not {n:Int} {es:List Ed} {i:Nat} (h:¬(edIn n (es.getD i default)=true∧(i=0∨edLt (es.getD (i - 1) default) (es.getD i default)=true))):edAt n es i=false:=by
 rw [Bool.eq_false_iff];exact fun hh=>h (edAt_iff.1 hh)
theorem goodA_def (a:Au):goodA a=((decide (1≤a.states) && decide (a.states≤96)) && (rising a.first a.states && (decide (a.edges.length≤2400) && (goalsOk a.states a.goals && edsOk a.states a.edges)))):=rfl
theorem GoodAuto_impl (a:Au) (hs:smAu a):Pu Tryz.prog 38 [aAu a] (B (goodA a)):=by
 refine Pu.of fun H=>?_
 have gd:=goodA_def a
 refine W38_ok ?_;simp (maxSteps:=1000000) (disch:=first | assumption | (apply ν6;assumption)) only [W38,vz,vu,vv,eqS,eF_,↓c1_,↓c2_,tabs,reduceCtorEq,ι5,↓reduceIte,ν1,ν2,ν3,ν4,ν5,ι1,ι2,ι3,ι4]
 intro r hr
 have hle:=Heap.le_set (b:=[I a.states,Is a.first,Es a.edges,Ls a.goals]) hr
 have bad:goodA a=false→AV.p (.bool false)=B (goodA a)∧Heap.le H (H.set r [I a.states,Is a.first,Es a.edges,Ls a.goals]):=fun h=>⟨by rw [h],hle⟩
 refine ⟨fun h1=>bad (by rw [gd,decide_eq_false (by omega)];rfl),fun h1=>⟨fun h2=>bad (by rw [gd,decide_eq_false (by omega:¬a.states≤96),Bool.and_false];rfl),fun h2=>?_⟩⟩
 rw [decide_eq_true (by omega:1≤a.states),decide_eq_true (by omega:a.states≤96),Bool.true_and,Bool.true_and] at gd
 refine Pu.use (isIncreasing_spec a.first a.states hs.1) ?_
 cases h3:rising a.first a.states
 ·(try simp (maxSteps:=1000000) (disch:=first | assumption | (apply ν6;assumption)) only [vz,vu,vv,eqS,eF_,↓c1_,↓c2_,tabs,reduceCtorEq,ι5,↓reduceIte,ν1,ν2,ν3,ν4,ν5,ι1,ι2,ι3,ι4])
  exact bad (by rw [gd,h3];rfl)
 rw [h3,Bool.true_and] at gd
 (try simp (maxSteps:=1000000) (disch:=first | assumption | (apply ν6;assumption)) only [vz,vu,vv,eqS,eF_,↓c1_,↓c2_,tabs,reduceCtorEq,ι5,↓reduceIte,ν1,ν2,ν3,ν4,ν5,ι1,ι2,ι3,ι4])
 refine ⟨fun h4=>bad (by rw [gd,decide_eq_false (by omega)];rfl),fun h4=>?_⟩
 rw [decide_eq_true (by omega:a.edges.length≤2400),Bool.true_and] at gd
 refine Pu.use (areGoals_spec a.goals a.states hs.2.2) ?_
 cases h5:goalsOk a.states a.goals
 ·(try simp (maxSteps:=1000000) (disch:=first | assumption | (apply ν6;assumption)) only [vz,vu,vv,eqS,eF_,↓c1_,↓c2_,tabs,reduceCtorEq,ι5,↓reduceIte,ν1,ν2,ν3,ν4,ν5,ι1,ι2,ι3,ι4])
  exact bad (by rw [gd,h5];rfl)
 rw [h5,Bool.true_and] at gd
 (try simp (maxSteps:=1000000) (disch:=first | assumption | (apply ν6;assumption)) only [vz,vu,vv,eqS,eF_,↓c1_,↓c2_,tabs,reduceCtorEq,ι5,↓reduceIte,ν1,ν2,ν3,ν4,ν5,ι1,ι2,ι3,ι4])
 have hG:(H.set r [I a.states,Is a.first,Es a.edges,Ls a.goals]) r=some [I a.states,Is a.first,Es a.edges,Ls a.goals]:=Heap.set_same _ _ _
 generalize H.set r [I a.states,Is a.first,Es a.edges,Ls a.goals]=G at hle bad hG ⊢
 refine L38_0_rule (0:Nat) (fun i=>I i) (fun _=>G) (fun i=>i≤a.edges.length∧(List.range i).all (edAt a.states a.edges)=true) (fun i=>a.edges.length - i) ⟨⟨by omega,rfl⟩,.refl _,Heap.le_refl _⟩ ?_
 rintro i ⟨hi,ha⟩
 (try simp (maxSteps:=1000000) (disch:=first | assumption | (apply ν6;assumption)) only [vz,vu,vv,eqS,eF_,↓c1_,↓c2_,tabs,reduceCtorEq,ι5,↓reduceIte,ν1,ν2,ν3,ν4,ν5,ι1,ι2,ι3,ι4,B38_0])
 refine ⟨fun h6=>⟨by omega,h6,fun r4 hr4=>?_⟩,fun h6=>?_⟩
 ·have hlt:i < a.edges.length:=by omega
  have nr:r≠r4:=fun e=>by rw [e,hr4] at hG;cases hG
  have nr':r4≠r:=Ne.symm nr
  have ra:edAt a.states a.edges i=false→AV.p (.bool false)=B (goodA a)∧Heap.le H (G.set r4 [I (a.edges.getD i default).src,I (a.edges.getD i default).lt,I (a.edges.getD i default).dst]):=fun h=>⟨by rw [gd,edsOk,range_all_false hlt h],Heap.le_trans hle (Heap.le_set hr4)⟩
  have e1:0 < (i:Int)→IntKind.i64.wrap ((i:Int) - 1)=i - 1:=fun _=>i6_ (by omega) (by omega)
  have e2:((i:Int) - 1).toNat=i - 1:=by omega
  have nx:edAt a.states a.edges i=true→(List.range (i+1)).all (edAt a.states a.edges)=true:=fun h=>by rw [range_all_succ,ha,h];rfl
  have hne:¬(edIn a.states (a.edges.getD i default)=true)→edAt a.states a.edges i=false:=fun h=>edAt_not fun hh=>h hh.1
  rw [edIn_iff] at hne
  (try simp (maxSteps:=1000000) (disch:=first | assumption | (apply ν6;assumption)) only [vz,vu,vv,eqS,eF_,↓c1_,↓c2_,tabs,reduceCtorEq,ι5,↓reduceIte,ν1,ν2,ν3,ν4,ν5,ι1,ι2,ι3,ι4,lA_ hG])
  refine ⟨fun g=>ra (hne (by omega)),fun g1=>⟨fun g=>ra (hne (by omega)),fun g2=>⟨fun g=>ra (hne (by omega)),fun g3=>⟨fun g=>ra (hne (by omega)),fun g4=>⟨fun g=>ra (hne (by omega)),fun g5=>⟨fun g=>ra (hne (by omega)),fun g6=>⟨fun g7=>?_,fun g7=>?_⟩⟩⟩⟩⟩⟩⟩
  ·rw [e1 g7,e2]
   refine ⟨by omega,by omega,?_⟩
   refine Pu.use (compareEdges_spec (a.edges.getD (i - 1) default) (a.edges.getD i default)) ?_
   cases h8:edLt (a.edges.getD (i - 1) default) (a.edges.getD i default)
   ·have e3:(if false=true then (-1:Int) else if edLt (a.edges.getD i default) (a.edges.getD (i - 1) default)=true then 1 else 0) ≥ 0:=by
     rw [if_neg (by decide)];split<;>decide
    (try simp (maxSteps:=1000000) (disch:=first | assumption | (apply ν6;assumption)) only [vz,vu,vv,eqS,eF_,↓c1_,↓c2_,tabs,reduceCtorEq,ι5,↓reduceIte,ν1,ν2,ν3,ν4,ν5,ι1,ι2,ι3,ι4])
    refine ⟨fun _=>ra (edAt_not fun hh=>?_),fun h9=>absurd e3 (by simpa using h9)⟩
    rcases hh.2 with h | h
    ·omega
    ·rw [h8] at h;cases h
   ·(try simp (maxSteps:=1000000) (disch:=first | assumption | (apply ν6;assumption)) only [vz,vu,vv,eqS,eF_,↓c1_,↓c2_,tabs,reduceCtorEq,ι5,↓reduceIte,ν1,ν2,ν3,ν4,ν5,ι1,ι2,ι3,ι4])
    refine ⟨fun h=>absurd h (by decide),fun _=>⟨i+1,⟨by omega,nx (edAt_iff.2 ⟨edIn_iff.2 (by omega),.inr h8⟩)⟩,by omega,?_,Heap.le_set hr4⟩⟩
    rw [wk_int,i6_ (by omega) (by omega)];simp
  ·refine ⟨i+1,⟨by omega,nx (edAt_iff.2 ⟨edIn_iff.2 (by omega),.inl (by omega)⟩)⟩,by omega,?_,Heap.le_set hr4⟩
   rw [wk_int,i6_ (by omega) (by omega)];simp
 ·have:i=a.edges.length:=by omega
  subst this
  exact ⟨by rw [gd,edsOk,ha],hle⟩
theorem GoodAuto_spec (a:Au) (hs:smAu a):Pu Tryz.prog 29 [aAu a] (B (goodA a)):=by
 refine Pu.of fun H=>?_
 have gd:=goodA_def a
 refine W29_ok ?_;simp (maxSteps:=1000000) (disch:=first | assumption | (apply ν6;assumption)) only [W29,vz,vu,vv,eqS,eF_,↓c1_,↓c2_,tabs,reduceCtorEq,ι5,↓reduceIte,ν1,ν2,ν3,ν4,ν5,ι1,ι2,ι3,ι4]
 intro r hr
 have hle:=Heap.le_set (b:=[I a.states,Is a.first,Es a.edges,Ls a.goals]) hr
 have bad:goodA a=false→AV.p (.bool false)=B (goodA a)∧Heap.le H (H.set r [I a.states,Is a.first,Es a.edges,Ls a.goals]):=fun h=>⟨by rw [h],hle⟩
 refine Pu.use (l1In_spec a.states 1 96) ?_
 cases h1:(decide (1≤a.states) && decide (a.states≤96))
 ·(try simp (maxSteps:=1000000) (disch:=first | assumption | (apply ν6;assumption)) only [vz,vu,vv,eqS,eF_,↓c1_,↓c2_,tabs,reduceCtorEq,ι5,↓reduceIte,ν1,ν2,ν3,ν4,ν5,ι1,ι2,ι3,ι4])
  exact bad (by rw [gd,h1];rfl)
 rw [h1,Bool.true_and] at gd
 simp only [Bool.and_eq_true,decide_eq_true_eq] at h1
 (try simp (maxSteps:=1000000) (disch:=first | assumption | (apply ν6;assumption)) only [vz,vu,vv,eqS,eF_,↓c1_,↓c2_,tabs,reduceCtorEq,ι5,↓reduceIte,ν1,ν2,ν3,ν4,ν5,ι1,ι2,ι3,ι4])
 refine Pu.use (l11Points_spec a.first a.states hs.1 h1) ?_
 cases h3:rising a.first a.states
 ·(try simp (maxSteps:=1000000) (disch:=first | assumption | (apply ν6;assumption)) only [vz,vu,vv,eqS,eF_,↓c1_,↓c2_,tabs,reduceCtorEq,ι5,↓reduceIte,ν1,ν2,ν3,ν4,ν5,ι1,ι2,ι3,ι4])
  exact bad (by rw [gd,h3];rfl)
 rw [h3,Bool.true_and] at gd
 (try simp (maxSteps:=1000000) (disch:=first | assumption | (apply ν6;assumption)) only [vz,vu,vv,eqS,eF_,↓c1_,↓c2_,tabs,reduceCtorEq,ι5,↓reduceIte,ν1,ν2,ν3,ν4,ν5,ι1,ι2,ι3,ι4])
 refine ⟨fun h4=>bad (by rw [gd,decide_eq_false (by omega)];rfl),fun h4=>?_⟩
 rw [decide_eq_true (by omega:a.edges.length≤2400),Bool.true_and] at gd
 refine Pu.use (l11Goals_spec a.goals a.states hs.2.2 h1) ?_
 cases h5:goalsOk a.states a.goals
 ·(try simp (maxSteps:=1000000) (disch:=first | assumption | (apply ν6;assumption)) only [vz,vu,vv,eqS,eF_,↓c1_,↓c2_,tabs,reduceCtorEq,ι5,↓reduceIte,ν1,ν2,ν3,ν4,ν5,ι1,ι2,ι3,ι4])
  exact bad (by rw [gd,h5];rfl)
 rw [h5,Bool.true_and] at gd
 (try simp (maxSteps:=1000000) (disch:=first | assumption | (apply ν6;assumption)) only [vz,vu,vv,eqS,eF_,↓c1_,↓c2_,tabs,reduceCtorEq,ι5,↓reduceIte,ν1,ν2,ν3,ν4,ν5,ι1,ι2,ι3,ι4])
 have hG:(H.set r [I a.states,Is a.first,Es a.edges,Ls a.goals]) r=some [I a.states,Is a.first,Es a.edges,Ls a.goals]:=Heap.set_same _ _ _
 generalize H.set r [I a.states,Is a.first,Es a.edges,Ls a.goals]=G at hle bad hG ⊢
 have e0:IntKind.i64.wrap (a.states - 1)=a.states - 1:=i6_ (by omega) (by omega)
 refine L29_0_rule (0:Nat) (fun i=>I i) (fun _=>G) (fun i=>i≤a.edges.length∧(List.range i).all (edAt a.states a.edges)=true) (fun i=>a.edges.length - i) ⟨⟨by omega,rfl⟩,.refl _,Heap.le_refl _⟩ ?_
 rintro i ⟨hi,ha⟩
 (try simp (maxSteps:=1000000) (disch:=first | assumption | (apply ν6;assumption)) only [vz,vu,vv,eqS,eF_,↓c1_,↓c2_,tabs,reduceCtorEq,ι5,↓reduceIte,ν1,ν2,ν3,ν4,ν5,ι1,ι2,ι3,ι4,B29_0])
 refine ⟨fun h6=>⟨by omega,h6,fun r4 hr4=>?_⟩,fun h6=>?_⟩
 ·have hlt:i < a.edges.length:=by omega
  have nr:r≠r4:=fun e=>by rw [e,hr4] at hG;cases hG
  have nr':r4≠r:=Ne.symm nr
  have ra:edAt a.states a.edges i=false→AV.p (.bool false)=B (goodA a)∧Heap.le H (G.set r4 [I (a.edges.getD i default).src,I (a.edges.getD i default).lt,I (a.edges.getD i default).dst]):=fun h=>⟨by rw [gd,edsOk,range_all_false hlt h],Heap.le_trans hle (Heap.le_set hr4)⟩
  have e1:0 < (i:Int)→IntKind.i64.wrap ((i:Int) - 1)=i - 1:=fun _=>i6_ (by omega) (by omega)
  have e2:((i:Int) - 1).toNat=i - 1:=by omega
  have nx:edAt a.states a.edges i=true→(List.range (i+1)).all (edAt a.states a.edges)=true:=fun h=>by rw [range_all_succ,ha,h];rfl
  have hne:¬(edIn a.states (a.edges.getD i default)=true)→edAt a.states a.edges i=false:=fun h=>edAt_not fun hh=>h hh.1
  rw [edIn_iff] at hne
  (try simp (maxSteps:=1000000) (disch:=first | assumption | (apply ν6;assumption)) only [vz,vu,vv,eqS,eF_,↓c1_,↓c2_,tabs,reduceCtorEq,ι5,↓reduceIte,ν1,ν2,ν3,ν4,ν5,ι1,ι2,ι3,ι4,lA_ hG,e0])
  refine Pu.use (l1In_spec (a.edges.getD i default).src 0 (a.states - 1)) ?_
  cases g1:(decide (0≤(a.edges.getD i default).src) && decide ((a.edges.getD i default).src≤a.states - 1))
  ·simp only [Bool.and_eq_false_iff,decide_eq_false_iff_not] at g1
   (try simp (maxSteps:=1000000) (disch:=first | assumption | (apply ν6;assumption)) only [vz,vu,vv,eqS,eF_,↓c1_,↓c2_,tabs,reduceCtorEq,ι5,↓reduceIte,ν1,ν2,ν3,ν4,ν5,ι1,ι2,ι3,ι4])
   exact ra (hne (by omega))
  simp only [Bool.and_eq_true,decide_eq_true_eq] at g1
  (try simp (maxSteps:=1000000) (disch:=first | assumption | (apply ν6;assumption)) only [vz,vu,vv,eqS,eF_,↓c1_,↓c2_,tabs,reduceCtorEq,ι5,↓reduceIte,ν1,ν2,ν3,ν4,ν5,ι1,ι2,ι3,ι4])
  refine Pu.use (l1In_spec (a.edges.getD i default).lt 0 7) ?_
  cases g2:(decide (0≤(a.edges.getD i default).lt) && decide ((a.edges.getD i default).lt≤7))
  ·simp only [Bool.and_eq_false_iff,decide_eq_false_iff_not] at g2
   (try simp (maxSteps:=1000000) (disch:=first | assumption | (apply ν6;assumption)) only [vz,vu,vv,eqS,eF_,↓c1_,↓c2_,tabs,reduceCtorEq,ι5,↓reduceIte,ν1,ν2,ν3,ν4,ν5,ι1,ι2,ι3,ι4])
   exact ra (hne (by omega))
  simp only [Bool.and_eq_true,decide_eq_true_eq] at g2
  (try simp (maxSteps:=1000000) (disch:=first | assumption | (apply ν6;assumption)) only [vz,vu,vv,eqS,eF_,↓c1_,↓c2_,tabs,reduceCtorEq,ι5,↓reduceIte,ν1,ν2,ν3,ν4,ν5,ι1,ι2,ι3,ι4,lA_ hG,e0])
  refine Pu.use (l1In_spec (a.edges.getD i default).dst 0 (a.states - 1)) ?_
  cases g3:(decide (0≤(a.edges.getD i default).dst) && decide ((a.edges.getD i default).dst≤a.states - 1))
  ·simp only [Bool.and_eq_false_iff,decide_eq_false_iff_not] at g3
   (try simp (maxSteps:=1000000) (disch:=first | assumption | (apply ν6;assumption)) only [vz,vu,vv,eqS,eF_,↓c1_,↓c2_,tabs,reduceCtorEq,ι5,↓reduceIte,ν1,ν2,ν3,ν4,ν5,ι1,ι2,ι3,ι4])
   exact ra (hne (by omega))
  simp only [Bool.and_eq_true,decide_eq_true_eq] at g3
  (try simp (maxSteps:=1000000) (disch:=first | assumption | (apply ν6;assumption)) only [vz,vu,vv,eqS,eF_,↓c1_,↓c2_,tabs,reduceCtorEq,ι5,↓reduceIte,ν1,ν2,ν3,ν4,ν5,ι1,ι2,ι3,ι4,lA_ hG])
  refine ⟨fun g7=>?_,fun g7=>?_⟩
  ·rw [e1 g7,e2]
   refine ⟨by omega,by omega,?_⟩
   refine Pu.use (l12Less_spec (a.edges.getD (i - 1) default) (a.edges.getD i default)) ?_
   cases h8:edLt (a.edges.getD (i - 1) default) (a.edges.getD i default)
   ·(try simp (maxSteps:=1000000) (disch:=first | assumption | (apply ν6;assumption)) only [vz,vu,vv,eqS,eF_,↓c1_,↓c2_,tabs,reduceCtorEq,ι5,↓reduceIte,ν1,ν2,ν3,ν4,ν5,ι1,ι2,ι3,ι4])
    refine ra (edAt_not fun hh=>?_)
    rcases hh.2 with h | h
    ·omega
    ·rw [h8] at h;cases h
   ·(try simp (maxSteps:=1000000) (disch:=first | assumption | (apply ν6;assumption)) only [vz,vu,vv,eqS,eF_,↓c1_,↓c2_,tabs,reduceCtorEq,ι5,↓reduceIte,ν1,ν2,ν3,ν4,ν5,ι1,ι2,ι3,ι4])
    refine ⟨i+1,⟨by omega,nx (edAt_iff.2 ⟨edIn_iff.2 (by omega),.inr h8⟩)⟩,by omega,?_,Heap.le_set hr4⟩
    rw [wk_int,i6_ (by omega) (by omega)];simp
  ·refine ⟨i+1,⟨by omega,nx (edAt_iff.2 ⟨edIn_iff.2 (by omega),.inl (by omega)⟩)⟩,by omega,?_,Heap.le_set hr4⟩
   rw [wk_int,i6_ (by omega) (by omega)];simp
 ·have:i=a.edges.length:=by omega
  subst this
  exact ⟨by rw [gd,edsOk,ha],hle⟩
end Go.Proofs.YtolffbcnbcjeaaaGreat
namespace Go.Proofs.YtolffbcnbcjeaaaGreat
open Go Go.Sep Go.Pt
attribute [local irreducible] CallT
theorem cI_len (xs:List Int):(cP fI xs).length=xs.length:=by simp [cP]
theorem cI_app (xs ys:List Int):cP fI (xs++ys)=cP fI xs++cP fI ys:=by simp [cP]
theorem app_intsX {q:Nat} {xs ys:List Int} {ex:List AV} {G:Heap} {K:AV→Heap→Prop} (hq:G q=some (cP fI xs++ex)) (hl:xs.length+ys.length≤1000000000)
  (h:∀q',G q'=none→q'≠q→K (rowP q' (xs++ys)) ((G.del q).set q' (cP fI (xs++ys)))):aP_ tab 22 22 (rowP q xs) (Is ys) G (wkK K):=by
 have hlen:=cI_len xs
 simp only [aP_,tab_22,tab_3,srcV,baseV,hq]
 have e2:List.map AV.p (List.map eI ys).flatten=cP fI ys:=flat_P fI ys
 refine ⟨szI ys,trivial,by rw [List.length_append,hlen];omega,by simp only [List.length_map];omega,by simp only [List.length_map];omega,cells_cell _,fun q' hq'=>wkK.keep ?_⟩
 have hne:q'≠q:=fun e=>by rw [e,hq] at hq';cases hq'
 have:=h q' hq' hne
 have e:List.take (xs.length*1) (List.drop 0 (cP fI xs++ex))=cP fI xs:=by rw [List.drop_zero,Nat.mul_one,← hlen,List.take_left]
 rw [e,e2,List.length_map]
 rw [cI_app] at this
 simpa only [rowP,List.length_append] using this
theorem app_topI {q:Nat} {xs ys:List Int} {G:Heap} {K:AV→Heap→Prop} (hq:G q=none) (hl:xs.length+ys.length≤1000000) (h:∀q',G q'=none→K (rowP q' (xs++ys)) (G.set q' (cP fI (xs++ys)))) :
  aP_ tab 22 22 (rowP q xs) (Is ys) (G.set q (cP fI xs)) (wkK K):=
 app_intsX (ex:=[]) (by rw [Heap.set_same,List.append_nil]) (by omega) fun q' hq' hne=>by
  rw [Heap.del_set hq]
  rw [Heap.set_none] at hq'
  exact h q' hq'.2
theorem push_topI {q:Nat} {xs:List Int} {b:Int} {G:Heap} {K:AV→Heap→Prop} (hq:G q=none) (hl:xs.length≤100000) (h:∀q',G q'=none→K (rowP q' (xs++[b])) (G.set q' (cP fI (xs++[b])))) :
  bS_ tab 22 1 [(0,I b)] (G.set q (cP fI xs)) (wkK fun v H1=>aP_ tab 22 22 (rowP q xs) v H1 (wkK K)):=by
 refine lit1 tab_22 rfl tab_3 ⟨rfl,rfl⟩ ?_
 exact app_topI (ys:=[b]) hq (by simp;omega) h
theorem lit0I {G:Heap} {K:AV→Heap→Prop} (h:∀q,G q=none→K (rowP q ([]:List Int)) (G.set q (cP fI []))):bS_ tab 22 0 [] G (wkK K):=by
 simp only [bS_,tab_22,tab_3]
 refine ⟨by omega,?_⟩
 simp only [fillV,zA_,List.replicate_zero,List.flatten_nil]
 exact fun r hr=>wkK.keep (h r hr)
theorem GrowI_nil (n:Nat) (hn:n≤1000000000) {H:Heap} {K:AV→Heap→Prop} (hz:n=0→K (.p .nil) H) (hp:0 < n→∀q,H q=none→K (.sl q 1 0 0) (H.set q (zA_ n [I 0]))):CallT Tryz.prog 86 [.p .nil,I n] H K:=by
 refine CallT.fin ?_
 have e1:IntKind.i64.wrap (n:Int)=n:=i6_ (by omega) (by omega)
 have e0:IntKind.i64.wrap 0=0:=rfl
 refine W86_ok ?_;simp (maxSteps:=1000000) (disch:=first | assumption | (apply ν6;assumption)) only [W86,vz,vu,vv,eqS,eF_,↓c1_,↓c2_,tabs,reduceCtorEq,ι5,↓reduceIte,ν1,ν2,ν3,ν4,ν5,ι1,ι2,ι3,ι4,capV,e0,Int.sub_zero,e1]
 refine ⟨fun h1=>by omega,fun _=>⟨fun h2=>?_,fun h2=>wkK.keep (hz (by omega))⟩⟩
 simp only [aP_,tab_22,tab_3]
 refine ⟨h2,by omega,by omega,fun q hq=>wkK.keep ?_⟩
 (try simp (maxSteps:=1000000) (disch:=first | assumption | (apply ν6;assumption)) only [vz,vu,vv,eqS,eF_,↓c1_,↓c2_,tabs,reduceCtorEq,ι5,↓reduceIte,ν1,ν2,ν3,ν4,ν5,ι1,ι2,ι3,ι4,sliceV])
 exact ⟨by omega,by omega,by omega,by omega,wkK.keep (hp (by omega) q hq)⟩
theorem ConcatI_spec (bs:List (List Int)) (hl:bs.flatten.length≤1000000) (hl2:bs.length≤1000000) {H:Heap} {K:AV→Heap→Prop} (h:∀q,H q=none→K (rowP q bs.flatten) (H.set q (cP fI bs.flatten))):CallT Tryz.prog 41 [Ls bs] H K:=by
 refine CallT.fin ?_
 refine CallT.ghost W41_hb fun q0 hq0=>?_
 refine W41_ok ?_;simp (maxSteps:=1000000) (disch:=first | assumption | (apply ν6;assumption)) only [W41,vz,vu,vv,eqS,eF_,↓c1_,↓c2_,tabs,reduceCtorEq,ι5,↓reduceIte,ν1,ν2,ν3,ν4,ν5,ι1,ι2,ι3,ι4]
 have hsum:∀i,((bs.take i).flatten).length≤bs.flatten.length:=fun i=>by
  have:=congrArg (fun l:List (List Int)=>l.flatten.length) (List.take_append_drop i bs)
  simp only [List.flatten_append,List.length_append] at this
  omega
 refine L41_0_rule (0:Nat) (fun i=>I ((bs.take i).flatten.length:Nat)) (fun i=>I i) (fun _=>H.set q0 []) (fun i=>i≤bs.length) (fun i=>bs.length - i) ⟨by omega,.refl _,.refl _,Heap.le_refl _⟩ ?_
 intro i hi
 have hs1:=hsum i
 have hs2:=hsum (i+1)
 (try simp (maxSteps:=1000000) (disch:=first | assumption | (apply ν6;assumption)) only [vz,vu,vv,eqS,eF_,↓c1_,↓c2_,tabs,reduceCtorEq,ι5,↓reduceIte,ν1,ν2,ν3,ν4,ν5,ι1,ι2,ι3,ι4,B41_0])
 refine ⟨fun h1=>⟨by omega,h1,fun h2=>?_,fun h2=>⟨i+1,by omega,by omega,?_,?_⟩⟩,fun h1=>?_⟩
 ·have e:(bs.take (i+1)).flatten.length=(bs.take i).flatten.length+(bs.getD i default).length:=by
   rw [tS_ (by omega:i < bs.length),List.flatten_append,List.length_append];simp
  rw [i6_ (by omega) (by omega)] at h2
  omega
 ·have e:(bs.take (i+1)).flatten.length=(bs.take i).flatten.length+(bs.getD i default).length:=by
   rw [tS_ (by omega:i < bs.length),List.flatten_append,List.length_append];simp
  rw [wk_int,i6_ (by omega) (by omega)];omega
 ·rw [wk_int,i6_ (by omega) (by omega)];simp
 have hi2:i=bs.length:=by omega
 subst hi2
 rw [List.take_length]
 have loop:∀(x:AV) (G:Heap),(∃q ex,H q=none∧AV.wk x (.sl q 1 0 0)∧Heap.le (H.set q ex) G)→L41_1 (wkK K) x (Ls bs) (I bs.length) (I 0) G:=by
  rintro x G ⟨q0,ex0,hq0,hx,hle⟩
  refine L41_1_rule ((0:Nat),q0,ex0) (fun s=>rowP s.2.1 (bs.take s.1).flatten) (fun s=>I s.1) (fun s=>H.set s.2.1 (cP fI (bs.take s.1).flatten++s.2.2))
   (fun s=>s.1≤bs.length∧H s.2.1=none) (fun s=>bs.length - s.1) ⟨⟨by simp,hq0⟩,hx,.refl _,by simpa [cP] using hle⟩ ?_
  rintro ⟨i,q,ex⟩ ⟨hi,hq⟩
  dsimp only at hi hq
  have hs1:=hsum i
  have hs2:=hsum (i+1)
  (try simp (maxSteps:=1000000) (disch:=first | assumption | (apply ν6;assumption)) only [vz,vu,vv,eqS,eF_,↓c1_,↓c2_,tabs,reduceCtorEq,ι5,↓reduceIte,ν1,ν2,ν3,ν4,ν5,ι1,ι2,ι3,ι4,B41_1])
  refine ⟨fun h1=>⟨by omega,h1,?_⟩,fun h1=>?_⟩
  ·have e:(bs.take (i+1)).flatten=(bs.take i).flatten++bs.getD i default:=by
    rw [tS_ (by omega:i < bs.length),List.flatten_append];simp
   have e2:=congrArg List.length e
   rw [List.length_append] at e2
   refine app_intsX (Heap.set_same _ _ _) (by omega) fun q' hq' hne=>?_
   rw [Heap.set_none] at hq'
   rw [← e]
   refine ⟨(i+1,q',[]),⟨by simp only;omega,hq'.2⟩,by simp only;omega,.refl _,?_,?_⟩
   ·rw [wk_int,i6_ (by omega) (by omega)];simp
   ·simp only [List.append_nil]
    generalize cP fI (bs.take (i+1)).flatten=z
    have:=hq'.2
    (intro y b hy;simp only [Heap.set,Heap.del] at hy ⊢;(repeat' split at hy)<;>(repeat' split)<;>simp_all [cells])
  ·have hi2:i=bs.length:=by omega
   subst hi2
   rw [List.take_length]
   refine ⟨_,_,.cell (cs':=cP fI bs.flatten) (Heap.set_same _ _ _) (by rw [List.length_append];omega) fun j a a' h1 h2=>?_,?_⟩
   ·rw [List.getElem?_append_left (List.getElem?_eq_some_iff.1 h2).1,h2] at h1
    cases h1;exact .refl _
   ·rw [Heap.set_set];exact h q hq
 refine GrowI_nil _ (by omega) (fun h0=>?_) (fun h0 q hq=>?_)
 ·exact loop _ _ ⟨q0,[],hq0,.nilo _ _ _,Heap.le_refl _⟩
 ·rw [Heap.set_none] at hq
  refine loop _ _ ⟨q,zA_ bs.flatten.length [I 0],hq.2,.refl _,?_⟩
  generalize zA_ bs.flatten.length [I 0]=z
  have:=hq.2
  (intro y b hy;simp only [Heap.set,Heap.del] at hy ⊢;(repeat' split at hy)<;>(repeat' split)<;>simp_all [cells])
def below (n:Nat):List Int:=(List.range n).map fun (i:Nat)=>(i:Int)
def smI (l:List Int):Prop:=l.length≤10000∧∀x∈l,0≤x∧x≤100000
theorem fin_int {q:Nat} {xs:List Int} {H G:Heap} (hq:H q=none) (hG:Heap.le (H.set q (cP fI xs)) G):wkK (fun r H'=>r=Is xs∧H'=H) (rowP q xs) G:=by
 have:=fin_own (sz:=1) (es:=xs.map eI) (q:=q) (H:=H) (H':=G) (K:=fun r H'=>r=Is xs∧H'=H) (by omega) (szI _) hq (by
  have e:cells (xs.map eI)=cP fI xs:=cells_P fI xs
  rw [e];exact hG) ⟨rfl,rfl⟩
 simpa only [Go.Sep.own,List.length_map] using this
theorem l1Own_row (l:List Int) (hl:l.length≤100000) {H:Heap} {K:AV→Heap→Prop} (h:∀q,H q=none→K (rowP q l) (H.set q (cP fI l))):CallT Tryz.prog 32 [Is l] H K:=by
 refine CallT.fin ?_
 refine W32_ok ?_;simp (maxSteps:=1000000) (disch:=first | assumption | (apply ν6;assumption)) only [W32,vz,vu,vv,eqS,eF_,↓c1_,↓c2_,tabs,reduceCtorEq,ι5,↓reduceIte,ν1,ν2,ν3,ν4,ν5,ι1,ι2,ι3,ι4]
 refine lit0I fun q0 hq0=>?_
 refine app_topI (xs:=[]) (ys:=l) hq0 (by simp;omega) fun q hq=>?_
 rw [List.nil_append]
 exact wkK.keep (h q hq)
theorem LI_mk' {xs:List Int} {q:Nat} {G:Heap} (h:G q=some (cP fI xs)):LI xs (rowP q xs) G [q]:=LI_mk (by
 have e:cells (xs.map eI)=cP fI xs:=cells_P fI xs
 rw [e];exact h)
theorem lit_live1 {G:Heap} {K:AV→Heap→Prop} {q n:Nat} (h:∀ql,G ql=none→K (.sl ql 1 0 1) (G.set ql [.sl q 1 0 n])):bS_ tab 24 1 [(0,.sl q 1 0 n)] G (wkK K):=by
 simp only [bS_,tab_24,tab_22]
 refine ⟨by omega,?_⟩
 simp only [fillV,zA_,List.replicate_succ,List.replicate_zero,List.flatten_cons,List.flatten_nil,List.append_nil,AV.cells,splice]
 simp only [List.length_cons,List.length_nil,Nat.reduceAdd,Nat.zero_mul,Nat.zero_add,Nat.le_refl,and_self,if_true,List.take_zero,List.nil_append,List.drop_succ_cons,List.drop_zero,List.append_nil]
 exact fun r hr=>wkK.keep (h r hr)
theorem CloneI_row (xs:List Int) (hl:xs.length≤100000) {H:Heap} {K:AV→Heap→Prop} (h:∀q,H q=none→K (rowP q xs) (H.set q (cP fI xs))):CallT Tryz.prog 82 [Is xs] H K:=by
 refine CallT.fin ?_
 refine CallT.ghost W82_hb fun q0 hq0=>?_
 refine W82_ok ?_;simp (maxSteps:=1000000) (disch:=first | assumption | (apply ν6;assumption)) only [W82,vz,vu,vv,eqS,eF_,↓c1_,↓c2_,tabs,reduceCtorEq,ι5,↓reduceIte,ν1,ν2,ν3,ν4,ν5,ι1,ι2,ι3,ι4]
 have main:bS_ tab 22 0 [] (H.set q0 []) (wkK fun v5 H1=>aP_ tab 22 22 v5 (Is xs) H1 (wkK fun v7 H2=>wkK K v7 H2)):=by
  refine lit0I fun q1 hq1=>?_
  refine app_topI (xs:=[]) (ys:=xs) hq1 (by simp;omega) fun q2 hq2=>?_
  rw [Heap.set_none] at hq2
  rw [List.nil_append]
  refine fin_le ?_ (h q2 hq2.2)
  generalize cP fI xs=z
  have:=hq2.2
  have:=hq2.1
  (intro y b hy;simp only [Heap.set,Heap.del] at hy ⊢;(repeat' split at hy)<;>(repeat' split)<;>simp_all [cells])
 refine ⟨fun h0=>⟨?_,main⟩,fun _=>main⟩
 have hx:xs=[]:=List.map_eq_nil_iff.1 h0
 subst hx
 exact ⟨_,_,.val (.nilo q0 1 0),h q0 hq0⟩
theorem IndexI_spec (l:List Int) (x:Int) (hl:l.length≤1048576):Pu Tryz.prog 137 [Is l,I x] (I (if x∈l then (l.idxOf x:Int) else -1)):=by
 refine Pu.of fun H=>?_
 refine W137_ok ?_;simp (maxSteps:=1000000) (disch:=first | assumption | (apply ν6;assumption)) only [W137,vz,vu,vv,eqS,eF_,↓c1_,↓c2_,tabs,reduceCtorEq,ι5,↓reduceIte,ν1,ν2,ν3,ν4,ν5,ι1,ι2,ι3,ι4]
 refine L137_0_rule (0:Nat) (fun i=>I i) (fun _=>H) (fun i=>i≤l.length∧∀j,j < i→l.getD j default≠x) (fun i=>l.length - i) ⟨⟨by omega,by intros;omega⟩,.refl _,Heap.le_refl _⟩ ?_
 rintro i ⟨hi,ha⟩
 (try simp (maxSteps:=1000000) (disch:=first | assumption | (apply ν6;assumption)) only [vz,vu,vv,eqS,eF_,↓c1_,↓c2_,tabs,reduceCtorEq,ι5,↓reduceIte,ν1,ν2,ν3,ν4,ν5,ι1,ι2,ι3,ι4,B137_0])
 refine ⟨fun h1=>⟨by omega,h1,fun h2=>?_,fun h2=>⟨i+1,⟨by omega,fun j hj=>?_⟩,by omega,?_⟩⟩,fun h1=>?_⟩
 ·have hlt:i < l.length:=by omega
  have hm:x∈l:=by rw [h2];exact getD_all (p:=fun x=>x∈l) (fun _ h=>h) hlt
  rw [if_pos hm]
  refine congrArg (fun n:Int=>I n) ?_
  have:l.idxOf x=i:=by
   rw [List.idxOf,List.findIdx_eq hlt]
   refine ⟨by rw [← getD_lt (d:=default) hlt,← h2];simp,fun j hj=>?_⟩
   have:=ha j hj
   rw [getD_lt (by omega:j < l.length)] at this
   simpa using this
  omega
 ·rcases Nat.lt_succ_iff_lt_or_eq.1 hj with h | rfl
  ·exact ha j h
  ·exact fun e=>h2 e.symm
 ·rw [wk_int,i6_ (by omega) (by omega)];simp
 ·have hm:x∉l:=by
   intro hm
   obtain ⟨j,hj,e⟩:=List.mem_iff_getElem.1 hm
   exact ha j (by omega) (by rw [getD_lt hj];exact e)
  rw [if_neg hm]
end Go.Proofs.YtolffbcnbcjeaaaGreat
namespace Go.Sep
open Go Go.RowKit
inductive FinK (K:AV→Heap→Prop):AV→Heap→Prop where
 | done {v:AV} {H:Heap} (h:K v H):FinK K v H
 | wk {v v':AV} {H H':Heap} (h:Wk v H v' H') (k:FinK K v' H'):FinK K v H
 | ghost {v:AV} {H:Heap} (k:∀z,H z=none→FinK K v (H.set z [])):FinK K v H
theorem UpV.finish {B0:Nat} {w0:World} {F:Heap} {K:AV→Heap→Prop} {v:AV} {H:Heap} (h:FinK K v H):∀{Z:Fro} {φ:Pm} {x:Value} {w:World},Disj H F→Sim Z φ B0 w0 (H.or F) w→Cv Z φ v x→UpV B0 w0 F Z φ K x w:=by
 induction h with
 | done h=>exact fun hd hs hc=>⟨_,_,_,_,h,Fro.le_refl _,Pm.le_refl _,hd,hs,hc⟩
 | wk h k ih=>
  intro Z φ x w hd hs hc
  obtain ⟨Z',φ',h1,h2,h3,h4,h5⟩:=UpV.wk h hd hs hc
  obtain ⟨v',H',Z2,φ2,a,b,c,d,e,f⟩:=ih h3 h4 h5
  exact ⟨v',H',Z2,φ2,a,Fro.le_trans h1 b,Pm.le_trans h2 c,d,e,f⟩
 | ghost k ih=>
  intro Z φ x w hd hs hc
  obtain ⟨r,φ',h1,h2,h3,h4⟩:=Rel.ghost hd hs
  obtain ⟨v',H',Z2,φ2,a,b,c,d,e,f⟩:=ih r h1 h3 h4 (hc.mono (Fro.le_refl _) h2)
  exact ⟨v',H',Z2,φ2,a,b,Pm.le_trans h2 c,d,e,f⟩
theorem CallT.finish {P:Program} {f:Nat} {args:List AV} {H:Heap} {K:AV→Heap→Prop} (h:CallT P f args H (FinK K)):CallT P f args H K:=by
 refine ⟨h.1,fun B0 w0 F Z φ w xs hd hs ha=>(h.2 B0 w0 F Z φ w xs hd hs ha).mono ?_⟩
 rintro e w' ⟨x,rfl,v,H',Z',φ',hk,b,c,d,e,f⟩
 obtain ⟨v',H2,Z2,φ2,a,b2,c2,d2,e2,f2⟩:=UpV.finish hk d e f
 exact ⟨x,rfl,v',H2,Z2,φ2,a,Fro.le_trans b b2,Pm.le_trans c c2,d2,e2,f2⟩
theorem FinK.ofWkK {K:AV→Heap→Prop} {v:AV} {H:Heap} (h:wkK K v H):FinK K v H:=let ⟨_,_,a,b⟩:=h;.wk a (.done b)
def RN {α:Type} (L:Lay α) (sz:Nat) (x:AV) (xs:List α) (G:Heap) (D:List Nat):Prop:=(x=.p .nil∧xs=[]∧D=[])∨LRow L sz xs x G D
theorem RN.local {α:Type} {L:Lay α} {sz:Nat} (hL:L.Local) {x:AV} {xs:List α} {G G':Heap} {D:List Nat} (h:RN L sz x xs G D) (hf:∀y∈D,∀b,G y=some b→G' y=some b):RN L sz x xs G' D:=by
 rcases h with h | h
 ·exact .inl h
 ·exact .inr (h.local hL hf)
theorem RN.has {α:Type} {L:Lay α} {sz:Nat} (hL:L.Has) {x:AV} {xs:List α} {G:Heap} {D:List Nat} (h:RN L sz x xs G D):∀y∈D,G y≠none:=by
 rcases h with ⟨h1,h2,rfl⟩ | h
 ·intro y hy;cases hy
 ·exact h.has hL
theorem RN.sl {α:Type} {L:Lay α} {sz:Nat} {x:AV} {xs:List α} {G:Heap} {D:List Nat} (h:RN L sz x xs G D):x=.p .nil∨∃q,x=.sl q sz 0 xs.length:=by
 rcases h with ⟨h1,_⟩ | ⟨q,cs,D',h1,_⟩
 ·exact .inl h1
 ·exact .inr ⟨q,h1⟩
def rnT {α:Type} {L:Lay α} (hL:L.Local) (hh:L.Has) (sz:Nat) (x:AV) (xs:List α) (D:List Nat):Th:=⟨D,fun G=>RN L sz x xs G D,fun h f=>h.local hL f,fun h=>h.has hh⟩
theorem LL.plain' {α:Type} {e:α→List PV} {G:Heap}:∀{xs:List α} {cs:List AV} {D:List Nat},LL (LPl e) xs cs G D→cs=cells (xs.map e)∧D=[]
 | [],_,_,⟨h1,h2⟩=>⟨h1,h2⟩
 | a::xs,_,_,⟨c1,c2,D1,D2,e1,e2,h1,h2⟩=>by
  obtain ⟨f1,f2⟩:=LL.plain' h2
  rw [e1,e2,h1.1,h1.2,f1,f2]
  exact ⟨by simp [cells],rfl⟩
theorem RN.app {tab:Tab} {t0 t1 e0 e1 sz:Nat} {d d1 ed:TD} {α:Type} {e:α→List PV} (h1:tab t0=some d) (h2:d.k=.slice e0) (h3:tab e0=some ed) (h4:tab t1=some d1) (h5:d1.k=.slice e1) (h6:ed.size=sz) {bz:Nat} (h7:ed.bytes=bz)
  (hsz:∀a,(e a).length=sz) {H G:Heap} {Ts:List Th} {x y:AV} {xs ys:List α} {D:List Nat} {hL:(LPl e).Local} {hh:(LPl e).Has} (s:St H Ts G) (i:Nat) (hi:Ts[i]?=some (rnT hL hh sz x xs D)) (hy:y=.p (.sl (ys.map e)))
  (hl:(xs.length+ys.length)*bz≤140737488355328) (hl2:xs.length+ys.length≤9223372036854775807) {K:AV→Heap→Prop}
  (h:∀q' G',G q'=none→St H (Ts.set i (rnT hL hh sz (.sl q' sz 0 (xs++ys).length) (xs++ys) [q'])) G'→K (.sl q' sz 0 (xs++ys).length) G'):aP_ tab t0 t1 x y G (wkK K):=by
 subst hy
 have hrz:RN (LPl e) sz x xs G D:=s.get i hi
 rcases hrz with ⟨rfl,rfl,rfl⟩ | ⟨q,cs,D',rfl,hq,hll,rfl⟩
 ·refine app_nil h1 h2 h3 h4 h5 h6 h7 (.inl rfl) (.inl rfl) (sized_map hsz ys) (by simpa using hl) (by simpa using hl2) fun q' hq'=>?_
  have:=h q' _ hq' (s.repl i hi (rnT hL hh sz (.sl q' sz 0 ([]++ys).length) ([]++ys) [q']) (by simp [rnT]) (fun y hy=>by
   simp only [rnT,List.mem_singleton] at hy;subst hy;exact .inr hq') (G':=G.set q' (cells (ys.map e))) (fun y b hb _=>Heap.le_set hq' y b hb) (.inr ⟨q',_,[],rfl,Heap.set_same _ _ _,LL.plain _,rfl⟩))
  simpa [Go.Sep.own] using this
 ·obtain ⟨rfl,rfl⟩:=LL.plain' hll
  have:=app_own (x:=.p (.sl (ys.map e))) (r:=q) (es:=xs.map e) (fs:=ys.map e) (H:=G) (K:=K) h1 h2 h3 h4 h5 h6 h7 (.inl rfl) hq (sized_map hsz xs) (sized_map hsz ys)
   (by simpa using hl) (by simpa using hl2) fun q' hq'=>by
    have:=h q' ((G.del q).set q' (cells ((xs++ys).map e))) hq' (s.repl i hi (rnT hL hh sz (.sl q' sz 0 (xs++ys).length) (xs++ys) [q']) (by simp [rnT]) (fun y hy=>by
     simp only [rnT,List.mem_singleton] at hy;subst hy;exact .inr hq') (fun y b hb hy=>by
      simp only [rnT,List.mem_singleton] at hy
      rw [Heap.set_other (fun e=>by rw [e,hq'] at hb;cases hb),Heap.del_other hy];exact hb) (.inr ⟨q',_,[],rfl,Heap.set_same _ _ _,LL.plain _,rfl⟩))
    simpa only [Go.Sep.own,List.length_map,List.map_append,List.length_append] using this
  simpa only [Go.Sep.own,List.length_map] using this
end Go.Sep
namespace Go.Proofs.YtolffbcnbcjeaaaGreat
open Go Go.Sep Go.Pt
attribute [local irreducible] CallT
def LIn:Lay (List Int):=fun l cs G D=>∃x,cs=[x]∧RN (LPl eI) 1 x l G D
theorem LIn.local:Lay.Local LIn:=by
 rintro c cs G G' D ⟨x,e,h⟩ hf
 exact ⟨x,e,h.local (LPl.local eI) hf⟩
theorem LIn.has:Lay.Has LIn:=by
 rintro c cs G D ⟨x,e,h⟩
 exact h.has (LPl.has eI)
theorem LIn.size:Lay.Size LIn 1:=by
 rintro c cs G D ⟨x,rfl,h⟩;rfl
abbrev rnI (x:AV) (l:List Int) (D:List Nat):Th:=rnT (LPl.local eI) (LPl.has eI) 1 x l D
def tabT (q:Nat) (rows:List (List Int)) (D:List Nat):Th:=⟨D,fun G=>LRow LIn 1 rows (.sl q 1 0 rows.length) G D,fun h f=>h.local LIn.local f,fun h=>h.has LIn.has⟩
def holeT (q:Nat) (pre:List AV) (c:AV) (post:List AV) (rows:List (List Int)) (i:Nat) (D:List Nat):Th:=
 ⟨D,fun G=>G q=some (pre++(c::post))∧∃Dp Dq,D=q::(Dp++Dq)∧LL LIn (rows.take i) pre G Dp∧LL LIn (rows.drop (i+1)) post G Dq,by
  rintro G G' ⟨h1,Dp,Dq,rfl,h2,h3⟩ hf
  exact ⟨hf q (by simp) _ h1,Dp,Dq,rfl,LL.local LIn.local h2 fun y hy b hb=>hf y (by simp [hy]) b hb,LL.local LIn.local h3 fun y hy b hb=>hf y (by simp [hy]) b hb⟩,by
  rintro G ⟨h1,Dp,Dq,rfl,h2,h3⟩ y hy
  simp only [List.mem_cons,List.mem_append] at hy
  rcases hy with rfl | hy | hy
  ·rw [h1];simp
  ·exact LL.has LIn.has h2 y hy
  ·exact LL.has LIn.has h3 y hy⟩
theorem tab_take {H G:Heap} {Ts:List Th} {q:Nat} {rows:List (List Int)} {D:List Nat} (s:St H Ts G) (k:Nat) (hk:Ts[k]?=some (tabT q rows D)) {i:Nat} (hi:i < rows.length) :
  ∃pre c post Di Dr,pre.length=i∧pre.length+(post.length+1)=rows.length∧St H (rnI c (rows.getD i default) Di::holeT q pre c post rows i Dr::Ts.eraseIdx k) G:=by
 have s1:=s.pick k hk
 have hr:LRow LIn 1 rows (.sl q 1 0 rows.length) G D:=s1.get 0 rfl
 obtain ⟨q',cs,D',e1,e2,e3,rfl⟩:=hr
 injection e1 with e1
 subst e1
 obtain ⟨c1,c,c2,D1,Di,D2,rfl,rfl,h1,⟨x,rfl,h2⟩,h3,h4⟩:=LL.split LIn.size e3 hi
 have h5:=LL.size LIn.size h4
 rw [List.length_drop] at h5
 refine ⟨c1,x,c2,Di,q::(D1++D2),by omega,by omega,?_⟩
 have nd:=s1.ndT 0 rfl
 simp only [tabT] at nd
 refine St.step (old:=[tabT q rows (q::(D1++(Di++D2)))]) s1 [rnI x _ Di,holeT q c1 x c2 rows i (q::(D1++D2))] ?_ (fun t ht y hy=>?_) (fun y b hb _=>hb) (fun t ht=>?_)
 ·simp only [List.flatMap_cons,List.flatMap_nil,List.append_nil,rnT,holeT]
  rw [List.nodup_append]
  rw [List.nodup_cons,List.nodup_append,List.nodup_append] at nd
  simp only [List.mem_append,not_or] at nd
  obtain ⟨⟨n1,n2,n3⟩,n4,⟨n5,n6,n7⟩,n8⟩:=nd
  refine ⟨n5,?_,fun a ha b hb e=>?_⟩
  ·rw [List.nodup_cons,List.nodup_append]
   simp only [List.mem_append,not_or]
   exact ⟨⟨n1,n3⟩,n4,n6,fun a ha b hb=>n8 a ha b (.inr hb)⟩
  ·subst e
   simp only [List.mem_cons,List.mem_append] at hb
   rcases hb with rfl | hb | hb
   ·exact n2 ha
   ·exact n8 a hb a (.inl ha) rfl
   ·exact n7 a ha a hb rfl
 ·refine .inl ⟨_,List.mem_singleton.2 rfl,?_⟩
  simp only [List.mem_cons,List.not_mem_nil,or_false] at ht
  rcases ht with rfl | rfl
  ·simp only [rnT] at hy;simp [tabT,hy]
  ·simp only [holeT,List.mem_cons,List.mem_append] at hy
   simp only [tabT,List.mem_cons,List.mem_append]
   rcases hy with hy | hy | hy
   ·exact .inl hy
   ·exact .inr (.inl hy)
   ·exact .inr (.inr (.inr hy))
 ·simp only [List.mem_cons,List.not_mem_nil,or_false] at ht
  rcases ht with rfl | rfl
  ·exact h2
  ·exact ⟨e2,D1,D2,rfl,h3,h4⟩
theorem tab_rd {pre post:List AV} {c:AV} {i:Nat} (h:pre.length=i):(List.take 1 (List.drop (i*1) (pre++(c::post)))).headD Q_=c:=by
 rw [List.drop_append,List.drop_of_length_le (by omega)]
 simp [h]
theorem tab_sp {pre post:List AV} {c c':AV} {i:Nat} (h:pre.length=i):List.take (i*1) (pre++(c::post))++[c']++List.drop (i*1+1) (pre++(c::post))=pre++(c'::post):=
 splice_at (c:=[c]) (c':=[c']) (by omega) rfl rfl
theorem tab_put {H G:Heap} {Ts:List Th} {q:Nat} {pre post:List AV} {c c':AV} {rows:List (List Int)} {l':List Int} {i:Nat} {Di Dr:List Nat} (s:St H (rnI c' l' Di::holeT q pre c post rows i Dr::Ts) G) (hi:i < rows.length) :
  ∃D,St H (tabT q (rows.set i l') D::Ts) (G.set q (pre++(c'::post))):=by
 have h2:RN (LPl eI) 1 c' l' G Di:=s.get 0 rfl
 obtain ⟨hq,D1,D2,rfl,h3,h4⟩:=s.get 1 rfl
 have nd0:=s.ndT 0 rfl
 have nd1:=s.ndT 1 rfl
 have dj:=s.disjI 0 1 rfl rfl (by decide)
 simp only [rnT] at nd0
 simp only [holeT,List.nodup_cons,List.nodup_append,List.mem_append,not_or] at nd1
 simp only [rnT,holeT,List.mem_cons,List.mem_append,not_or] at dj
 have hf:∀y b,G y=some b→y≠q→(G.set q (pre++(c'::post))) y=some b:=fun y b hb hy=>by rw [Heap.set_other hy];exact hb
 refine ⟨q::(D1++(Di++D2)),?_⟩
 refine St.step (old:=[rnI c' l' Di,holeT q pre c post rows i (q::(D1++D2))]) s [tabT q (rows.set i l') (q::(D1++(Di++D2)))] ?_ (fun t ht y hy=>?_) (fun y b hb hy=>hf y b hb fun e=>hy (holeT q pre c post rows i (q::(D1++D2))) (by simp) (by simp [holeT,e])) (fun t ht=>?_)
 ·simp only [List.flatMap_cons,List.flatMap_nil,List.append_nil,tabT]
  rw [List.nodup_cons,List.nodup_append,List.nodup_append]
  simp only [List.mem_append,not_or]
  refine ⟨⟨nd1.1.1,fun h=>(dj q h).1 rfl,nd1.1.2⟩,nd1.2.1,⟨nd0,nd1.2.2.1,fun a ha b hb e=>(dj a ha).2.2 (e ▸ hb)⟩,fun a ha b hb e=>?_⟩
  rcases hb with hb | hb
  ·exact (dj b hb).2.1 (e ▸ ha)
  ·exact nd1.2.2.2 a ha b hb e
 ·rw [List.mem_singleton] at ht;subst ht
  simp only [tabT,List.mem_cons,List.mem_append] at hy
  refine .inl ?_
  rcases hy with hy | hy | hy | hy
  ·exact ⟨holeT q pre c post rows i (q::(D1++D2)),by simp,by simp [holeT,hy]⟩
  ·exact ⟨holeT q pre c post rows i (q::(D1++D2)),by simp,by simp [holeT,hy]⟩
  ·exact ⟨rnI c' l' Di,by simp,by simp [rnT,hy]⟩
  ·exact ⟨holeT q pre c post rows i (q::(D1++D2)),by simp,by simp [holeT,hy]⟩
 ·rw [List.mem_singleton] at ht;subst ht
  have a1:=LL.local LIn.local h3 (G':=G.set q (pre++(c'::post))) fun y hy b hb=>hf y b hb fun e=>nd1.1.1 (e ▸ hy)
  have a2:=LL.local LIn.local h4 (G':=G.set q (pre++(c'::post))) fun y hy b hb=>hf y b hb fun e=>nd1.1.2 (e ▸ hy)
  have a3:=h2.local (LPl.local eI) (G':=G.set q (pre++(c'::post))) fun y hy b hb=>hf y b hb (dj y hy).1
  have e:rows.set i l'=rows.take i++(l'::rows.drop (i+1)):=by rw [List.set_eq_take_append_cons_drop,if_pos hi]
  refine ⟨q,pre++(c'::post),D1++(Di++D2),rfl,Heap.set_same _ _ _,?_,rfl⟩
  rw [e]
  exact LL.join a1 ⟨[c'],post,Di,D2,rfl,rfl,⟨c',rfl,a3⟩,a2⟩
theorem tab_new {H G:Heap} {Ts:List Th} {q n:Nat} (s:St H Ts G) (hq:G q=none):St H (tabT q (List.replicate n []) [q]::Ts) (G.set q (zA_ n [.p .nil])):=by
 refine s.push (tabT q (List.replicate n []) [q]) (New.cell hq) ⟨q,zA_ n [.p .nil],[],rfl,Heap.set_same _ _ _,?_,rfl⟩
 generalize G.set q (zA_ n [.p .nil])=G1
 induction n with
 | zero=>exact ⟨rfl,rfl⟩
 | succ n ih=>exact ⟨[.p .nil],zA_ n [.p .nil],[],[],by rw [zerosA_succ],rfl,⟨_,rfl,.inl ⟨rfl,rfl,rfl⟩⟩,ih⟩
theorem tab_whole {K:AV→Heap→Prop} {v:AV} {H:Heap} {Ts:List Th} {q:Nat} {rows:List (List Int)} (h:∀G D,St H (⟨D,fun G=>LII rows (.sl q 1 0 rows.length) G D,fun h f=>LRow.local LIc.local h f,fun h=>LRow.has LIc.has h⟩::Ts) G→FinK K v G) :
  ∀{G:Heap} {D:List Nat},St H (tabT q rows D::Ts) G→FinK K v G:=by
 have key:∀(n:Nat) (i:Nat) (G:Heap) (pre post:List AV) (D1 D2:List Nat),n+i=rows.length→G q=some (pre++post)→LL LIc (rows.take i) pre G D1→LL LIn (rows.drop i) post G D2→(q::(D1++D2)).Nodup→(∀y∈q::(D1++D2),H y=none)→St H Ts G→(∀y∈q::(D1++D2),∀t∈Ts,y∉t.D)→FinK K v G:=by
  intro n
  induction n with
  | zero=>
   intro i G pre post D1 D2 hi hq h1 h2 hnd hfr s hd
   rw [List.take_of_length_le (by omega)] at h1
   rw [List.drop_of_length_le (by omega)] at h2
   obtain ⟨rfl,rfl⟩:=h2
   simp only [List.append_nil] at hq hnd hfr hd
   refine h G (q::D1) ⟨s.le,?_,?_,?_⟩
   ·rw [List.flatMap_cons,List.nodup_append]
    refine ⟨hnd,s.nd,fun a ha b hb e=>?_⟩
    obtain ⟨t,ht,hbt⟩:=List.mem_flatMap.1 hb
    exact hd a ha t ht (e ▸ hbt)
   ·intro t ht
    rcases List.mem_cons.1 ht with rfl | ht
    ·exact hfr
    ·exact s.fr t ht
   ·intro t ht
    rcases List.mem_cons.1 ht with rfl | ht
    ·exact ⟨q,pre,D1,rfl,hq,h1,rfl⟩
    ·exact s.ok t ht
  | succ n ih=>
   intro i G pre post D1 D2 hi hq h1 h2 hnd hfr s hd
   have hlt:i < rows.length:=by omega
   rw [drop_cons hlt] at h2
   obtain ⟨c,c2,Da,Db,rfl,rfl,⟨x,rfl,hx⟩,h3⟩:=h2
   rcases hx with ⟨rfl,hr,rfl⟩ | hx
   ·refine .ghost fun z hz=>?_
    have nz:∀y b,G y=some b→y≠z:=fun y b hb e=>by rw [e,hz] at hb;cases hb
    have hqz:q≠z:=nz q _ hq
    have le1:=Heap.le_set (b:=[]) hz
    have hq1:=le1 _ _ hq
    refine .wk (.cell (cs':=pre++(.sl z 1 0 0::c2)) hq1 (by simp) fun j a a' e1 e2=>?_) ?_
    ·rw [List.getElem?_append] at e1 e2
     split at e1
     ·rename_i hlt'
      rw [if_pos hlt'] at e2
      rw [e1] at e2;cases e2;exact .refl _
     ·rename_i hge
      rw [if_neg hge] at e2
      cases hj:j - pre.length with
      | zero=>rw [hj] at e1 e2;simp at e1 e2;subst e1;subst e2;exact .nilo _ _ _
      | succ m=>rw [hj] at e1 e2;simp at e1 e2;rw [e1] at e2;cases e2;exact .refl _
    ·have old:∀y b,G y=some b→y≠q→((G.set z []).set q (pre++(.sl z 1 0 0::c2))) y=some b:=fun y b hb hy=>by rw [Heap.set_other hy];exact le1 y b hb
     have hzq:((G.set z []).set q (pre++(.sl z 1 0 0::c2))) z=some []:=by rw [Heap.set_other (Ne.symm hqz),Heap.set_same]
     simp only [List.nil_append] at h3 hnd hfr hd
     have hnd':=hnd
     rw [List.nodup_cons,List.nodup_append] at hnd'
     simp only [List.mem_append,not_or] at hnd'
     have zD1:z∉D1:=fun hm=>LL.has LIc.has h1 z hm hz
     have zDb:z∉Db:=fun hm=>LL.has LIn.has h3 z hm hz
     have hHz:H z=none:=by
      cases hh:H z with
      | none=>rfl
      | some b=>rw [s.le z b hh] at hz;cases hz
     refine ih (i+1) _ (pre++[.sl z 1 0 0]) c2 (D1++[z]) Db (by omega) (by rw [Heap.set_same];simp) ?_ ?_ ?_ ?_ ?_ ?_
     ·rw [tS_ hlt,hr]
      exact LL.snoc ⟨_,rfl,⟨z,[],[],rfl,hzq,⟨rfl,rfl⟩,rfl⟩⟩ (LL.local LIc.local h1 fun y hy b hb=>old y b hb (fun e=>hnd'.1.1 (e ▸ hy)))
     ·exact LL.local LIn.local h3 fun y hy b hb=>old y b hb (fun e=>hnd'.1.2 (e ▸ hy))
     ·rw [List.nodup_cons,List.nodup_append,List.nodup_append]
      simp only [List.mem_append,List.mem_singleton,not_or]
      refine ⟨⟨⟨hnd'.1.1,hqz⟩,hnd'.1.2⟩,⟨hnd'.2.1,by simp,fun a ha b hb e=>zD1 (by rw [← hb,← e];exact ha)⟩,hnd'.2.2.1,fun a ha b hb e=>?_⟩
      rcases ha with ha | ha
      ·exact hnd'.2.2.2 a ha b hb e
      ·exact zDb (by rw [← ha,e];exact hb)
     ·intro y hy
      simp only [List.mem_cons,List.mem_append,List.not_mem_nil,or_false] at hy
      rcases hy with rfl | (hy | rfl) | hy
      ·exact hfr _ (by simp)
      ·exact hfr _ (by simp [hy])
      ·exact hHz
      ·exact hfr _ (by simp [hy])
     ·refine ⟨fun y b hb=>old y b (s.le y b hb) fun e=>?_,s.nd,s.fr,fun t ht=>t.loc (s.ok t ht) fun y hy b hb=>old y b hb fun e=>hd q (by simp) t ht (e ▸ hy)⟩
      have:=hfr q (by simp)
      rw [← e,hb] at this;cases this
     ·intro y hy t ht hyt
      simp only [List.mem_cons,List.mem_append,List.not_mem_nil,or_false] at hy
      rcases hy with rfl | (hy | rfl) | hy
      ·exact hd _ (by simp) t ht hyt
      ·exact hd _ (by simp [hy]) t ht hyt
      ·exact t.has (s.ok t ht) _ hyt hz
      ·exact hd _ (by simp [hy]) t ht hyt
   ·refine ih (i+1) G (pre++[x]) c2 (D1++Da) Db (by omega) (by rw [hq];simp) ?_ h3 (by rw [List.append_assoc];exact hnd) (by rw [List.append_assoc];exact hfr) s (by rw [List.append_assoc];exact hd)
    rw [tS_ hlt]
    exact LL.snoc ⟨x,rfl,hx⟩ h1
 intro G D s
 have hr:LRow LIn 1 rows (.sl q 1 0 rows.length) G D:=s.get 0 rfl
 obtain ⟨q',cs,D',e1,e2,e3,rfl⟩:=hr
 injection e1 with e1
 subst e1
 refine key rows.length 0 G [] cs [] D' rfl e2 ⟨by simp,rfl⟩ (by simpa using e3) (by have:=s.ndT 0 rfl;simpa [tabT] using this) (by have:=s.fr _ (List.mem_cons_self ..);simpa [tabT] using this) s.drop fun y hy t ht=>?_
 obtain ⟨j,hj⟩:=List.mem_iff_getElem?.1 ht
 exact s.disjI 0 (j+1) rfl (by simpa using hj) (by omega) y (by simpa [tabT] using hy)
theorem st_appI {H G:Heap} {Ts:List Th} {q:Nat} {xs ys:List Int} (s:St H Ts G) (i:Nat) (hi:Ts[i]?=some (cT_ q (cP fI xs))) (hl:xs.length+ys.length≤1000000000) {K:AV→Heap→Prop}
  (h:∀q' G',G q'=none→St H (Ts.set i (cT_ q' (cP fI (xs++ys)))) G'→K (rowP q' (xs++ys)) G'):aP_ tab 22 22 (rowP q xs) (Is ys) G (wkK K):=by
 have hq:G q=some (cP fI xs):=s.get i hi
 exact app_intsX (ex:=[]) (by rw [hq,List.append_nil]) hl fun q' hq' hne=>h q' _ hq' (s.moved i hi hq')
abbrev eBo (b:Bool):List PV:=[.bool b]
abbrev fB (b:Bool):PV:=.bool b
theorem mapB_rd {l:List Bool} {i:Nat} (h:i < l.length):(List.take 1 (List.drop (i*1) (cP fB l))).headD Q_=B (l.getD i default):=by
 rw [Nat.mul_one,cP,← List.map_drop,drop_cons h];rfl
abbrev Bls (xs:List Bool):AV:=.p (.sl (xs.map eBo))
theorem frz_rowB {q:Nat} {xs:List Bool}:FrzR q 1 (xs.map eBo) (rowP q xs) (Bls xs):=by
 have:FrzR q 1 (xs.map eBo) (.sl q 1 0 (xs.map eBo).length) (.p (.sl (xs.map eBo))):=.here
 rwa [List.length_map] at this
theorem wkB {q:Nat} {xs:List Bool} {G:Heap} (hq:G q=some (cP fB xs)) (C:AV→AV) (hC:∀{q sz es a a'},FrzR q sz es a a'→FrzR q sz es (C a) (C a')):Wk (C (rowP q xs)) G (C (Bls xs)) (G.del q):=by
 have e:cells (xs.map eBo)=cP fB xs:=cells_P fB xs
 exact Wk.frz (r:=q) (sz:=1) (es:=xs.map eBo) (by omega) (by have h:=hq;rw [← e] at h;exact h) (sized_map (f:=eBo) (fun _=>rfl) xs) (hC frz_rowB)
theorem cB_set {l:List Bool} {t:Nat} (h:t < l.length) (b:Bool):List.take (t*1) (cP fB l)++[B b]++List.drop (t*1+1) (cP fB l)=cP fB (l.set t b):=by
 rw [List.set_eq_take_append_cons_drop,if_pos h,Nat.mul_one]
 simp [cP,List.map_take,List.map_drop]
theorem cB_zero (n:Nat):zA_ n [B false]=cP fB ((List.range n).map fun _=>false):=by
 induction n with
 | zero=>rfl
 | succ n ih=>rw [zerosA_succ,ih,List.range_succ_eq_map];simp [cP]
end Go.Proofs.YtolffbcnbcjeaaaGreat
namespace Go.Pt
structure Sd where
 op:Int
 n:Int
instance:Inhabited Sd:=⟨⟨0,0⟩⟩
def need (op:Int):Int:=if op=1∨op=2 then 0 else if op=3∨op=4 then 1 else if op=5∨op=6∨op=7∨op=8 then 2 else -1
def sdOk (x:Sd):Bool:=if x.op=1 then decide (0≤x.n) && decide (x.n < 3) else if x.op=2 then decide (x.n=0) || decide (x.n=1) else decide (0 < need x.op) && decide (x.n=0)
theorem need_cases (op:Int):(need op=0∧(op=1∨op=2))∨(need op=1∧(op=3∨op=4))∨(need op=2∧(op=5∨op=6∨op=7∨op=8))∨need op=-1:=by
 unfold need
 by_cases h1:op=1∨op=2
 ·rw [if_pos h1];exact .inl ⟨rfl,h1⟩
 rw [if_neg h1]
 by_cases h2:op=3∨op=4
 ·rw [if_pos h2];exact .inr (.inl ⟨rfl,h2⟩)
 rw [if_neg h2]
 by_cases h3:op=5∨op=6∨op=7∨op=8
 ·rw [if_pos h3];exact .inr (.inr (.inl ⟨rfl,h3⟩))
 rw [if_neg h3];exact .inr (.inr (.inr rfl))
theorem sdOk_need {x:Sd} (h:sdOk x=true):0≤need x.op∧need x.op≤2:=by
 unfold sdOk at h
 split at h
 ·rename_i e;rw [e];decide
 ·split at h
  ·rename_i e;rw [e];decide
  ·rw [Bool.and_eq_true,decide_eq_true_eq] at h
   rcases need_cases x.op with h1 | h1 | h1 | h1<;>omega
def vals (f:List Sd):Nat→Int
 | 0=>0
 | i+1=>vals f i+(1 - need (f.getD i default).op)
def sdAt (f:List Sd) (i:Nat):Bool:=sdOk (f.getD i default) && decide (need (f.getD i default).op≤vals f i)
def goodF (f:List Sd):Bool:=decide (1≤f.length) && decide (f.length≤16) && (List.range f.length).all (sdAt f) && decide (vals f f.length=1)
def stk (f:List Sd):Nat→List (Nat×Nat)
 | 0=>[]
 | i+1=>
  if need (f.getD i default).op=0 then (i,i)::stk f i
  else if need (f.getD i default).op=1 then (((stk f i).headD (0,0)).1,i)::(stk f i).tail
  else (((stk f i).tail.headD (0,0)).1,i)::(stk f i).tail.tail
def tst (f:List Sd) (k:Nat):Nat:=((stk f (k+1)).headD (0,0)).1
def Cont:Nat→List (Nat×Nat)→Prop
 | i,[]=>i=0
 | i,(s,k)::r=>k+1=i∧s≤k∧Cont s r
structure GoodFm (f:List Sd):Prop where
 l0:1≤f.length
 l1:f.length≤16
 ok:∀i,i < f.length→sdOk (f.getD i default)=true∧need (f.getD i default).op≤vals f i
 one:vals f f.length=1
theorem goodF_iff {f:List Sd}:goodF f=true↔GoodFm f:=by
 unfold goodF
 simp only [Bool.and_eq_true,decide_eq_true_eq,List.all_eq_true,List.mem_range,sdAt]
 exact ⟨fun h=>⟨h.1.1.1,h.1.1.2,h.1.2,h.2⟩,fun h=>⟨⟨⟨h.l0,h.l1⟩,h.ok⟩,h.one⟩⟩
theorem stk_len {f:List Sd} (g:GoodFm f):∀i,i≤f.length→((stk f i).length:Int)=vals f i:=by
 intro i
 induction i with
 | zero=>intro _;rfl
 | succ i ih=>
  intro hi
  have h1:=ih (by omega)
  have h2:=g.ok i (by omega)
  have h3:=sdOk_need h2.1
  have h4:=h2.2
  simp only [stk,vals]
  split
  ·rename_i e;rw [List.length_cons];omega
  ·split
   ·rename_i e;rw [List.length_cons,List.length_tail];omega
   ·rw [List.length_cons,List.length_tail,List.length_tail];omega
theorem stk_cont {f:List Sd} (g:GoodFm f):∀i,i≤f.length→Cont i (stk f i):=by
 intro i
 induction i with
 | zero=>intro _;rfl
 | succ i ih=>
  intro hi
  have h1:=ih (by omega)
  have h2:=g.ok i (by omega)
  have h3:=sdOk_need h2.1
  have h4:=h2.2
  have h5:=stk_len g i (by omega)
  simp only [stk]
  split
  ·exact ⟨rfl,Nat.le_refl _,h1⟩
  ·split
   ·cases hs:stk f i with
    | nil=>rw [hs] at h5;simp at h5;omega
    | cons a r=>
     obtain ⟨s,k⟩:=a
     rw [hs] at h1
     obtain ⟨c1,c2,c3⟩:=h1
     exact ⟨rfl,by simp only [List.headD_cons];omega,by simpa using c3⟩
   ·cases hs:stk f i with
    | nil=>rw [hs] at h5;simp at h5;omega
    | cons a r=>
     obtain ⟨s,k⟩:=a
     rw [hs] at h1 h5
     obtain ⟨c1,c2,c3⟩:=h1
     cases r with
     | nil=>simp at h5;omega
     | cons b r=>
      obtain ⟨s2,k2⟩:=b
      obtain ⟨d1,d2,d3⟩:=c3
      exact ⟨rfl,by simp only [List.tail_cons,List.headD_cons];omega,by simpa using d3⟩
theorem stk_below {f:List Sd} (g:GoodFm f):∀n i,i≤n→i≤f.length→∀s k r,stk f i=(s,k)::r→stk f s=r:=by
  intro n
  induction n with
  | zero => intro i hi _ s k r h; have : i = 0 := by omega
            subst this;cases h
  | succ n ih=>
    intro i hi hl s k r h
    cases i with
    | zero=>cases h
    | succ i=>
      have h2:=g.ok i (by omega)
      have h3:=sdOk_need h2.1
      have h4:=h2.2
      have h5:=stk_len g i (by omega)
      have hc:=stk_cont g i (by omega)
      simp only [stk] at h
      split at h
      · injection h with e1 e2
        injection e1 with e3 e4
        rw [← e3];exact e2
      · split at h
        · cases hs:stk f i with
          | nil=>rw [hs] at h5;simp at h5;omega
          | cons a r'=>
            obtain ⟨s',k'⟩:=a
            rw [hs] at h
            simp only [List.headD_cons,List.tail_cons] at h
            injection h with e1 e2
            injection e1 with e3 e4
            rw [← e3,← e2]
            exact ih i (by omega) (by omega) s' k' r' hs
        · cases hs:stk f i with
          | nil=>rw [hs] at h5;simp at h5;omega
          | cons a r'=>
            obtain ⟨s',k'⟩:=a
            have hb:=ih i (by omega) (by omega) s' k' r' hs
            rw [hs] at h h5 hc
            cases r' with
            | nil=>simp at h5;omega
            | cons b r''=>
              obtain ⟨s2,k2⟩:=b
              simp only [List.headD_cons,List.tail_cons] at h
              injection h with e1 e2
              injection e1 with e3 e4
              obtain ⟨c1,c2,c3⟩:=hc
              rw [← e3,← e2]
              exact ih s' (by omega) (by omega) s2 k2 r'' hb
theorem tst0 {f:List Sd} {k:Nat} (h:need (f.getD k default).op=0):tst f k=k:=by rw [tst,stk,if_pos h];rfl
theorem stk_top {f:List Sd} (g:GoodFm f) {k:Nat} (hk:k≤f.length) (h0:0 < k):∃r,stk f k=(tst f (k - 1),k - 1)::r∧tst f (k - 1)≤k - 1∧stk f (tst f (k - 1))=r:=by
 have hc:=stk_cont g k hk
 cases hs:stk f k with
 | nil=>rw [hs] at hc;have:k=0:=hc;omega
 | cons a r=>
  obtain ⟨s,j⟩:=a
  rw [hs] at hc
  obtain ⟨c1,c2,c3⟩:=hc
  have e:tst f (k - 1)=s:=by
   unfold tst
   rw [show k - 1+1=k by omega,hs];rfl
  have hb:=stk_below g k k (Nat.le_refl _) hk s j r hs
  refine ⟨r,?_,?_,?_⟩
  ·rw [e,show j=k - 1 by omega]
  ·rw [e];omega
  ·rw [e];exact hb
theorem tst1 {f:List Sd} (g:GoodFm f) {k:Nat} (hk:k < f.length) (h:need (f.getD k default).op=1):1≤k∧tst f k=tst f (k - 1):=by
 have h2:=g.ok k hk
 have h5:=stk_len g k (by omega)
 have h0:0 < k:=by
  cases k with
  | zero=>simp [stk] at h5;omega
  | succ k=>omega
 obtain ⟨r,e,_,_⟩:=stk_top g (by omega:k≤f.length) h0
 refine ⟨h0,?_⟩
 rw [tst,stk,if_neg (by omega),if_pos h,e];rfl
theorem tst2 {f:List Sd} (g:GoodFm f) {k:Nat} (hk:k < f.length) (h:need (f.getD k default).op=2):1≤k∧1≤tst f (k - 1)∧tst f (k - 1)≤k - 1∧tst f k=tst f (tst f (k - 1) - 1)∧∃r,stk f k=(tst f (k - 1),k - 1)::(tst f (tst f (k - 1) - 1),tst f (k - 1) - 1)::r:=by
 have h2:=g.ok k hk
 have h5:=stk_len g k (by omega)
 have h0:0 < k:=by
  cases k with
  | zero=>simp [stk] at h5;omega
  | succ k=>omega
 obtain ⟨r,e,e1,e2⟩:=stk_top g (by omega:k≤f.length) h0
 have h6:0 < tst f (k - 1):=by
  rcases Nat.eq_zero_or_pos (tst f (k - 1)) with hz | hz
  ·rw [hz] at e2
   have:r=[]:=e2.symm
   rw [e,this] at h5
   simp at h5;omega
  ·exact hz
 obtain ⟨r2,f1,f2,f3⟩:=stk_top g (by omega:tst f (k - 1)≤f.length) h6
 rw [e2] at f1
 refine ⟨h0,h6,e1,?_,r2,by rw [e,f1]⟩
 rw [tst,stk,if_neg (by omega),if_neg (by omega),e,f1];rfl
def opsF (f:List Sd) (i:Nat):List Int:=
 if need (f.getD i default).op=0 then [] else if need (f.getD i default).op=1 then [(i:Int) - 1] else [(tst f (i - 1):Int) - 1,(i:Int) - 1]
def roots (f:List Sd) (i:Nat):List Int:=((stk f i).reverse.map fun x=>(x.2:Int))
theorem roots_succ {f:List Sd} (g:GoodFm f) {i:Nat} (hi:i < f.length):∃r,roots f i=r++opsF f i∧roots f (i+1)=r++[(i:Int)]∧((opsF f i).length:Int)=need (f.getD i default).op:=by
 have h2:=g.ok i hi
 have h3:=sdOk_need h2.1
 rcases (by omega:need (f.getD i default).op=0∨need (f.getD i default).op=1∨need (f.getD i default).op=2) with h | h | h
 ·refine ⟨roots f i,?_,?_,?_⟩
  ·rw [opsF,if_pos h];simp
  ·rw [roots,stk,if_pos h];simp [roots]
  ·rw [opsF,if_pos h,h];rfl
 ·obtain ⟨r,e,_,_⟩:=stk_top g (by omega:i≤f.length) (tst1 g hi h).1
  have h0:=(tst1 g hi h).1
  refine ⟨r.reverse.map fun x=>(x.2:Int),?_,?_,?_⟩
  ·rw [opsF,if_neg (by omega),if_pos h,roots,e]
   simp only [List.reverse_cons,List.map_append,List.map_cons,List.map_nil]
   congr 2;omega
  ·rw [roots,stk,if_neg (by omega),if_pos h,e];simp
  ·rw [opsF,if_neg (by omega),if_pos h,h];rfl
 ·obtain ⟨h0,h1,h4,_,r,e⟩:=tst2 g hi h
  refine ⟨r.reverse.map fun x=>(x.2:Int),?_,?_,?_⟩
  ·rw [opsF,if_neg (by omega),if_neg (by omega),roots,e]
   simp only [List.reverse_cons,List.map_append,List.map_cons,List.map_nil,List.append_assoc,List.cons_append,List.nil_append]
   congr 3
   ·omega
   ·congr 1;omega
  ·rw [roots,stk,if_neg (by omega),if_neg (by omega),e];simp
  ·rw [opsF,if_neg (by omega),if_neg (by omega),h];rfl
def trAt (f:List Sd) (i:Nat):List Int:=if (f.getD i default).op=7∨(f.getD i default).op=8 then [(i:Int),(i:Int) - 1] else if (f.getD i default).op=4 then [(i:Int) - 1] else []
def trL (f:List Sd) (i:Nat):List Int:=((f.length:Int) - 1)::((List.range i).map (trAt f)).flatten
theorem trL_succ (f:List Sd) (i:Nat):trL f (i+1)=trL f i++trAt f i:=by simp [trL,List.range_succ]
theorem trAt_len (f:List Sd) (i:Nat):(trAt f i).length≤2:=by
 unfold trAt;split
 ·simp
 ·split<;>simp
theorem trL_len (f:List Sd) (i:Nat):(trL f i).length≤2*i+1:=by
 induction i with
 | zero=>simp [trL]
 | succ i ih=>rw [trL_succ,List.length_append];have:=trAt_len f i;omega
end Go.Pt
namespace Go.Sep
open Go Go.RowKit Go.Proofs.YtolffbcnbcjeaaaGreat
structure ResT (R:AV→Heap→List Nat→Prop):Prop where
 loc:∀{r G G' D},R r G D→(∀y∈D,∀b,G y=some b→G' y=some b)→R r G' D
 gd:∀{r G D},R r G D→Gd2 r∧∀y∈D,∀bs,G y=some bs→∀c∈bs,GdC c
 sh:∀{r G D n G0},(∀q,n≤q→G0 q=none)→R r G D→R (sh2 n r) (Heap.or G0 (shH n G)) (D.map (·+n))
theorem thawR {R:AV→Heap→List Nat→Prop} (hR:ResT R) {P:Program} {f:Nat} {args args':List AV} {G G1:Heap} {K:AV→Heap→Prop}
  (hf:∀{K:AV→Heap→Prop},(∀r G D,R r G D→New (fun _=>none) G D→K r G)→CallT P f args' (fun _=>none) K)
  (hw:Wk (.tup args) G (.tup args') G1) (h:∀r G' D,R r G' D→New G G' D→K r G'):CallT P f args G K:=by
 refine CallT.thawX (Q':=fun r H'=>∃D,R r H' D∧D.Nodup∧∀y,y∉D→H' y=none) ?_ ?_ hw ?_
 ·refine CallT.fin (hf fun r G D hl hn=>⟨_,only D G,.forget (only_le D G),D,hR.loc hl fun y hy b hb=>by rw [only_in hy];exact hb,hn.nd,fun y hy=>only_out hy⟩)
 ·rintro r H' ⟨D,hl,_,hout⟩
  refine ⟨(hR.gd hl).1,fun q cs hq=>?_⟩
  by_cases hD:q∈D
  ·exact (hR.gd hl).2 q hD cs hq
  ·rw [hout q hD] at hq;cases hq
 ·rintro r H' n ⟨D,hl,hnd,hout⟩ hn
  refine h _ _ (D.map (·+n)) (hR.sh hn hl) ⟨?_,fun y hy=>?_,fun y b hb=>by simp only [Heap.or,hb]⟩
  ·exact List.pairwise_map.2 (hnd.imp fun h e=>h (Nat.add_right_cancel e))
  ·obtain ⟨z,_,rfl⟩:=List.mem_map.1 hy
   exact hn _ (by omega)
end Go.Sep
namespace Go.Proofs.YtolffbcnbcjeaaaGreat
open Go Go.Sep Go.Pt
attribute [local irreducible] CallT
abbrev eD (x:Sd):List PV:=[.int .i64 x.op,.int .i64 x.n]
abbrev aD (x:Sd):AV:=.agg [I x.op,I x.n]
abbrev Ds (xs:List Sd):AV:=.p (.sl (xs.map eD))
abbrev rowD (q:Nat) (xs:List Sd):AV:=.sl q 2 0 xs.length
abbrev cD (xs:List Sd):List AV:=cells (xs.map eD)
abbrev LD:List Sd→AV→Heap→List Nat→Prop:=LRow (LPl eD) 2
theorem szD (xs:List Sd):Sized 2 (xs.map eD):=sized_map (f:=eD) (fun _=>rfl) xs
def markD (k:Int) (n:Nat):List Sd:=(List.range n).map fun (i:Nat)=>⟨k+2*(i:Int),k+2*(i:Int)+1⟩
theorem markD_len (k:Int) (n:Nat):(markD k n).length=n:=by simp [markD]
theorem markD_succ (k:Int) (n:Nat):markD k (n+1)=markD k n++[⟨k+2*n,k+2*n+1⟩]:=by simp [markD,List.range_succ]
theorem szSaidS_spec (t:List Sd) (left:Int) (h0:0≤left) (h1:left≤1048576) (hl:ok t.length):Pu Tryz.prog 16 [Ds t,I left] (I (szR left t.length)):=by
 refine Pu.of fun H=>?_
 unfold ok at hl
 have e:IntKind.i64.wrap (left - t.length)=left - t.length:=i6_ (by omega) (by omega)
 refine W16_ok ?_;simp (maxSteps:=1000000) (disch:=first | assumption | (apply ν6;assumption)) only [W16,vz,vu,vv,eqS,eF_,↓c1_,↓c2_,tabs,reduceCtorEq,ι5,↓reduceIte,ν1,ν2,ν3,ν4,ν5,ι1,ι2,ι3,ι4,e]
 refine ⟨fun h=>by rw [szR_neg (by omega)],fun h=>by rw [szR_pos (by omega)]⟩
theorem toSaid_spec (c:Sd):Pu Tryz.prog 54 [aD c] (aD c):=by
 refine Pu.of fun H=>?_
 refine W54_ok ?_;simp (maxSteps:=1000000) (disch:=first | assumption | (apply ν6;assumption)) only [W54,vz,vu,vv,eqS,eF_,↓c1_,↓c2_,tabs,reduceCtorEq,ι5,↓reduceIte,ν1,ν2,ν3,ν4,ν5,ι1,ι2,ι3,ι4]
 intro r hr r2 n1 h2 r3 n2 n3 h3
 (try simp (maxSteps:=1000000) (disch:=first | assumption | (apply ν6;assumption)) only [vz,vu,vv,eqS,eF_,↓c1_,↓c2_,tabs,reduceCtorEq,ι5,↓reduceIte,ν1,ν2,ν3,ν4,ν5,ι1,ι2,ι3,ι4])
 (repeat first | exact Heap.le_refl _ | refine Heap.le_setN ?_ (by assumption))
theorem toSaidS_spec (xs:List Sd) (hl:xs.length≤1048576):Pu Tryz.prog 18 [Ds xs] (Ds xs):=by
 refine ⟨fun H=>CallT.fin ?_⟩
 refine W18_ok ?_;simp (maxSteps:=1000000) (disch:=first | assumption | (apply ν6;assumption)) only [W18,vz,vu,vv,eqS,eF_,↓c1_,↓c2_,tabs,reduceCtorEq,ι5,↓reduceIte,ν1,ν2,ν3,ν4,ν5,ι1,ι2,ι3,ι4,mS_]
 refine ⟨by omega,by omega,by omega,by omega,fun q hq=>?_⟩
 have z0:rowZ eD [I 0,I 0] xs 0=zA_ xs.length [I 0,I 0]:=rowZ_zero
 rw [← z0]
 refine L18_0_rule (0:Nat) (fun i=>I i) (fun i=>H.set q (rowZ eD [I 0,I 0] xs i)) (fun i=>i≤xs.length) (fun i=>xs.length - i) ⟨by omega,.refl _,Heap.le_refl _⟩ ?_
 intro i hi
 have hrl:=rowZ_len (e:=eD) (zero:=[I 0,I 0]) (xs:=xs) (i:=i) (sz:=2) (fun _=>rfl) rfl hi
 (try simp (maxSteps:=1000000) (disch:=first | assumption | (apply ν6;assumption)) only [vz,vu,vv,eqS,eF_,↓c1_,↓c2_,tabs,reduceCtorEq,ι5,↓reduceIte,ν1,ν2,ν3,ν4,ν5,ι1,ι2,ι3,ι4,B18_0])
 refine ⟨fun h=>⟨by omega,h,?_⟩,fun h=>?_⟩
 ·have hlt:i < xs.length:=by omega
  have hput:=rowZ_put (e:=eD) (zero:=[I 0,I 0]) (xs:=xs) (i:=i) (sz:=2) (fun _=>rfl) rfl hlt rfl rfl
  refine Pu.use (toSaid_spec (xs.getD i default)) ?_
  (try simp (maxSteps:=1000000) (disch:=first | assumption | (apply ν6;assumption)) only [vz,vu,vv,eqS,eF_,↓c1_,↓c2_,tabs,reduceCtorEq,ι5,↓reduceIte,ν1,ν2,ν3,ν4,ν5,ι1,ι2,ι3,ι4])
  refine ⟨by omega,h,by omega,i+1,by omega,by omega,?_,?_⟩
  ·rw [wk_int,i6_ (by omega) (by omega)];simp
  ·rw [← hput];exact Heap.le_refl _
 ·have:i=xs.length:=by omega
  subst this
  have:=fin_own (sz:=2) (es:=xs.map eD) (q:=q) (H:=H) (H':=H.set q (rowZ eD [I 0,I 0] xs xs.length)) (K:=fun r H'=>r=Ds xs∧H'=H) (by omega) (sized_map (f:=eD) (fun _=>rfl) xs) hq (by rw [rowZ_end];exact Heap.le_refl _) ⟨rfl,rfl⟩
  simpa only [Go.Sep.own,List.length_map] using this
theorem eqSaid_spec (c:Sd):Pu Tryz.prog 57 [aD c,aD c] (B true):=by
 refine Pu.of fun H=>?_
 refine W57_ok ?_;simp (maxSteps:=1000000) (disch:=first | assumption | (apply ν6;assumption)) only [W57,vz,vu,vv,eqS,eF_,↓c1_,↓c2_,tabs,reduceCtorEq,ι5,↓reduceIte,ν1,ν2,ν3,ν4,ν5,ι1,ι2,ι3,ι4]
 intro r hr r2 n1 h2
 (try simp (maxSteps:=1000000) (disch:=first | assumption | (apply ν6;assumption)) only [vz,vu,vv,eqS,eF_,↓c1_,↓c2_,tabs,reduceCtorEq,ι5,↓reduceIte,ν1,ν2,ν3,ν4,ν5,ι1,ι2,ι3,ι4])
 (repeat first | exact Heap.le_refl _ | refine Heap.le_setN ?_ (by assumption))
theorem eqSaidS_spec (xs:List Sd) (hl:xs.length≤1048576):Pu Tryz.prog 20 [Ds xs,Ds xs] (B true):=by
 refine Pu.of fun H=>?_
 refine W20_ok ?_;simp (maxSteps:=1000000) (disch:=first | assumption | (apply ν6;assumption)) only [W20,vz,vu,vv,eqS,eF_,↓c1_,↓c2_,tabs,reduceCtorEq,ι5,↓reduceIte,ν1,ν2,ν3,ν4,ν5,ι1,ι2,ι3,ι4]
 refine L20_0_rule (0:Nat) (fun i=>I i) (fun _=>H) (fun i=>i≤xs.length) (fun i=>xs.length - i) ⟨by omega,.refl _,Heap.le_refl _⟩ ?_
 intro i hi
 (try simp (maxSteps:=1000000) (disch:=first | assumption | (apply ν6;assumption)) only [vz,vu,vv,eqS,eF_,↓c1_,↓c2_,tabs,reduceCtorEq,ι5,↓reduceIte,ν1,ν2,ν3,ν4,ν5,ι1,ι2,ι3,ι4,B20_0])
 intro h
 have hlt:i < xs.length:=by omega
 refine ⟨by omega,h,by omega,h,?_⟩
 refine Pu.use (eqSaid_spec (xs.getD i default)) ?_
 (try simp (maxSteps:=1000000) (disch:=first | assumption | (apply ν6;assumption)) only [vz,vu,vv,eqS,eF_,↓c1_,↓c2_,tabs,reduceCtorEq,ι5,↓reduceIte,ν1,ν2,ν3,ν4,ν5,ι1,ι2,ι3,ι4])
 refine ⟨i+1,by omega,by omega,?_⟩
 rw [wk_int,i6_ (by omega) (by omega)];simp
theorem toSaidS_live (xs:List Sd) (hl:xs.length≤1048576) {H:Heap} {K:AV→Heap→Prop} (h:∀x G D,LD xs x G D→New H G D→K x G):CallT Tryz.prog 18 [Ds xs] H K:=by
 refine W18_ok ?_;simp (maxSteps:=1000000) (disch:=first | assumption | (apply ν6;assumption)) only [W18,vz,vu,vv,eqS,eF_,↓c1_,↓c2_,tabs,reduceCtorEq,ι5,↓reduceIte,ν1,ν2,ν3,ν4,ν5,ι1,ι2,ι3,ι4,mS_]
 refine ⟨by omega,by omega,by omega,by omega,fun q hq=>?_⟩
 have z0:rowZ eD [I 0,I 0] xs 0=zA_ xs.length [I 0,I 0]:=rowZ_zero
 rw [← z0]
 refine L18_0_rule (0:Nat) (fun i=>I i) (fun i=>H.set q (rowZ eD [I 0,I 0] xs i)) (fun i=>i≤xs.length) (fun i=>xs.length - i) ⟨by omega,.refl _,Heap.le_refl _⟩ ?_
 intro i hi
 have hrl:=rowZ_len (e:=eD) (zero:=[I 0,I 0]) (xs:=xs) (i:=i) (sz:=2) (fun _=>rfl) rfl hi
 (try simp (maxSteps:=1000000) (disch:=first | assumption | (apply ν6;assumption)) only [vz,vu,vv,eqS,eF_,↓c1_,↓c2_,tabs,reduceCtorEq,ι5,↓reduceIte,ν1,ν2,ν3,ν4,ν5,ι1,ι2,ι3,ι4,B18_0])
 refine ⟨fun h=>⟨by omega,h,?_⟩,fun h5=>?_⟩
 ·have hlt:i < xs.length:=by omega
  have hput:=rowZ_put (e:=eD) (zero:=[I 0,I 0]) (xs:=xs) (i:=i) (sz:=2) (fun _=>rfl) rfl hlt rfl rfl
  refine Pu.use (toSaid_spec (xs.getD i default)) ?_
  (try simp (maxSteps:=1000000) (disch:=first | assumption | (apply ν6;assumption)) only [vz,vu,vv,eqS,eF_,↓c1_,↓c2_,tabs,reduceCtorEq,ι5,↓reduceIte,ν1,ν2,ν3,ν4,ν5,ι1,ι2,ι3,ι4])
  refine ⟨by omega,h,by omega,i+1,by omega,by omega,?_,?_⟩
  ·rw [wk_int,i6_ (by omega) (by omega)];simp
  ·rw [← hput];exact Heap.le_refl _
 ·have:i=xs.length:=by omega
  subst this
  refine h _ _ [q] ⟨q,_,[],rfl,Heap.set_same _ _ _,?_,rfl⟩ ⟨by simp,by simpa using hq,Heap.le_set hq⟩
  rw [rowZ_end];exact LL.plain xs
theorem markSaidS_row (xs:List Sd) (hl:xs.length≤1048576) {k:Int} (h0:0≤k) (h1:k≤1000000000) {q:Nat} {G:Heap} (hG:G q=some (cD xs)) {K:AV→Heap→Prop}
  (h:K (I (k+2*xs.length)) (G.set q (cD (markD k xs.length)))):CallT Tryz.prog 23 [rowD q xs,I k] G K:=by
 refine W23_ok ?_;simp (maxSteps:=1000000) (disch:=first | assumption | (apply ν6;assumption)) only [W23,vz,vu,vv,eqS,eF_,↓c1_,↓c2_,tabs,reduceCtorEq,ι5,↓reduceIte,ν1,ν2,ν3,ν4,ν5,ι1,ι2,ι3,ι4]
 refine L23_0_rule (0:Nat) (fun i=>I (k+2*i)) (fun i=>I i) (fun i=>G.set q (cD (markD k i++xs.drop i))) (fun i=>i≤xs.length) (fun i=>xs.length - i) ⟨by omega,?_,.refl _,?_⟩ ?_
 ·rw [wk_int];simp
 ·intro y b hy
  by_cases e:y=q
  ·subst e;rw [Heap.set_same] at hy;rw [hG];simpa [markD] using hy
  ·rw [Heap.set_other e] at hy;exact hy
 intro i hi
 (try simp (maxSteps:=1000000) (disch:=first | assumption | (apply ν6;assumption)) only [vz,vu,vv,eqS,eF_,↓c1_,↓c2_,tabs,reduceCtorEq,ι5,↓reduceIte,ν1,ν2,ν3,ν4,ν5,ι1,ι2,ι3,ι4,B23_0])
 refine ⟨fun h5=>?_,fun h5=>?_⟩
 ·have hlt:i < xs.length:=by omega
  have hdl:(cD (markD k i)).length=i*2:=by rw [cells_map_len (sz:=2) (fun _=>rfl),markD_len]
  have e3:cD (markD k i++xs.drop i)=cD (markD k i)++(I (xs.getD i default).op::I (xs.getD i default).n::cD (xs.drop (i+1))):=by
   rw [drop_cons hlt,cD,List.map_append,cells_app];rfl
  have e4:cD (markD k (i+1)++xs.drop (i+1))=cD (markD k i)++(I (k+2*i)::I (k+2*i+1)::cD (xs.drop (i+1))):=by
   rw [markD_succ,List.append_assoc,cD,List.map_append,cells_app];rfl
  generalize cD (xs.drop (i+1))=c2 at e3 e4
  generalize xs.getD i default=a at e3
  rw [e3]
  generalize cD (markD k i)=cd at hdl e4
  have p1:∀z,List.take (i*2) (cd++(I a.op::I a.n::c2))++[z]++List.drop (i*2+1) (cd++(I a.op::I a.n::c2))=cd++(z::I a.n::c2):=fun z=>splice_at (c:=[I a.op]) (c':=[z]) (post:=I a.n::c2) hdl.symm rfl rfl
  have p2:∀z w,List.take (i*2+1) (cd++(z::I a.n::c2))++[w]++List.drop (i*2+1+1) (cd++(z::I a.n::c2))=cd++(z::w::c2):=fun z w=>by
   have:=splice_at (pre:=cd++[z]) (c:=[I a.n]) (c':=[w]) (post:=c2) (off:=i*2+1) (n:=1) (by simp [hdl]) rfl rfl
   simpa using this
  have w1:IntKind.i64.wrap (k+2 * ↑i+1)=k+2*i+1:=i6_ (by omega) (by omega)
  (try simp (maxSteps:=1000000) (disch:=first | assumption | (apply ν6;assumption)) only [vz,vu,vv,eqS,eF_,↓c1_,↓c2_,tabs,reduceCtorEq,ι5,↓reduceIte,ν1,ν2,ν3,ν4,ν5,ι1,ι2,ι3,ι4,p1,p2,w1])
  refine ⟨by omega,h5,by omega,by omega,h5,by simp only [List.length_take,List.length_drop,List.length_append,List.length_cons,hdl];omega,i+1,by omega,by omega,?_,?_,?_⟩
  ·rw [wk_int,i6_ (by omega) (by omega)];omega
  ·rw [wk_int,i6_ (by omega) (by omega)];simp
  ·rw [e4];exact Heap.le_refl _
 ·have:i=xs.length:=by omega
  subst this
  simpa using h
theorem LD_row {xs:List Sd} {x:AV} {G:Heap} {D:List Nat} (h:LD xs x G D):∃q,x=rowD q xs∧G q=some (cD xs)∧D=[q]:=by
 obtain ⟨q,cs,D',rfl,hq,hll,rfl⟩:=h
 obtain ⟨rfl,rfl⟩:=LL.plain' hll
 exact ⟨q,rfl,hq,rfl⟩
theorem frz_rowD {q:Nat} {xs:List Sd}:FrzR q 2 (xs.map eD) (rowD q xs) (Ds xs):=by
 have:FrzR q 2 (xs.map eD) (.sl q 2 0 (xs.map eD).length) (.p (.sl (xs.map eD))):=.here
 rwa [List.length_map] at this
theorem wkD {q:Nat} {xs:List Sd} {G:Heap} (hq:G q=some (cD xs)) (C:AV→AV) (hC:∀{q sz es a a'},FrzR q sz es a a'→FrzR q sz es (C a) (C a')):Wk (C (rowD q xs)) G (C (Ds xs)) (G.del q):=
 Wk.frz (r:=q) (sz:=2) (es:=xs.map eD) (by omega) hq (szD xs) (hC frz_rowD)
theorem eqD_row {q:Nat} {xs:List Sd} {G:Heap} (hq:G q=some (cD xs)) (hl:xs.length≤1048576) {K:AV→Heap→Prop} (h:K (B true) G):CallT Tryz.prog 20 [rowD q xs,Ds xs] G K:=
 Pu.thaw (eqSaidS_spec xs hl) (.bool _) (wkD hq (fun v=>.tup [v,Ds xs]) (fun h=>.tup (.cons h (.cons (.same _) .nil)))) h
end Go.Proofs.YtolffbcnbcjeaaaGreat
namespace Go.Proofs.YtolffbcnbcjeaaaGreat
open Go Go.Sep Go.Pt Go.RowKit
theorem typed_said {x:List PV} (h:Typed Tryz.prog 78 x):∃a:Sd,x=eD a:=by
 have h:=typed_fields (ts:=[3,3]) (by kernel_rfl) h
 obtain ⟨a,b,rfl,h1,h⟩:=typedAll_cons h
 obtain ⟨b,c,rfl,h2,h⟩:=typedAll_cons h
 cases typedAll_nil h
 obtain ⟨n,_,rfl⟩:=typed_int (k:=.i64) (by kernel_rfl) h1
 obtain ⟨m,_,rfl⟩:=typed_int (k:=.i64) (by kernel_rfl) h2
 exact ⟨⟨n,m⟩,rfl⟩
theorem typed_saids {x:List PV} (h:Typed Tryz.prog 41 x):∃t:List Sd,ok t.length∧x=[.sl (t.map eD)]:=by
 obtain ⟨es,rfl,hl,he⟩:=typed_slice (e:=78) (by kernel_rfl) h
 obtain ⟨t,h1,rfl,h3⟩:=rows_of (Q:=fun _=>True) (e:=eD) es fun y hy=>by
  obtain ⟨a,rfl⟩:=typed_said (he y hy)
  exact ⟨a,trivial,rfl⟩
 exact ⟨t,by unfold ok;omega,rfl⟩
theorem arg_saids {v:AV} (h:ArgT Tryz.prog 41 v):∃t:List Sd,ok t.length∧v=Ds t:=by
 have hu:=sliceIs_ok (P:=Tryz.prog) (t:=41) (e:=78) (by kernel_rfl)
 obtain ⟨p,g,rfl⟩:=arg_cell (fun fs h=>by rw [hu] at h;cases h) h
 obtain ⟨t,ht,e⟩:=typed_saids g
 injection e with e
 exact ⟨t,ht,by rw [e]⟩
end Go.Proofs.YtolffbcnbcjeaaaGreat
namespace Go.Sep
open Go Go.RowKit Go.Sort Go.Proofs.YtolffbcnbcjeaaaGreat
theorem Sim.ahead {Z:Fro} {φ:Pm} {B0:Nat} {w0 w:World} {H:Heap} (s:Sim Z φ B0 w0 H w) (n:Nat):Sim Z φ B0 w0 H (Go.Sort.ahead w n):=
 ⟨s.b0,⟨⟨s.below.os,s.below.tape,s.below.output,s.below.size,s.below.block⟩,s.below.drawn.trans (.of (Nat.le_add_right _ _))⟩,s.bnd,fun r blk e=>let ⟨pl,hp,hl⟩:=s.live r blk e;⟨pl,hp,hl.world fun _ h=>h⟩,s.disj,fun b i v hz=>s.froz b i v hz,s.zsep⟩
theorem mapBlock_setRow {w:World} {b:Nat} {cur:Array Value} {e:TypeId} {fr:Nat×Nat} (h:w.heap[b]?=some (.cells cur e fr)) (f:Array Value→Array Value):mapBlock w b f=w.setRow b (f cur):=by
 unfold mapBlock World.setRow
 congr 1
 apply Array.ext_getElem?
 intro k
 simp only [Array.getElem?_modify]
 by_cases hk:b=k
 ·subst hk;simp [h,onCells]
 ·simp [hk]
theorem Sim.grow {Z:Fro} {φ:Pm} {B0:Nat} {w0 w:World} {H:Heap} (s:Sim Z φ B0 w0 H w) (os:Array Obj):Sim Z φ B0 w0 H (Go.Sort.grow w os):=
 s.later ⟨⟨rfl,rfl,rfl,by simp,fun k hk=>heap_grow_old w os hk⟩,.of (Nat.le_refl _)⟩
theorem Sim.putInts {Z:Fro} {φ:Pm} {B0:Nat} {w0 w:World} {H:Heap} (s:Sim Z φ B0 w0 H w) {r:Nat} {zs zs':List Int} (hr:H r=some (zs.map fun n=>AV.p (.int .i64 n))) (hl:zs'.length=zs.length) (hpos:0 < zs.length) {pl:Place} (hp:φ r=some pl) (n:Nat) (os:Array Obj) :
  Sim Z φ B0 w0 (H.set r (zs'.map fun n=>AV.p (.int .i64 n))) (Go.Sort.grow (putRow (Value.int .i64) (Go.Sort.ahead w n) pl.b pl.o zs'.toArray) os):=by
 obtain ⟨pl',hp',hlive⟩:=s.live r _ hr
 rw [hp] at hp';cases hp'
 rcases hlive with ⟨_,h0⟩ | ⟨cur,e,h1,h2,h3,h4,h5⟩
 ·cases zs with
  | nil=>simp at hpos
  | cons a zs=>simp at h0
 rw [List.length_map] at h3
 refine Sim.grow ?_ os
 have s1:=s.ahead n
 have h1':(Go.Sort.ahead w n).heap[pl.b]?=some (.cells cur e (0,0)):=h1
 rw [putRow,mapBlock_setRow h1']
 refine s1.setRow hr hp h1' (by omega) _ (by simp [putCells]) ?_ _ (by rw [List.length_map];omega) ?_
 ·intro i hi
  simp only [putCells,Array.getElem?_mapIdx]
  cases cur[i]? with
  | none=>rfl
  | some v=>simp only [Option.map_some];rw [if_neg (by simp;omega)]
 ·intro i av hi
  rw [List.getElem?_map] at hi
  cases hz:zs'[i]? with
  | none=>rw [hz] at hi;cases hi
  | some x=>
   rw [hz] at hi
   cases hi
   have hlt:i < zs'.length:=(List.getElem?_eq_some_iff.1 hz).1
   refine ⟨.int .i64 x,?_,.p (.int _ _)⟩
   have hc:pl.o+i < cur.size:=by omega
   simp only [putCells,Array.getElem?_mapIdx,Array.getElem?_eq_getElem hc,Option.map_some]
   rw [if_pos (by simp;omega)]
   have:(List.toArray zs')[pl.o+i - pl.o]! = x:=by
    rw [Nat.add_sub_cancel_left]
    have:=(List.getElem?_eq_some_iff.1 hz).2
    simp [hlt,this]
   rw [this]
theorem Sim.holdsInts {Z:Fro} {φ:Pm} {B0:Nat} {w0 w:World} {H:Heap} (s:Sim Z φ B0 w0 H w) {r:Nat} {zs:List Int} (hr:H r=some (zs.map fun n=>AV.p (.int .i64 n))) (hpos:0 < zs.length) {pl:Place} (hp:φ r=some pl) :
  Holds (Value.int .i64) w pl.b pl.o zs.toArray∧pl.b < w.heap.size:=by
 obtain ⟨pl',hp',hlive⟩:=s.live r _ hr
 rw [hp] at hp';cases hp'
 rcases hlive with ⟨_,h0⟩ | ⟨cur,e,h1,h2,h3,h4,h5⟩
 ·cases zs with
  | nil=>simp at hpos
  | cons a zs=>simp at h0
 refine ⟨fun j hj=>⟨?_,?_⟩,(Array.getElem?_eq_some_iff.1 h1).1⟩
 ·have hj':j < zs.length:=by simpa using hj
  have hz:zs[j]?=some zs[j]:=List.getElem?_eq_getElem hj'
  obtain ⟨x,hx,hc⟩:=h5 j (.p (.int .i64 zs[j])) (by rw [List.getElem?_map,hz];rfl)
  have ex:x=.int .i64 zs[j]:=by
   cases hc with
   | p h=>cases h;rfl
  rw [cell_of_row w pl.b _ cur e _ h1,hx,ex]
  simp [hj']
 ·unfold World.frozen?
  rw [h1];simp
theorem CallT.inPlace {P:Program} {f:Nat} (hb:HasBody P f) {H:Heap} {q:Nat} {zs:List Int} (hq:H q=some (zs.map fun n=>AV.p (.int .i64 n))) (g:List Int) (hg:g.length=zs.length)
  (hc:∀blk off cap w,zs.length≤cap→Holds (Value.int .i64) w blk off zs.toArray→blk < w.heap.size→Calls P f #[.slice (some ⟨blk,off,none⟩) zs.length cap] w fun e w'=>
   e=.returned (.tuple #[])∧∃n os,w'=Go.Sort.grow (putRow (Value.int .i64) (Go.Sort.ahead w n) blk off g.toArray) os)
  (hn:zs=[]→∀p cap w,Calls P f #[.slice p 0 cap] w fun e w'=>e=.returned (.tuple #[])∧w'=w)
  {K:AV→Heap→Prop} (h:K (.tup []) (H.set q (g.map fun n=>AV.p (.int .i64 n)))):CallT P f [.sl q 1 0 zs.length] H K:=by
 refine ⟨hb,?_⟩
 intro B0 w0 F Z φ w xs hd hs ha
 obtain ⟨hsz,hrel⟩:=ha
 obtain ⟨x,rfl⟩:∃x,xs=#[x]:=by
  have h1:xs.size=1:=hsz
  exact ⟨xs[0],by
   apply Array.ext
   ·simp [h1]
   ·intro i hi1 hi2
    have:i=0:=by simp at hi2;omega
    subst this;simp⟩
 have hx:=hrel 0 (.sl q 1 0 zs.length) x rfl rfl
 have hq':(H.or F) q=some (zs.map fun n=>AV.p (.int .i64 n)):=Heap.or_left hq
 have hFq:F q=none:=hd q (by rw [hq];simp)
 have empty:zs=[]→∀a c,x=.slice a 0 c→Calls P f #[x] w (fun e w'=>∃x,e=.returned x∧UpV B0 w0 F Z φ K x w'):=by
  rintro rfl a c rfl
  refine (hn rfl a c w).mono ?_
  rintro e w' ⟨rfl,rfl⟩
  have hg0:g=[]:=List.eq_nil_of_length_eq_zero hg
  subst hg0
  have hset:H.set q []=H:=by
   funext y
   by_cases e:y=q
   ·subst e;rw [Heap.set_same];exact hq.symm
   ·rw [Heap.set_other e]
  refine ⟨_,rfl,.tup [],H,Z,φ,?_,Fro.le_refl _,Pm.le_refl _,hd,hs,.tup [] #[] rfl (fun i av x h=>by simp at h)⟩
  rw [← hset];exact h
 generalize hm:zs.length=m at hx
 cases hx with
 | slz _ _ _ a=>exact empty (List.eq_nil_of_length_eq_zero hm) a 0 rfl
 | sl hp hl hC=>
  rename_i c pl
  subst hm
  by_cases h0:zs.length=0
  ·exact empty (List.eq_nil_of_length_eq_zero h0) _ _ (by rw [h0])
  have hh:=hs.holdsInts hq' (by omega) hp
  refine (hc pl.b pl.o c w hl hh.1 hh.2).mono ?_
  rintro e w' ⟨rfl,n,os,rfl⟩
  have s2:=hs.putInts (zs':=g) hq' hg (by omega) hp n os
  refine ⟨_,rfl,.tup [],H.set q (g.map fun n=>AV.p (.int .i64 n)),Z,φ,h,Fro.le_refl _,Pm.le_refl _,hd.set hFq,?_,.tup [] #[] rfl (fun i av x h=>by simp at h)⟩
  rw [Heap.or_set];exact s2
theorem CallT.inPlaceC {P:Program} {f:Nat} (hb:HasBody P f) {H:Heap} {q:Nat} {zs:List Int} (hq:H q=some (zs.map fun n=>AV.p (.int .i64 n))) (g tl:List Int) (hg:(g++tl).length=zs.length)
  (hc:∀blk off cap w,zs.length≤cap→Holds (Value.int .i64) w blk off zs.toArray→blk < w.heap.size→Calls P f #[.slice (some ⟨blk,off,none⟩) zs.length cap] w fun e w'=>
   e=.returned (.slice (some ⟨blk,off,none⟩) g.length cap)∧∃n,w'=putRow (Value.int .i64) (Go.Sort.ahead w n) blk off (g++tl).toArray)
  (hn:zs=[]→∀p cap w,Calls P f #[.slice p 0 cap] w fun e w'=>e=.returned (.slice p 0 cap)∧w'=w)
  {K:AV→Heap→Prop} (h:K (.sl q 1 0 g.length) (H.set q ((g++tl).map fun n=>AV.p (.int .i64 n)))):CallT P f [.sl q 1 0 zs.length] H K:=by
 refine ⟨hb,?_⟩
 intro B0 w0 F Z φ w xs hd hs ha
 obtain ⟨hsz,hrel⟩:=ha
 obtain ⟨x,rfl⟩:∃x,xs=#[x]:=by
  have h1:xs.size=1:=hsz
  exact ⟨xs[0],by
   apply Array.ext
   ·simp [h1]
   ·intro i hi1 hi2
    have:i=0:=by simp at hi2;omega
    subst this;simp⟩
 have hx:=hrel 0 (.sl q 1 0 zs.length) x rfl rfl
 have hq':(H.or F) q=some (zs.map fun n=>AV.p (.int .i64 n)):=Heap.or_left hq
 have hFq:F q=none:=hd q (by rw [hq];simp)
 have empty:zs=[]→∀a c,x=.slice a 0 c→Cv Z φ (.sl q 1 0 0) x→Calls P f #[x] w (fun e w'=>∃x,e=.returned x∧UpV B0 w0 F Z φ K x w'):=by
  rintro rfl a c rfl hcv
  refine (hn rfl a c w).mono ?_
  rintro e w' ⟨rfl,rfl⟩
  have hg0:=List.eq_nil_of_length_eq_zero hg
  rw [List.append_eq_nil_iff] at hg0
  obtain ⟨rfl,rfl⟩:=hg0
  have hset:H.set q []=H:=by
   funext y
   by_cases e:y=q
   ·subst e;rw [Heap.set_same];exact hq.symm
   ·rw [Heap.set_other e]
  refine ⟨_,rfl,_,H,Z,φ,?_,Fro.le_refl _,Pm.le_refl _,hd,hs,hcv⟩
  rw [← hset];exact h
 have hx0:=hx
 generalize hm:zs.length=m at hx
 cases hx with
 | slz _ _ _ a=>exact empty (List.eq_nil_of_length_eq_zero hm) a 0 rfl (.slz _ _ _ _)
 | sl hp hl hC=>
  rename_i c pl
  subst hm
  by_cases h0:zs.length=0
  ·exact empty (List.eq_nil_of_length_eq_zero h0) _ _ (by rw [h0]) (by rw [h0] at hx0;rw [h0];exact hx0)
  have hh:=hs.holdsInts hq' (by omega) hp
  refine (hc pl.b pl.o c w hl hh.1 hh.2).mono ?_
  rintro e w' ⟨rfl,n,rfl⟩
  have s2:=hs.putInts (zs':=g++tl) hq' hg (by omega) hp n #[]
  rw [Go.Sort.grow_empty] at s2
  rw [List.length_append] at hg
  refine ⟨_,rfl,.sl q 1 0 g.length,H.set q ((g++tl).map fun n=>AV.p (.int .i64 n)),Z,φ,h,Fro.le_refl _,Pm.le_refl _,hd.set hFq,?_,.sl hp (by omega) hC⟩
  rw [Heap.or_set];exact s2
theorem CallT.nilArg {P:Program} {f:Nat} (hb:HasBody P f) {v:AV} {r:Value} (hr:∀Z φ,Cv Z φ v r) (hn:∀w,Calls P f #[.slice none 0 0] w fun e w'=>e=.returned r∧w'=w) {H:Heap} {K:AV→Heap→Prop} (h:K v H):CallT P f [.p .nil] H K:=by
 refine ⟨hb,?_⟩
 intro B0 w0 F Z φ w xs hd hs ha
 obtain ⟨hsz,hrel⟩:=ha
 obtain ⟨x,rfl⟩:∃x,xs=#[x]:=by
  have h1:xs.size=1:=hsz
  exact ⟨xs[0],by
   apply Array.ext
   ·simp [h1]
   ·intro i hi1 hi2
    have:i=0:=by simp at hi2;omega
    subst this;simp⟩
 have hx:=hrel 0 (.p .nil) x rfl rfl
 have ex:x=.slice none 0 0:=by
  cases hx with
  | p h=>cases h;rfl
 subst ex
 refine (hn w).mono ?_
 rintro e w' ⟨rfl,rfl⟩
 exact ⟨_,rfl,v,H,Z,φ,h,Fro.le_refl _,Pm.le_refl _,hd,hs,hr _ _⟩
end Go.Sep
/-
 DERIVED: THE SHELF's CONTRACTS AT THIS DUMP,IN PLAIN WORDS (tools/lay-plain.mjs out of 'YtolffbcnbcjeaaaGreatLay.lean',which tools/lay-shelf.mjs wrote): THE SAME DECLARATIONS UNDER THE SAME NAMES: 'import','namespace','open','def','theorem' AND NOTHING ELSE: no command of the shelf's: FOR A HAND-IN. Each laying: the table of numbers ('.._ren') and one theorem,a field a fact of the dump's own or the kernel's comparison;each contract: ONE APPLICATION.
-/
namespace Go.Proofs
open Go.Shelf
def Tryz.laySort_ren:Go.Shelf.Ren:=⟨fun | 53=>84 | 64=>120 | 63=>119 | 78=>148 | 79=>149 | 70=>139 | 71=>140 | 72=>141 | 73=>142 | 74=>143 | 75=>144 | 59=>145 | 76=>146 | 77=>147 | 88=>163 | 89=>164 | 90=>165 | 91=>166 | 92=>167 | 68=>135 | 96=>171 | n=>n,fun | 22=>22 | 23=>3 | 3=>3 | 51=>111 | 0=>0 | 67=>155 | 69=>157 | 4=>4 | 61=>148 | 60=>147 | 44=>152 | 5=>5 | 9=>9 | 75=>168 | 79=>172 | 83=>176 | 84=>177 | n=>n,fun | n=>n⟩
theorem Tryz.laySort:Go.Proofs.SlLaysN.n53 Tryz.prog Tryz.laySort_ren:={
 mixed:=by kernel_rfl
 f53:=⟨Tryz.f84.name,by decide,Tryz.func84.trans (congrArg some (by kernel_rfl))⟩
 f59:=⟨Tryz.f145.name,by decide,Tryz.func145.trans (congrArg some (by kernel_rfl))⟩
 f63:=⟨Tryz.f119.name,by decide,Tryz.func119.trans (congrArg some (by kernel_rfl))⟩
 f64:=Tryz.func120.trans (congrArg some (by kernel_rfl))
 f68:=⟨Tryz.f135.name,by decide,Tryz.func135.trans (congrArg some (by kernel_rfl))⟩
 f70:=⟨Tryz.f139.name,by decide,Tryz.func139.trans (congrArg some (by kernel_rfl))⟩
 f71:=⟨Tryz.f140.name,by decide,Tryz.func140.trans (congrArg some (by kernel_rfl))⟩
 f72:=⟨Tryz.f141.name,by decide,Tryz.func141.trans (congrArg some (by kernel_rfl))⟩
 f73:=⟨Tryz.f142.name,by decide,Tryz.func142.trans (congrArg some (by kernel_rfl))⟩
 f74:=⟨Tryz.f143.name,by decide,Tryz.func143.trans (congrArg some (by kernel_rfl))⟩
 f75:=⟨Tryz.f144.name,by decide,Tryz.func144.trans (congrArg some (by kernel_rfl))⟩
 f76:=⟨Tryz.f146.name,by decide,Tryz.func146.trans (congrArg some (by kernel_rfl))⟩
 f77:=⟨Tryz.f147.name,by decide,Tryz.func147.trans (congrArg some (by kernel_rfl))⟩
 f78:=Tryz.func148.trans (congrArg some (by kernel_rfl))
 f79:=Tryz.func149.trans (congrArg some (by kernel_rfl))
 f88:=⟨Tryz.f163.name,by decide,Tryz.func163.trans (congrArg some (by kernel_rfl))⟩
 f89:=Tryz.func164.trans (congrArg some (by kernel_rfl))
 f90:=Tryz.func165.trans (congrArg some (by kernel_rfl))
 f91:=⟨Tryz.f166.name,by decide,Tryz.func166.trans (congrArg some (by kernel_rfl))⟩
 f92:=⟨Tryz.f167.name,by decide,Tryz.func167.trans (congrArg some (by kernel_rfl))⟩
 f96:=⟨Tryz.f171.name,by decide,Tryz.func171.trans (congrArg some (by kernel_rfl))⟩
 t0:=Tryz.underlying0
 a0:=Tryz.isAgg0
 z0:=Tryz.sizeOf0
 v0:=Tryz.zeroValue0
 t3:=Tryz.underlying3
 a3:=Tryz.isAgg3
 z3:=Tryz.sizeOf3
 v3:=Tryz.zeroValue3
 t4:=Tryz.underlying4
 a4:=Tryz.isAgg4
 z4:=Tryz.sizeOf4
 v4:=Tryz.zeroValue4
 t5:=Tryz.underlying5
 a5:=Tryz.isAgg5
 z5:=Tryz.sizeOf5
 v5:=Tryz.zeroValue5
 t9:=Tryz.underlying9
 a9:=Tryz.isAgg9
 z9:=Tryz.sizeOf9
 v9:=Tryz.zeroValue9
 t22:=Tryz.underlying22
 a22:=Tryz.isAgg22
 z22:=Tryz.sizeOf22
 v22:=Tryz.zeroValue22
 t23:=Tryz.underlying3
 a23:=Tryz.isAgg3
 z23:=Tryz.sizeOf3
 v23:=Tryz.zeroValue3
 t44:=Tryz.underlying152
 a44:=Tryz.isAgg152
 z44:=Tryz.sizeOf152
 v44:=Tryz.zeroValue152
 t51:=Tryz.underlying111
 a51:=Tryz.isAgg111
 z51:=Tryz.sizeOf111
 v51:=Tryz.zeroValue111
 t60:=Tryz.underlying147
 a60:=Tryz.isAgg147
 z60:=Tryz.sizeOf147
 v60:=Tryz.zeroValue147
 t61:=Tryz.underlying148
 a61:=Tryz.isAgg148
 z61:=Tryz.sizeOf148
 v61:=Tryz.zeroValue148
 t67:=Tryz.underlying155
 a67:=Tryz.isAgg155
 z67:=Tryz.sizeOf155
 v67:=Tryz.zeroValue155
 t69:=Tryz.underlying157
 a69:=Tryz.isAgg157
 z69:=Tryz.sizeOf157
 v69:=Tryz.zeroValue157
 t75:=Tryz.underlying168
 a75:=Tryz.isAgg168
 z75:=Tryz.sizeOf168
 v75:=Tryz.zeroValue168
 t79:=Tryz.underlying172
 a79:=Tryz.isAgg172
 z79:=Tryz.sizeOf172
 v79:=Tryz.zeroValue172
 t83:=Tryz.underlying176
 a83:=Tryz.isAgg176
 z83:=Tryz.sizeOf176
 v83:=Tryz.zeroValue176
 t84:=Tryz.underlying177
 a84:=Tryz.isAgg177
 z84:=Tryz.sizeOf177
 v84:=Tryz.zeroValue177 }
def Tryz.layCompact_ren:Go.Shelf.Ren:=⟨fun | 43=>85 | n=>n,fun | 22=>22 | 23=>3 | 3=>3 | 4=>4 | 0=>0 | n=>n,fun | n=>n⟩
theorem Tryz.layCompact:Go.Proofs.SlLaysN.n43 Tryz.prog Tryz.layCompact_ren:={
 mixed:=by kernel_rfl
 f43:=⟨Tryz.f85.name,by decide,Tryz.func85.trans (congrArg some (by kernel_rfl))⟩
 t0:=Tryz.underlying0
 a0:=Tryz.isAgg0
 z0:=Tryz.sizeOf0
 v0:=Tryz.zeroValue0
 t3:=Tryz.underlying3
 a3:=Tryz.isAgg3
 z3:=Tryz.sizeOf3
 v3:=Tryz.zeroValue3
 t4:=Tryz.underlying4
 a4:=Tryz.isAgg4
 z4:=Tryz.sizeOf4
 v4:=Tryz.zeroValue4
 t22:=Tryz.underlying22
 a22:=Tryz.isAgg22
 z22:=Tryz.sizeOf22
 v22:=Tryz.zeroValue22
 t23:=Tryz.underlying3
 a23:=Tryz.isAgg3
 z23:=Tryz.sizeOf3
 v23:=Tryz.zeroValue3
 i23:=by kernel_rfl }
end Go.Proofs
namespace Go.Pt
def sc (zs:List Int):List Int:=Lib.compact (zs.mergeSort fun x y=>decide (x≤y))
theorem srt_perm (zs:List Int):List.Perm (zs.mergeSort fun x y=>decide (x≤y)) zs:=List.mergeSort_perm zs _
theorem srt_sorted (zs:List Int):(zs.mergeSort fun x y=>decide (x≤y)).Pairwise (·≤·):=by
 have:=List.pairwise_mergeSort (le:=fun x y:Int=>decide (x≤y)) (fun a b c h1 h2=>by simp only [decide_eq_true_eq] at *;omega) (fun a b=>by simp only [Bool.or_eq_true,decide_eq_true_eq];omega) zs
 exact this.imp fun h=>by simpa using h
theorem keeps_iff (ys:List Int) (j:Nat) (hj:j < ys.length):Lib.keeps ys.toArray j=true↔j=0∨ys[j - 1]'(by omega)≠ys[j]:=by
 unfold Lib.keeps
 by_cases h0:j=0
 ·simp [h0]
 ·have h1:j - 1 < ys.length:=by omega
  simp [h0,hj,h1]
  omega
theorem compact_mem {ys:List Int} (hs:ys.Pairwise (·≤·)) (x:Int):x∈Lib.compact ys↔x∈ys:=by
 unfold Lib.compact Lib.compactUpTo
 simp only [List.mem_map,List.mem_filter,List.mem_range]
 constructor
 ·rintro ⟨j,⟨hj,_⟩,rfl⟩
  simp [hj]
 ·intro hx
  obtain ⟨j,hj,rfl⟩:=List.mem_iff_getElem.1 hx
  have key:∀n j (hj:j < ys.length),j≤n→∃i,∃hi:i < ys.length,Lib.keeps ys.toArray i=true∧ys[i]=ys[j]:=by
   intro n
   induction n with
   | zero=>intro j hj h;exact ⟨j,hj,(keeps_iff ys j hj).2 (.inl (by omega)),rfl⟩
   | succ n ih=>
    intro j hj h
    by_cases hk:Lib.keeps ys.toArray j=true
    ·exact ⟨j,hj,hk,rfl⟩
    ·rw [keeps_iff ys j hj] at hk
     have h1:j≠0:=fun e=>hk (.inl e)
     have h2:ys[j - 1]'(by omega)=ys[j]:=by
      by_cases e:ys[j - 1]'(by omega)=ys[j]
      ·exact e
      ·exact absurd (.inr e) hk
     obtain ⟨i,hi,hki,e⟩:=ih (j - 1) (by omega) (by omega)
     exact ⟨i,hi,hki,by rw [e,h2]⟩
  obtain ⟨i,hi,hk,e⟩:=key j j hj (Nat.le_refl _)
  exact ⟨i,⟨hi,hk⟩,by simp [hi,e]⟩
theorem compact_lt {ys:List Int} (hs:ys.Pairwise (·≤·)):(Lib.compact ys).Pairwise (· < ·):=by
 unfold Lib.compact Lib.compactUpTo
 rw [List.pairwise_map]
 have hr:((List.range ys.length).filter (Lib.keeps ys.toArray)).Pairwise (· < ·):=List.Pairwise.filter _ List.pairwise_lt_range
 refine List.Pairwise.imp_of_mem ?_ hr
 intro i j hi hj hij
 rw [List.mem_filter,List.mem_range] at hi hj
 have hle:=List.pairwise_iff_getElem.1 hs
 have h1:=(keeps_iff ys j hj.1).1 hj.2
 have e1:ys.toArray[i]! = ys[i]'hi.1:=by simp [hi.1]
 have e2:ys.toArray[j]! = ys[j]'hj.1:=by simp [hj.1]
 rw [e1,e2]
 rcases h1 with h1 | h1
 ·omega
 ·have h2:=hle (j - 1) j (by omega) hj.1 (by omega)
  by_cases e:i=j - 1
  ·subst e
   omega
  ·have h3:=hle i (j - 1) hi.1 (by omega) (by omega)
   omega
theorem sc_mem (zs:List Int) (x:Int):x∈sc zs↔x∈zs:=by
 unfold sc
 rw [compact_mem (srt_sorted zs)]
 exact (srt_perm zs).mem_iff
theorem sc_lt (zs:List Int):(sc zs).Pairwise (· < ·):=compact_lt (srt_sorted zs)
theorem rise_ext:∀{xs ys:List Int},xs.Pairwise (· < ·)→ys.Pairwise (· < ·)→(∀x,x∈xs↔x∈ys)→xs=ys
 | [],[],_,_,_=>rfl
 | [],b::ys,_,_,h=>absurd ((h b).2 (by simp)) (by simp)
 | a::xs,[],_,_,h=>absurd ((h a).1 (by simp)) (by simp)
 | a::xs,b::ys,h1,h2,h=>by
  rw [List.pairwise_cons] at h1 h2
  have e:a=b:=by
   rcases List.mem_cons.1 ((h a).1 (by simp)) with e | e
   ·exact e
   ·have k1:=h2.1 a e
    rcases List.mem_cons.1 ((h b).2 (by simp)) with e' | e'
    ·omega
    ·have k2:=h1.1 b e';omega
  subst e
  refine congrArg _ (rise_ext h1.2 h2.2 fun x=>?_)
  constructor
  ·intro hx
   rcases List.mem_cons.1 ((h x).1 (by simp [hx])) with e | e
   ·have:=h1.1 x hx;omega
   ·exact e
  ·intro hx
   rcases List.mem_cons.1 ((h x).2 (by simp [hx])) with e | e
   ·have:=h2.1 x hx;omega
   ·exact e
theorem compact_len (ys:List Int):(Lib.compact ys).length≤ys.length:=by
 unfold Lib.compact Lib.compactUpTo
 rw [List.length_map]
 exact Nat.le_trans (List.length_filter_le _ _) (by simp)
theorem sc_len (zs:List Int):(sc zs).length≤zs.length:=by
 unfold sc
 exact Nat.le_trans (compact_len _) (by rw [List.length_mergeSort];exact Nat.le_refl _)
def put (l:List Int) (n:Int):List Int:=if n∈l then l else l.takeWhile (· < n)++n::l.dropWhile (· < n)
theorem put_mem (l:List Int) (n x:Int):x∈put l n↔x=n∨x∈l:=by
 unfold put
 split
 ·rename_i h
  exact ⟨.inr,fun h'=>by rcases h' with rfl | h';exact h;exact h'⟩
 ·rw [List.mem_append,List.mem_cons]
  have:x∈l↔x∈l.takeWhile (· < n)∨x∈l.dropWhile (· < n):=by
   rw [← List.mem_append,List.takeWhile_append_dropWhile]
  rw [this]
  constructor
  ·rintro (h | h | h)
   ·exact .inr (.inl h)
   ·exact .inl h
   ·exact .inr (.inr h)
  ·rintro (h | h | h)
   ·exact .inr (.inl h)
   ·exact .inl h
   ·exact .inr (.inr h)
theorem drop_ge {l:List Int} {n:Int} (hs:l.Pairwise (· < ·)):∀x∈l.dropWhile (· < n),n≤x:=by
 induction l with
 | nil=>intro x hx;simp at hx
 | cons a l ih=>
  rw [List.pairwise_cons] at hs
  intro x hx
  rw [List.dropWhile_cons] at hx
  split at hx
  ·exact ih hs.2 x hx
  ·rename_i h
   simp only [decide_eq_true_eq] at h
   rcases List.mem_cons.1 hx with rfl | hx
   ·omega
   ·have:=hs.1 x hx;omega
theorem take_lt {l:List Int} {n:Int}:∀x∈l.takeWhile (· < n),x < n:=by
 induction l with
 | nil=>intro x hx;simp at hx
 | cons a l ih=>
  intro x hx
  rw [List.takeWhile_cons] at hx
  split at hx
  ·rename_i h
   rcases List.mem_cons.1 hx with rfl | hx
   ·simpa using h
   ·exact ih x hx
  ·simp at hx
theorem put_lt {l:List Int} (n:Int) (hs:l.Pairwise (· < ·)):(put l n).Pairwise (· < ·):=by
 unfold put
 split
 ·exact hs
 ·rename_i hn
  rw [List.pairwise_append,List.pairwise_cons]
  have h2:=drop_ge (n:=n) hs
  have h3:∀x∈l.dropWhile (· < n),n < x:=fun x hx=>by
   have:=h2 x hx
   have hm:x∈l:=(List.dropWhile_suffix _).subset hx
   have:x≠n:=fun e=>hn (e ▸ hm)
   omega
  refine ⟨List.Pairwise.sublist (List.takeWhile_prefix _).sublist hs,⟨h3,List.Pairwise.sublist (List.dropWhile_suffix _).sublist hs⟩,fun a ha b hb=>?_⟩
  have h4:=take_lt a ha
  rcases List.mem_cons.1 hb with rfl | hb
  ·exact h4
  ·have:=h3 b hb;omega
theorem put_len (l:List Int) (n:Int):(put l n).length≤l.length+1:=by
 unfold put
 split
 ·omega
 ·have:(l.takeWhile (· < n)).length+(l.dropWhile (· < n)).length=l.length:=by rw [← List.length_append,List.takeWhile_append_dropWhile]
  rw [List.length_append,List.length_cons];omega
theorem foldl_put (xs:List Int):∀(l:List Int),l.Pairwise (· < ·)→(xs.foldl put l).Pairwise (· < ·)∧∀x,x∈xs.foldl put l↔x∈l∨x∈xs:=by
 induction xs with
 | nil=>intro l hl;exact ⟨hl,fun x=>by simp⟩
 | cons a xs ih=>
  intro l hl
  obtain ⟨h1,h2⟩:=ih (put l a) (put_lt a hl)
  refine ⟨h1,fun x=>?_⟩
  rw [List.foldl_cons,h2,put_mem,List.mem_cons]
  constructor
  ·rintro ((h | h) | h)
   ·exact .inr (.inl h)
   ·exact .inl h
   ·exact .inr (.inr h)
  ·rintro (h | h | h)
   ·exact .inl (.inr h)
   ·exact .inl (.inl h)
   ·exact .inr h
theorem puts_sc (xs:List Int):xs.foldl put []=sc xs:=by
 have:=foldl_put xs [] List.Pairwise.nil
 exact rise_ext this.1 (sc_lt xs) fun x=>by rw [this.2,sc_mem];simp
end Go.Pt
