/- Texts laid together: Lf1 Ql1 Ql2 Mk0 Mk1 Mk2 Tv1 Tv2 Tv3 Tv4 LayF Ss3 Ss4 Tp2 Tw1 Tw2 Tw3 Tw4 Tp3 Dr3 Ph0 Ph1 Ph4 Ph5. -/
import Derived.Test.YtohkciilfkhomaaPE10
import Derived.Shelf.SlGeneric
import Derived.Shelf.SlLaysF0
import Derived.Test.YtohkciilfkhomaaProg
import Derived.Shelf.SlSortCmp.NoneTotal
set_option linter.unusedVariables false
set_option linter.unusedSimpArgs false
open Nat renaming reduceAdd→ν1,reduceLeDiff→ν2,reduceLT→ν3,reduceMul→ν4,reduceSub→ν5
open Int renaming reduceToNat→ι1,reduceSub→ι2,reduceAdd→ι3,reduceNeg→ι4
open Array renaming toList→ι5
open Ne renaming symm→ν6
open List renaming forall_mem_cons→ν7
namespace Go.Proofs.Ytohkciilfkhomaa
open Go Go.Sep
attribute [local irreducible] CallT
theorem IndexFunc_at (xs:List Int) (g:Nat) (caps:List AV) (p:Int→Bool) {H:Heap} (hl:xs.length≤1000000000) (hp:∀x∈xs,PuAt Try.prog g (I x::caps) H (B (p x))) :
    PuAt Try.prog 87 [Is xs,.fn g caps] H (I (if xs.any p then (xs.findIdx p:Int) else -1)):=by
  intro K hK
  refine CallT.fin ?_
  refine W87_ok ?_;simp (maxSteps:=1000000) (disch:=first | assumption | (apply ν6;assumption)) only [W87,vz,vu,vv,eqS,eF_,↓c1_,↓c2_,tabs,reduceCtorEq,ι5,↓reduceIte,ν1,ν2,ν3,ν4,ν5,ι1,ι2,ι3,ι4]
  refine L87_0_rule (0:Nat) (fun i=>I i) (fun _=>H) (fun i=>i≤xs.length∧∀j (hj:j < xs.length),j < i→p xs[j]=false) (fun i=>xs.length - i) ⟨⟨by omega,by intros;omega⟩,.refl _,Heap.le_refl _⟩ ?_
  rintro i ⟨hi1,ha⟩
  (try simp (maxSteps:=1000000) (disch:=first | assumption | (apply ν6;assumption)) only [vz,vu,vv,eqS,eF_,↓c1_,↓c2_,tabs,reduceCtorEq,ι5,↓reduceIte,ν1,ν2,ν3,ν4,ν5,ι1,ι2,ι3,ι4,B87_0])
  refine ⟨fun h=>⟨by omega,h,?_⟩,fun h=>?_⟩
  · have hlt:i < xs.length:=by omega
    rw [getD_lt hlt]
    refine PuAt.use (hp _ (List.getElem_mem hlt)) ?_
    (try simp (maxSteps:=1000000) (disch:=first | assumption | (apply ν6;assumption)) only [vz,vu,vv,eqS,eF_,↓c1_,↓c2_,tabs,reduceCtorEq,ι5,↓reduceIte,ν1,ν2,ν3,ν4,ν5,ι1,ι2,ι3,ι4])
    refine ⟨fun h1=>?_,fun h1=>⟨i+1,⟨by omega,fun j hj hji=>?_⟩,by omega,?_⟩⟩
    · have h2:xs.any p=true:=List.any_eq_true.2 ⟨xs[i],List.getElem_mem hlt,h1⟩
      have h3:xs.findIdx p=i:=by
        rw [List.findIdx_eq hlt];exact ⟨h1,fun j hj=>ha j (by omega) hj⟩
      rw [h2,h3] at hK;exact wkK.keep (by simpa using hK)
    · rcases Nat.lt_succ_iff_lt_or_eq.1 hji with h2 | rfl
      · exact ha j hj h2
      · exact h1
    · rw [wk_int,i64_id (by omega) (by omega)];simp
  · have hi:i=xs.length:=by omega
    have h2:xs.any p=false:=by
      rw [List.any_eq_false]
      intro x hx
      obtain ⟨j,hj,rfl⟩:=List.mem_iff_getElem.1 hx
      rw [ha j hj (by omega)];simp
    rw [h2] at hK;exact wkK.keep (by simpa using hK)
theorem ContainsFunc_at (xs:List Int) (g:Nat) (caps:List AV) (p:Int→Bool) {H:Heap} (hl:xs.length≤1000000000) (hp:∀x∈xs,PuAt Try.prog g (I x::caps) H (B (p x))) :
    PuAt Try.prog 76 [Is xs,.fn g caps] H (B (xs.any p)):=by
  intro K hK
  refine W76_ok ?_;simp (maxSteps:=1000000) (disch:=first | assumption | (apply ν6;assumption)) only [W76,vz,vu,vv,eqS,eF_,↓c1_,↓c2_,tabs,reduceCtorEq,ι5,↓reduceIte,ν1,ν2,ν3,ν4,ν5,ι1,ι2,ι3,ι4]
  refine PuAt.use (IndexFunc_at xs g caps p hl hp) ?_
  (try simp (maxSteps:=1000000) (disch:=first | assumption | (apply ν6;assumption)) only [vz,vu,vv,eqS,eF_,↓c1_,↓c2_,tabs,reduceCtorEq,ι5,↓reduceIte,ν1,ν2,ν3,ν4,ν5,ι1,ι2,ι3,ι4])
  cases h:xs.any p<;>simp [h] at hK ⊢<;>exact hK
end Go.Proofs.Ytohkciilfkhomaa
namespace Go.Proofs.Ytohkciilfkhomaa
open Go Go.Sep Go.Pt
attribute [local irreducible] CallT
theorem l1In_BQ (a lo hi:Int):Pu Try.prog 32 [I a,I lo,I hi] (B (inB a lo hi)):=l1In_spec a lo hi
theorem l1AllQ (xs:List Int) (lo hi:Int) (hl:xs.length≤1000000000):Pu Try.prog 33 [Is xs,I lo,I hi] (B (xs.all fun a=>decide (lo≤a) && decide (a≤hi))):=by
  refine Pu.of fun H=>?_
  refine W33_ok ?_;simp (maxSteps:=1000000) (disch:=first | assumption | (apply ν6;assumption)) only [W33,vz,vu,vv,eqS,eF_,↓c1_,↓c2_,tabs,reduceCtorEq,ι5,↓reduceIte,ν1,ν2,ν3,ν4,ν5,ι1,ι2,ι3,ι4]
  refine L33_0_rule (0:Nat) (fun i=>I i) (fun _=>H) (fun i=>i≤xs.length∧(xs.take i).all (fun a=>decide (lo≤a) && decide (a≤hi))=true) (fun i=>xs.length - i) ⟨⟨by omega,by simp⟩,.refl _,Heap.le_refl _⟩ ?_
  rintro i ⟨hi1,ha⟩
  (try simp (maxSteps:=1000000) (disch:=first | assumption | (apply ν6;assumption)) only [vz,vu,vv,eqS,eF_,↓c1_,↓c2_,tabs,reduceCtorEq,ι5,↓reduceIte,ν1,ν2,ν3,ν4,ν5,ι1,ι2,ι3,ι4,B33_0])
  refine ⟨fun h=>⟨by omega,h,?_⟩,fun h=>?_⟩
  · have hlt:i < xs.length:=by omega
    refine Pu.use (l1In_spec ..) ?_
    (try simp (maxSteps:=1000000) (disch:=first | assumption | (apply ν6;assumption)) only [vz,vu,vv,eqS,eF_,↓c1_,↓c2_,tabs,reduceCtorEq,ι5,↓reduceIte,ν1,ν2,ν3,ν4,ν5,ι1,ι2,ι3,ι4])
    have e:=take_all_succ (p:=fun a=>decide (lo≤a) && decide (a≤hi)) hlt
    rw [getD_lt hlt]
    refine ⟨fun h1=>?_,fun h1=>?_⟩
    · congr 2
      symm
      rw [List.all_eq_false]
      exact ⟨xs[i],by simp,by simpa using h1⟩
    · refine ⟨i+1,⟨by omega,by rw [e,ha];simpa using h1⟩,by omega,?_⟩
      rw [wk_int,i64_id (by omega) (by omega)];simp
  · have:i=xs.length:=by omega
    subst this
    rw [List.take_length] at ha;simp [ha]
def letB (n:Int):Bool:=decide (0≤n) && decide (n≤7)
def goodL (s l:List Int):Bool:=(decide (s.length≤24) && (decide (1≤l.length) && decide (l.length≤24))) && (s.all letB && l.all letB)
theorem areLetters1Q (n:Int) {H:Heap}:PuAt Try.prog 77 [I n] H (B (!letB n)):=by
  intro K hK
  refine W77_ok ?_;simp (maxSteps:=1000000) (disch:=first | assumption | (apply ν6;assumption)) only [W77,vz,vu,vv,eqS,eF_,↓c1_,↓c2_,tabs,reduceCtorEq,ι5,↓reduceIte,ν1,ν2,ν3,ν4,ν5,ι1,ι2,ι3,ι4]
  refine ⟨fun h=>?_,fun h=>?_⟩
  · have e:letB n=false:=by simp [letB];omega
    rw [e] at hK;exact hK
  · by_cases h2:8≤n
    · have e:letB n=false:=by simp [letB];omega
      have e2:decide (8≤n)=true:=by simpa using h2
      rw [e] at hK;simpa [e2] using hK
    · have e:letB n=true:=by simp [letB];omega
      have e2:decide (8≤n)=false:=by simpa using h2
      rw [e] at hK;simpa [e2] using hK
theorem areLettersQ (xs:List Int) (hl:xs.length≤1000000000):Pu Try.prog 59 [Is xs] (B (xs.all letB)):=by
  refine Pu.of fun H=>?_
  refine W59_ok ?_;simp (maxSteps:=1000000) (disch:=first | assumption | (apply ν6;assumption)) only [W59,vz,vu,vv,eqS,eF_,↓c1_,↓c2_,tabs,reduceCtorEq,ι5,↓reduceIte,ν1,ν2,ν3,ν4,ν5,ι1,ι2,ι3,ι4]
  refine PuAt.use (ContainsFunc_at xs _ _ (fun n=>!letB n) hl fun x _=>areLetters1Q x) ?_
  (try simp (maxSteps:=1000000) (disch:=first | assumption | (apply ν6;assumption)) only [vz,vu,vv,eqS,eF_,↓c1_,↓c2_,tabs,reduceCtorEq,ι5,↓reduceIte,ν1,ν2,ν3,ν4,ν5,ι1,ι2,ι3,ι4])
  rw [List.all_eq_not_any_not]
theorem GoodLassoI (s l:List Int) (h1:s.length≤1000000000) (h2:l.length≤1000000000):Pu Try.prog 34 [.agg [Is s,Is l]] (B (goodL s l)):=by
  refine Pu.of fun H=>?_
  refine W34_ok ?_;simp (maxSteps:=1000000) (disch:=first | assumption | (apply ν6;assumption)) only [W34,vz,vu,vv,eqS,eF_,↓c1_,↓c2_,tabs,reduceCtorEq,ι5,↓reduceIte,ν1,ν2,ν3,ν4,ν5,ι1,ι2,ι3,ι4]
  intro r hr
  have hle:∀z,Heap.le H (H.set r z):=fun z=>Heap.le_set hr
  (try simp (maxSteps:=1000000) (disch:=first | assumption | (apply ν6;assumption)) only [vz,vu,vv,eqS,eF_,↓c1_,↓c2_,tabs,reduceCtorEq,ι5,↓reduceIte,ν1,ν2,ν3,ν4,ν5,ι1,ι2,ι3,ι4])
  have fls:(¬(s.length≤24∧1≤l.length∧l.length≤24))→goodL s l=false:=fun h=>by
    rw [Bool.eq_false_iff];intro hh
    simp only [goodL,Bool.and_eq_true,decide_eq_true_eq] at hh
    exact h ⟨hh.1.1,hh.1.2.1,hh.1.2.2⟩
  refine ⟨fun a1=>⟨fun a2=>⟨fun a3=>?_,fun a3=>⟨by rw [fls (by omega)],hle _⟩⟩,fun a2=>⟨by rw [fls (by omega)],hle _⟩⟩,fun a1=>⟨by rw [fls (by omega)],hle _⟩⟩
  have e:goodL s l=(s.all letB && l.all letB):=by
    have b1:s.length≤24:=by omega
    have b2:1≤l.length:=by omega
    have b3:l.length≤24:=by omega
    simp only [goodL,b1,b2,b3,decide_true,Bool.true_and]
  rw [e]
  refine Pu.use (areLettersQ s h1) ?_
  cases s.all letB
  · (try simp (maxSteps:=1000000) (disch:=first | assumption | (apply ν6;assumption)) only [vz,vu,vv,eqS,eF_,↓c1_,↓c2_,tabs,reduceCtorEq,ι5,↓reduceIte,ν1,ν2,ν3,ν4,ν5,ι1,ι2,ι3,ι4])
    exact hle _
  · (try simp (maxSteps:=1000000) (disch:=first | assumption | (apply ν6;assumption)) only [vz,vu,vv,eqS,eF_,↓c1_,↓c2_,tabs,reduceCtorEq,ι5,↓reduceIte,ν1,ν2,ν3,ν4,ν5,ι1,ι2,ι3,ι4])
    refine Pu.use (areLettersQ l h2) ?_
    (try simp (maxSteps:=1000000) (disch:=first | assumption | (apply ν6;assumption)) only [vz,vu,vv,eqS,eF_,↓c1_,↓c2_,tabs,reduceCtorEq,ι5,↓reduceIte,ν1,ν2,ν3,ν4,ν5,ι1,ι2,ι3,ι4])
    exact hle _
theorem GoodLassoR (s l:List Int) (h1:s.length≤1000000000) (h2:l.length≤1000000000):Pu Try.prog 11 [.agg [Is s,Is l]] (B (goodL s l)):=by
  refine Pu.of fun H=>?_
  refine W11_ok ?_;simp (maxSteps:=1000000) (disch:=first | assumption | (apply ν6;assumption)) only [W11,vz,vu,vv,eqS,eF_,↓c1_,↓c2_,tabs,reduceCtorEq,ι5,↓reduceIte,ν1,ν2,ν3,ν4,ν5,ι1,ι2,ι3,ι4]
  intro r hr
  have hle:∀z,Heap.le H (H.set r z):=fun z=>Heap.le_set hr
  (try simp (maxSteps:=1000000) (disch:=first | assumption | (apply ν6;assumption)) only [vz,vu,vv,eqS,eF_,↓c1_,↓c2_,tabs,reduceCtorEq,ι5,↓reduceIte,ν1,ν2,ν3,ν4,ν5,ι1,ι2,ι3,ι4])
  refine ⟨fun a1=>?_,fun a1=>?_⟩
  rotate_left
  · refine ⟨?_,hle _⟩
    have:goodL s l=false:=by
      rw [Bool.eq_false_iff];intro hh
      simp only [goodL,Bool.and_eq_true,decide_eq_true_eq] at hh
      have:=hh.1.1;omega
    rw [this]
  refine Pu.use (l1In_BQ l.length 1 24) ?_
  cases hin:inB l.length 1 24
  · (try simp (maxSteps:=1000000) (disch:=first | assumption | (apply ν6;assumption)) only [vz,vu,vv,eqS,eF_,↓c1_,↓c2_,tabs,reduceCtorEq,ι5,↓reduceIte,ν1,ν2,ν3,ν4,ν5,ι1,ι2,ι3,ι4])
    refine ⟨?_,hle _⟩
    have:goodL s l=false:=by
      rw [Bool.eq_false_iff];intro hh
      simp only [goodL,Bool.and_eq_true,decide_eq_true_eq] at hh
      rw [inB_iff.2 (by have:=hh.1.2;omega)] at hin;cases hin
    rw [this]
  rw [inB_iff] at hin
  have e:goodL s l=(s.all letB && l.all letB):=by
    have b1:s.length≤24:=by omega
    have b2:1≤l.length:=by omega
    have b3:l.length≤24:=by omega
    simp only [goodL,b1,b2,b3,decide_true,Bool.true_and]
  rw [e]
  (try simp (maxSteps:=1000000) (disch:=first | assumption | (apply ν6;assumption)) only [vz,vu,vv,eqS,eF_,↓c1_,↓c2_,tabs,reduceCtorEq,ι5,↓reduceIte,ν1,ν2,ν3,ν4,ν5,ι1,ι2,ι3,ι4])
  refine Pu.use (l1AllQ s 0 7 h1) ?_
  have e3:∀xs:List Int,(xs.all fun a=>decide (0≤a) && decide (a≤7))=xs.all letB:=fun xs=>rfl
  rw [e3]
  cases s.all letB
  · (try simp (maxSteps:=1000000) (disch:=first | assumption | (apply ν6;assumption)) only [vz,vu,vv,eqS,eF_,↓c1_,↓c2_,tabs,reduceCtorEq,ι5,↓reduceIte,ν1,ν2,ν3,ν4,ν5,ι1,ι2,ι3,ι4])
    exact hle _
  · (try simp (maxSteps:=1000000) (disch:=first | assumption | (apply ν6;assumption)) only [vz,vu,vv,eqS,eF_,↓c1_,↓c2_,tabs,reduceCtorEq,ι5,↓reduceIte,ν1,ν2,ν3,ν4,ν5,ι1,ι2,ι3,ι4])
    refine Pu.use (l1AllQ l 0 7 h2) ?_
    rw [e3]
    (try simp (maxSteps:=1000000) (disch:=first | assumption | (apply ν6;assumption)) only [vz,vu,vv,eqS,eF_,↓c1_,↓c2_,tabs,reduceCtorEq,ι5,↓reduceIte,ν1,ν2,ν3,ν4,ν5,ι1,ι2,ι3,ι4])
    exact hle _
abbrev aL2 (s l:List Int):AV:=.agg [Is s,Is l]
theorem l9Made_spec (s l:List Int) (h1:s.length≤1000000000) (h2:l.length≤1000000000):Pu Try.prog 58 [aL2 s l] (.tup [aL2 (if goodL s l then s else []) (if goodL s l then l else []),B (goodL s l)]):=by
  refine ⟨fun H=>CallT.fin ?_⟩
  refine W58_ok ?_;simp (maxSteps:=1000000) (disch:=first | assumption | (apply ν6;assumption)) only [W58,vz,vu,vv,eqS,eF_,↓c1_,↓c2_,tabs,reduceCtorEq,ι5,↓reduceIte,ν1,ν2,ν3,ν4,ν5,ι1,ι2,ι3,ι4]
  intro r1 hr1 r2 n21 hr2
  have n12:=Ne.symm n21
  have hle:∀z,Heap.le H ((H.set r1 [Is s,Is l]).set r2 z):=fun z=>Heap.le_setN (Heap.le_set hr1) hr2
  (try simp (maxSteps:=1000000) (disch:=first | assumption | (apply ν6;assumption)) only [vz,vu,vv,eqS,eF_,↓c1_,↓c2_,tabs,reduceCtorEq,ι5,↓reduceIte,ν1,ν2,ν3,ν4,ν5,ι1,ι2,ι3,ι4])
  refine Pu.use (GoodLassoR s l h1 h2) ?_
  cases h:goodL s l
  · (try simp (maxSteps:=1000000) (disch:=first | assumption | (apply ν6;assumption)) only [vz,vu,vv,eqS,eF_,↓c1_,↓c2_,tabs,reduceCtorEq,ι5,↓reduceIte,ν1,ν2,ν3,ν4,ν5,ι1,ι2,ι3,ι4])
    exact ⟨_,_,.trans (.val (v':=.tup [aL2 [] [],B false]) (wk_tup ⟨wk_agg ⟨.nil,.nil,trivial⟩,.refl _,trivial⟩)) (.forget (hle _)),rfl,rfl⟩
  · (try simp (maxSteps:=1000000) (disch:=first | assumption | (apply ν6;assumption)) only [vz,vu,vv,eqS,eF_,↓c1_,↓c2_,tabs,reduceCtorEq,ι5,↓reduceIte,ν1,ν2,ν3,ν4,ν5,ι1,ι2,ι3,ι4])
    exact ⟨_,_,.forget (hle _),rfl,rfl⟩
def RL (s l:List Int) (v:AV) (G:Heap) (D:List Nat):Prop:=(s=[]∧l=[]∧v=.agg [.p .nil,.p .nil]∧D=[])∨∃q1 q2,v=.agg [rowP q1 s,rowP q2 l]∧G q1=some (cP fI s)∧G q2=some (cP fI l)∧D=[q1,q2]∧q1≠q2
end Go.Proofs.Ytohkciilfkhomaa
namespace Go.Proofs.Ytohkciilfkhomaa
open Go Go.Sep Go.Pt
attribute [local irreducible] CallT
theorem RL.local {s l:List Int} {v:AV} {G G':Heap} {D:List Nat} (h:RL s l v G D) (hf:∀y∈D,∀b,G y=some b→G' y=some b):RL s l v G' D:=by
  rcases h with h | ⟨q1,q2,rfl,h1,h2,rfl,hne⟩
  · exact .inl h
  · exact .inr ⟨q1,q2,rfl,hf q1 (by simp) _ h1,hf q2 (by simp) _ h2,rfl,hne⟩
theorem RL.has {s l:List Int} {v:AV} {G:Heap} {D:List Nat} (h:RL s l v G D):∀y∈D,G y≠none:=by
  rcases h with ⟨_,_,_,rfl⟩ | ⟨q1,q2,rfl,h1,h2,rfl,hne⟩
  · intro y hy;cases hy
  · intro y hy
    simp only [List.mem_cons,List.not_mem_nil,or_false] at hy
    rcases hy with rfl | rfl
    · rw [h1];simp
    · rw [h2];simp
def RLt (s l:List Int) (ok:Bool) (r:AV) (G:Heap) (D:List Nat):Prop:=∃v,r=.tup [v,B ok]∧RL s l v G D
theorem RLt.res (s l:List Int) (ok:Bool):ResU (RLt s l ok):=by
  have gdrow:∀{xs:List Int} {c:AV},c∈cP fI xs→GdC c:=fun {xs c} hc=>by
    obtain ⟨x,_,rfl⟩:=List.mem_map.1 hc
    exact .p (.int _ _)
  refine ⟨?_,?_,?_⟩
  · rintro r G G' D ⟨v,rfl,h⟩ hf
    exact ⟨v,rfl,h.local hf⟩
  · rintro r G D ⟨v,rfl,h⟩
    have gb:Gd1 (B ok):=.inr ⟨.p (.bool ok),fun _=>rfl⟩
    have gv:Gd1 v∧∀y∈D,∀bs,G y=some bs→∀c∈bs,GdC c:=by
      rcases h with ⟨_,_,rfl,rfl⟩ | ⟨q1,q2,rfl,h1,h2,rfl,hne⟩
      · exact ⟨.inl ⟨_,rfl,fun c hc=>by
          simp only [List.mem_cons,List.not_mem_nil,or_false] at hc
          rcases hc with rfl | rfl<;>exact .p .nil⟩,fun y hy=>by cases hy⟩
      · refine ⟨.inl ⟨_,rfl,fun c hc=>by
          simp only [List.mem_cons,List.not_mem_nil,or_false] at hc
          rcases hc with rfl | rfl<;>exact .inl ⟨_,_,_,_,rfl⟩⟩,fun y hy bs hb c hc=>?_⟩
        simp only [List.mem_cons,List.not_mem_nil,or_false] at hy
        rcases hy with rfl | rfl
        · rw [h1] at hb;cases hb;exact gdrow hc
        · rw [h2] at hb;cases hb;exact gdrow hc
    refine ⟨.inl ⟨_,rfl,fun u hu=>?_⟩,gv.2⟩
    rcases List.mem_cons.1 hu with rfl | hu
    · exact gv.1
    · rw [List.mem_singleton] at hu;rw [hu];exact gb
  · rintro r G D n G0 h0 ⟨v,rfl,h⟩
    have e:∀xs:List Int,(cP fI xs).map (shC n)=cP fI xs:=fun xs=>by
      simp only [cP,List.map_map];rfl
    have sh:∀{q xs},G q=some (cP fI xs)→(Heap.or G0 (shH n G)) (q+n)=some (cP fI xs):=fun {q xs} hq=>by
      simp only [Heap.or,h0 (q+n) (by omega),shH,Nat.le_add_left,if_true,Nat.add_sub_cancel,hq,Option.map_some,e]
    rcases h with ⟨rfl,rfl,rfl,rfl⟩ | ⟨q1,q2,rfl,h1,h2,rfl,hne⟩
    · exact ⟨_,rfl,.inl ⟨rfl,rfl,rfl,rfl⟩⟩
    · exact ⟨_,rfl,.inr ⟨q1+n,q2+n,rfl,sh h1,sh h2,rfl,by omega⟩⟩
end Go.Proofs.Ytohkciilfkhomaa
namespace Go.Proofs.Ytohkciilfkhomaa
open Go Go.Sep Go.Pt
def prs (us bs:List Int) (m:Int):List Int:=us.flatMap fun i=>bs.map fun j=>i*m+j
theorem prs_succ (us bs:List Int) (m:Int) {i:Nat} (h:i < us.length):prs (us.take (i+1)) bs m=prs (us.take i) bs m++bs.map fun j=>us.getD i default*m+j:=by
  unfold prs
  rw [take_succ_snoc h,List.flatMap_append]
  simp
theorem prs_len (us bs:List Int) (m:Int):(prs us bs m).length=us.length*bs.length:=by
  induction us with
  | nil=>simp [prs]
  | cons a us ih=>rw [prs,List.flatMap_cons,List.length_append,List.length_map];rw [prs] at ih;rw [ih,List.length_cons,Nat.add_mul,Nat.one_mul,Nat.add_comm]
theorem prs_mem {us bs:List Int} {m x:Int}:x∈prs us bs m↔∃i∈us,∃j∈bs,i*m+j=x:=by
  simp only [prs,List.mem_flatMap,List.mem_map]
theorem lex_bd {m n i j:Int} (hi:0≤i∧i < n) (hj:0≤j∧j < m):0≤i*m+j∧i*m+j < n*m:=by
  have h1:0≤i*m:=Int.mul_nonneg hi.1 (by omega)
  have:(i+1)*m≤n*m:=Int.mul_le_mul_of_nonneg_right (by omega) (by omega)
  rw [Int.add_mul,Int.one_mul] at this
  omega
end Go.Proofs.Ytohkciilfkhomaa
namespace Go.Proofs.Ytohkciilfkhomaa
open Go Go.Sep Go.Pt
attribute [local irreducible] CallT
end Go.Proofs.Ytohkciilfkhomaa
namespace Go.Proofs.Ytohkciilfkhomaa
open Go Go.Sep Go.Pt
attribute [local irreducible] CallT
theorem LIn.frz:Lay.Frz LIn eL:=by
  rintro c cs G D v s pre post ⟨x,rfl,h⟩ hD hs hG
  rcases h with ⟨rfl,rfl,rfl⟩ | h
  · refine ⟨G.set s (pre++([.p (.sl [])]++post)),.cell hG (by simp) (fun j a a' e1 e2=>?_),Heap.set_same _ _ _,fun y hy _=>Heap.set_other hy⟩
    rw [List.getElem?_append] at e1 e2
    split at e1
    · rename_i hlt
      rw [if_pos hlt] at e2
      rw [e1] at e2;cases e2;exact .refl _
    · rename_i hge
      rw [if_neg hge] at e2
      cases hj:j - pre.length with
      | zero=>
        rw [hj] at e1 e2
        simp at e1 e2
        subst e1;subst e2
        exact .nil
      | succ k=>
        rw [hj] at e1 e2
        simp at e1 e2
        rw [e1] at e2;cases e2;exact .refl _
  · obtain ⟨G',w,k,f⟩:=LRow.frzIn (e:=eI) (sz:=1) (pre:=pre) (post:=post) (v:=v) (by omega) (fun _=>rfl) (LPl.local eI) (LPl.frz eI) h hD hs (by rw [hG])
    exact ⟨G',w,by rw [k];rfl,f⟩
def outL (n:Nat) (L:List Ed):List (List Int):=(List.range n).map fun s=>(L.filter fun e=>decide (e.src=((s:Nat):Int))).map (·.dst)
theorem outL_len (n:Nat) (L:List Ed):(outL n L).length=n:=by simp [outL]
theorem outL_nil (n:Nat):outL n []=List.replicate n []:=by
  apply List.ext_getElem
  · simp [outL]
  · intro i h1 h2;simp [outL]
theorem outL_get (n:Nat) (L:List Ed) {s:Nat} (h:s < n):(outL n L).getD s default=(L.filter fun e=>decide (e.src=(s:Int))).map (·.dst):=by simp [outL,List.getD,h]
theorem outL_push (n:Nat) (L:List Ed) (e:Ed) {w:Nat} (hw:e.src=(w:Int)) (h:w < n):outL n (L++[e])=(outL n L).set w ((outL n L).getD w default++[e.dst]):=by
  apply List.ext_getElem
  · simp [outL]
  · intro i h1 h2
    have hi:i < n:=by simpa [outL] using h1
    rw [List.getElem_set]
    by_cases e1:w=i
    · subst e1
      rw [if_pos rfl,outL_get n L h]
      simp [outL,hw]
    · rw [if_neg e1]
      have:¬e.src=(i:Int):=by omega
      simp [outL,this]
theorem outL_row (n:Nat) (L:List Ed) (s:Nat) (h:s < n):((outL n L).getD s default).length≤L.length:=by
  rw [outL_get n L h,List.length_map];exact List.length_filter_le ..
end Go.Proofs.Ytohkciilfkhomaa
namespace Go.Proofs.Ytohkciilfkhomaa
open Go Go.Sep Go.Pt
attribute [local irreducible] CallT
theorem below_mem' {n:Nat} {x:Int}:x∈below n↔0≤x∧x < n:=by
  simp only [below,List.mem_map,List.mem_range]
  constructor
  · rintro ⟨a,ha,rfl⟩;omega
  · rintro ⟨h1,h2⟩;exact ⟨x.toNat,by omega,by omega⟩
def letW (s l:List Int) (t:Nat):Int:=(s++l).getD t default
def nxW (s l:List Int) (t:Nat):Nat:=if t+1 < s.length+l.length then t+1 else s.length
theorem letW_1 {s l:List Int} {t:Nat} (h:t < s.length):letW s l t=s.getD t default:=by simp [letW,List.getD,List.getElem?_append_left h]
theorem letW_2 {s l:List Int} {t:Nat} (h:s.length≤t):letW s l t=l.getD (t - s.length) default:=by simp [letW,List.getD,List.getElem?_append_right h]
theorem letterAt_spec (s l:List Int) (h1:s.length≤24) (h2:1≤l.length∧l.length≤24) {t:Nat} (ht:t < s.length+l.length):Pu Try.prog 35 [aL2 s l,I t] (I (letW s l t)):=by
  refine Pu.of fun H=>?_
  have e1:IntKind.i64.wrap ((t:Int) - (s.length:Int))=(t:Int) - s.length:=i64_id (by omega) (by omega)
  refine W35_ok ?_;simp (maxSteps:=1000000) (disch:=first | assumption | (apply ν6;assumption)) only [W35,vz,vu,vv,eqS,eF_,↓c1_,↓c2_,tabs,reduceCtorEq,ι5,↓reduceIte,ν1,ν2,ν3,ν4,ν5,ι1,ι2,ι3,ι4]
  intro r hr
  have hle:=Heap.le_set (b:=[Is s,Is l]) hr
  (try simp (maxSteps:=1000000) (disch:=first | assumption | (apply ν6;assumption)) only [vz,vu,vv,eqS,eF_,↓c1_,↓c2_,tabs,reduceCtorEq,ι5,↓reduceIte,ν1,ν2,ν3,ν4,ν5,ι1,ι2,ι3,ι4,e1])
  refine ⟨fun h=>?_,fun h=>?_⟩
  · rw [letW_1 (by omega)]
    exact ⟨by omega,h,rfl,hle⟩
  · have e2:((t:Int) - (s.length:Int)).tmod (l.length:Int)=(t:Int) - s.length:=Int.tmod_eq_of_lt (by omega) (by omega)
    have e3:((t:Int) - (s.length:Int)).toNat=t - s.length:=by omega
    rw [e2,e3,letW_2 (by omega)]
    exact ⟨by omega,by omega,by omega,rfl,hle⟩
theorem nextPlace_spec (s l:List Int) (h1:s.length≤24) (h2:1≤l.length∧l.length≤24) {t:Nat} (ht:t < s.length+l.length):Pu Try.prog 36 [aL2 s l,I t] (I (nxW s l t:Nat)):=by
  refine Pu.of fun H=>?_
  have e1:IntKind.i64.wrap ((t:Int)+1)=((t+1:Nat):Int):=by rw [i64_id (by omega) (by omega)];simp
  have e2:IntKind.i64.wrap ((s.length:Int)+(l.length:Int))=(s.length:Int)+l.length:=i64_id (by omega) (by omega)
  refine W36_ok ?_;simp (maxSteps:=1000000) (disch:=first | assumption | (apply ν6;assumption)) only [W36,vz,vu,vv,eqS,eF_,↓c1_,↓c2_,tabs,reduceCtorEq,ι5,↓reduceIte,ν1,ν2,ν3,ν4,ν5,ι1,ι2,ι3,ι4]
  intro r hr
  have hle:=Heap.le_set (b:=[Is s,Is l]) hr
  (try simp (maxSteps:=1000000) (disch:=first | assumption | (apply ν6;assumption)) only [vz,vu,vv,eqS,eF_,↓c1_,↓c2_,tabs,reduceCtorEq,ι5,↓reduceIte,ν1,ν2,ν3,ν4,ν5,ι1,ι2,ι3,ι4,e1,e2])
  refine ⟨fun h=>?_,fun h=>?_⟩
  · rw [nxW,if_pos (by omega)];exact ⟨rfl,hle⟩
  · rw [nxW,if_neg (by omega)];exact ⟨rfl,hle⟩
def wpS (m:Int) (s l:List Int) (t:Nat) (e:Ed):Ed:=⟨(t:Int)*m+e.src,e.lt,((nxW s l t:Nat):Int)*m+e.dst⟩
def wpR (m:Int) (s l:List Int) (t:Nat) (es:List Ed):List Ed:=(es.filter fun e=>decide (e.lt=letW s l t)).map (wpS m s l t)
def wpE (a:Au) (s l:List Int) (n:Nat):List Ed:=(List.range n).flatMap fun t=>wpR a.states s l t a.edges
theorem wpR_succ (m:Int) (s l:List Int) (t:Nat) (es:List Ed) {j:Nat} (h:j < es.length):wpR m s l t (es.take (j+1))=if (es.getD j default).lt=letW s l t then wpR m s l t (es.take j)++[wpS m s l t (es.getD j default)] else wpR m s l t (es.take j):=by
  unfold wpR
  rw [take_succ_snoc h,List.filter_append]
  generalize es.getD j default=e
  by_cases hc:e.lt=letW s l t
  · rw [if_pos hc];simp [hc]
  · rw [if_neg hc];simp [hc]
theorem wpE_succ (a:Au) (s l:List Int) (n:Nat):wpE a s l (n+1)=wpE a s l n++wpR a.states s l n a.edges:=by simp [wpE,List.range_succ,List.flatMap_append]
theorem wpR_len (m:Int) (s l:List Int) (t:Nat) (es:List Ed):(wpR m s l t es).length≤es.length:=by
  rw [wpR,List.length_map];exact List.length_filter_le ..
theorem wpE_len (a:Au) (s l:List Int) (n:Nat):(wpE a s l n).length≤n*a.edges.length:=by
  induction n with
  | zero=>simp [wpE]
  | succ n ih=>rw [wpE_succ,List.length_append,Nat.add_mul];have:=wpR_len a.states s l n a.edges;omega
def wpG (a:Au) (T k:Nat):List (List Int):=(a.goals.take k).map fun g=>prs (below T) g a.states
theorem wpG_succ (a:Au) (T:Nat) {k:Nat} (h:k < a.goals.length):wpG a T (k+1)=wpG a T k++[prs (below T) (a.goals.getD k default) a.states]:=by
  unfold wpG;rw [take_succ_snoc h,List.map_append];rfl
theorem wpG_len (a:Au) (T k:Nat):(wpG a T k).length≤k:=by rw [wpG,List.length_map,List.length_take];omega
def wpA (a:Au) (s l:List Int):Au:=⟨((s.length+l.length:Nat):Int)*a.states,a.first,wpE a s l (s.length+l.length),wpG a (s.length+l.length) a.goals.length⟩
theorem goodL_f {s l:List Int} (h:goodL s l=true):s.length≤24∧(1≤l.length∧l.length≤24):=by
  simp only [goodL,Bool.and_eq_true,decide_eq_true_eq] at h
  exact ⟨h.1.1,h.1.2⟩
theorem nxW_lt {s l:List Int} {t:Nat} (h:1≤l.length) (ht:t < s.length+l.length):nxW s l t < s.length+l.length:=by
  unfold nxW;split<;>omega
theorem wpA_pr {a:Au} (ga:goodA a=true) {s l:List Int} (hs:s.length≤24) (hl:1≤l.length∧l.length≤24):PrB (wpA a s l):=by
  have fa:=good_facts ga
  have na:=autoN ga
  have sa:=fa.st
  have hed:=fa.ed
  have hm:=mul_bd (a:=((s.length+l.length:Nat):Int)) (A:=48) (b:=a.states) (B:=96) (by omega) (by omega)
  have hpos:1*a.states≤((s.length+l.length:Nat):Int)*a.states:=Int.mul_le_mul_of_nonneg_right (by omega) (by omega)
  have hst:((wpA a s l).states.toNat:Int)=((s.length+l.length:Nat):Int)*a.states:=by show ((((s.length+l.length:Nat):Int)*a.states).toNat:Int)=_;omega
  have hgo:∀g∈(wpA a s l).goals,∃g0∈a.goals,g=prs (below (s.length+l.length)) g0 a.states:=by
    intro g hg
    obtain ⟨g0,h0,rfl⟩:=List.mem_map.1 (show g∈wpG a (s.length+l.length) a.goals.length from hg)
    exact ⟨g0,List.mem_of_mem_take h0,rfl⟩
  refine ⟨⟨⟨by show 1≤((s.length+l.length:Nat):Int)*a.states;omega,by show ((s.length+l.length:Nat):Int)*a.states≤_;omega⟩,?_,fun e he=>?_⟩,by show ((s.length+l.length:Nat):Int)*a.states≤_;omega,fun x hx=>?_,?_,?_,fun g hg x hx=>?_,fun g hg=>?_⟩
  · show (wpE a s l (s.length+l.length)).length≤_
    have h1:=wpE_len a s l (s.length+l.length)
    have:(s.length+l.length)*a.edges.length≤48*2400:=Nat.mul_le_mul (by omega) hed
    omega
  · simp only [wpA,wpE,wpR,List.mem_flatMap,List.mem_map,List.mem_filter,List.mem_range] at he
    obtain ⟨t,ht,e,⟨h1,h2⟩,rfl⟩:=he
    have i1:=edIn_iff.1 (fa.ei e h1)
    have hn:=nxW_lt hl.1 ht
    have l1:=lex_bd (i:=(t:Int)) (n:=((s.length+l.length:Nat):Int)) (j:=e.src) (m:=a.states) (by omega) (by omega)
    have l2:=lex_bd (i:=((nxW s l t:Nat):Int)) (n:=((s.length+l.length:Nat):Int)) (j:=e.dst) (m:=a.states) (by omega) (by omega)
    exact edIn_iff.2 ⟨⟨l1.1,l1.2⟩,⟨l2.1,l2.2⟩,i1.2.2⟩
  · have:=na.fr x hx
    rw [hst];omega
  · have:=fa.fi.2
    show a.first.length≤_;omega
  · show (wpG a (s.length+l.length) a.goals.length).length≤_
    have:=wpG_len a (s.length+l.length) a.goals.length
    have:=fa.gl
    omega
  · obtain ⟨g0,h0,rfl⟩:=hgo g hg
    obtain ⟨i,hi,j,hj,rfl⟩:=prs_mem.1 hx
    have:=below_mem'.1 hi
    have h3:=na.go g0 h0 j hj
    rw [hst]
    exact lex_bd (by omega) (by omega)
  · obtain ⟨g0,h0,rfl⟩:=hgo g hg
    rw [prs_len,below_len]
    exact Nat.mul_le_mul (show s.length+l.length≤96 by omega) (fa.gi g0 h0).2
end Go.Proofs.Ytohkciilfkhomaa
namespace Go.Proofs.Ytohkciilfkhomaa
open Go Go.Sep Go.Pt
attribute [local irreducible] CallT
end Go.Proofs.Ytohkciilfkhomaa
namespace Go.Proofs.Ytohkciilfkhomaa
open Go Go.Sep Go.Pt
attribute [local irreducible] CallT
noncomputable def twF (p:Au):Bool:=decide (0≤meetF (rwF (gO p)) (gO p).length (nN p.first) (goN p.goals))
theorem below_takeW (n:Nat) {i:Nat} (h:i≤n):(below n).take i=below i:=by
  unfold below
  rw [← List.map_take,List.take_range,Nat.min_eq_left h]
theorem below_getW {n i:Nat} (h:i < n):(below n).getD i default=(i:Int):=by
  unfold below;simp [List.getD,h]
theorem goalsT (a:Au) (s l:List Int):(wpA a s l).goals=wpG a (s.length+l.length) a.goals.length:=rfl
theorem GoodLasso_any (s l:List Int) (hs:s.length≤1000000000) (hl:l.length≤1000000000):Pu Try.prog 11 [aL2 s l] (B (goodL s l)):=GoodLassoR s l hs hl
noncomputable def twR (a:Au) (s l:List Int):Bool×Bool:=if goodA a && goodL s l then (twF (wpA a s l),true) else (false,false)
end Go.Proofs.Ytohkciilfkhomaa
namespace Go.Proofs.Ytohkciilfkhomaa
open Go Go.Sep Go.Pt
attribute [local irreducible] CallT
theorem lit0W {G:Heap} {K:AV→Heap→Prop} (h:∀q,G q=none→K (.sl q 1 0 0) (G.set q [])):buildSliceV tab 26 0 [] G (wkK K):=by
  simp only [buildSliceV,tab_26,tab_24]
  refine ⟨by omega,?_⟩
  simp only [fillV,zerosA,List.replicate_zero,List.flatten_nil]
  exact fun r hr=>wkK.keep (h r hr)
theorem TakesWord_impl (a:Au) (sa:smAu a) (s l:List Int) (h1:s.length≤1048576) (h2:l.length≤1048576):Pu Try.prog 12 [aAu a,aL2 s l] (.tup [B (twR a s l).1,B (twR a s l).2]):=by
  refine Pu.of fun H=>?_
  refine W12_ok ?_;simp (maxSteps:=1000000) (disch:=first | assumption | (apply ν6;assumption)) only [W12,vz,vu,vv,eqS,eF_,↓c1_,↓c2_,tabs,reduceCtorEq,ι5,↓reduceIte,ν1,ν2,ν3,ν4,ν5,ι1,ι2,ι3,ι4,makeSliceV]
  intro r hr r3 n3 hr3
  have st:=((St.nil H).cell hr [I a.states,Is a.first,Es a.edges,Ls a.goals]).cell (r:=r3) (by rw [Heap.set_other n3];exact hr3) [Is s,Is l]
  generalize (H.set r [I a.states,Is a.first,Es a.edges,Ls a.goals]).set r3 [Is s,Is l]=G1 at st ⊢
  clear hr hr3 n3
  (try simp (maxSteps:=1000000) (disch:=first | assumption | (apply ν6;assumption)) only [vz,vu,vv,eqS,eF_,↓c1_,↓c2_,tabs,reduceCtorEq,ι5,↓reduceIte,ν1,ν2,ν3,ν4,ν5,ι1,ι2,ι3,ι4,load_at (st.get 1 rfl)])
  refine Pu.use (GoodAuto_impl a sa) ?_
  cases ga:goodA a
  · (try simp (maxSteps:=1000000) (disch:=first | assumption | (apply ν6;assumption)) only [vz,vu,vv,eqS,eF_,↓c1_,↓c2_,tabs,reduceCtorEq,ι5,↓reduceIte,ν1,ν2,ν3,ν4,ν5,ι1,ι2,ι3,ι4])
    first | exact ⟨by simp [twR,ga],st.le⟩ | (simp [twR,ga];exact st.le)
  (try simp (maxSteps:=1000000) (disch:=first | assumption | (apply ν6;assumption)) only [vz,vu,vv,eqS,eF_,↓c1_,↓c2_,tabs,reduceCtorEq,ι5,↓reduceIte,ν1,ν2,ν3,ν4,ν5,ι1,ι2,ι3,ι4,load_at (st.get 0 rfl)])
  refine Pu.use (GoodLassoI s l (by omega) (by omega)) ?_
  cases gl:goodL s l
  · (try simp (maxSteps:=1000000) (disch:=first | assumption | (apply ν6;assumption)) only [vz,vu,vv,eqS,eF_,↓c1_,↓c2_,tabs,reduceCtorEq,ι5,↓reduceIte,ν1,ν2,ν3,ν4,ν5,ι1,ι2,ι3,ι4])
    first | exact ⟨by simp [twR,ga,gl],st.le⟩ | (simp [twR,ga,gl];exact st.le)
  obtain ⟨hs,hl⟩:=goodL_f gl
  have fa:=good_facts ga
  have sa:=fa.st
  have hed:=fa.ed
  have hgl:=fa.gl
  have hpr:=wpA_pr ga hs hl
  have e0:IntKind.i64.wrap ((s.length:Int)+(l.length:Int))=((s.length+l.length:Nat):Int):=by rw [i64_id (by omega) (by omega)];simp
  have hm:=mul_bd (a:=((s.length+l.length:Nat):Int)) (A:=48) (b:=a.states) (B:=96) (by omega) (by omega)
  have e1:IntKind.i64.wrap (((s.length+l.length:Nat):Int)*a.states)=((s.length+l.length:Nat):Int)*a.states:=i64_id (by omega) (by omega)
  (try simp (maxSteps:=1000000) (disch:=first | assumption | (apply ν6;assumption)) only [vz,vu,vv,eqS,eF_,↓c1_,↓c2_,tabs,reduceCtorEq,ι5,↓reduceIte,ν1,ν2,ν3,ν4,ν5,ι1,ι2,ι3,ι4,load_at (st.get 0 rfl),load_at (st.get 1 rfl),e0,e1])
  refine ⟨by omega,by omega,by omega,by omega,fun q hq=>?_⟩
  replace st:=tab_new (n:=(((s.length+l.length:Nat):Int)*a.states).toNat) st (q:=q) hq
  clear hq
  rw [← outL_nil] at st
  generalize G1.set q (zerosA (((s.length+l.length:Nat):Int)*a.states).toNat [.p .nil])=G3 at st ⊢
  refine lit0W fun q8 hq8=>?_
  replace st:=st.push (rgT 0 (.sl q8 1 0 0) [] [q8]) (New.cell hq8) (.inr ⟨q8,[],[],rfl,Heap.set_same _ _ _,⟨rfl,rfl⟩,rfl⟩)
  generalize G3.set q8 []=G4 at st ⊢
  clear hq8 G3
  have hwE:∀t j,t≤s.length+l.length→(wpE a s l t++wpR a.states s l t (a.edges.take j)).length≤200000:=fun t j ht=>by
    have h1:=wpE_len a s l t
    have h2:=wpR_len a.states s l t (a.edges.take j)
    rw [List.length_take] at h2
    have h3:t*a.edges.length≤48*2400:=Nat.mul_le_mul (by omega) hed
    rw [List.length_append];omega
  have hT0:outL (((s.length+l.length:Nat):Int)*a.states).toNat (wpE a s l (s.length+l.length))=outR (wpA a s l) (wpA a s l).edges.length:=by
    rw [outL,outR]
    show _=(List.range (((s.length+l.length:Nat):Int)*a.states).toNat).map (outN (wpA a s l) (wpA a s l).edges.length)
    congr 1
    funext t
    rw [outN,List.take_length];rfl
  have hN:∀t:Nat,t < s.length+l.length→∀x:Int,0≤x∧x < a.states→0≤(t:Int)*a.states+x∧(t:Int)*a.states+x < ((s.length+l.length:Nat):Int)*a.states:=fun t ht x hx=>lex_bd (by omega) hx
  obtain ⟨N,hNe⟩:∃N,(((s.length+l.length:Nat):Int)*a.states).toNat=N:=⟨_,rfl⟩
  rw [hNe] at st hT0 ⊢
  have hNi:(N:Int)=((s.length+l.length:Nat):Int)*a.states:=by omega
  refine L12_0_rule ((0:Nat),[q],G4) (fun z=>I z.1) (fun z=>z.2.2)
    (fun z=>z.1≤s.length+l.length∧St H [rgT 0 (.sl q8 1 0 0) [] [q8],tabT q (outL N (wpE a s l z.1)) z.2.1,cellT r3 [Is s,Is l],cellT r [I a.states,Is a.first,Es a.edges,Ls a.goals]] z.2.2) (fun z=>s.length+l.length - z.1)
    ⟨⟨by simp,by simpa [wpE] using st⟩,.refl _,Heap.le_refl _⟩ ?_
  clear st G4
  rintro ⟨t,D,G⟩ ⟨ht,st⟩
  dsimp only at ht st
  have e5:IntKind.i64.wrap ((t:Int)+1)=((t+1:Nat):Int):=by rw [i64_id (by omega) (by omega)];simp
  (try simp (maxSteps:=1000000) (disch:=first | assumption | (apply ν6;assumption)) only [vz,vu,vv,eqS,eF_,↓c1_,↓c2_,tabs,reduceCtorEq,ι5,↓reduceIte,ν1,ν2,ν3,ν4,ν5,ι1,ι2,ι3,ι4,B12_0,e5])
  refine ⟨fun h1=>?_,fun h1=>?_⟩
  · have hlt:t < s.length+l.length:=by omega
    have hnx:=nxW_lt (s:=s) hl.1 hlt
    (try simp (maxSteps:=1000000) (disch:=first | assumption | (apply ν6;assumption)) only [vz,vu,vv,eqS,eF_,↓c1_,↓c2_,tabs,reduceCtorEq,ι5,↓reduceIte,ν1,ν2,ν3,ν4,ν5,ι1,ι2,ι3,ι4,load_at (st.get 3 rfl)])
    refine L12_1_rule ((0:Nat),D,G) (fun z=>I z.1) (fun z=>z.2.2)
      (fun z=>z.1≤a.edges.length∧St H [rgT 0 (.sl q8 1 0 0) [] [q8],tabT q (outL N (wpE a s l t++wpR a.states s l t (a.edges.take z.1))) z.2.1,cellT r3 [Is s,Is l],cellT r [I a.states,Is a.first,Es a.edges,Ls a.goals]] z.2.2) (fun z=>a.edges.length - z.1)
      ⟨⟨by simp,by simpa [wpR] using st⟩,.refl _,Heap.le_refl _⟩ ?_
    clear st D G
    rintro ⟨j,D,G⟩ ⟨hj,st⟩
    dsimp only at hj st
    have e6:IntKind.i64.wrap ((j:Int)+1)=((j+1:Nat):Int):=by rw [i64_id (by omega) (by omega)];simp
    (try simp (maxSteps:=1000000) (disch:=first | assumption | (apply ν6;assumption)) only [vz,vu,vv,eqS,eF_,↓c1_,↓c2_,tabs,reduceCtorEq,ι5,↓reduceIte,ν1,ν2,ν3,ν4,ν5,ι1,ι2,ι3,ι4,B12_1,e6])
    refine ⟨fun h2=>⟨by omega,h2,?_⟩,fun h2=>?_⟩
    · have hltj:j < a.edges.length:=by omega
      have hdi:=edIn_iff.1 (fa.ei _ (getD_all (p:=fun x=>x∈a.edges) (d:=default) (fun _ h=>h) hltj))
      have hs2:=wpR_succ a.states s l t a.edges hltj
      have hbj:=hwE t j ht
      generalize a.edges.getD j default=d at hdi hs2 ⊢
      intro r12 hr12
      replace st:=st.cell hr12 [I d.src,I d.lt,I d.dst]
      generalize G.set r12 [I d.src,I d.lt,I d.dst]=G5 at st ⊢
      clear hr12
      (try simp (maxSteps:=1000000) (disch:=first | assumption | (apply ν6;assumption)) only [vz,vu,vv,eqS,eF_,↓c1_,↓c2_,tabs,reduceCtorEq,ι5,↓reduceIte,ν1,ν2,ν3,ν4,ν5,ι1,ι2,ι3,ι4,load_at (st.get 0 rfl),load_at (st.get 3 rfl)])
      refine Pu.use (letterAt_spec s l hs hl hlt) ?_
      (try simp (maxSteps:=1000000) (disch:=first | assumption | (apply ν6;assumption)) only [vz,vu,vv,eqS,eF_,↓c1_,↓c2_,tabs,reduceCtorEq,ι5,↓reduceIte,ν1,ν2,ν3,ν4,ν5,ι1,ι2,ι3,ι4,load_at (st.get 0 rfl),load_at (st.get 3 rfl),load_at (st.get 4 rfl),e6])
      refine ⟨fun h3=>?_,fun h3=>?_⟩
      · rw [if_pos h3] at hs2
        have x1:=hN t hlt d.src (by omega)
        have x2:=hN (nxW s l t) hnx d.dst (by omega)
        have y1:0≤(t:Int)*a.states:=Int.mul_nonneg (by omega) (by omega)
        have y2:0≤((nxW s l t:Nat):Int)*a.states:=Int.mul_nonneg (by omega) (by omega)
        have w1:IntKind.i64.wrap ((t:Int)*a.states)=(t:Int)*a.states:=i64_id (by omega) (by omega)
        have w2:IntKind.i64.wrap ((t:Int)*a.states+d.src)=(t:Int)*a.states+d.src:=i64_id (by omega) (by omega)
        have w3:IntKind.i64.wrap (((nxW s l t:Nat):Int)*a.states)=((nxW s l t:Nat):Int)*a.states:=i64_id (by omega) (by omega)
        obtain ⟨xd,hxd⟩:∃xd,((nxW s l t:Nat):Int)*a.states+d.dst=xd:=⟨_,rfl⟩
        have w4:IntKind.i64.wrap (((nxW s l t:Nat):Int)*a.states+d.dst)=xd:=by rw [← hxd];exact i64_id (by omega) (by omega)
        obtain ⟨w,hw⟩:∃w:Nat,(t:Int)*a.states+d.src=(w:Int):=⟨((t:Int)*a.states+d.src).toNat,by omega⟩
        have hwN:w < N:=by omega
        have hpush:=outL_push N (wpE a s l t++wpR a.states s l t (a.edges.take j)) (wpS a.states s l t d) (w:=w) hw hwN
        rw [List.append_assoc,← hs2] at hpush
        have hrl:=outL_row N (wpE a s l t++wpR a.states s l t (a.edges.take j)) w hwN
        have htl:=outL_len N (wpE a s l t++wpR a.states s l t (a.edges.take j))
        have hdst:(wpS a.states s l t d).dst=((nxW s l t:Nat):Int)*a.states+d.dst:=rfl
        rw [hdst,hxd] at hpush
        rw [hw] at w2
        obtain ⟨pre,c,post,Di,Dr,hpl,hpp,st⟩:=tab_take st 2 rfl (i:=w) (by omega)
        rw [htl] at hpp
        simp only [List.eraseIdx_cons_succ,List.eraseIdx_cons_zero] at st
        generalize outL N (wpE a s l t++wpR a.states s l t (a.edges.take j))=rows at st hpush hrl htl
        generalize hr0:rows.getD w default=row at st hpush hrl
        have hG:=(st.get 1 rfl:(holeT q pre c post _ _ Dr).P G5).1
        have hrd:=tab_rd (c:=c) (post:=post) hpl
        have hb:w*1+1≤pre.length+(post.length+1):=by omega
        have hsp:∀c',List.take (w*1) (pre++(c::post))++[c']++List.drop (w*1+1) (pre++(c::post))=pre++(c'::post):=fun c'=>tab_sp hpl
        (try simp (maxSteps:=1000000) (disch:=first | assumption | (apply ν6;assumption)) only [vz,vu,vv,eqS,eF_,↓c1_,↓c2_,tabs,reduceCtorEq,ι5,↓reduceIte,ν1,ν2,ν3,ν4,ν5,ι1,ι2,ι3,ι4,load_at (st.get 2 rfl),load_at (st.get 4 rfl),load_at (st.get 5 rfl),w1,w2,w3,w4,hw,load_at hG,hrd,Int.toNat_natCast])
        refine ⟨by omega,by omega,?_⟩
        first | refine ⟨hb,?_⟩ | skip
        refine Pu.use (nextPlace_spec s l hs hl hlt) ?_
        (try simp (maxSteps:=1000000) (disch:=first | assumption | (apply ν6;assumption)) only [vz,vu,vv,eqS,eF_,↓c1_,↓c2_,tabs,reduceCtorEq,ι5,↓reduceIte,ν1,ν2,ν3,ν4,ν5,ι1,ι2,ι3,ι4,load_at (st.get 2 rfl),load_at (st.get 4 rfl),load_at (st.get 5 rfl),w1,w2,w3,w4,hw,load_at hG,hrd,Int.toNat_natCast])
        refine ⟨hb,?_⟩
        refine lit1 tab_24 rfl tab_3 ⟨rfl,rfl⟩ ?_
        (try simp (maxSteps:=1000000) (disch:=first | assumption | (apply ν6;assumption)) only [vz,vu,vv,eqS,eF_,↓c1_,↓c2_,tabs,reduceCtorEq,ι5,↓reduceIte,ν1,ν2,ν3,ν4,ν5,ι1,ι2,ι3,ι4,load_at (st.get 2 rfl),load_at (st.get 4 rfl),load_at (st.get 5 rfl),load_at hG,hrd])
        refine ⟨hb,?_⟩
        refine rn_appI (ys:=[xd]) st 0 rfl (by simp only [List.length_cons,List.length_nil];omega) fun q' G' hq' st=>?_
        simp only [List.set_cons_zero] at st
        have hG:=(st.get 1 rfl:(holeT q pre c post _ _ Dr).P G').1
        (try simp (maxSteps:=1000000) (disch:=first | assumption | (apply ν6;assumption)) only [vz,vu,vv,eqS,eF_,↓c1_,↓c2_,tabs,reduceCtorEq,ι5,↓reduceIte,ν1,ν2,ν3,ν4,ν5,ι1,ι2,ι3,ι4,load_at (st.get 2 rfl),load_at (st.get 4 rfl),load_at (st.get 5 rfl),store_at hG])
        refine ⟨by omega,by omega,hb,?_⟩
        obtain ⟨D',st⟩:=tab_put st (by omega)
        rw [← hpush] at st
        rw [hsp]
        simp only [rowP,List.length_append,List.length_singleton] at st
        exact ⟨(j+1,D',_),⟨by simp only;omega,(st.erase 1).perm (List.Perm.swap _ _ _)⟩,by simp only;omega,.refl _,Heap.le_refl _⟩
      · rw [if_neg h3] at hs2
        exact ⟨(j+1,D,_),⟨by simp only;omega,by rw [hs2];exact st.drop⟩,by simp only;omega,.refl _,Heap.le_refl _⟩
    · have:j=a.edges.length:=by omega
      subst this
      rw [List.take_length,← wpE_succ] at st
      (try simp (maxSteps:=1000000) (disch:=first | assumption | (apply ν6;assumption)) only [vz,vu,vv,eqS,eF_,↓c1_,↓c2_,tabs,reduceCtorEq,ι5,↓reduceIte,ν1,ν2,ν3,ν4,ν5,ι1,ι2,ι3,ι4,e5])
      exact ⟨(t+1,D,G),⟨by simp only;omega,st⟩,by simp only;omega,.refl _,Heap.le_refl _⟩
  · have:t=s.length+l.length:=by omega
    subst this
    rw [hT0] at st
    obtain ⟨T,hT⟩:∃T,s.length+l.length=T:=⟨_,rfl⟩
    have hgo:=goalsT a s l
    rw [hT] at hgo ⊢
    have hTb:T≤48:=by omega
    (try simp (maxSteps:=1000000) (disch:=first | assumption | (apply ν6;assumption)) only [vz,vu,vv,eqS,eF_,↓c1_,↓c2_,tabs,reduceCtorEq,ι5,↓reduceIte,ν1,ν2,ν3,ν4,ν5,ι1,ι2,ι3,ι4,load_at (st.get 3 rfl)])
    refine L12_2_rule ((0:Nat),(.sl q8 1 0 0:AV),[q8],G) (fun z=>z.2.1) (fun z=>I z.1) (fun z=>z.2.2.2)
      (fun z=>z.1≤a.goals.length∧St H [rgT 0 z.2.1 (wpG a T z.1) z.2.2.1,tabT q (outR (wpA a s l) (wpA a s l).edges.length) D,cellT r3 [Is s,Is l],cellT r [I a.states,Is a.first,Es a.edges,Ls a.goals]] z.2.2.2) (fun z=>a.goals.length - z.1)
      ⟨⟨by simp,by simpa [wpG] using st⟩,.refl _,.refl _,Heap.le_refl _⟩ ?_
    clear st G e5
    rintro ⟨k,x,Dz,G⟩ ⟨hk,st⟩
    dsimp only at hk st
    have e5:IntKind.i64.wrap ((k:Int)+1)=((k+1:Nat):Int):=by rw [i64_id (by omega) (by omega)];simp
    have hwl:=wpG_len a T k
    (try simp (maxSteps:=1000000) (disch:=first | assumption | (apply ν6;assumption)) only [vz,vu,vv,eqS,eF_,↓c1_,↓c2_,tabs,reduceCtorEq,ι5,↓reduceIte,ν1,ν2,ν3,ν4,ν5,ι1,ι2,ι3,ι4,B12_2,e5])
    refine ⟨fun h2=>⟨by omega,h2,?_⟩,fun h2=>?_⟩
    · have hltk:k < a.goals.length:=by omega
      have hgk:=getD_all (p:=fun x=>smI x∧x.length≤96) (d:=default) fa.gi hltk
      have hsucc:=wpG_succ a T hltk
      generalize a.goals.getD k default=gk at hgk hsucc ⊢
      refine lit0I fun q0 hq0=>?_
      replace st:=st.cell hq0 (cP fI [])
      generalize G.set q0 (cP fI [])=G1 at st ⊢
      clear hq0
      refine L12_3_rule ((0:Nat),q0,G1) (fun z=>rowP z.2.1 (prs (below z.1) gk a.states)) (fun z=>I z.1) (fun z=>z.2.2)
        (fun z=>z.1≤T∧St H [cellT z.2.1 (cP fI (prs (below z.1) gk a.states)),rgT 0 x (wpG a T k) Dz,tabT q (outR (wpA a s l) (wpA a s l).edges.length) D,cellT r3 [Is s,Is l],cellT r [I a.states,Is a.first,Es a.edges,Ls a.goals]] z.2.2) (fun z=>T - z.1)
        ⟨⟨by simp,by simpa [below,prs] using st⟩,by simp [below,prs];exact .refl _,.refl _,Heap.le_refl _⟩ ?_
      clear st
      rintro ⟨i,q1,G⟩ ⟨hi,st⟩
      dsimp only at hi st
      have hpl:=prs_len (below i) gk a.states
      rw [below_len] at hpl
      have hml:i*gk.length≤48*96:=Nat.mul_le_mul (by omega) hgk.2
      (try simp (maxSteps:=1000000) (disch:=first | assumption | (apply ν6;assumption)) only [vz,vu,vv,eqS,eF_,↓c1_,↓c2_,tabs,reduceCtorEq,ι5,↓reduceIte,ν1,ν2,ν3,ν4,ν5,ι1,ι2,ι3,ι4,B12_3])
      refine ⟨fun h3=>?_,fun h3=>?_⟩
      · have hlti:i < T:=by omega
        have hps:prs (below (i+1)) gk a.states=prs (below i) gk a.states++gk.map fun j=>(i:Int)*a.states+j:=by
          have:=prs_succ (below (i+1)) gk a.states (i:=i) (by rw [below_len];omega)
          rw [below_takeW _ (Nat.le_succ i),below_getW (Nat.lt_succ_self i)] at this
          rw [← this,List.take_of_length_le (by rw [below_len];omega)]
        refine L12_4_rule ((0:Nat),q1,G) (fun z=>rowP z.2.1 (prs (below i) gk a.states++(gk.take z.1).map fun j=>(i:Int)*a.states+j)) (fun z=>I z.1) (fun z=>z.2.2)
          (fun z=>z.1≤gk.length∧St H [cellT z.2.1 (cP fI (prs (below i) gk a.states++(gk.take z.1).map fun j=>(i:Int)*a.states+j)),rgT 0 x (wpG a T k) Dz,tabT q (outR (wpA a s l) (wpA a s l).edges.length) D,cellT r3 [Is s,Is l],cellT r [I a.states,Is a.first,Es a.edges,Ls a.goals]] z.2.2) (fun z=>gk.length - z.1)
          ⟨⟨by simp,by simpa using st⟩,by simp;exact .refl _,.refl _,Heap.le_refl _⟩ ?_
        clear st
        rintro ⟨j,q1,G⟩ ⟨hj,st⟩
        dsimp only at hj st
        (try simp (maxSteps:=1000000) (disch:=first | assumption | (apply ν6;assumption)) only [vz,vu,vv,eqS,eF_,↓c1_,↓c2_,tabs,reduceCtorEq,ι5,↓reduceIte,ν1,ν2,ν3,ν4,ν5,ι1,ι2,ι3,ι4,B12_4,load_at (st.get 4 rfl)])
        refine ⟨fun h4=>⟨by omega,h4,?_⟩,fun h4=>?_⟩
        · have hltj:j < gk.length:=by omega
          have hx:=getD_all (p:=fun x=>0≤x∧x≤100000) (d:=default) hgk.1.2 hltj
          have ht:(gk.take (j+1)).map (fun j=>(i:Int)*a.states+j)=(gk.take j).map (fun j=>(i:Int)*a.states+j)++[(i:Int)*a.states+gk.getD j default]:=by
            rw [take_succ_snoc hltj,List.map_append];rfl
          have hlt:((gk.take j).map fun j=>(i:Int)*a.states+j).length≤96:=by rw [List.length_map,List.length_take];omega
          generalize gk.getD j default=e at hx ht ⊢
          have m1:=mul_bd (a:=i) (A:=48) (b:=a.states) (B:=96) (by omega) (by omega)
          have e1:IntKind.i64.wrap ((i:Int)*a.states)=(i:Int)*a.states:=i64_id (by omega) (by omega)
          have e2:IntKind.i64.wrap ((i:Int)*a.states+e)=(i:Int)*a.states+e:=i64_id (by omega) (by omega)
          have e3:IntKind.i64.wrap ((j:Int)+1)=((j+1:Nat):Int):=by rw [i64_id (by omega) (by omega)];simp
          (try simp (maxSteps:=1000000) (disch:=first | assumption | (apply ν6;assumption)) only [vz,vu,vv,eqS,eF_,↓c1_,↓c2_,tabs,reduceCtorEq,ι5,↓reduceIte,ν1,ν2,ν3,ν4,ν5,ι1,ι2,ι3,ι4,e1,e2,e3])
          refine lit1 tab_24 rfl tab_3 ⟨rfl,rfl⟩ ?_
          refine st_appI (ys:=[(i:Int)*a.states+e]) st 0 rfl (by rw [List.length_append];simp only [List.length_singleton];omega) fun q' G' hq' st=>?_
          rw [List.append_assoc,← ht] at st ⊢
          exact ⟨(j+1,q',G'),⟨by simp only;omega,st⟩,by simp only;omega,.refl _,.refl _,Heap.le_refl _⟩
        · have:j=gk.length:=by omega
          subst this
          rw [List.take_length,← hps] at st ⊢
          have e3:IntKind.i64.wrap ((i:Int)+1)=((i+1:Nat):Int):=by rw [i64_id (by omega) (by omega)];simp
          (try simp (maxSteps:=1000000) (disch:=first | assumption | (apply ν6;assumption)) only [vz,vu,vv,eqS,eF_,↓c1_,↓c2_,tabs,reduceCtorEq,ι5,↓reduceIte,ν1,ν2,ν3,ν4,ν5,ι1,ι2,ι3,ι4,e3])
          exact ⟨(i+1,q1,G),⟨by simp only;omega,st⟩,by simp only;omega,.refl _,.refl _,Heap.le_refl _⟩
      · have:i=T:=by omega
        subst this
        (try simp (maxSteps:=1000000) (disch:=first | assumption | (apply ν6;assumption)) only [vz,vu,vv,eqS,eF_,↓c1_,↓c2_,tabs,reduceCtorEq,ι5,↓reduceIte,ν1,ν2,ν3,ν4,ν5,ι1,ι2,ι3,ι4,e5])
        refine lit_live1 fun ql hql=>?_
        replace st:=st.cell hql [rowP q1 (prs (below i) gk a.states)]
        generalize G.set ql [.sl q1 1 0 (prs (below i) gk a.states).length]=G4 at st ⊢
        (try simp (maxSteps:=1000000) (disch:=first | assumption | (apply ν6;assumption)) only [vz,vu,vv,eqS,eF_,↓c1_,↓c2_,tabs,reduceCtorEq,ι5,↓reduceIte,ν1,ν2,ν3,ν4,ν5,ι1,ι2,ι3,ι4])
        refine rz_pushL st 0 rfl (by omega) fun q' D' G5 hq' st=>?_
        rw [← hsucc] at st
        (try simp (maxSteps:=1000000) (disch:=first | assumption | (apply ν6;assumption)) only [vz,vu,vv,eqS,eF_,↓c1_,↓c2_,tabs,reduceCtorEq,ι5,↓reduceIte,ν1,ν2,ν3,ν4,ν5,ι1,ι2,ι3,ι4,e5])
        exact ⟨(k+1,_,D',_),⟨by simp only;omega,st⟩,by simp only;omega,.refl _,.refl _,Heap.le_refl _⟩
    · have:k=a.goals.length:=by omega
      subst this
      rw [← hgo] at st
      have hme:=meeting_O hpr
      have hfst:(wpA a s l).first=a.first:=rfl
      have htl:(outR (wpA a s l) (wpA a s l).edges.length).length=N:=by rw [outR_len];exact hNe
      have htw:twR a s l=(decide (0≤meetF (rwF (gO (wpA a s l))) (gO (wpA a s l)).length (nN (wpA a s l).first) (goN (wpA a s l).goals)),true):=by rw [twR,ga,gl];rfl
      rw [htw]
      generalize meetF (rwF (gO (wpA a s l))) (gO (wpA a s l)).length (nN (wpA a s l).first) (goN (wpA a s l).goals)=mm at hme ⊢
      rw [hfst] at hme
      generalize outR (wpA a s l) (wpA a s l).edges.length=T0 at st hme htl
      generalize (wpA a s l).goals=gs at st hme
      (try simp (maxSteps:=1000000) (disch:=first | assumption | (apply ν6;assumption)) only [vz,vu,vv,eqS,eF_,↓c1_,↓c2_,tabs,reduceCtorEq,ι5,↓reduceIte,ν1,ν2,ν3,ν4,ν5,ι1,ι2,ι3,ι4,load_at (st.get 3 rfl)])
      obtain ⟨Gw,hwk,hfr⟩:∃G',Wk (.tup [.sl q 1 0 T0.length,Is a.first,x]) G (.tup [Ls T0,Is a.first,Ls gs]) G'∧∀y,y∉D→y∉Dz→G' y=G y:=by
        obtain ⟨G1,w1,f1⟩:=LRow.frzV (e:=eL) (sz:=1) (v:=.tup [.sl q 1 0 T0.length,Is a.first,x]) (v':=.tup [Ls T0,Is a.first,x]) (by omega) (fun _=>rfl) LIn.local LIn.frz (st.get 1 rfl) (st.ndT 1 rfl) (fun q _ hr=>.tup (.cons hr (.cons (.same _) (.cons (.same _) .nil))))
        obtain ⟨x',hx,lx⟩:=(st.get 0 rfl:RZ LIc 1 0 x _ G Dz).row
        have lx1:=LRow.local LIc.local lx (G':=G1) fun y hy bb hb=>by rw [f1 y (fun hm=>st.disjI 1 0 rfl rfl (by decide) y hm hy)];exact hb
        obtain ⟨G2,w2,f2⟩:=LRow.frzV (e:=eL) (sz:=1) (v:=.tup [Ls T0,Is a.first,x']) (v':=.tup [Ls T0,Is a.first,Ls gs]) (by omega) (fun _=>rfl) LIc.local LIc.frz lx1 (st.ndT 0 rfl) (fun q _ hr=>.tup (.cons (.same _) (.cons (.same _) (.cons hr .nil))))
        exact ⟨G2,.trans w1 (.trans (.val (v':=.tup [Ls T0,Is a.first,x']) (wk_tup ⟨.refl _,.refl _,hx,trivial⟩)) w2),fun y h1 h2=>by rw [f2 y h2,f1 y h1]⟩
      have hle:Heap.le H Gw:=fun v bb hb=>by
        rw [hfr v (st.wkNone v bb hb _ (List.mem_of_getElem? (i:=1) rfl)) (st.wkNone v bb hb _ (List.mem_of_getElem? (i:=0) rfl))];exact st.le v bb hb
      rw [htl] at hwk
      refine CallT.pre (Pu.use hme ?_) hwk
      (try simp (maxSteps:=1000000) (disch:=first | assumption | (apply ν6;assumption)) only [vz,vu,vv,eqS,eF_,↓c1_,↓c2_,tabs,reduceCtorEq,ι5,↓reduceIte,ν1,ν2,ν3,ν4,ν5,ι1,ι2,ι3,ι4])
      first | exact ⟨rfl,hle⟩ | exact hle
end Go.Proofs.Ytohkciilfkhomaa
/-
  DERIVED: THE SHELF's CONTRACTS AT THIS DUMP,IN PLAIN WORDS (tools/lay-plain.mjs out of 'YtohkciilfkhomaaLayF.lean',which tools/lay-shelf.mjs wrote): THE SAME DECLARATIONS UNDER THE SAME NAMES: 'import','namespace','open','def','theorem' AND NOTHING ELSE: no command of the shelf's: FOR A HAND-IN. Each laying: the table of numbers ('.._ren') and one theorem,a field a fact of the dump's own or the kernel's comparison;each contract: ONE APPLICATION.
-/
namespace Go.Proofs
open Go.Shelf
end Go.Proofs
namespace Go.Sep
open Go Go.RowKit Go.Sort Go.Proofs Go.Pt
theorem CallT.quiet {P:Program} {f:Nat} {args:List AV} {v:AV} (h:CallT P f args (fun _=>none) (fun r _=>r=v)) {xs:Array Value} (ha:∀Z φ,ArgsRel Z φ args xs) {x:Value} (hx:∀Z φ y,Cv Z φ v y→y=x) (w:World) :
    Calls P f xs w fun e w'=>e=.returned x∧∃q os',w'=Go.Sort.grow (w.drewN q) os':=by
  have hor:Heap.or (fun _=>none) (fun _=>none)=(fun _=>none:Heap):=by funext x;rfl
  have sim:Sim (fun _ _=>none) (fun _=>none) w.heap.size w (Heap.or (fun _=>none) (fun _=>none)) w:=by
    rw [hor]
    exact ⟨Nat.le_refl _,Bel.refl _ _,⟨0,fun _ _=>rfl⟩,fun r blk h=>(by simp at h),fun r r' pl pl' h=>absurd rfl h,fun b i v h=>(by cases h),fun b i v _ r pl h=>absurd rfl h⟩
  refine (h.2 w.heap.size w (fun _=>none) (fun _ _=>none) (fun _=>none) w xs (fun r h=>absurd rfl h) sim (ha _ _)).mono ?_
  rintro e w' ⟨y,rfl,v',H1,Z1,φ1,rfl,_,_,_,s1,hc⟩
  refine ⟨by rw [hx _ _ _ hc],w'.drawn - w.drawn,w'.heap.extract w.heap.size w'.heap.size,?_⟩
  obtain ⟨⟨h1,h2,h3,h4,h5⟩,h6⟩:=s1.below
  unfold DrawnLe at h6
  have hh:w'.heap=w.heap++w'.heap.extract w.heap.size w'.heap.size:=by
    apply Array.ext_getElem?
    intro k
    by_cases hk:k < w.heap.size
    · rw [Array.getElem?_append_left hk];exact h5 k hk
    · rw [Array.getElem?_append_right (by omega),Array.getElem?_extract]
      by_cases hk2:k < w'.heap.size
      · rw [if_pos (by omega)];congr 1;omega
      · rw [if_neg (by omega)];exact Array.getElem?_eq_none (by omega)
  cases w';cases w
  simp only [Go.Sort.grow,World.drewN] at *
  subst h1;subst h2;subst h3
  rw [← hh]
  congr 1
  omega
end Go.Sep
namespace Go.Proofs.Ytohkciilfkhomaa
open Go Go.Sep Go.Pt Go.RowKit Go.Sort
attribute [local irreducible] CallT
end Go.Proofs.Ytohkciilfkhomaa
namespace Go.Proofs.Ytohkciilfkhomaa
open Go Go.Sep Go.Pt
attribute [local irreducible] CallT
end Go.Proofs.Ytohkciilfkhomaa
namespace Go.Proofs.Ytohkciilfkhomaa
open Go Go.Sep Go.Pt
attribute [local irreducible] CallT
def ltP (u w:Int) (e:Ed):Bool:=decide (e.src=u) && decide (e.dst=w)
def ltF (a:Au) (u w:Int):Int:=((a.edges.find? (ltP u w)).map Ed.lt).getD 0
theorem find_at {α:Type} {xs:List α} {p:α→Bool} {i:Nat} (hi:i < xs.length) (h1:p xs[i]=true) (h2:∀j (hj:j < xs.length),j < i→p xs[j]=false):xs.find? p=some xs[i]:=by
  rw [List.find?_eq_some_iff_getElem]
  exact ⟨h1,i,hi,rfl,fun j hj=>by rw [h2 j (by omega) hj];rfl⟩
theorem find_no {α:Type} {xs:List α} {p:α→Bool} (h2:∀j (hj:j < xs.length),p xs[j]=false):xs.find? p=none:=by
  rw [List.find?_eq_none]
  intro x hx
  obtain ⟨j,hj,rfl⟩:=List.mem_iff_getElem.1 hx
  rw [h2 j hj];simp
theorem l12Letter_spec (a:Au) (hl:a.edges.length≤1000000) (u w:Int):Pu Try.prog 57 [aAu a,I u,I w] (I (ltF a u w)):=by
  refine Pu.of fun H=>?_
  refine W57_ok ?_;simp (maxSteps:=1000000) (disch:=first | assumption | (apply ν6;assumption)) only [W57,vz,vu,vv,eqS,eF_,↓c1_,↓c2_,tabs,reduceCtorEq,ι5,↓reduceIte,ν1,ν2,ν3,ν4,ν5,ι1,ι2,ι3,ι4]
  intro r hr
  have hle:=Heap.le_set (b:=[I a.states,Is a.first,Es a.edges,Ls a.goals]) hr
  (try simp (maxSteps:=1000000) (disch:=first | assumption | (apply ν6;assumption)) only [vz,vu,vv,eqS,eF_,↓c1_,↓c2_,tabs,reduceCtorEq,ι5,↓reduceIte,ν1,ν2,ν3,ν4,ν5,ι1,ι2,ι3,ι4])
  generalize H.set r [I a.states,Is a.first,Es a.edges,Ls a.goals]=G at hle ⊢
  refine L57_0_rule (0:Nat) (fun i=>I i) (fun _=>G) (fun i=>i≤a.edges.length∧∀j (hj:j < a.edges.length),j < i→ltP u w a.edges[j]=false) (fun i=>a.edges.length - i) ⟨⟨by omega,by intros;omega⟩,.refl _,Heap.le_refl _⟩ ?_
  rintro i ⟨hi,ha⟩
  (try simp (maxSteps:=1000000) (disch:=first | assumption | (apply ν6;assumption)) only [vz,vu,vv,eqS,eF_,↓c1_,↓c2_,tabs,reduceCtorEq,ι5,↓reduceIte,ν1,ν2,ν3,ν4,ν5,ι1,ι2,ι3,ι4,B57_0])
  refine ⟨fun h=>?_,fun h=>?_⟩
  · have hlt:i < a.edges.length:=by omega
    have hm:(a.edges.getD i default)=a.edges[i]:=getD_lt hlt
    rw [hm]
    have nx:ltP u w a.edges[i]=false→∀j (hj:j < a.edges.length),j < i+1→ltP u w a.edges[j]=false:=fun h1 j hj hji=>by
      rcases Nat.lt_succ_iff_lt_or_eq.1 hji with h2 | rfl
      · exact ha j hj h2
      · exact h1
    refine ⟨by omega,by omega,?_⟩
    intro r2 hr2
    have hle2:=Heap.le_trans hle (Heap.le_set (b:=[I a.edges[i].src,I a.edges[i].lt,I a.edges[i].dst]) hr2)
    have hle3:=Heap.le_set (b:=[I a.edges[i].src,I a.edges[i].lt,I a.edges[i].dst]) hr2
    (try simp (maxSteps:=1000000) (disch:=first | assumption | (apply ν6;assumption)) only [vz,vu,vv,eqS,eF_,↓c1_,↓c2_,tabs,reduceCtorEq,ι5,↓reduceIte,ν1,ν2,ν3,ν4,ν5,ι1,ι2,ι3,ι4])
    have hx:IntKind.i64.wrap ((i:Int)+1)=((i+1:Nat):Int):=by rw [i64_id (by omega) (by omega)];simp
    refine ⟨fun h1=>⟨fun h2=>⟨?_,hle2⟩,fun h2=>⟨i+1,⟨by omega,nx (by simp [ltP,h2])⟩,by omega,by rw [hx];exact .refl _,hle3⟩⟩,fun h1=>⟨i+1,⟨by omega,nx (by simp [ltP,h1])⟩,by omega,by rw [hx];exact .refl _,hle3⟩⟩
    rw [ltF,find_at hlt (by simp [ltP,h1,h2]) ha]
    rfl
  · have e:i=a.edges.length:=by omega
    subst e
    refine ⟨?_,hle⟩
    rw [ltF,find_no fun j hj=>ha j hj hj]
    rfl
end Go.Proofs.Ytohkciilfkhomaa
namespace Go.Proofs.Ytohkciilfkhomaa
open Go Go.Sep Go.Pt
attribute [local irreducible] CallT
end Go.Proofs.Ytohkciilfkhomaa
namespace Go.Proofs.Ytohkciilfkhomaa
open Go Go.Sep Go.Pt
attribute [local irreducible] CallT
noncomputable def c1F (row:Nat→List Nat) (m v w:Nat):Bool:=decide (partF (ArcOf row) v=partF (ArcOf row) m) && decide (partF (ArcOf row) w=partF (ArcOf row) m)
noncomputable def in1G (g:List (List Nat)) (m:Nat):List (List Nat):=(List.range g.length).map (in1F (rwF g) m)
noncomputable def w1R (g:List (List Nat)) (m k j:Nat):List (List Nat):=(List.range g.length).map fun v=>if v < k then in1F (rwF g) m v else if v=k then ((rwF g k).take j).filter (c1F (rwF g) m k) else []
end Go.Proofs.Ytohkciilfkhomaa
namespace Go.Proofs.Ytohkciilfkhomaa
open Go Go.Sep Go.Pt
attribute [local irreducible] CallT
end Go.Proofs.Ytohkciilfkhomaa
namespace Go.Proofs.Ytohkciilfkhomaa
open Go Go.Sep Go.Pt
attribute [local irreducible] CallT
theorem buildN_1 (x:Int):buildN tab 24 1 [(0,I x)]=some (fun r=>.sl r 1 0 1,cP fI [x]):=by
  simp only [buildN,tab_24,tab_3]
  rfl
theorem RNr.res (l:List Int):ResU (fun r G D=>RN (LPl eI) 1 r l G D):=by
  refine ⟨?_,?_,?_⟩
  · intro r G G' D h hf
    exact h.local (LPl.local eI) hf
  · intro r G D h
    rcases rnI_cases h with ⟨rfl,_,rfl⟩ | ⟨q,rfl,hq,rfl⟩
    · exact ⟨.inr ⟨.inr ⟨.p .nil,fun _=>rfl⟩,fun _=>rfl⟩,fun y hy=>by cases hy⟩
    · refine ⟨.inr ⟨.inr ⟨.inl ⟨_,_,_,_,rfl⟩,fun _=>rfl⟩,fun _=>rfl⟩,fun y hy bs hb c hc=>?_⟩
      rw [List.mem_singleton.1 hy,hq] at hb;cases hb
      obtain ⟨z,_,rfl⟩:=List.mem_map.1 hc
      exact .p (.int _ _)
  · intro r G D n G0 h0 h
    rcases rnI_cases h with ⟨rfl,hl,rfl⟩ | ⟨q,rfl,hq,rfl⟩
    · exact .inl ⟨rfl,hl,rfl⟩
    · refine rnI_mk ?_
      have em:(cP fI l).map (shC n)=cP fI l:=by rw [cP,List.map_map];rfl
      simp only [Heap.or,h0 (q+n) (by omega),shH,Nat.le_add_left,if_true,Nat.add_sub_cancel,hq,Option.map_some,em]
end Go.Proofs.Ytohkciilfkhomaa
namespace Go.Proofs.Ytohkciilfkhomaa
open Go Go.Sep Go.Pt
attribute [local irreducible] CallT
noncomputable def wS (a:Au):List Nat:=laS (rwF (gA a)) (gA a).length (nN a.first) (goN a.goals)
noncomputable def wL (a:Au):List Nat:=laL (rwF (gA a)) (gA a).length (nN a.first) (goN a.goals)
def wyF (S L:List Nat):List Nat:=S++L++[L.getD 0 0]
def ltsF (a:Au) (wy:List Nat) (n:Nat):List Int:=(List.range n).map fun i=>ltF a (wy.getD i 0) (wy.getD (i+1) 0)
theorem ltsF_len (a:Au) (wy:List Nat) (n:Nat):(ltsF a wy n).length=n:=by simp [ltsF]
theorem ltsF_succ (a:Au) (wy:List Nat) (n:Nat):ltsF a wy (n+1)=ltsF a wy n++[ltF a (wy.getD n 0) (wy.getD (n+1) 0)]:=by simp [ltsF,List.range_succ]
structure WayA (a:Au) (S L:List Nat):Prop where
  ne:0 < L.length
  sz:S.length≤100∧L.length≤2000
  way:∀i,i < S.length+L.length→a.edges.any (ltP (((wyF S L).getD i 0:Nat):Int) (((wyF S L).getD (i+1) 0:Nat):Int))=true
theorem arc_edge {a:Au} (fa:GoodF a) {u w:Nat} (h:w∈rwF (gA a) u):a.edges.any (ltP (u:Int) (w:Int))=true:=by
  have hu:u < (nextG a).length:=by
    rcases Nat.lt_or_ge u (gA a).length with h2 | h2
    · simpa [gA] using h2
    · rw [rwF_out (by omega)] at h;cases h
  have e:rwF (gA a) u=nN (sc (outN a a.edges.length u)):=by
    have hu2:u < a.states.toNat:=by rw [nextG_len] at hu;exact hu
    simp [rwF,gA,nextG,List.getD,hu2]
  rw [e] at h
  obtain ⟨x,hx,rfl⟩:=List.mem_map.1 h
  rw [sc_mem] at hx
  simp only [outN,List.mem_map,List.mem_filter,List.take_length,decide_eq_true_eq] at hx
  obtain ⟨e,⟨he,h1⟩,rfl⟩:=hx
  have:=edIn_iff.1 (fa.ei e he)
  refine List.any_eq_true.2 ⟨e,he,?_⟩
  simp only [ltP,Bool.and_eq_true,decide_eq_true_eq]
  omega
theorem wayA_of {a:Au} (h:AutoN a) (hf:fairA a=true):WayA a (wS a) (wL a):=by
  obtain ⟨h1,h2,h3⟩:=h.gob
  have hst:=h.f.st
  have hl:=gA_len a
  have hg:=gA_B h.f
  have hm:¬meetF (rwF (gA a)) (gA a).length (nN a.first) (goN a.goals) < 0:=by
    simpa [fairA,laB] using hf
  have hfi:∀v∈nN a.first,v < (gA a).length:=by rw [hl];exact nN_lt h.fr
  obtain ⟨m,em,hml,hfair,hreach⟩:=meetF_pos hg.gr hfi hm
  obtain ⟨FL,hsl2,hrl2,_,_⟩:=fair_lasso (b:=96) hg.gr hml hfair (fun l hl=>⟨h1.lt l hl,h2 l hl⟩) hreach
  have eS:wS a=stemF (rwF (gA a)) (gA a).length m (nN a.first):=by rw [wS,laS,if_neg hm,em];rfl
  have eL:wL a=ringF (rwF (gA a)) (gA a).length m (goN a.goals):=by rw [wL,laL,if_neg hm,em];rfl
  rw [← eS,← eL] at FL
  rw [← eS] at hsl2
  rw [← eL] at hrl2
  have hgl:(goN a.goals).length≤6:=by have:=h.f.gl;simpa [goN] using this
  refine ⟨FL.ne,⟨by omega,?_⟩,fun i hi=>arc_edge h.f ?_⟩
  · have:(goN a.goals).length*((gA a).length+96)≤6*192:=Nat.mul_le_mul hgl (by omega)
    omega
  · exact FL.way i (by simp only [List.length_append,List.length_cons,List.length_nil];omega)
theorem wyF_len (S L:List Nat):(wyF S L).length=S.length+L.length+1:=by simp [wyF];omega
noncomputable def woB (a:Au):Bool:=goodA a && (fairA a && goodL (ltsF a (wyF (wS a) (wL a)) (wS a).length) ((ltsF a (wyF (wS a) (wL a)) ((wS a).length+(wL a).length)).drop (wS a).length))
noncomputable def woS (a:Au):List Int:=if woB a then ltsF a (wyF (wS a) (wL a)) (wS a).length else []
noncomputable def woL (a:Au):List Int:=if woB a then (ltsF a (wyF (wS a) (wL a)) ((wS a).length+(wL a).length)).drop (wS a).length else []
theorem ltsF_take (a:Au) (wy:List Nat) {n k:Nat} (h:k≤n):(ltsF a wy n).take k=ltsF a wy k:=by
  rw [ltsF,ltsF,← List.map_take,List.take_range]
  congr 2;omega
theorem wk_la {H G:Heap} {Ts:List Th} {z1 z2:Nat} {x y:AV} {l m:List Int} {D1 D2:List Nat} (s:St H Ts G) (i j:Nat) (hi:Ts[i]?=some (riT z1 x l D1)) (hj:Ts[j]?=some (riT z2 y m D2)) (hij:i≠j) :
    ∃G',Wk (.tup [.agg [x,y]]) G (.tup [aL2 l m]) G'∧∀w,w∉D1→w∉D2→G' w=G w:=by
  obtain ⟨x',hx,lx⟩:=(s.get i hi:RZ (LPl eI) 1 z1 x l G D1).row
  obtain ⟨y',hy,ly⟩:=(s.get j hj:RZ (LPl eI) 1 z2 y m G D2).row
  obtain ⟨q1,c1,E1,rfl,hq1,ll1,rfl⟩:=lx
  obtain ⟨q2,c2,E2,rfl,hq2,ll2,rfl⟩:=ly
  obtain ⟨rfl,rfl⟩:=LL.plain' ll1
  obtain ⟨rfl,rfl⟩:=LL.plain' ll2
  have hne:q2≠q1:=fun e=>s.disjI i j hi hj hij q1 (by simp [rzT]) (by simp [rzT,e])
  have f1:FrzR q1 1 (l.map eI) (.tup [.agg [.sl q1 1 0 l.length,.sl q2 1 0 m.length]]) (.tup [.agg [Is l,.sl q2 1 0 m.length]]):=by
    have:FrzR q1 1 (l.map eI) (.sl q1 1 0 (l.map eI).length) (.p (.sl (l.map eI))):=.here
    rw [List.length_map] at this
    exact .tup (.cons (.agg (.cons this (.cons (.same _) .nil))) .nil)
  have f2:FrzR q2 1 (m.map eI) (.tup [.agg [Is l,.sl q2 1 0 m.length]]) (.tup [.agg [Is l,Is m]]):=by
    have:FrzR q2 1 (m.map eI) (.sl q2 1 0 (m.map eI).length) (.p (.sl (m.map eI))):=.here
    rw [List.length_map] at this
    exact .tup (.cons (.agg (.cons (.same _) (.cons this .nil))) .nil)
  have w1:Wk (.tup [.agg [x,y]]) G (.tup [.agg [.sl q1 1 0 l.length,.sl q2 1 0 m.length]]) G:=.val (wk_tup ⟨wk_agg ⟨hx,hy,trivial⟩,trivial⟩)
  have w2:=Wk.frz (sz:=1) (by omega) hq1 (sized_map (f:=eI) (fun _=>rfl) l) f1
  have w3:=Wk.frz (H:=G.del q1) (sz:=1) (by omega) (by rw [Heap.del_other hne];exact hq2) (sized_map (f:=eI) (fun _=>rfl) m) f2
  refine ⟨_,.trans w1 (.trans w2 w3),fun w h1 h2=>?_⟩
  rw [Heap.del_other (fun e=>h2 (by simp [e])),Heap.del_other (fun e=>h1 (by simp [e]))]
theorem take_grow {l:List Int} {c:Int} {s:Nat} (h:l.length < s):(l++[c]).take s=l.take s++[c]:=by
  rw [List.take_of_length_le (by simp;omega),List.take_of_length_le (by omega)]
theorem drop_grow {l:List Int} {c:Int} {s:Nat} (h:l.length < s):(l++[c]).drop s=l.drop s:=by
  rw [List.drop_eq_nil_of_le (by simp;omega),List.drop_eq_nil_of_le (by omega)]
theorem WordOf_ref (a:Au) (sa:smAu a):Pu Try.prog 30 [aAu a] (.tup [aL2 (woS a) (woL a),B (woB a)]):=by
  refine ⟨fun H=>CallT.fin ?_⟩
  refine CallT.ghost W30_hb fun z1 hz1=>?_
  refine CallT.ghost W30_hb fun z2 hz2=>?_
  have st:=lent (LPl.local eI) (LPl.has eI) 1 (lent (LPl.local eI) (LPl.has eI) 1 (((St.nil H).cell hz1 []).cell hz2 []) 1 rfl) 0 rfl
  generalize (H.set z1 []).set z2 []=G0 at st ⊢
  clear hz1 hz2
  refine W30_ok ?_;simp (maxSteps:=1000000) (disch:=first | assumption | (apply ν6;assumption)) only [W30,vz,vu,vv,eqS,eF_,↓c1_,↓c2_,tabs,reduceCtorEq,ι5,↓reduceIte,ν1,ν2,ν3,ν4,ν5,ι1,ι2,ι3,ι4]
  intro r hr r2 n2r hr2
  replace st:=(st.cell hr [I a.states,Is a.first,Es a.edges,Ls a.goals]).cell (r:=r2) (by rw [Heap.set_other n2r];exact hr2) [.p .nil,.p .nil]
  generalize (G0.set r [I a.states,Is a.first,Es a.edges,Ls a.goals]).set r2 [.p .nil,.p .nil]=G at st ⊢
  clear hr hr2 n2r G0
  have no:∀G',Heap.le H G'→woB a=false→wkK (fun r H'=>r=AV.tup [aL2 (woS a) (woL a),B (woB a)]∧H'=H) (.tup [.agg [.p .nil,.p .nil],.p (.bool false)]) G':=fun G' hle hb=>by
    rw [woS,woL,hb]
    exact ⟨_,_,.trans (.val (v':=.tup [aL2 [] [],B false]) (wk_tup ⟨wk_agg ⟨.nil,.nil,trivial⟩,.refl _,trivial⟩)) (.forget hle),rfl,rfl⟩
  (try simp (maxSteps:=1000000) (disch:=first | assumption | (apply ν6;assumption)) only [vz,vu,vv,eqS,eF_,↓c1_,↓c2_,tabs,reduceCtorEq,ι5,↓reduceIte,ν1,ν2,ν3,ν4,ν5,ι1,ι2,ι3,ι4,load_at (st.get 1 rfl)])
  refine Pu.use (GoodAuto_spec a sa) ?_
  cases ga:goodA a
  · (try simp (maxSteps:=1000000) (disch:=first | assumption | (apply ν6;assumption)) only [vz,vu,vv,eqS,eF_,↓c1_,↓c2_,tabs,reduceCtorEq,ι5,↓reduceIte,ν1,ν2,ν3,ν4,ν5,ι1,ι2,ι3,ι4,store_at (st.get 0 rfl)])
    exact no _ (st.put 0 rfl _).le (by rw [woB,ga];rfl)
  · have hN:=autoN ga
    (try simp (maxSteps:=1000000) (disch:=first | assumption | (apply ν6;assumption)) only [vz,vu,vv,eqS,eF_,↓c1_,↓c2_,tabs,reduceCtorEq,ι5,↓reduceIte,ν1,ν2,ν3,ν4,ν5,ι1,ι2,ι3,ι4,load_at (st.get 1 rfl)])
    refine Pu.use (l12Graph_spec a hN.f) ?_
    (try simp (maxSteps:=1000000) (disch:=first | assumption | (apply ν6;assumption)) only [vz,vu,vv,eqS,eF_,↓c1_,↓c2_,tabs,reduceCtorEq,ι5,↓reduceIte,ν1,ν2,ν3,ν4,ν5,ι1,ι2,ι3,ι4,load_at (st.get 1 rfl)])
    refine Pu.use (lasso_A hN) ?_
    have ev:lassoV (rwF (gA a)) (gA a).length (nN a.first) (goN a.goals)=.tup [Is (nI (wS a)),Is (nI (wL a)),B (fairA a)]:=rfl
    rw [ev]
    cases hf:fairA a
    · (try simp (maxSteps:=1000000) (disch:=first | assumption | (apply ν6;assumption)) only [vz,vu,vv,eqS,eF_,↓c1_,↓c2_,tabs,reduceCtorEq,ι5,↓reduceIte,ν1,ν2,ν3,ν4,ν5,ι1,ι2,ι3,ι4,store_at (st.get 0 rfl)])
      exact no _ (st.put 0 rfl _).le (by rw [woB,hf,ga];rfl)
    have hw:=wayA_of hN hf
    have hb:woB a=goodL (ltsF a (wyF (wS a) (wL a)) (wS a).length) ((ltsF a (wyF (wS a) (wL a)) ((wS a).length+(wL a).length)).drop (wS a).length):=by rw [woB,ga,hf];rfl
    rw [woS,woL,hb]
    clear no hb
    generalize wS a=S at hw ⊢
    generalize wL a=L at hw ⊢
    have hS:=nI_len S
    have hL:=nI_len L
    have hne:=hw.ne
    obtain ⟨hs1,hs2⟩:=hw.sz
    have hl0:(nI L).getD 0 default=((L.getD 0 0:Nat):Int):=nI_get hne
    have hbn:=buildN_1 (L.getD 0 0)
    (try simp (maxSteps:=1000000) (disch:=first | assumption | (apply ν6;assumption)) only [vz,vu,vv,eqS,eF_,↓c1_,↓c2_,tabs,reduceCtorEq,ι5,↓reduceIte,ν1,ν2,ν3,ν4,ν5,ι1,ι2,ι3,ι4,hL,hl0,hbn,safeV,newV,Int.toNat_zero])
    refine ⟨by omega,by omega,?_⟩
    refine l1Own_row (nI S) (by omega) fun q hq=>?_
    replace st:=st.cell hq (cP fI (nI S))
    generalize G.set q (cP fI (nI S))=G1 at st ⊢
    clear hq
    refine st_appI (ys:=nI L) st 0 rfl (by omega) fun q1 G1 hq1 st=>?_
    intro r1 hr1
    change appendV _ _ _ _ _ (G1.set r1 (cP fI (nI [L.getD 0 0]))) _
    replace st:=st.cell hr1 (cP fI (nI [L.getD 0 0]))
    generalize G1.set r1 (cP fI (nI [L.getD 0 0]))=G2 at st ⊢
    clear hr1 hq1
    refine st_appL (off:=0) (n:=1) st 1 rfl (st.get 0 rfl) (by simp [nI]) (by rw [List.length_append];omega) fun q2 G3 hq2 st=>?_
    have ew:nI S++nI L++((nI [L.getD 0 0]).drop 0).take 1=nI (wyF S L):=by simp [wyF,nI]
    rw [ew] at st ⊢
    have hwl:=wyF_len S L
    have hwI:=nI_len (wyF S L)
    intro r8 hr8
    replace st:=st.cell hr8 [.p .nil,.p .nil]
    generalize G3.set r8 [.p .nil,.p .nil]=G4 at st ⊢
    clear hr8 hq2
    have hway:=hw.way
    clear ew hw hl0 hbn hL
    generalize wyF S L=wy at st hwl hwI hway ⊢
    have st2:St H [cellT r8 [.p .nil,.p .nil],cellT r1 (cP fI (nI [L.getD 0 0])),cellT q2 (cP fI (nI wy)),cellT r2 [.p .nil,.p .nil],cellT r [I a.states,Is a.first,Es a.edges,Ls a.goals],riT z2 (.p .nil) [] [z2],riT z1 (.p .nil) [] [z1]] G4:=st
    clear st
    have hed:=hN.f.ed
    refine L30_0_rule ((0:Nat),(.p .nil:AV),[z1],(.p .nil:AV),[z2],G4) (fun z=>I z.1) (fun z=>z.2.2.2.2.2)
      (fun z=>z.1≤S.length+L.length∧St H [cellT r8 [z.2.1,z.2.2.2.1],cellT r1 (cP fI (nI [L.getD 0 0])),cellT q2 (cP fI (nI wy)),cellT r2 [.p .nil,.p .nil],cellT r [I a.states,Is a.first,Es a.edges,Ls a.goals],riT z2 z.2.2.2.1 ((ltsF a wy z.1).drop S.length) z.2.2.2.2.1,riT z1 z.2.1 ((ltsF a wy z.1).take S.length) z.2.2.1] z.2.2.2.2.2) (fun z=>S.length+L.length - z.1)
      ⟨⟨by simp,by simpa [ltsF] using st2⟩,.refl _,Heap.le_refl _⟩ ?_
    clear st2 G4
    rintro ⟨i,x,D1,y,D2,G⟩ ⟨hi,st⟩
    dsimp only at hi st
    have e5:IntKind.i64.wrap ((i:Int)+1)=((i+1:Nat):Int):=by rw [i64_id (by omega) (by omega)];simp
    (try simp (maxSteps:=1000000) (disch:=first | assumption | (apply ν6;assumption)) only [vz,vu,vv,eqS,eF_,↓c1_,↓c2_,tabs,reduceCtorEq,ι5,↓reduceIte,ν1,ν2,ν3,ν4,ν5,ι1,ι2,ι3,ι4,B30_0,hwI,e5])
    refine ⟨fun h1=>?_,fun h1=>?_⟩
    · have hlt:i < S.length+L.length:=by omega
      have g1:=cI_rd (l:=nI wy) (i:=i) (by omega)
      have g2:=cI_rd (l:=nI wy) (i:=i+1) (by omega)
      rw [nI_get (by omega)] at g1 g2
      have hcl:(cP fI (nI wy)).length=wy.length:=by simp [cP,hwI]
      (try simp (maxSteps:=1000000) (disch:=first | assumption | (apply ν6;assumption)) only [vz,vu,vv,eqS,eF_,↓c1_,↓c2_,tabs,reduceCtorEq,ι5,↓reduceIte,ν1,ν2,ν3,ν4,ν5,ι1,ι2,ι3,ι4,load_at (st.get 4 rfl),load_at (st.get 2 rfl),hcl,g1,g2,Int.toNat_natCast])
      repeat refine ⟨by omega,?_⟩
      refine Pu.use (l12Letter_spec a (by omega) _ _) ?_
      have hsu:=ltsF_succ a wy i
      have hlen:=ltsF_len a wy i
      generalize ltF a (wy.getD i 0:Nat) (wy.getD (i+1) 0:Nat)=c at hsu ⊢
      have h8:=st.get 0 rfl
      (try simp (maxSteps:=1000000) (disch:=first | assumption | (apply ν6;assumption)) only [vz,vu,vv,eqS,eF_,↓c1_,↓c2_,tabs,reduceCtorEq,ι5,↓reduceIte,ν1,ν2,ν3,ν4,ν5,ι1,ι2,ι3,ι4,hS])
      refine ⟨fun h2=>?_,fun h2=>?_⟩
      · have et:(ltsF a wy (i+1)).take S.length=(ltsF a wy i).take S.length++[c]:=by rw [hsu,take_grow (by omega)]
        have ed:(ltsF a wy (i+1)).drop S.length=(ltsF a wy i).drop S.length:=by rw [hsu,drop_grow (by omega)]
        (try simp (maxSteps:=1000000) (disch:=first | assumption | (apply ν6;assumption)) only [vz,vu,vv,eqS,eF_,↓c1_,↓c2_,tabs,reduceCtorEq,ι5,↓reduceIte,ν1,ν2,ν3,ν4,ν5,ι1,ι2,ι3,ι4,load_at h8])
        refine lit1 tab_24 rfl tab_3 ⟨rfl,rfl⟩ ?_
        refine rz_appI (ys:=[c]) st 6 rfl (by rw [List.length_take];simp only [List.length_cons,List.length_nil];omega) fun q' G' hq' st=>?_
        rw [← et] at st ⊢
        rw [← ed] at st
        obtain ⟨l',hl'⟩:∃l',(ltsF a wy (i+1)).take S.length=l':=⟨_,rfl⟩
        rw [hl'] at st ⊢
        (try simp (maxSteps:=1000000) (disch:=first | assumption | (apply ν6;assumption)) only [vz,vu,vv,eqS,eF_,↓c1_,↓c2_,tabs,reduceCtorEq,ι5,↓reduceIte,ν1,ν2,ν3,ν4,ν5,ι1,ι2,ι3,ι4,store_at (st.get 0 rfl)])
        replace st:=st.put 0 rfl [rowP q' l',y]
        rw [← hl'] at st
        exact ⟨(i+1,_,_,_,_,_),⟨by simp only;omega,st⟩,by simp only;omega,.refl _,by rw [hl'];exact Heap.le_refl _⟩
      · have et:(ltsF a wy (i+1)).take S.length=(ltsF a wy i).take S.length:=by rw [hsu,List.take_append_of_le_length (by omega)]
        have ed:(ltsF a wy (i+1)).drop S.length=(ltsF a wy i).drop S.length++[c]:=by rw [hsu,List.drop_append_of_le_length (by omega)]
        (try simp (maxSteps:=1000000) (disch:=first | assumption | (apply ν6;assumption)) only [vz,vu,vv,eqS,eF_,↓c1_,↓c2_,tabs,reduceCtorEq,ι5,↓reduceIte,ν1,ν2,ν3,ν4,ν5,ι1,ι2,ι3,ι4,load_at h8])
        refine lit1 tab_24 rfl tab_3 ⟨rfl,rfl⟩ ?_
        refine rz_appI (ys:=[c]) st 5 rfl (by rw [List.length_drop];simp only [List.length_cons,List.length_nil];omega) fun q' G' hq' st=>?_
        rw [← ed] at st ⊢
        rw [← et] at st
        obtain ⟨l',hl'⟩:∃l',(ltsF a wy (i+1)).drop S.length=l':=⟨_,rfl⟩
        rw [hl'] at st ⊢
        (try simp (maxSteps:=1000000) (disch:=first | assumption | (apply ν6;assumption)) only [vz,vu,vv,eqS,eF_,↓c1_,↓c2_,tabs,reduceCtorEq,ι5,↓reduceIte,ν1,ν2,ν3,ν4,ν5,ι1,ι2,ι3,ι4,store_at (st.get 0 rfl)])
        replace st:=st.put 0 rfl [x,rowP q' l']
        rw [← hl'] at st
        exact ⟨(i+1,_,_,_,_,_),⟨by simp only;omega,st⟩,by simp only;omega,.refl _,by rw [hl'];exact Heap.le_refl _⟩
    · have:i=S.length+L.length:=by omega
      subst this
      have hlen:=ltsF_len a wy (S.length+L.length)
      have et:=ltsF_take a wy (n:=S.length+L.length) (k:=S.length) (by omega)
      have hlen2:=ltsF_len a wy S.length
      rw [et] at st
      obtain ⟨Gw,hwk,hfr⟩:=wk_la st 6 5 rfl rfl (by decide)
      have hle:Heap.le H Gw:=fun v b hb=>by
        rw [hfr v (st.wkNone v b hb _ (List.mem_of_getElem? (i:=6) rfl)) (st.wkNone v b hb _ (List.mem_of_getElem? (i:=5) rfl))];exact st.le v b hb
      have g2:Gw r2=some [.p .nil,.p .nil]:=by
        rw [hfr r2 (fun hm=>st.disjI 6 3 rfl rfl (by decide) r2 hm (by simp [cellT])) (fun hm=>st.disjI 5 3 rfl rfl (by decide) r2 hm (by simp [cellT]))];exact st.get 3 rfl
      have hle2:∀b,Heap.le H (Gw.set r2 b):=fun b v c hb=>by
        rw [Heap.set_other (fun e=>st.wkNone v c hb _ (List.mem_of_getElem? (i:=3) rfl) (by simp [cellT,e]))];exact hle v c hb
      have hdl:((ltsF a wy (S.length+L.length)).drop S.length).length≤1000000000:=by rw [List.length_drop];omega
      generalize (ltsF a wy (S.length+L.length)).drop S.length=dl at hwk hdl ⊢
      generalize ltsF a wy S.length=sl at hwk hlen2 ⊢
      have hx:=RZ.sl (st.get 6 rfl:RZ (LPl eI) 1 z1 x _ G D1)
      have hy:=RZ.sl (st.get 5 rfl:RZ (LPl eI) 1 z2 y _ G D2)
      (try simp (maxSteps:=1000000) (disch:=first | assumption | (apply ν6;assumption)) only [vz,vu,vv,eqS,eF_,↓c1_,↓c2_,tabs,reduceCtorEq,ι5,↓reduceIte,ν1,ν2,ν3,ν4,ν5,ι1,ι2,ι3,ι4,load_at (st.get 0 rfl)])
      refine CallT.pre (Pu.use (l9Made_spec sl dl (by omega) hdl) ?_) hwk
      (try simp (maxSteps:=1000000) (disch:=first | assumption | (apply ν6;assumption)) only [vz,vu,vv,eqS,eF_,↓c1_,↓c2_,tabs,reduceCtorEq,ι5,↓reduceIte,ν1,ν2,ν3,ν4,ν5,ι1,ι2,ι3,ι4,store_at g2])
      refine ⟨_,_,.forget (hle2 _),?_,rfl⟩
      cases goodL sl dl<;>rfl
end Go.Proofs.Ytohkciilfkhomaa
namespace Go.Proofs.Ytohkciilfkhomaa
open Go Go.Sep Go.Pt
attribute [local irreducible] CallT
theorem bigC (a b:List Int):Pu Try.prog 5 [.p (.sl (a.map e8)),.p (.sl (b.map e8))] (B (decide (1048576 < a.length+b.length))):=by
  refine Pu.of fun H=>?_
  refine W5_ok ?_;simp (maxSteps:=1000000) (disch:=first | assumption | (apply ν6;assumption)) only [W5,vz,vu,vv,eqS,eF_,↓c1_,↓c2_,tabs,reduceCtorEq,ι5,↓reduceIte,ν1,ν2,ν3,ν4,ν5,ι1,ι2,ι3,ι4]
  refine ⟨fun h=>?_,fun h=>?_⟩
  · have:1048576 < a.length+b.length:=by omega
    simp [this]
  · have hw:IntKind.i64.wrap (1048576 - ↑a.length)=1048576 - ↑a.length:=i64_id (by omega) (by omega)
    rw [hw]
    congr 2
    apply decide_eq_decide.2
    omega
theorem sameInts_self (xs:List Int) (hl:xs.length≤1000000000):Pu Try.prog 26 [Is xs,Is xs] (B true):=by
  refine Pu.of fun H=>?_
  refine W26_ok ?_;simp (maxSteps:=1000000) (disch:=first | assumption | (apply ν6;assumption)) only [W26,vz,vu,vv,eqS,eF_,↓c1_,↓c2_,tabs,reduceCtorEq,ι5,↓reduceIte,ν1,ν2,ν3,ν4,ν5,ι1,ι2,ι3,ι4]
  refine L26_0_rule (0:Nat) (fun i=>I i) (fun _=>H) (fun i=>i≤xs.length) (fun i=>xs.length - i) ⟨by omega,.refl _,Heap.le_refl _⟩ ?_
  rintro i hi
  have e5:IntKind.i64.wrap ((i:Int)+1)=((i+1:Nat):Int):=by rw [i64_id (by omega) (by omega)];simp
  (try simp (maxSteps:=1000000) (disch:=first | assumption | (apply ν6;assumption)) only [vz,vu,vv,eqS,eF_,↓c1_,↓c2_,tabs,reduceCtorEq,ι5,↓reduceIte,ν1,ν2,ν3,ν4,ν5,ι1,ι2,ι3,ι4,B26_0,e5])
  intro h
  exact ⟨by omega,by omega,by omega,by omega,i+1,by omega,by omega,.refl _⟩
theorem sameLists_self (xs:List (List Int)) (hs:smLs xs):Pu Try.prog 27 [Ls xs,Ls xs] (B true):=by
  refine Pu.of fun H=>?_
  have hs1:=hs.1
  refine W27_ok ?_;simp (maxSteps:=1000000) (disch:=first | assumption | (apply ν6;assumption)) only [W27,vz,vu,vv,eqS,eF_,↓c1_,↓c2_,tabs,reduceCtorEq,ι5,↓reduceIte,ν1,ν2,ν3,ν4,ν5,ι1,ι2,ι3,ι4]
  refine L27_0_rule (0:Nat) (fun i=>I i) (fun _=>H) (fun i=>i≤xs.length) (fun i=>xs.length - i) ⟨by omega,.refl _,Heap.le_refl _⟩ ?_
  rintro i hi
  have e5:IntKind.i64.wrap ((i:Int)+1)=((i+1:Nat):Int):=by rw [i64_id (by omega) (by omega)];simp
  (try simp (maxSteps:=1000000) (disch:=first | assumption | (apply ν6;assumption)) only [vz,vu,vv,eqS,eF_,↓c1_,↓c2_,tabs,reduceCtorEq,ι5,↓reduceIte,ν1,ν2,ν3,ν4,ν5,ι1,ι2,ι3,ι4,B27_0,e5])
  intro h
  have hlt:i < xs.length:=by omega
  have hm:(xs.getD i default).length≤1048576:=hs.2 _ (getD_all (p:=fun x=>x∈xs) (fun _ h=>h) hlt)
  repeat refine ⟨by omega,?_⟩
  refine Pu.use (sameInts_self (xs.getD i default) (by omega)) ?_
  (try simp (maxSteps:=1000000) (disch:=first | assumption | (apply ν6;assumption)) only [vz,vu,vv,eqS,eF_,↓c1_,↓c2_,tabs,reduceCtorEq,ι5,↓reduceIte,ν1,ν2,ν3,ν4,ν5,ι1,ι2,ι3,ι4,e5])
  exact ⟨i+1,by omega,by omega,.refl _⟩
theorem sameAuto_self (a:Au) (sa:smAu a):Pu Try.prog 9 [aAu a,aAu a] (B true):=by
  refine Pu.of fun H=>?_
  obtain ⟨s1,s2,s3⟩:=sa
  refine W9_ok ?_;simp (maxSteps:=1000000) (disch:=first | assumption | (apply ν6;assumption)) only [W9,vz,vu,vv,eqS,eF_,↓c1_,↓c2_,tabs,reduceCtorEq,ι5,↓reduceIte,ν1,ν2,ν3,ν4,ν5,ι1,ι2,ι3,ι4]
  intro r hr r3 n3 hr3
  have st:=((St.nil H).cell hr [I a.states,Is a.first,Es a.edges,Ls a.goals]).cell (r:=r3) (by rw [Heap.set_other n3];exact hr3) [I a.states,Is a.first,Es a.edges,Ls a.goals]
  generalize (H.set r [I a.states,Is a.first,Es a.edges,Ls a.goals]).set r3 [I a.states,Is a.first,Es a.edges,Ls a.goals]=G at st ⊢
  clear hr hr3 n3
  (try simp (maxSteps:=1000000) (disch:=first | assumption | (apply ν6;assumption)) only [vz,vu,vv,eqS,eF_,↓c1_,↓c2_,tabs,reduceCtorEq,ι5,↓reduceIte,ν1,ν2,ν3,ν4,ν5,ι1,ι2,ι3,ι4,load_at (st.get 1 rfl),load_at (st.get 0 rfl)])
  refine Pu.use (sameInts_self a.first (by omega)) ?_
  (try simp (maxSteps:=1000000) (disch:=first | assumption | (apply ν6;assumption)) only [vz,vu,vv,eqS,eF_,↓c1_,↓c2_,tabs,reduceCtorEq,ι5,↓reduceIte,ν1,ν2,ν3,ν4,ν5,ι1,ι2,ι3,ι4,load_at (st.get 1 rfl),load_at (st.get 0 rfl)])
  refine Pu.use (sameLists_self a.goals s3) ?_
  (try simp (maxSteps:=1000000) (disch:=first | assumption | (apply ν6;assumption)) only [vz,vu,vv,eqS,eF_,↓c1_,↓c2_,tabs,reduceCtorEq,ι5,↓reduceIte,ν1,ν2,ν3,ν4,ν5,ι1,ι2,ι3,ι4,load_at (st.get 1 rfl),load_at (st.get 0 rfl)])
  refine L9_0_rule (0:Nat) (fun i=>I i) (fun _=>G) (fun i=>i≤a.edges.length) (fun i=>a.edges.length - i) ⟨by omega,.refl _,Heap.le_refl _⟩ ?_
  rintro i hi
  have e5:IntKind.i64.wrap ((i:Int)+1)=((i+1:Nat):Int):=by rw [i64_id (by omega) (by omega)];simp
  (try simp (maxSteps:=1000000) (disch:=first | assumption | (apply ν6;assumption)) only [vz,vu,vv,eqS,eF_,↓c1_,↓c2_,tabs,reduceCtorEq,ι5,↓reduceIte,ν1,ν2,ν3,ν4,ν5,ι1,ι2,ι3,ι4,B9_0,load_at (st.get 1 rfl),load_at (st.get 0 rfl),e5])
  refine ⟨fun h=>?_,fun h=>st.le⟩
  exact ⟨by omega,by omega,by omega,by omega,i+1,by omega,by omega,.refl _⟩
theorem aus_val {f:Nat} {args:List AV} {a:Au} {ok:Bool} (h:∀{H:Heap} {K:AV→Heap→Prop},(∀v G D,LAu a v G D→New H G D→K (.tup [v,B ok]) G)→CallT Try.prog f args H K):Pu Try.prog f args (.tup [aAu a,B ok]):=by
  refine ⟨fun H=>CallT.fin (h fun v G D hv hn=>?_)⟩
  obtain ⟨G',w,fr⟩:=LAu.wk hv hn.nd (fun v=>.tup [v,B ok]) (fun h=>.tup (.cons h (.cons (.same _) .nil)))
  refine ⟨_,H,.trans w (.forget fun y b hb=>?_),rfl,rfl⟩
  rw [fr y (fun hy=>by rw [hn.fr y hy] at hb;cases hb)]
  exact hn.le y b hb
theorem wo_len (a:Au):(woS a).length≤24∧(woL a).length≤24:=by
  unfold woS woL
  cases hb:woB a
  · simp
  · have hb2:=hb
    rw [woB,Bool.and_eq_true,Bool.and_eq_true] at hb2
    have:=goodL_f hb2.2.2
    simp only [if_true]
    omega
theorem DrawBoth_spec {code:List Int} (hc:CodeC code) {H:Heap} {K:AV→Heap→Prop} (h:∀a b,smAu a→smAu b→K (.tup [aAu a,aAu b]) H):CallT Try.prog 13 [.p (.sl (code.map e8))] H K:=by
  refine CallT.fin ?_
  refine W13_ok ?_;simp (maxSteps:=1000000) (disch:=first | assumption | (apply ν6;assumption)) only [W13,vz,vu,vv,eqS,eF_,↓c1_,↓c2_,tabs,reduceCtorEq,ι5,↓reduceIte,ν1,ν2,ν3,ν4,ν5,ι1,ι2,ι3,ι4]
  intro r2 hr2 r3 n3 hr3 r7 n73 n72 hr7
  have st:=((((St.nil H).cell hr2 [I 0,.p .nil,.p .nil,.p .nil]).cell (r:=r3) (by rw [Heap.set_other n3];exact hr3) [I 0,.p .nil,.p .nil,.p .nil]).cell (r:=r7) (by rw [Heap.set_other n73,Heap.set_other n72];exact hr7) (cur code 0 0))
  have ec:((H.set r2 [AV.p (PV.int IntKind.i64 0),AV.p PV.nil,AV.p PV.nil,AV.p PV.nil]).set r3 [AV.p (PV.int IntKind.i64 0),AV.p PV.nil,AV.p PV.nil,AV.p PV.nil]).set r7 [AV.p (PV.sl (List.map e8 code)),AV.p (PV.int IntKind.i64 0),AV.p (PV.int IntKind.u64 0)]=((H.set r2 [I 0,.p .nil,.p .nil,.p .nil]).set r3 [I 0,.p .nil,.p .nil,.p .nil]).set r7 (cur code 0 0):=rfl
  rw [ec]
  generalize ((H.set r2 [I 0,.p .nil,.p .nil,.p .nil]).set r3 [I 0,.p .nil,.p .nil,.p .nil]).set r7 (cur code 0 0)=G at st ⊢
  clear ec hr2 n3 hr3 n73 n72 hr7
  refine auto_spec hc (st.get 0 rfl) (by omega) 4 (by omega) fun a k1 s1 sa _ hk1 hk2=>?_
  replace st:=st.put 0 rfl (cur code k1 s1)
  generalize G.set r7 (cur code k1 s1)=G1 at st ⊢
  refine auto_spec hc (st.get 0 rfl) (by omega) 3 (by omega) fun b k2 s2 sb _ hk3 hk4=>?_
  replace st:=st.put 0 rfl (cur code k2 s2)
  generalize G1.set r7 (cur code k2 s2)=G2 at st ⊢
  (try simp (maxSteps:=1000000) (disch:=first | assumption | (apply ν6;assumption)) only [vz,vu,vv,eqS,eF_,↓c1_,↓c2_,tabs,reduceCtorEq,ι5,↓reduceIte,ν1,ν2,ν3,ν4,ν5,ι1,ι2,ι3,ι4,store_at (st.get 2 rfl)])
  replace st:=st.put 2 rfl [I a.states,Is a.first,Es a.edges,Ls a.goals]
  generalize G2.set r2 [I a.states,Is a.first,Es a.edges,Ls a.goals]=G3 at st ⊢
  (try simp (maxSteps:=1000000) (disch:=first | assumption | (apply ν6;assumption)) only [vz,vu,vv,eqS,eF_,↓c1_,↓c2_,tabs,reduceCtorEq,ι5,↓reduceIte,ν1,ν2,ν3,ν4,ν5,ι1,ι2,ι3,ι4,store_at (st.get 1 rfl)])
  replace st:=st.put 1 rfl [I b.states,Is b.first,Es b.edges,Ls b.goals]
  generalize G3.set r3 [I b.states,Is b.first,Es b.edges,Ls b.goals]=G4 at st ⊢
  (try simp (maxSteps:=1000000) (disch:=first | assumption | (apply ν6;assumption)) only [vz,vu,vv,eqS,eF_,↓c1_,↓c2_,tabs,reduceCtorEq,ι5,↓reduceIte,ν1,ν2,ν3,ν4,ν5,ι1,ι2,ι3,ι4,load_at (st.get 2 rfl),load_at (st.get 1 rfl)])
  exact ⟨_,H,.forget st.le,h a b sa sb⟩
theorem DrawTakes_spec {code:List Int} (hc:CodeC code) {H:Heap} {K:AV→Heap→Prop} (h:∀a s l,smAu a→s.length≤1000→l.length≤1000→K (.tup [aAu a,aL2 s l]) H):CallT Try.prog 10 [.p (.sl (code.map e8))] H K:=by
  refine CallT.fin ?_
  refine W10_ok ?_;simp (maxSteps:=1000000) (disch:=first | assumption | (apply ν6;assumption)) only [W10,vz,vu,vv,eqS,eF_,↓c1_,↓c2_,tabs,reduceCtorEq,ι5,↓reduceIte,ν1,ν2,ν3,ν4,ν5,ι1,ι2,ι3,ι4]
  intro r2 hr2 r3 n3 hr3 r7 n73 n72 hr7
  have st:=((((St.nil H).cell hr2 [I 0,.p .nil,.p .nil,.p .nil]).cell (r:=r3) (by rw [Heap.set_other n3];exact hr3) [.p .nil,.p .nil]).cell (r:=r7) (by rw [Heap.set_other n73,Heap.set_other n72];exact hr7) (cur code 0 0))
  have ec:((H.set r2 [AV.p (PV.int IntKind.i64 0),AV.p PV.nil,AV.p PV.nil,AV.p PV.nil]).set r3 [AV.p PV.nil,AV.p PV.nil]).set r7 [AV.p (PV.sl (List.map e8 code)),AV.p (PV.int IntKind.i64 0),AV.p (PV.int IntKind.u64 0)]=((H.set r2 [I 0,.p .nil,.p .nil,.p .nil]).set r3 [.p .nil,.p .nil]).set r7 (cur code 0 0):=rfl
  rw [ec]
  generalize ((H.set r2 [I 0,.p .nil,.p .nil,.p .nil]).set r3 [.p .nil,.p .nil]).set r7 (cur code 0 0)=G at st ⊢
  clear ec hr2 n3 hr3 n73 n72 hr7
  refine auto_spec hc (st.get 0 rfl) (by omega) 5 (by omega) fun a k1 s1 sa _ hk1 hk2=>?_
  replace st:=st.put 0 rfl (cur code k1 s1)
  generalize G.set r7 (cur code k1 s1)=G1 at st ⊢
  (try simp (maxSteps:=1000000) (disch:=first | assumption | (apply ν6;assumption)) only [vz,vu,vv,eqS,eF_,↓c1_,↓c2_,tabs,reduceCtorEq,ι5,↓reduceIte,ν1,ν2,ν3,ν4,ν5,ι1,ι2,ι3,ι4])
  intro r5 hr5
  replace st:=st.cell hr5 [I a.states,Is a.first,Es a.edges,Ls a.goals]
  generalize G1.set r5 [I a.states,Is a.first,Es a.edges,Ls a.goals]=G2 at st ⊢
  clear hr5
  refine lasso_spec hc (st.get 1 rfl) (by omega) fun s l k2 s2 hs hl hk3 hk4=>?_
  replace st:=st.put 1 rfl (cur code k2 s2)
  generalize G2.set r7 (cur code k2 s2)=G3 at st ⊢
  (try simp (maxSteps:=1000000) (disch:=first | assumption | (apply ν6;assumption)) only [vz,vu,vv,eqS,eF_,↓c1_,↓c2_,tabs,reduceCtorEq,ι5,↓reduceIte,ν1,ν2,ν3,ν4,ν5,ι1,ι2,ι3,ι4])
  intro r6 hr6
  replace st:=st.cell hr6 [Is s,Is l]
  generalize G3.set r6 [Is s,Is l]=G4 at st ⊢
  clear hr6
  (try simp (maxSteps:=1000000) (disch:=first | assumption | (apply ν6;assumption)) only [vz,vu,vv,eqS,eF_,↓c1_,↓c2_,tabs,reduceCtorEq,ι5,↓reduceIte,ν1,ν2,ν3,ν4,ν5,ι1,ι2,ι3,ι4,load_at (st.get 1 rfl)])
  refine Pu.use (WordOf_ref a sa) ?_
  obtain ⟨w1,w2⟩:=wo_len a
  generalize woS a=ws at w1 ⊢
  generalize woL a=wl at w2 ⊢
  (try simp (maxSteps:=1000000) (disch:=first | assumption | (apply ν6;assumption)) only [vz,vu,vv,eqS,eF_,↓c1_,↓c2_,tabs,reduceCtorEq,ι5,↓reduceIte,ν1,ν2,ν3,ν4,ν5,ι1,ι2,ι3,ι4])
  intro r4 hr4
  replace st:=st.cell hr4 [Is ws,Is wl]
  generalize G4.set r4 [Is ws,Is wl]=G5 at st ⊢
  clear hr4
  have fin:∀(k:Nat) (s:Int) (G:Heap) (s' l':List Int) (c:List AV),s'.length≤1000→l'.length≤1000→St H [cellT r4 [Is ws,Is wl],cellT r6 [Is s',Is l'],cellT r5 [I a.states,Is a.first,Es a.edges,Ls a.goals],cellT r7 c,cellT r3 [.p .nil,.p .nil],cellT r2 [I 0,.p .nil,.p .nil,.p .nil]] G→J10_0 (wkK K) (.ptr r2 0) (.ptr r3 0) (.ptr r5 0) (.ptr r6 0) G:=by
    intro k s G s' l' c h1 h2 st
    (try simp (maxSteps:=1000000) (disch:=first | assumption | (apply ν6;assumption)) only [vz,vu,vv,eqS,eF_,↓c1_,↓c2_,tabs,reduceCtorEq,ι5,↓reduceIte,ν1,ν2,ν3,ν4,ν5,ι1,ι2,ι3,ι4,J10_0,load_at (st.get 2 rfl),load_at (st.get 1 rfl),store_at (st.get 5 rfl)])
    replace st:=st.put 5 rfl [I a.states,Is a.first,Es a.edges,Ls a.goals]
    generalize G.set r2 [I a.states,Is a.first,Es a.edges,Ls a.goals]=G1 at st ⊢
    (try simp (maxSteps:=1000000) (disch:=first | assumption | (apply ν6;assumption)) only [vz,vu,vv,eqS,eF_,↓c1_,↓c2_,tabs,reduceCtorEq,ι5,↓reduceIte,ν1,ν2,ν3,ν4,ν5,ι1,ι2,ι3,ι4,load_at (st.get 1 rfl),store_at (st.get 4 rfl)])
    replace st:=st.put 4 rfl [Is s',Is l']
    generalize G1.set r3 [Is s',Is l']=G2 at st ⊢
    (try simp (maxSteps:=1000000) (disch:=first | assumption | (apply ν6;assumption)) only [vz,vu,vv,eqS,eF_,↓c1_,↓c2_,tabs,reduceCtorEq,ι5,↓reduceIte,ν1,ν2,ν3,ν4,ν5,ι1,ι2,ι3,ι4,load_at (st.get 5 rfl),load_at (st.get 4 rfl)])
    exact ⟨_,H,.forget st.le,h a s' l' sa h1 h2⟩
  refine ⟨fun hb=>?_,fun hb=>?_⟩
  · refine one_spec hc 2 (by omega) (k:=k2) (by omega) (st.get 3 rfl) fun x k3 s3 hk5 hk6=>?_
    replace st:=st.put 3 rfl (cur code k3 s3)
    generalize G5.set r7 (cur code k3 s3)=G6 at st ⊢
    (try simp (maxSteps:=1000000) (disch:=first | assumption | (apply ν6;assumption)) only [vz,vu,vv,eqS,eF_,↓c1_,↓c2_,tabs,reduceCtorEq,ι5,↓reduceIte,ν1,ν2,ν3,ν4,ν5,ι1,ι2,ι3,ι4])
    refine ⟨fun hx=>?_,fun hx=>fin k3 s3 G6 s l _ (by omega) (by omega) st⟩
    clear fin
    (try simp (maxSteps:=1000000) (disch:=first | assumption | (apply ν6;assumption)) only [vz,vu,vv,eqS,eF_,↓c1_,↓c2_,tabs,reduceCtorEq,ι5,↓reduceIte,ν1,ν2,ν3,ν4,ν5,ι1,ι2,ι3,ι4,load_at (st.get 2 rfl),load_at (st.get 0 rfl),store_at (st.get 5 rfl)])
    replace st:=st.put 5 rfl [I a.states,Is a.first,Es a.edges,Ls a.goals]
    generalize G6.set r2 [I a.states,Is a.first,Es a.edges,Ls a.goals]=G1 at st ⊢
    (try simp (maxSteps:=1000000) (disch:=first | assumption | (apply ν6;assumption)) only [vz,vu,vv,eqS,eF_,↓c1_,↓c2_,tabs,reduceCtorEq,ι5,↓reduceIte,ν1,ν2,ν3,ν4,ν5,ι1,ι2,ι3,ι4,load_at (st.get 0 rfl),store_at (st.get 4 rfl)])
    replace st:=st.put 4 rfl [Is ws,Is wl]
    generalize G1.set r3 [Is ws,Is wl]=G2 at st ⊢
    (try simp (maxSteps:=1000000) (disch:=first | assumption | (apply ν6;assumption)) only [vz,vu,vv,eqS,eF_,↓c1_,↓c2_,tabs,reduceCtorEq,ι5,↓reduceIte,ν1,ν2,ν3,ν4,ν5,ι1,ι2,ι3,ι4,load_at (st.get 5 rfl),load_at (st.get 4 rfl)])
    exact ⟨_,H,.forget st.le,h a ws wl sa (by omega) (by omega)⟩
  · exact fin k2 s2 G5 s l _ (by omega) (by omega) st
end Go.Proofs.Ytohkciilfkhomaa
namespace Go.Proofs.Ytohkciilfkhomaa
open Go Go.Sep Go.Pt
def ArcE (es:List Ed) (v w:Nat):Prop:=∃e∈es,e.src=(v:Int)∧e.dst=(w:Int)
def FairE (es:List Ed) (goals:List (List Nat)) (v:Nat):Prop:=(∃a b,Con (ArcE es) v a∧Con (ArcE es) v b∧ArcE es a b)∧∀g∈goals,∃x∈g,Con (ArcE es) v x
def AccE (p:Au):Prop:=∃u∈nN p.first,∃v,Rch (ArcE p.edges) u v∧FairE p.edges (goN p.goals) v
theorem arcE_eq {p:Au} (h:GoodX p):ArcOf (rwF (gO p))=ArcE p.edges:=by
  funext v w
  exact propext ((gO_gA v w).trans (arc_iff h))
theorem acc_iff {p:Au} (h:PrB p):twF p=true↔AccE p:=by
  have hl:=gO_len p
  have ha:=arcE_eq h.x
  have hb:∀a b,b∈rwF (gO p) a↔ArcE p.edges a b:=fun a b=>by rw [← ha]
  rw [twF,decide_eq_true_eq,meetF_iff (goals:=goN p.goals) (gO_B h.x).gr (some:=nN p.first) (by rw [hl];exact nN_lt h.fr)]
  unfold AccE FairP FairE
  simp only [ha,hb]
theorem acc_lasso {p:Au} (h:PrB p) (ht:twF p=true):∃stem loop,FairL (rwF (gO p)) (nN p.first) (goN p.goals) stem loop:=by
  have hl:=gO_len p
  obtain ⟨h1,h2,_⟩:=h.gob hl
  have hm:¬meetF (rwF (gO p)) (gO p).length (nN p.first) (goN p.goals) < 0:=by
    rw [twF,decide_eq_true_eq] at ht;omega
  obtain ⟨m,em,hml,hfair,hreach⟩:=meetF_pos (gO_B h.x).gr (by rw [hl];exact nN_lt h.fr) hm
  obtain ⟨FL,_⟩:=fair_lasso (b:=9216) (gO_B h.x).gr hml hfair (fun l hl=>⟨h1.lt l hl,h2 l hl⟩) hreach
  exact ⟨_,_,FL⟩
end Go.Proofs.Ytohkciilfkhomaa
namespace Go.Proofs.Ytohkciilfkhomaa
open Go Go.Sep Go.Pt
def StepA (a:Au) (c:Int) (q q':Nat):Prop:=∃e∈a.edges,e.lt=c∧e.src=(q:Int)∧e.dst=(q':Int)
def ArcW (a:Au) (s l:List Int) (x y:Nat×Nat):Prop:=x.1 < s.length+l.length∧y.1=nxW s l x.1∧StepA a (letW s l x.1) x.2 y.2
def enc (n:Nat) (x:Nat×Nat):Nat:=x.1*n+x.2
theorem stepA_lt {a:Au} (fa:GoodF a) {c:Int} {q q':Nat} (h:StepA a c q q'):q < a.states.toNat∧q' < a.states.toNat:=by
  obtain ⟨e,he,_,h1,h2⟩:=h
  have:=edIn_iff.1 (fa.ei e he)
  omega
theorem arcW_iff {a:Au} (fa:GoodF a) {s l:List Int} {v w:Nat}:ArcE (wpE a s l (s.length+l.length)) v w↔∃x y,ArcW a s l x y∧v=enc a.states.toNat x∧w=enc a.states.toNat y:=by
  have hst:=fa.st
  have key:∀(t q:Nat),((enc a.states.toNat (t,q):Nat):Int)=(t:Int)*a.states+q:=fun t q=>by
    unfold enc
    rw [Int.natCast_add,Int.natCast_mul,Int.toNat_of_nonneg (by omega)]
  constructor
  · rintro ⟨e,he,h1,h2⟩
    simp only [wpE,wpR,List.mem_flatMap,List.mem_map,List.mem_filter,List.mem_range,decide_eq_true_eq] at he
    obtain ⟨t,ht,e0,⟨h3,h4⟩,rfl⟩:=he
    have hi:=edIn_iff.1 (fa.ei e0 h3)
    refine ⟨(t,e0.src.toNat),(nxW s l t,e0.dst.toNat),⟨ht,rfl,e0,h3,h4,by simp only;omega,by simp only;omega⟩,?_,?_⟩
    · have:=key t e0.src.toNat
      simp only [wpS] at h1
      rw [← Int.ofNat_inj,this];omega
    · have:=key (nxW s l t) e0.dst.toNat
      simp only [wpS] at h2
      rw [← Int.ofNat_inj,this];omega
  · rintro ⟨⟨t,q⟩,⟨t',q'⟩,⟨h1,h2,e,he,h3,h4,h5⟩,rfl,rfl⟩
    simp only at h1 h2 h3 h4 h5
    subst h2
    refine ⟨wpS a.states s l t e,?_,?_,?_⟩
    · simp only [wpE,wpR,List.mem_flatMap,List.mem_map,List.mem_filter,List.mem_range,decide_eq_true_eq]
      exact ⟨t,h1,e,⟨he,h3⟩,rfl⟩
    · rw [key];simp only [wpS];omega
    · rw [key];simp only [wpS];omega
end Go.Proofs.Ytohkciilfkhomaa
namespace Go.Proofs.Ytohkciilfkhomaa
open Go Go.Sep Go.Pt
theorem often {f:Nat→Nat} {M:Nat} (hM:∀i,f i < M):∃v,∀n,∃i,n≤i∧f i=v:=by
  have key:∀M,(∀v,v < M→∃n,∀i,n≤i→f i≠v)→∃n,∀i,n≤i→M≤f i:=by
    intro M
    induction M with
    | zero=>exact fun _=>⟨0,fun _ _=>Nat.zero_le _⟩
    | succ M ih=>
      intro h
      obtain ⟨n,hn⟩:=ih fun v hv=>h v (by omega)
      obtain ⟨m,hm⟩:=h M (by omega)
      refine ⟨max n m,fun i hi=>?_⟩
      have h1:=hn i (by omega)
      have h2:=hm i (by omega)
      omega
  apply Classical.byContradiction
  intro hc
  obtain ⟨n,hn⟩:=key M fun v _=>by
    apply Classical.byContradiction
    intro h2
    exact hc ⟨v,fun n=>by
      apply Classical.byContradiction
      intro h3
      exact h2 ⟨n,fun i hi e=>h3 ⟨i,hi,e⟩⟩⟩
  have h1:=hn n (Nat.le_refl _)
  have h2:=hM n
  omega
theorem rch_seq {E:Nat→Nat→Prop} {f:Nat→Nat} (hE:∀i,E (f i) (f (i+1))) (i k:Nat):Rch E (f i) (f (i+k)):=by
  induction k with
  | zero=>exact .refl _
  | succ k ih=>exact ih.snoc (hE (i+k))
theorem run_part {E:Nat→Nat→Prop} {f:Nat→Nat} {M:Nat} (hE:∀i,E (f i) (f (i+1))) (hM:∀i,f i < M):∃N,∀i,N≤i→Con E (f N) (f i):=by
  obtain ⟨v,hv⟩:=often hM
  obtain ⟨N,_,hN⟩:=hv 0
  refine ⟨N,fun i hi=>⟨?_,?_⟩⟩
  · have:=rch_seq hE N (i - N)
    rwa [show N+(i - N)=i by omega] at this
  · obtain ⟨j,hj,e⟩:=hv i
    have:=rch_seq hE i (j - i)
    rw [show i+(j - i)=j by omega,e,← hN] at this
    exact this
def FairX (E:Nat→Nat→Prop) (goals:List (List Nat)) (v:Nat):Prop:=(∃a b,Con E v a∧Con E v b∧E a b)∧∀g∈goals,∃x∈g,Con E v x
theorem run_fair {E:Nat→Nat→Prop} {f:Nat→Nat} {M:Nat} {goals:List (List Nat)} (hE:∀i,E (f i) (f (i+1))) (hM:∀i,f i < M) (hg:∀g∈goals,∀n,∃i,n≤i∧f i∈g):∃N,FairX E goals (f N):=by
  obtain ⟨N,hN⟩:=run_part hE hM
  refine ⟨N,⟨f N,f (N+1),hN _ (Nat.le_refl _),hN _ (by omega),hE N⟩,fun g h=>?_⟩
  obtain ⟨i,hi,h2⟩:=hg g h N
  exact ⟨f i,h2,hN i hi⟩
def posW (S L i:Nat):Nat:=if i < S then i else S+(i - S) % L
theorem posW_zero (S L:Nat):posW S L 0=0:=by
  unfold posW
  split
  · rfl
  · rename_i h
    have:S=0:=by omega
    subst this;simp
theorem posW_lt (S:Nat) {L:Nat} (h:1≤L) (i:Nat):posW S L i < S+L:=by
  unfold posW
  split
  · omega
  · have:=Nat.mod_lt (i - S) h;omega
theorem posW_succ (S:Nat) {L:Nat} (h:1≤L) (i:Nat):posW S L (i+1)=if posW S L i+1 < S+L then posW S L i+1 else S:=by
  unfold posW
  by_cases h1:i+1 < S
  · rw [if_pos h1,if_pos (show i < S by omega),if_pos (by omega)]
  · rw [if_neg h1]
    by_cases h2:i < S
    · have e:i+1=S:=by omega
      rw [if_pos h2,if_pos (by omega),e];simp
    · rw [if_neg h2]
      have e1:i+1 - S=(i - S)+1:=by omega
      have e2:=Nat.div_add_mod (i - S) L
      have hr:=Nat.mod_lt (i - S) h
      rw [e1]
      generalize (i - S) % L=r at e2 hr ⊢
      have e3:(i - S+1) % L=(r+1) % L:=by
        conv=>lhs;rw [← e2,Nat.add_assoc,Nat.mul_add_mod]
      rw [e3]
      by_cases h4:r+1 < L
      · rw [Nat.mod_eq_of_lt h4,if_pos (by omega)];omega
      · have h5:r+1=L:=by omega
        rw [h5,Nat.mod_self,if_neg (by omega)];omega
theorem posW_often {S L j:Nat} (h1:S≤j) (h2:j < S+L) (n:Nat):∃i,n≤i∧posW S L i=j:=by
  refine ⟨S+n*L+(j - S),?_,?_⟩
  · have:=Nat.le_mul_of_pos_right n (show 0 < L by omega)
    omega
  · unfold posW
    rw [if_neg (by omega)]
    have e:S+n*L+(j - S) - S=(j - S)+n*L:=by omega
    rw [e,Nat.add_mul_mod_self_right,Nat.mod_eq_of_lt (by omega)];omega
theorem lasso_run {row:Nat→List Nat} {some:List Nat} {goals:List (List Nat)} {stem loop:List Nat} (h:FairL row some goals stem loop):∃f:Nat→Nat,(∀i,f i=(stem++loop).getD (posW stem.length loop.length i) 0)∧f 0∈some∧(∀i,f (i+1)∈row (f i))∧∀g∈goals,∀n,∃i,n≤i∧f i∈g:=by
  obtain ⟨f,hf⟩:∃f:Nat→Nat,∀i,f i=(stem++loop).getD (posW stem.length loop.length i) 0:=⟨_,fun i=>rfl⟩
  have hne:=h.ne
  refine ⟨f,hf,by rw [hf,posW_zero];exact h.fst,fun i=>?_,fun g hg n=>?_⟩
  · have hp:=posW_lt stem.length hne i
    have hs:=posW_succ stem.length hne i
    rw [hf,hf,hs]
    generalize posW stem.length loop.length i=p at hp ⊢
    have hw:=h.way p (by simp only [List.length_append,List.length_cons,List.length_nil];omega)
    have e1:(stem++loop++[loop.getD 0 0]).getD p 0=(stem++loop).getD p 0:=by
      simp only [List.getD]
      rw [List.getElem?_append_left (by simpa using hp)]
    rw [e1] at hw
    by_cases h1:p+1 < stem.length+loop.length
    · rw [if_pos h1]
      have e2:(stem++loop++[loop.getD 0 0]).getD (p+1) 0=(stem++loop).getD (p+1) 0:=by
        simp only [List.getD]
        rw [List.getElem?_append_left (by simpa using h1)]
      rwa [e2] at hw
    · rw [if_neg h1]
      have e2:(stem++loop++[loop.getD 0 0]).getD (p+1) 0=loop.getD 0 0:=by
        have:p+1=(stem++loop).length:=by simp;omega
        rw [this];simp [List.getD]
      have e3:(stem++loop).getD stem.length 0=loop.getD 0 0:=by
        simp [List.getD,List.getElem?_append_right]
      rw [e2] at hw
      rw [e3];exact hw
  · obtain ⟨x,hx,hxg⟩:=h.met g hg
    obtain ⟨k,hk,rfl⟩:=List.mem_iff_getElem.1 hx
    obtain ⟨i,hi,e⟩:=posW_often (S:=stem.length) (L:=loop.length) (j:=stem.length+k) (by omega) (by omega) n
    refine ⟨i,hi,?_⟩
    rw [hf,e]
    have:(stem++loop).getD (stem.length+k) 0=loop[k]:=by
      simp [List.getD,hk]
    rw [this];exact hxg
def wdW (s l:List Int) (i:Nat):Int:=letW s l (posW s.length l.length i)
def AccR (a:Au) (w:Nat→Int):Prop:=∃q:Nat→Nat,((q 0:Nat):Int)∈a.first∧(∀i,StepA a (w i) (q i) (q (i+1)))∧∀g∈a.goals,∀n,∃i,n≤i∧((q i:Nat):Int)∈g
theorem enc_div {n p q:Nat} (h:q < n):enc n (p,q) / n=p:=by
  unfold enc
  simp only
  rw [Nat.add_comm,Nat.add_mul_div_right _ _ (by omega),Nat.div_eq_of_lt h,Nat.zero_add]
theorem enc_mod {n p q:Nat} (h:q < n):enc n (p,q) % n=q:=by
  unfold enc
  simp only
  rw [Nat.add_comm,Nat.add_mul_mod_self_right,Nat.mod_eq_of_lt h]
theorem encI {n:Int} (h:0≤n) (p q:Nat):((enc n.toNat (p,q):Nat):Int)=(p:Int)*n+q:=by
  unfold enc
  rw [Int.natCast_add,Int.natCast_mul,Int.toNat_of_nonneg h]
theorem accR_iff {a:Au} (ga:goodA a=true) {s l:List Int} (hs:s.length≤24) (hl:1≤l.length∧l.length≤24):twF (wpA a s l)=true↔AccR a (wdW s l):=by
  have fa:=good_facts ga
  have hN:=autoN ga
  have sta:=fa.st
  have hpr:=wpA_pr ga hs hl
  have hg1:goN (wpA a s l).goals=a.goals.map fun g=>nN (prs (below (s.length+l.length)) g a.states):=by
    show (wpG a (s.length+l.length) a.goals.length).map nN=_
    rw [wpG,List.take_length,List.map_map];rfl
  constructor
  · intro ht
    obtain ⟨stem,loop,hL⟩:=acc_lasso hpr ht
    have ha:=arcE_eq hpr.x
    obtain ⟨f,_,h0,h1,h2⟩:=lasso_run hL
    have hE:∀i,∃x y,ArcW a s l x y∧f i=enc a.states.toNat x∧f (i+1)=enc a.states.toNat y:=fun i=>(arcW_iff fa).1 (by
      have:ArcOf (rwF (gO (wpA a s l))) (f i) (f (i+1)):=h1 i
      rw [ha] at this;exact this)
    have h0':((f 0:Nat):Int)∈a.first∧f 0 < a.states.toNat:=by
      obtain ⟨x,hx,e⟩:=List.mem_map.1 h0
      have hx2:x∈a.first:=hx
      have:=hN.fr x hx2
      rw [← e,Int.toNat_of_nonneg (by omega)]
      exact ⟨hx2,by omega⟩
    have hp:∀i,f i / a.states.toNat=posW s.length l.length i:=by
      intro i
      induction i with
      | zero=>rw [posW_zero,Nat.div_eq_of_lt h0'.2]
      | succ i ih=>
        obtain ⟨⟨p,q⟩,⟨p',q'⟩,⟨k1,k2,k3⟩,e1,e2⟩:=hE i
        have hq:=stepA_lt fa k3
        simp only at k1 k2 hq
        rw [e1,enc_div hq.1] at ih
        rw [e2,enc_div hq.2,posW_succ _ hl.1,← ih,k2];rfl
    have hm:∀i,f i % a.states.toNat < a.states.toNat:=fun i=>Nat.mod_lt _ (by omega)
    refine ⟨fun i=>f i % a.states.toNat,by simp only;rw [Nat.mod_eq_of_lt h0'.2];exact h0'.1,fun i=>?_,fun g hg n=>?_⟩
    · obtain ⟨⟨p,q⟩,⟨p',q'⟩,⟨k1,k2,k3⟩,e1,e2⟩:=hE i
      have hq:=stepA_lt fa k3
      simp only at k1 k2 hq k3
      have hp1:=hp i
      rw [e1,enc_div hq.1] at hp1
      show StepA a (letW s l (posW s.length l.length i)) _ _
      simp only
      rw [e1,e2,enc_mod hq.1,enc_mod hq.2,← hp1];exact k3
    · obtain ⟨i,hi,hm⟩:=h2 _ (by rw [hg1];exact List.mem_map.2 ⟨g,hg,rfl⟩) n
      refine ⟨i,hi,?_⟩
      obtain ⟨z,hz,e⟩:=List.mem_map.1 hm
      obtain ⟨t,ht,j,hj,rfl⟩:=prs_mem.1 hz
      have ht2:=below_mem'.1 ht
      have hj2:=hN.go g hg j hj
      have e2:=encI (n:=a.states) (by omega) t.toNat j.toNat
      rw [Int.toNat_of_nonneg ht2.1,Int.toNat_of_nonneg hj2.1] at e2
      rw [← e2,Int.toNat_natCast] at e
      simp only
      rw [← e,enc_mod (by omega),Int.toNat_of_nonneg hj2.1];exact hj
  · rintro ⟨q,q0,q1,q2⟩
    have hlt:∀i,q i < a.states.toNat:=fun i=>(stepA_lt fa (q1 i)).1
    have hE:∀i,ArcE (wpA a s l).edges (enc a.states.toNat (posW s.length l.length i,q i)) (enc a.states.toNat (posW s.length l.length (i+1),q (i+1))):=fun i=>
      (arcW_iff fa).2 ⟨(posW s.length l.length i,q i),(posW s.length l.length (i+1),q (i+1)),⟨posW_lt _ hl.1 i,by simp only;rw [posW_succ _ hl.1];rfl,q1 i⟩,rfl,rfl⟩
    rw [acc_iff hpr]
    have hb:∀i,enc a.states.toNat (posW s.length l.length i,q i) < (s.length+l.length)*a.states.toNat:=fun i=>by
      have h1:=posW_lt s.length hl.1 i
      have h2:=hlt i
      have h3:(posW s.length l.length i+1)*a.states.toNat≤(s.length+l.length)*a.states.toNat:=Nat.mul_le_mul_right _ h1
      unfold enc
      simp only
      rw [Nat.add_mul] at h3
      omega
    obtain ⟨N,hf⟩:=run_fair (E:=ArcE (wpA a s l).edges) (f:=fun i=>enc a.states.toNat (posW s.length l.length i,q i)) (goals:=goN (wpA a s l).goals) hE hb (fun g' hg' n=>by
      rw [hg1] at hg'
      obtain ⟨g,hg,rfl⟩:=List.mem_map.1 hg'
      obtain ⟨i,hi,hm⟩:=q2 g hg n
      refine ⟨i,hi,List.mem_map.2 ⟨(posW s.length l.length i:Int)*a.states+q i,prs_mem.2 ⟨_,below_mem'.2 ⟨by omega,by have:=posW_lt s.length hl.1 i;omega⟩,_,hm,rfl⟩,?_⟩⟩
      rw [← encI (by omega)];simp)
    refine ⟨q 0,?_,_,?_,hf⟩
    · show q 0∈nN a.first
      exact List.mem_map.2 ⟨_,q0,by simp⟩
    · have:=rch_seq (E:=ArcE (wpA a s l).edges) (f:=fun i=>enc a.states.toNat (posW s.length l.length i,q i)) hE 0 N
      simp only [Nat.zero_add,posW_zero] at this
      have e:enc a.states.toNat (0,q 0)=q 0:=by simp [enc]
      rw [e] at this;exact this
end Go.Proofs.Ytohkciilfkhomaa
namespace Go.Proofs.Ytohkciilfkhomaa
open Go Go.Sep Go.Pt
theorem stepA_ei {a b:Au} (fa:GoodF a) (fb:GoodF b) {c:Int} {q q':Nat}:StepA (eiT a b) c q q'↔StepA a c q q'∨(a.states.toNat≤q∧a.states.toNat≤q'∧StepA b c (q - a.states.toNat) (q' - a.states.toNat)):=by
  have sa:=fa.st
  unfold StepA
  show (∃e∈a.edges++mvE (b.edges.take b.edges.length) a.states,_)↔_
  rw [List.take_length]
  constructor
  · rintro ⟨e,he,h1,h2,h3⟩
    rcases List.mem_append.1 he with he | he
    · exact .inl ⟨e,he,h1,h2,h3⟩
    · obtain ⟨e0,h0,rfl⟩:=List.mem_map.1 he
      have hi:=edIn_iff.1 (fb.ei e0 h0)
      simp only at h1 h2 h3
      exact .inr ⟨by omega,by omega,e0,h0,h1,by omega,by omega⟩
  · rintro (⟨e,he,h1,h2,h3⟩ | ⟨k1,k2,e,he,h1,h2,h3⟩)
    · exact ⟨e,List.mem_append_left _ he,h1,h2,h3⟩
    · exact ⟨⟨e.src+a.states,e.lt,e.dst+a.states⟩,List.mem_append_right _ (List.mem_map.2 ⟨e,he,rfl⟩),h1,by simp only;omega,by simp only;omega⟩
theorem goalAt_mem {a:Au} (na:AutoN a) {k:Nat} {x:Int} (h:x∈goalAt a k):0≤x∧x < a.states:=by
  have st:=na.f.st
  unfold goalAt at h
  split at h
  · rename_i hk
    have hk2:k < a.goals.length:=by omega
    have:a.goals.getD (k:Int).toNat default∈a.goals:=by
      rw [Int.toNat_natCast,getD_lt hk2];exact List.getElem_mem _
    have:=na.go _ this x h
    omega
  · have:=below_mem'.1 h
    omega
theorem goalAt_of {a:Au} {q:Nat→Nat} (hq:∀i,(q i:Int) < a.states) (h:∀g∈a.goals,∀n,∃i,n≤i∧((q i:Nat):Int)∈g) (k n:Nat):∃i,n≤i∧((q i:Nat):Int)∈goalAt a k:=by
  unfold goalAt
  split
  · rename_i hk
    have hk2:k < a.goals.length:=by omega
    exact h _ (by rw [Int.toNat_natCast,getD_lt hk2];exact List.getElem_mem _) n
  · exact ⟨n,Nat.le_refl _,below_mem'.2 ⟨by omega,by have:=hq n;omega⟩⟩
theorem goalAt_get {a:Au} {k:Nat} (h:k < a.goals.length):goalAt a k=a.goals[k]:=by
  unfold goalAt
  rw [if_pos (by omega),Int.toNat_natCast,getD_lt h]
theorem mv_mem {l:List Int} {n x:Int}:x∈mv l n↔x - n∈l:=by
  unfold mv
  rw [List.mem_map]
  exact ⟨fun ⟨y,hy,e⟩=>by rw [← e];simpa using hy,fun h=>⟨_,h,by omega⟩⟩
theorem accR_ei {a b:Au} (ga:goodA a=true) (gb:goodA b=true) (w:Nat→Int):AccR (eiT a b) w↔AccR a w∨AccR b w:=by
  have na:=autoN ga
  have nb:=autoN gb
  have fa:=na.f
  have fb:=nb.f
  have sa:=fa.st
  have sb:=fb.st
  constructor
  · rintro ⟨q,q0,q1,q2⟩
    have hgm:∀k,k < max a.goals.length b.goals.length→eiG a b k∈(eiT a b).goals:=fun k hk=>List.mem_map.2 ⟨k,List.mem_range.2 hk,rfl⟩
    have hs:=fun i=>(stepA_ei fa fb).1 (q1 i)
    rcases List.mem_append.1 (show ((q 0:Nat):Int)∈a.first++mv b.first a.states from q0) with h0 | h0
    · have hlt:∀i,q i < a.states.toNat:=by
        intro i
        induction i with
        | zero=>have:=na.fr _ h0;omega
        | succ i ih=>
          rcases hs i with h | ⟨h,_⟩
          · exact (stepA_lt fa h).2
          · omega
      refine .inl ⟨q,h0,fun i=>?_,fun g hg n=>?_⟩
      · rcases hs i with h | ⟨h,_⟩
        · exact h
        · have:=hlt i;omega
      · obtain ⟨k,hk,rfl⟩:=List.mem_iff_getElem.1 hg
        obtain ⟨i,hi,hm⟩:=q2 _ (hgm k (by omega)) n
        refine ⟨i,hi,?_⟩
        rcases List.mem_append.1 (show ((q i:Nat):Int)∈goalAt a k++mv (goalAt b k) a.states from hm) with h | h
        · rwa [goalAt_get hk] at h
        · have:=goalAt_mem nb (mv_mem.1 h)
          have:=hlt i;omega
    · have h0':=mv_mem.1 h0
      have hge:∀i,a.states.toNat≤q i:=by
        intro i
        induction i with
        | zero=>have:=nb.fr _ h0';omega
        | succ i ih=>
          rcases hs i with h | ⟨_,h,_⟩
          · have:=(stepA_lt fa h).1;omega
          · exact h
      have ec:∀i,(((q i - a.states.toNat:Nat):Nat):Int)=(q i:Int) - a.states:=fun i=>by have:=hge i;omega
      refine .inr ⟨fun i=>q i - a.states.toNat,by simp only;rw [ec];exact h0',fun i=>?_,fun g hg n=>?_⟩
      · rcases hs i with h | ⟨_,_,h⟩
        · have:=(stepA_lt fa h).1;have:=hge i;omega
        · exact h
      · obtain ⟨k,hk,rfl⟩:=List.mem_iff_getElem.1 hg
        obtain ⟨i,hi,hm⟩:=q2 _ (hgm k (by omega)) n
        refine ⟨i,hi,?_⟩
        simp only
        rw [ec]
        rcases List.mem_append.1 (show ((q i:Nat):Int)∈goalAt a k++mv (goalAt b k) a.states from hm) with h | h
        · have:=goalAt_mem na h
          have:=hge i;omega
        · have:=mv_mem.1 h
          rwa [goalAt_get hk] at this
  · rintro (⟨q,q0,q1,q2⟩ | ⟨q,q0,q1,q2⟩)
    · refine ⟨q,List.mem_append_left _ q0,fun i=>(stepA_ei fa fb).2 (.inl (q1 i)),fun g hg n=>?_⟩
      obtain ⟨k,hk,rfl⟩:=List.mem_map.1 hg
      obtain ⟨i,hi,hm⟩:=goalAt_of (a:=a) (fun i=>by have:=(stepA_lt fa (q1 i)).1;omega) q2 k n
      exact ⟨i,hi,List.mem_append_left _ hm⟩
    · have ec:∀i,(((q i+a.states.toNat:Nat):Nat):Int) - a.states=(q i:Int):=fun i=>by omega
      refine ⟨fun i=>q i+a.states.toNat,List.mem_append_right _ (mv_mem.2 (by simp only;rw [ec];exact q0)),fun i=>(stepA_ei fa fb).2 (.inr ⟨Nat.le_add_left _ _,Nat.le_add_left _ _,?_⟩),fun g hg n=>?_⟩
      · simpa using q1 i
      · obtain ⟨k,hk,rfl⟩:=List.mem_map.1 hg
        obtain ⟨i,hi,hm⟩:=goalAt_of (a:=b) (fun i=>by have:=(stepA_lt fb (q1 i)).1;omega) q2 k n
        exact ⟨i,hi,List.mem_append_right _ (mv_mem.2 (by simp only;rw [ec];exact hm))⟩
theorem takes_ei {a b:Au} (ga:goodA a=true) (gb:goodA b=true) (gm:goodA (eiT a b)=true) {s l:List Int} (hs:s.length≤24) (hl:1≤l.length∧l.length≤24):twF (wpA (eiT a b) s l)=(twF (wpA a s l) || twF (wpA b s l)):=by
  rw [Bool.eq_iff_iff,Bool.or_eq_true,accR_iff gm hs hl,accR_iff ga hs hl,accR_iff gb hs hl]
  exact accR_ei ga gb _
end Go.Proofs.Ytohkciilfkhomaa
