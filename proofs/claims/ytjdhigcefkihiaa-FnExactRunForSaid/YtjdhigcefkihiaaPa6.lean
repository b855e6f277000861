/- Texts laid together: Ms0 Ms1 Ma6 Mb1 Mg1 Tj0 Tj1 Tj3 Tj4 Tj5 Tk0 Tj6 Tg0 Pf2 Rb3 Hf1 Mf1 Mf2 Mf3 Mf4 Mf5. -/
import Derived.Test.YtjdhigcefkihiaaPa5
import Derived.RangeFuncBox
import Derived.RangeFuncLeaves
import Derived.Shelf.Abstract
import Derived.WalkKit
import Derived.OwnWalkIn
import Derived.TacticsInMore
import Derived.LoopNIn
import Derived.LoopIn
import Derived.Test.YtjdhigcefkihiaaProg
set_option linter.unusedVariables false
set_option linter.unusedSimpArgs false
open Nat renaming reduceAdd→ν1,reduceLeDiff→ν2,reduceLT→ν3,reduceMul→ν4,reduceSub→ν5
open Int renaming reduceToNat→ι1,reduceSub→ι2,reduceAdd→ι3,reduceNeg→ι4
open Array renaming toList→ι5
open Ne renaming symm→ν6
open List renaming forall_mem_cons→ν7
namespace Go.Proofs.Ytjdhigcefkihiaa
open Go Go.Sep Go.Pt
attribute [local irreducible] CallT
theorem tw_split {l:List Int} {n:Int}:∀{k:Nat},k≤l.length→(∀j,j < k→l.getD j default < n)→(k=l.length∨¬l.getD k default < n)→l.takeWhile (· < n)=l.take k∧l.dropWhile (· < n)=l.drop k:=by
  induction l with
  | nil=>intro k hk _ _;simp
  | cons a l ih=>
    intro k hk h1 h2
    cases k with
    | zero=>
      have:¬a < n:=by
        rcases h2 with h2 | h2
        · simp at h2
        · simpa using h2
      simp [this]
    | succ k=>
      have h0:a < n:=by simpa using h1 0 (by omega)
      have:=ih (k:=k) (by simpa using hk) (fun j hj=>by simpa using h1 (j+1) (by omega)) (by
        rcases h2 with h2 | h2
        · left;simpa using h2
        · right;simpa using h2)
      simp [h0,this.1,this.2]
theorem l1Put_spec (l:List Int) (n:Int) (hs:l.Pairwise (· < ·)) (hl:l.length≤100000):Pu Try.prog 100 [Is l,I n] (Is (put l n)):=by
  refine ⟨fun H=>CallT.fin ?_⟩
  refine W100_ok ?_;simp (maxSteps:=1000000) (disch:=first | assumption | (apply ν6;assumption)) only [W100,vz,vu,vv,eqS,eF_,↓c1_,↓c2_,tabs,reduceCtorEq,ι5,↓reduceIte,ν1,ν2,ν3,ν4,ν5,ι1,ι2,ι3,ι4]
  refine L100_0_rule (0:Nat) (fun i=>I i) (fun _=>H) (fun k=>k≤l.length∧∀j,j < k→l.getD j default < n) (fun k=>l.length - k) ⟨⟨by omega,by intros;omega⟩,.refl _,Heap.le_refl _⟩ ?_
  rintro k ⟨hk,ha⟩
  have ins:((k=l.length∨¬l.getD k default < n)∧n∉l)→J100_1 (wkK fun r H'=>r=Is (put l n)∧H'=H) (Is l) (I n) (I k) H:=by
    rintro ⟨h2,hn⟩
    have ht:=tw_split hk ha h2
    (try simp (maxSteps:=1000000) (disch:=first | assumption | (apply ν6;assumption)) only [vz,vu,vv,eqS,eF_,↓c1_,↓c2_,tabs,reduceCtorEq,ι5,↓reduceIte,ν1,ν2,ν3,ν4,ν5,ι1,ι2,ι3,ι4,J100_1])
    refine lit0I fun q0 hq0=>?_
    (try simp (maxSteps:=1000000) (disch:=first | assumption | (apply ν6;assumption)) only [vz,vu,vv,eqS,eF_,↓c1_,↓c2_,tabs,reduceCtorEq,ι5,↓reduceIte,ν1,ν2,ν3,ν4,ν5,ι1,ι2,ι3,ι4,sliceV])
    refine ⟨by omega,by omega,by omega,szI l,?_⟩
    have hlt:(l.take k).length=k:=by rw [List.length_take,Nat.min_eq_left hk]
    refine app_topI (xs:=[]) (ys:=l.take k) hq0 (by simp only [List.length_nil,hlt];omega) fun q1 hq1=>?_
    rw [List.nil_append]
    refine push_topI hq1 (by omega) fun q2 hq2=>?_
    (try simp (maxSteps:=1000000) (disch:=first | assumption | (apply ν6;assumption)) only [vz,vu,vv,eqS,eF_,↓c1_,↓c2_,tabs,reduceCtorEq,ι5,↓reduceIte,ν1,ν2,ν3,ν4,ν5,ι1,ι2,ι3,ι4,sliceV])
    refine ⟨by omega,by omega,by omega,szI l,?_⟩
    have e1:List.take ((l.length:Int) - k).toNat (l.drop k)=l.drop k:=List.take_of_length_le (by rw [List.length_drop];omega)
    rw [e1]
    have e2:l.take k++[n]++l.drop k=put l n:=by rw [put,if_neg hn,ht.1,ht.2];simp
    refine app_topI (xs:=l.take k++[n]) (ys:=l.drop k) hq2 (by simp only [List.length_append,hlt,List.length_drop,List.length_singleton];omega) fun q3 hq3=>?_
    rw [e2]
    exact fin_int hq3 (Heap.le_refl _)
  have here:(k=l.length∨¬l.getD k default < n)→J100_2 (wkK fun r H'=>r=Is (put l n)∧H'=H) (Is l) (I n) (I k) H:=by
    intro h2
    have ht:=tw_split hk ha h2
    have ge:∀x∈l.drop k,n≤x:=by rw [← ht.2];exact drop_ge hs
    have lt:∀x∈l.take k,x < n:=by rw [← ht.1];exact take_lt
    (try simp (maxSteps:=1000000) (disch:=first | assumption | (apply ν6;assumption)) only [vz,vu,vv,eqS,eF_,↓c1_,↓c2_,tabs,reduceCtorEq,ι5,↓reduceIte,ν1,ν2,ν3,ν4,ν5,ι1,ι2,ι3,ι4,J100_2])
    refine ⟨fun h3=>⟨by omega,h3,fun h4=>?_,fun h4=>ins ⟨h2,fun hm=>?_⟩⟩,fun h3=>ins ⟨h2,fun hm=>?_⟩⟩
    · have hkl:k < l.length:=by omega
      have hm:n∈l:=by rw [← h4];exact getD_all (p:=fun x=>x∈l) (fun _ h=>h) hkl
      exact wkK.keep ⟨by rw [put,if_pos hm],rfl⟩
    · have hkl:k < l.length:=by omega
      rw [← List.take_append_drop k l] at hm
      rcases List.mem_append.1 hm with hm | hm
      · have:=lt n hm;omega
      · rw [drop_cons hkl] at hm ge
        rcases List.mem_cons.1 hm with hm | hm
        · exact h4 hm.symm
        · have h5:=ge _ (List.mem_cons_self ..)
          have h6:(l.drop k).Pairwise (· < ·):=List.Pairwise.sublist (List.drop_sublist k l) hs
          rw [drop_cons hkl,List.pairwise_cons] at h6
          have:=h6.1 n hm
          omega
    · rw [← List.take_append_drop k l,List.drop_of_length_le (by omega),List.append_nil] at hm
      have:=lt n hm;omega
  (try simp (maxSteps:=1000000) (disch:=first | assumption | (apply ν6;assumption)) only [vz,vu,vv,eqS,eF_,↓c1_,↓c2_,tabs,reduceCtorEq,ι5,↓reduceIte,ν1,ν2,ν3,ν4,ν5,ι1,ι2,ι3,ι4,B100_0])
  refine ⟨fun h1=>⟨by omega,h1,fun h2=>⟨k+1,⟨by omega,fun j hj=>?_⟩,by omega,?_⟩,fun h2=>here (.inr h2)⟩,fun h1=>here (.inl (by omega))⟩
  · rcases Nat.lt_succ_iff_lt_or_eq.1 hj with h | rfl
    · exact ha j h
    · exact h2
  · rw [wk_int,i64_id (by omega) (by omega)];simp
end Go.Proofs.Ytjdhigcefkihiaa
namespace Go.Proofs.Ytjdhigcefkihiaa
open Go Go.Sep Go.Pt
attribute [local irreducible] CallT
theorem rn_appI {H G:Heap} {Ts:List Th} {x:AV} {xs ys:List Int} {D:List Nat} (s:St H Ts G) (i:Nat) (hi:Ts[i]?=some (rnI x xs D)) (hl:xs.length+ys.length≤1000000) {K:AV→Heap→Prop}
    (h:∀q' G',G q'=none→St H (Ts.set i (rnI (rowP q' (xs++ys)) (xs++ys) [q'])) G'→K (rowP q' (xs++ys)) G'):appendV tab 23 23 x (Is ys) G (wkK K):=
  RN.app (bz:=8) tab_23 rfl tab_3 tab_23 rfl rfl rfl (fun _=>rfl) s i hi rfl (by omega) (by omega) h
abbrev rnG (x:AV) (gs:List (List Int)) (D:List Nat):Th:=rnT LIc.local LIc.has 1 x gs D
theorem rn_pushL {H G:Heap} {Ts:List Th} {qn ql:Nat} {x:AV} {gs:List (List Int)} {l:List Int} {D:List Nat} (s:St H (cellT ql [rowP qn l]::cellT qn (cP fI l)::Ts) G) (i:Nat) (hi:Ts[i]?=some (rnG x gs D)) (hlen:gs.length≤100000) {K:AV→Heap→Prop}
    (h:∀q' D' G',G q'=none→St H (Ts.set i (rnG (.sl q' 1 0 (gs.length+1)) (gs++[l]) D')) G'→K (.sl q' 1 0 (gs.length+1)) G'):appendV tab 110 110 x (.sl ql 1 0 1) G (wkK K):=by
  have s1:=(s.pick (i+2) hi).perm (Us:=[rnG x gs D,cellT ql [rowP qn l],cellT qn (cP fI l)]++Ts.eraseIdx i) (List.Perm.refl _)
  have hrz:RN LIc 1 x gs G D:=s1.get 0 rfl
  have hql:G ql=some [rowP qn l]:=s1.get 1 rfl
  have hqn:G qn=some (cP fI l):=s1.get 2 rfl
  have fin:∀q' D' G',G q'=none→LRow LIc 1 (gs++[l]) (.sl q' 1 0 (gs.length+1)) G' D'→D'.Nodup→(∀y∈D',y∈D∨y=qn∨y=q')→(∀y b,G y=some b→y∉D→y≠ql→y≠qn→G' y=some b)→K (.sl q' 1 0 (gs.length+1)) G':=by
    intro q' D' G' hq' hrow hnd hsub hfr
    refine h q' D' G' hq' ?_
    have s2:=s1.step [rnG (.sl q' 1 0 (gs.length+1)) (gs++[l]) D'] (by simpa [rnT] using hnd) (fun t ht y hy=>by
      rw [List.mem_singleton] at ht;subst ht
      rcases hsub y hy with h1 | h1 | h1
      · exact .inl ⟨rnG x gs D,by simp,h1⟩
      · exact .inl ⟨cellT qn (cP fI l),by simp,by rw [h1];simp [cellT]⟩
      · exact .inr (by rw [h1];exact hq')) (fun y b hb hy=>hfr y b hb (hy (rnG x gs D) (by simp)) (fun e=>hy (cellT ql [rowP qn l]) (by simp) (by rw [e];simp [cellT])) (fun e=>hy (cellT qn (cP fI l)) (by simp) (by rw [e];simp [cellT]))) (fun t ht=>by
      rw [List.mem_singleton] at ht;subst ht;exact .inr hrow)
    obtain ⟨hi',-⟩:=List.getElem?_eq_some_iff.1 hi
    exact s2.perm (perm_set Ts i hi' _).symm
  have nqn:∀{q'},G q'=none→q'≠qn:=fun hq' e=>by rw [e,hqn] at hq';cases hq'
  have nql:∀{q'},G q'=none→q'≠ql:=fun hq' e=>by rw [e,hql] at hq';cases hq'
  have dq:qn∉D:=fun hm=>(s1.disjI 0 2 rfl rfl (by decide)) qn hm (by simp [cellT])
  have nnl:qn≠ql:=fun e=>by
    have:=(s1.disjI 1 2 rfl rfl (by decide)) ql (by simp [cellT])
    exact this (by simp [cellT,e])
  have nd:=s1.ndT 0 rfl
  simp only [appendV,tab_110,tab_23,srcV,hql]
  rcases hrz with ⟨rfl,rfl,rfl⟩ | ⟨q,cs,D',rfl,hq,hll,rfl⟩
  · simp only [baseV]
    refine ⟨trivial,by simp,by omega,by omega,rfl,fun q' hq'=>wkK.keep ?_⟩
    refine fin q' [q',qn] _ hq' ⟨q',[rowP qn l],[qn],rfl,Heap.set_same _ _ _,⟨[rowP qn l],[],[qn],[],rfl,by simp,⟨_,rfl,LI_mk' (by rw [Heap.set_other (Ne.symm (nqn hq'))];exact hqn)⟩,⟨rfl,rfl⟩⟩,rfl⟩ (by simp [nqn hq']) (fun y hy=>?_) (fun y b hb _ _ _=>Heap.le_set hq' y b hb)
    simp only [List.mem_cons,List.not_mem_nil,or_false] at hy
    rcases hy with rfl | rfl<;>simp
  · have hcl:cs.length=gs.length:=by rw [LL.size LIc.size hll,Nat.mul_one]
    simp only [baseV,hq]
    have e1:List.take (gs.length*1) (List.drop 0 cs)=cs:=by rw [List.drop_zero,Nat.mul_one,← hcl,List.take_length]
    have e2:List.take (1*1) (List.drop 0 [rowP qn l])=[rowP qn l]:=rfl
    refine ⟨trivial,by simp,trivial,by omega,by omega,by omega,rfl,fun q' hq'=>wkK.keep ?_⟩
    rw [e1,e2]
    have nq:q'≠q:=fun e=>by rw [e,hq] at hq';cases hq'
    have old:∀y b,G y=some b→y≠q→((G.del q).set q' (cs++[rowP qn l])) y=some b:=fun y b hb hy=>by
      rw [Heap.set_other (fun e=>by rw [e,hq'] at hb;cases hb),Heap.del_other hy];exact hb
    simp only [rnT,List.nodup_cons] at nd
    simp only [List.mem_cons,not_or] at dq
    have hq'D:q'∉D':=fun hm=>LL.has LIc.has hll q' hm hq'
    refine fin q' (q'::(D'++[qn])) _ hq' ⟨q',cs++[rowP qn l],D'++[qn],by simp,Heap.set_same _ _ _,LL.snoc ⟨_,rfl,LI_mk' (old _ _ hqn dq.1)⟩ (LL.local LIc.local hll fun y hy b hb=>old y b hb (fun e=>nd.1 (e ▸ hy))),rfl⟩ ?_ (fun y hy=>?_) (fun y b hb hy h5 h6=>?_)
    · rw [List.nodup_cons,List.nodup_append]
      refine ⟨by simp only [List.mem_append,List.mem_singleton,not_or];exact ⟨hq'D,nqn hq'⟩,nd.2,by simp,fun a ha b hb e=>?_⟩
      rw [List.mem_singleton] at hb
      exact dq.2 (by rw [← hb,← e];exact ha)
    · simp only [List.mem_cons,List.mem_append,List.not_mem_nil,or_false] at hy ⊢
      rcases hy with rfl | hy | rfl
      · exact .inr (.inr rfl)
      · exact .inl (.inr hy)
      · exact .inr (.inl rfl)
    · rw [List.mem_cons,not_or] at hy
      exact old y b hb hy.1
end Go.Proofs.Ytjdhigcefkihiaa
namespace Go.Proofs.Ytjdhigcefkihiaa
open Go Go.Sep Go.Pt
attribute [local irreducible] CallT
structure GoodF (a:Au):Prop where
  st:1≤a.states∧a.states≤96
  fi:smI a.first∧a.first.length≤96
  ed:a.edges.length≤2400
  ei:∀e∈a.edges,edIn a.states e=true
  gl:a.goals.length≤6
  gi:∀g∈a.goals,smI g∧g.length≤96
end Go.Proofs.Ytjdhigcefkihiaa
namespace Go.Proofs.Ytjdhigcefkihiaa
open Go Go.Sep Go.Pt
attribute [local irreducible] CallT
end Go.Proofs.Ytjdhigcefkihiaa
namespace Go.Proofs.Ytjdhigcefkihiaa
open Go Go.Sep Go.Pt
attribute [local irreducible] CallT
structure GoodX (a:Au):Prop where
  st:1≤a.states∧a.states≤100000
  ed:a.edges.length≤400000
  ei:∀e∈a.edges,edIn a.states e=true
theorem GoodF.x {a:Au} (f:GoodF a):GoodX a:=⟨by have:=f.st;omega,by have:=f.ed;omega,f.ei⟩
end Go.Proofs.Ytjdhigcefkihiaa
namespace Go.Pt
inductive Rch (E:Nat→Nat→Prop):Nat→Nat→Prop
  | refl (a:Nat):Rch E a a
  | step {a b c:Nat} (h:E a b) (t:Rch E b c):Rch E a c
theorem Rch.trans {E:Nat→Nat→Prop} {a b c:Nat} (h:Rch E a b) (k:Rch E b c):Rch E a c:=by
  induction h with
  | refl=>exact k
  | step h t ih=>exact .step h (ih k)
theorem Rch.one {E:Nat→Nat→Prop} {a b:Nat} (h:E a b):Rch E a b:=.step h (.refl _)
theorem Rch.snoc {E:Nat→Nat→Prop} {a b c:Nat} (h:Rch E a b) (k:E b c):Rch E a c:=h.trans (.one k)
theorem Rch.keep {E:Nat→Nat→Prop} {P:Nat→Prop} {a b:Nat} (h:Rch E a b) (ha:P a) (hk:∀x y,P x→E x y→P y):P b:=by
  induction h with
  | refl=>exact ha
  | step h t ih=>exact ih (hk _ _ ha h)
theorem Rch.mono {E F:Nat→Nat→Prop} {a b:Nat} (h:Rch E a b) (hk:∀x y,E x y→F x y):Rch F a b:=by
  induction h with
  | refl=>exact .refl _
  | step h t ih=>exact .step (hk _ _ h) ih
def Con (E:Nat→Nat→Prop) (a b:Nat):Prop:=Rch E a b∧Rch E b a
theorem Con.refl {E:Nat→Nat→Prop} (a:Nat):Con E a a:=⟨.refl _,.refl _⟩
theorem Con.symm {E:Nat→Nat→Prop} {a b:Nat} (h:Con E a b):Con E b a:=⟨h.2,h.1⟩
theorem Con.trans {E:Nat→Nat→Prop} {a b c:Nat} (h:Con E a b) (k:Con E b c):Con E a c:=⟨h.1.trans k.1,k.2.trans h.2⟩
def Least (E:Nat→Nat→Prop) (a m:Nat):Prop:=Con E a m∧∀u,Con E a u→m≤u
theorem Least.ex (E:Nat→Nat→Prop) (a:Nat):∃m,Least E a m:=by
  suffices h:∀n,(∃u,Con E a u∧u≤n)→∃m,Least E a m from h a ⟨a,.refl a,Nat.le_refl _⟩
  intro n
  induction n with
  | zero=>rintro ⟨u,h1,h2⟩;exact ⟨u,h1,fun w _=>by omega⟩
  | succ n ih=>
    rintro ⟨u,h1,h2⟩
    by_cases h:∃u,Con E a u∧u≤n
    · exact ih h
    · exact ⟨u,h1,fun w hw=>Nat.le_of_not_lt fun hl=>h ⟨w,hw,by omega⟩⟩
noncomputable def partF (E:Nat→Nat→Prop) (a:Nat):Nat:=Classical.choose (Least.ex E a)
end Go.Pt
namespace Go.Pt
def updI (f:Nat→Int) (v:Nat) (x:Int):Nat→Int:=fun u=>if u=v then x else f u
theorem updI_same (f:Nat→Int) (v:Nat) (x:Int):updI f v x v=x:=if_pos rfl
theorem updI_ne (f:Nat→Int) {u v:Nat} (x:Int) (h:u≠v):updI f v x u=f u:=if_neg h
structure TS where
  fd:Nat→Int
  lw:Nat→Int
  pt:Nat→Int
  st:List Nat
  vs:Int
def cntF (fd:Nat→Int) (n:Nat):Nat:=(List.range n).countP fun v=>decide (fd v≠0)
structure TInv (E:Nat→Nat→Prop) (n:Nat) (gray:List Nat) (s:TS):Prop where
  cnt:s.vs=cntF s.fd n
  fd0:∀v,0≤s.fd v
  fdv:∀v,s.fd v≤s.vs
  fdn:∀v,s.fd v≠0→v < n
  stp:s.st.Pairwise (fun u v=>s.fd u < s.fd v)
  stm:∀v,v∈s.st↔s.fd v≠0∧s.pt v < 0
  don:∀v,0≤s.pt v→s.fd v≠0∧(∃m:Nat,Least E v m∧s.pt v=m)∧∀w,E v w→0≤s.pt w
  blk:∀v,s.fd v≠0→v∉gray→∀w,E v w→s.fd w≠0
  gst:∀x∈gray,x∈s.st
  gto:∀x∈gray,∀y∈s.st,s.fd x≤s.fd y→Rch E x y
  tog:∀y∈s.st,∃x∈gray,s.fd x≤s.fd y∧Rch E y x
structure TPost (E:Nat→Nat→Prop) (s s':TS) (v:Nat):Prop where
  fdk:∀u,s.fd u≠0→s'.fd u=s.fd u
  lwk:∀u,s.fd u≠0→s'.lw u=s.lw u
  new:∀u,s.fd u=0→s'.fd u≠0→s.vs < s'.fd u
  fv:s'.fd v≠0
  vs:s.vs≤s'.vs
  stk:∃s2,s'.st=s.st++s2∧(∀x∈s2,s.fd x=0)∧∀x∈s2,∀y∈s.st,E x y→s'.lw v≤s'.fd y
  low:s'.lw v≤s'.fd v
  lowv:v∉s'.st→s'.lw v=s'.fd v
  lows:v∈s'.st→∃y∈s'.st,s'.fd y=s'.lw v∧Rch E v y
structure TLoop (E:Nat→Nat→Prop) (n:Nat) (gray:List Nat) (s:TS) (v:Nat) (done:Nat→Prop) (t:TS):Prop where
  inv:TInv E n (v::gray) t
  fdk:∀u,s.fd u≠0→t.fd u=s.fd u
  lwk:∀u,s.fd u≠0→t.lw u=s.lw u
  new:∀u,s.fd u=0→t.fd u≠0→s.vs < t.fd u
  fv:t.fd v=s.vs+1
  vs:s.vs+1≤t.vs
  stk:∃s2,t.st=s.st++v::s2∧(∀x∈s2,s.fd x=0)∧∀x∈s2,∀y∈s.st,E x y→t.lw v≤t.fd y
  low:t.lw v≤t.fd v
  lows:∃y∈t.st,t.fd y=t.lw v∧Rch E v y
  don:∀w,done w→t.fd w≠0∧(w∈s.st→t.lw v≤t.fd w)
theorem TLoop.done {E:Nat→Nat→Prop} {n:Nat} {gray:List Nat} {s t:TS} {v:Nat} {d d':Nat→Prop} (h:TLoop E n gray s v d t) (hd:∀u,d' u→d u):TLoop E n gray s v d' t:=⟨h.inv,h.fdk,h.lwk,h.new,h.fv,h.vs,h.stk,h.low,h.lows,fun w hw=>h.don w (hd w hw)⟩
def TS.push (s:TS) (v:Nat):TS:=⟨updI s.fd v (s.vs+1),updI s.lw v (s.vs+1),s.pt,s.st++[v],s.vs+1⟩
def TS.low (t:TS) (v:Nat) (x:Int):TS:={ t with lw:=updI t.lw v x }
def TS.zero:TS:=⟨fun _=>0,fun _=>0,fun _=>-1,[],0⟩
end Go.Pt
namespace Go.Pt
structure BS where
  s:Nat→Int
  q:List Nat
def bput (d:Int) (b:BS) (w:Nat):BS:=if b.s w < 0 then ⟨updI b.s w d,b.q++[w]⟩ else b
def bstep (row:Nat→List Nat) (b:BS):BS:=
  match b.q with
  | []=>b
  | k::q=>(row k).foldl (bput (b.s k+1)) ⟨b.s,q⟩
def bini (some:List Nat):BS:=⟨fun v=>if v∈some then 0 else -1,some⟩
def bst (row:Nat→List Nat) (some:List Nat):Nat→BS
  | 0=>bini some
  | i+1=>bstep row (bst row some i)
def farF (row:Nat→List Nat) (n:Nat) (some:List Nat):Nat→Int:=(bst row some (n+some.length)).s
def cntU (s:Nat→Int) (n:Nat):Nat:=(List.range n).countP fun v=>decide (s v < 0)
theorem cntU_upd {s:Nat→Int} {n v:Nat} {x:Int} (h:v < n) (h0:s v < 0) (hx:0≤x):cntU (updI s v x) n+1=cntU s n:=by
  unfold cntU
  induction n with
  | zero=>omega
  | succ n ih=>
    rw [List.range_succ,List.countP_append,List.countP_append]
    by_cases e:v=n
    · subst e
      have:List.countP (fun u=>decide (updI s v x u < 0)) (List.range v)=List.countP (fun u=>decide (s u < 0)) (List.range v):=by
        apply List.countP_congr
        intro u hu
        have:=List.mem_range.1 hu
        rw [updI_ne _ _ (by omega)]
      rw [this]
      have:¬x < 0:=by omega
      simp [updI_same,h0,this]
    · have:=ih (by omega)
      have e2:List.countP (fun u=>decide (updI s v x u < 0)) [n]=List.countP (fun u=>decide (s u < 0)) [n]:=by
        simp [updI_ne s x (show n≠v by omega)]
      rw [e2];omega
structure BInv (row:Nat→List Nat) (n:Nat) (some:List Nat) (i:Nat) (b:BS):Prop where
  lo:∀v,-1≤b.s v
  hi:∀v,b.s v≤i
  z:∀v,b.s v=0↔v∈some
  pre:∀v,0 < b.s v→∃u,v∈row u∧b.s v=b.s u+1
  qq:∀v,0≤b.s v→v∈b.q∨∀w∈row v,0≤b.s w
  qs:∀v∈b.q,0≤b.s v
  lt:∀v,0≤b.s v→v < n
  ms:b.q.length+cntU b.s n+i≤n+some.length
structure BRow (n:Nat) (k:Nat) (d:Int) (b0:BS) (l:List Nat) (b:BS):Prop where
  old:∀v,0≤b0.s v→b.s v=b0.s v
  new:∀v,b0.s v < 0→b.s v=b0.s v∨(b.s v=d∧v∈l∧v < n∧v∈b.q)
  inq:∀v∈b.q,v∈b0.q∨0≤b.s v
  keep:∀v∈b0.q,v∈b.q
  all:∀v∈l,0≤b.s v
  ms:b.q.length+cntU b.s n=b0.q.length+cntU b0.s n
theorem BRow.nil (n k:Nat) (d:Int) (b:BS):BRow n k d b [] b:=⟨fun _ _=>rfl,fun _ _=>.inl rfl,fun _ h=>.inl h,fun _ h=>h,fun _ h=>(by cases h),rfl⟩
theorem BRow.snoc {n k:Nat} {d:Int} {b0 b:BS} {l:List Nat} {w:Nat} (h:BRow n k d b0 l b) (hd:0≤d) (hw:w < n):BRow n k d b0 (l++[w]) (bput d b w):=by
  unfold bput
  split
  · rename_i hn
    have hw0:b0.s w < 0:=Int.not_le.1 fun hk=>by have:=h.old w hk;omega
    refine ⟨fun v hv=>?_,fun v hv=>?_,fun v hv=>?_,fun v hv=>List.mem_append_left _ (h.keep v hv),fun v hv=>?_,?_⟩
    · have:v≠w:=fun e=>by subst e;omega
      show updI _ _ _ v=_;rw [updI_ne _ _ this];exact h.old v hv
    · show updI _ _ _ v=_∨_
      by_cases e:v=w
      · subst e
        exact .inr ⟨updI_same _ _ _,by simp,hw,by simp⟩
      · rcases h.new v hv with k1 | ⟨k1,k2,k3,k4⟩
        · exact .inl (by rw [updI_ne _ _ e];exact k1)
        · exact .inr ⟨by show updI _ _ _ v=_;rw [updI_ne _ _ e];exact k1,List.mem_append_left _ k2,k3,List.mem_append_left _ k4⟩
    · show _∨0≤updI _ _ _ v
      by_cases e:v=w
      · subst e;rw [updI_same];exact .inr hd
      · rcases List.mem_append.1 hv with hv | hv
        · rcases h.inq v hv with k1 | k1
          · exact .inl k1
          · exact .inr (by rw [updI_ne _ _ e];exact k1)
        · exact absurd (List.mem_singleton.1 hv) e
    · show 0≤updI _ _ _ v
      by_cases e:v=w
      · subst e;rw [updI_same];exact hd
      · rw [updI_ne _ _ e]
        rcases List.mem_append.1 hv with hv | hv
        · exact h.all v hv
        · exact absurd (List.mem_singleton.1 hv) e
    · have:=cntU_upd hw hn hd
      have:=h.ms
      simp only [List.length_append,List.length_singleton]
      omega
  · rename_i hn
    refine ⟨h.old,fun v hv=>?_,h.inq,h.keep,fun v hv=>?_,h.ms⟩
    · rcases h.new v hv with k1 | ⟨k1,k2,k3,k4⟩
      · exact .inl k1
      · exact .inr ⟨k1,List.mem_append_left _ k2,k3,k4⟩
    · rcases List.mem_append.1 hv with hv | hv
      · exact h.all v hv
      · rw [List.mem_singleton] at hv;subst hv;omega
end Go.Pt
namespace Go.Pt
abbrev ArcOf (row:Nat→List Nat) (a b:Nat):Prop:=b∈row a
def bput1 (s:Nat→Int) (best:Int) (v:Nat):Int:=if 0≤s v∧(best < 0∨s v < s best.toNat) then (v:Int) else best
def bestF (s:Nat→Int) (l:List Nat):Int:=l.foldl (bput1 s) (-1)
def nxtF (s:Nat→Int) (row:Nat→List Nat) (v:Nat):Nat:=((row v).find? fun w=>decide (s w=s v - 1)).getD 0
def itF (s:Nat→Int) (row:Nat→List Nat) (v:Nat):Nat→Nat
  | 0=>v
  | k+1=>nxtF s row (itF s row v k)
def wayF (s:Nat→Int) (row:Nat→List Nat) (v:Nat):List Nat:=(List.range ((s v).toNat+1)).map (itF s row v)
structure Near (s:Nat→Int) (row:Nat→List Nat):Prop where
  nx:∀v,0 < s v→∃w∈row v,s w=s v - 1
def Way (row:Nat→List Nat) (l:List Nat):Prop:=∀i,i+1 < l.length→l.getD (i+1) 0∈row (l.getD i 0)
def turnF (row:Nat→List Nat) (n:Nat) (w:Nat):List Nat:=(List.range n).flatMap fun v=>((row v).filter fun u=>decide (u=w)).map fun _=>v
structure GrOk (row:Nat→List Nat) (n:Nat):Prop where
  lt:∀v,∀w∈row v,w < n
  out:∀v,n≤v→row v=[]
theorem GrOk.src {row:Nat→List Nat} {n:Nat} (h:GrOk row n) {v w:Nat} (hw:w∈row v):v < n:=by
  refine Nat.lt_of_not_le fun hk=>?_
  rw [h.out v hk] at hw;cases hw
def toF (row:Nat→List Nat) (n:Nat) (to:List Nat):Nat→Int:=farF (turnF row n) n to
def lwayF (row:Nat→List Nat) (n:Nat) (some to:List Nat):List Nat:=if bestF (toF row n to) some < 0 then [] else wayF (toF row n to) row (bestF (toF row n to) some).toNat
structure LWay (row:Nat→List Nat) (some to:List Nat) (l:List Nat):Prop where
  pos:0 < l.length
  fst:l.getD 0 0∈some
  way:Way row l
  lst:l.getD (l.length - 1) 0∈to
def FairP (row:Nat→List Nat) (goals:List (List Nat)) (v:Nat):Prop:=
  (∃a b,Con (ArcOf row) v a∧Con (ArcOf row) v b∧b∈row a)∧∀g∈goals,∃x∈g,Con (ArcOf row) v x
open Classical in
noncomputable def fairF (row:Nat→List Nat) (goals:List (List Nat)) (v:Nat):Bool:=decide (FairP row goals v)
noncomputable def meetF (row:Nat→List Nat) (n:Nat) (some:List Nat) (goals:List (List Nat)):Int:=bestF (farF row n some) ((List.range n).filter (fairF row goals))
open Classical in
noncomputable def inF (row:Nat→List Nat) (v:Nat):List Nat:=(row v).filter fun w=>decide (Con (ArcOf row) v w)
open Classical in
noncomputable def in1F (row:Nat→List Nat) (m:Nat) (v:Nat):List Nat:=if Con (ArcOf row) m v then (row v).filter fun w=>decide (Con (ArcOf row) m w) else []
end Go.Pt
namespace Go.Pt
theorem gD_mem {l:List Nat} {i:Nat} (h:i < l.length):l.getD i 0∈l:=by simp [List.getD,List.getElem?_eq_getElem h]
def lastF (l:List Nat):Nat:=l.getD (l.length - 1) 0
open Classical in
noncomputable def ownF (row:Nat→List Nat) (m:Nat) (g:List Nat):List Nat:=g.filter fun v=>decide (Con (ArcOf row) m v)
noncomputable def legF (row:Nat→List Nat) (n m:Nat) (acc g:List Nat):List Nat:=acc++(lwayF (inF row) n [lastF acc] (ownF row m g)).tail
noncomputable def loopF (row:Nat→List Nat) (n m:Nat) (goals:List (List Nat)):List Nat:=goals.foldl (legF row n m) [m]
noncomputable def backF (row:Nat→List Nat) (n m:Nat) (acc:List Nat):List Nat:=lwayF (inF row) n (inF row (lastF acc)) [m]
structure LoopI (row:Nat→List Nat) (n m:Nat) (b:Nat) (gs:List (List Nat)) (acc:List Nat):Prop where
  ne:0 < acc.length
  hd:acc.getD 0 0=m
  con:∀x∈acc,Con (ArcOf row) m x
  lt:∀x∈acc,x < n
  way:Way (inF row) acc
  met:∀g∈gs,∃x∈acc,x∈g
  len:acc.length≤1+gs.length*(n+b)
theorem LoopI.last {row:Nat→List Nat} {n m b:Nat} {met:List (List Nat)} {acc:List Nat} (h:LoopI row n m b met acc):Con (ArcOf row) m (lastF acc)∧lastF acc < n:=by
  have:=gD_mem (l:=acc) (i:=acc.length - 1) (by have:=h.ne;omega)
  exact ⟨h.con _ this,h.lt _ this⟩
noncomputable def stemF (row:Nat→List Nat) (n m:Nat) (some:List Nat):List Nat:=(lwayF row n some [m]).dropLast
noncomputable def ringF (row:Nat→List Nat) (n m:Nat) (goals:List (List Nat)):List Nat:=loopF row n m goals++(backF row n m (loopF row n m goals)).dropLast
structure FairL (row:Nat→List Nat) (some:List Nat) (goals:List (List Nat)) (stem loop:List Nat):Prop where
  ne:0 < loop.length
  fst:(stem++loop).getD 0 0∈some
  way:Way row (stem++loop++[loop.getD 0 0])
  met:∀g∈goals,∃x∈loop,x∈g
end Go.Pt
namespace Go.Pt
end Go.Pt
namespace Go.Pt
section
variable (row:Nat→List Nat) (pf:Nat→Nat)
def ha1 (g:List Nat) (j:Nat) (p:Nat):Bool:=(g.take j).any fun v=>decide (pf v=p)
end
noncomputable def aw1 (row:Nat→List Nat) (k:Nat) (p:Nat):Bool:=(List.range k).any fun v=>decide (partF (ArcOf row) v=p∧0 < (inF row v).length)
def rwF (g:List (List Nat)) (v:Nat):List Nat:=g.getD v []
theorem rwF_out {g:List (List Nat)} {v:Nat} (h:g.length≤v):rwF g v=[]:=by simp [rwF,List.getD,List.getElem?_eq_none h]
theorem rwF_ok {g:List (List Nat)} (h:∀l∈g,∀x∈l,x < g.length):GrOk (rwF g) g.length:=by
  refine ⟨fun v w hw=>?_,fun v hv=>rwF_out hv⟩
  by_cases hv:v < g.length
  · refine h (rwF g v) ?_ w hw
    simp [rwF,List.getD,hv]
  · rw [rwF_out (by omega)] at hw;cases hw
def prT (g:List (List Nat)) (k j:Nat):List (Nat×Nat):=((List.range k).flatMap fun v=>(rwF g v).map fun w=>(w,v))++((rwF g k).take j).map fun w=>(w,k)
theorem prT_next (g:List (List Nat)) (k:Nat):prT g k (rwF g k).length=prT g (k+1) 0:=by simp [prT,List.range_succ,List.flatMap_append]
end Go.Pt
namespace Go.Proofs.Ytjdhigcefkihiaa
open Go Go.Sep Go.Pt
attribute [local irreducible] CallT
abbrev U64 (n:Int):AV:=.p (.int .u64 n)
theorem and32 (n:Nat) (hn:n < 4294967296):bitsI .and .u64 (n:Int) 4294967295=n:=by
  have h:(BitVec.ofInt IntKind.u64.bits (n:Int) &&& BitVec.ofInt IntKind.u64.bits 4294967295).toNat=n:=by
    rw [BitVec.toNat_and]
    have e1:(BitVec.ofInt IntKind.u64.bits (n:Int)).toNat=n:=by
      rw [BitVec.toNat_ofInt]
      show ((n:Int) % 18446744073709551616).toNat=n
      omega
    have e2:(BitVec.ofInt IntKind.u64.bits 4294967295).toNat=2^32 - 1:=by decide
    rw [e1,e2,Nat.and_two_pow_sub_one_eq_mod,Nat.mod_eq_of_lt hn]
  simp only [bitsI,h]
  rw [IntKind.wrap_u64];omega
theorem shr32 (n:Nat) (hn:n < 4294967296):(n:Int).fdiv (2^min 32 IntKind.u64.bits)=0:=by
  show (n:Int).fdiv (2^32)=0
  rw [Int.fdiv_eq_ediv_of_nonneg _ (by decide)]
  omega
theorem u64_id {n:Int} (h0:0≤n) (h1:n < 18446744073709551616):IntKind.u64.wrap n=n:=by rw [IntKind.wrap_u64];omega
theorem Mul64_one (n:Nat) (hn:n≤1000000000):Pu Try.prog 162 [U64 1,U64 n] (.tup [U64 0,U64 n]):=by
  refine Pu.of fun H=>?_
  have a1:=and32 n (by omega)
  have a2:bitsI .and .u64 1 4294967295=1:=and32 1 (by omega)
  have a3:bitsI .and .u64 0 4294967295=0:=and32 0 (by omega)
  have s1:=shr32 n (by omega)
  have s2:Int.fdiv 1 (2^min 32 IntKind.u64.bits)=0:=shr32 1 (by omega)
  have s3:Int.fdiv 0 (2^min 32 IntKind.u64.bits)=0:=shr32 0 (by omega)
  have w0:IntKind.u64.wrap 0=0:=u64_id (by omega) (by omega)
  have wn:IntKind.u64.wrap (n:Int)=n:=u64_id (by omega) (by omega)
  refine W162_ok ?_;simp (maxSteps:=1000000) (disch:=first | assumption | (apply ν6;assumption)) only [W162,vz,vu,vv,eqS,eF_,↓c1_,↓c2_,tabs,reduceCtorEq,ι5,↓reduceIte,ν1,ν2,ν3,ν4,ν5,ι1,ι2,ι3,ι4,a1,a2,s1,s2,s3,Int.zero_mul,Int.one_mul,Int.mul_zero,Int.zero_add,Int.add_zero,w0,wn,a3]
  simp
theorem Mul_one (n:Nat) (hn:n≤1000000000):Pu Try.prog 158 [U64 1,U64 n] (.tup [U64 0,U64 n]):=by
  refine Pu.of fun H=>?_
  refine W158_ok ?_;simp (maxSteps:=1000000) (disch:=first | assumption | (apply ν6;assumption)) only [W158,vz,vu,vv,eqS,eF_,↓c1_,↓c2_,tabs,reduceCtorEq,ι5,↓reduceIte,ν1,ν2,ν3,ν4,ν5,ι1,ι2,ι3,ι4]
  refine Pu.use (Mul64_one n hn) ?_
  (try simp (maxSteps:=1000000) (disch:=first | assumption | (apply ν6;assumption)) only [vz,vu,vv,eqS,eF_,↓c1_,↓c2_,tabs,reduceCtorEq,ι5,↓reduceIte,ν1,ν2,ν3,ν4,ν5,ι1,ι2,ι3,ι4])
  first | done | exact ⟨rfl,Heap.le_refl _⟩ | exact Heap.le_refl _
theorem cP_rep (n:Nat):zerosA n [I 0]=cP fI (List.replicate n 0):=by
  induction n with
  | zero=>rfl
  | succ n ih=>rw [zerosA_succ,ih,List.replicate_succ];rfl
structure GrB (g:List (List Nat)):Prop where
  ok:∀l∈g,∀x∈l,x < g.length
  n:g.length≤100000
  arcs:(prT g g.length 0).length≤500000
theorem GrB.gr {g:List (List Nat)} (h:GrB g):GrOk (rwF g) g.length:=rwF_ok h.ok
theorem prT_len_mono (g:List (List Nat)) {k m:Nat} (h:k≤m):(prT g k 0).length≤(prT g m 0).length:=by
  induction m with
  | zero=>rw [Nat.le_zero.1 h];exact Nat.le_refl _
  | succ m ih=>
    rcases Nat.lt_or_eq_of_le h with h | rfl
    · refine Nat.le_trans (ih (by omega)) ?_
      rw [← prT_next g m]
      simp only [prT,List.length_append,List.take_zero,List.map_nil,List.length_nil]
      omega
    · exact Nat.le_refl _
theorem GrB.pr {g:List (List Nat)} (h:GrB g) {k j:Nat} (hk:k < g.length) (hj:j≤(rwF g k).length):(prT g k j).length≤500000:=by
  have h1:=prT_len_mono g (k:=k+1) (m:=g.length) hk
  rw [← prT_next g k] at h1
  have h2:=h.arcs
  simp only [prT,List.length_append,List.length_map,List.length_take] at h1 h2 ⊢
  omega
theorem GrB.row {g:List (List Nat)} (h:GrB g) {k:Nat} (hk:k < g.length):(rwF g k).length≤500000:=by
  have:=h.pr hk (Nat.le_refl _)
  simp only [prT,List.length_append,List.length_map,List.length_take] at this
  omega
theorem GrB.lt {g:List (List Nat)} (h:GrB g) {k j:Nat} (hj:j < (rwF g k).length):(rwF g k).getD j 0 < g.length:=by
  refine h.gr.lt k _ ?_
  simp [List.getD,hj]
end Go.Proofs.Ytjdhigcefkihiaa
namespace Go.Pt
def stepK (nx:Nat→Nat) (r:Nat→Bool→Bool) (row:List Bool) (k:Nat):List Bool:=row.set k (r k (row.getD (nx k) default))
def sweepK (nx:Nat→Nat) (r:Nat→Bool→Bool) (ks:List Nat) (row:List Bool):List Bool:=ks.foldl (stepK nx r) row
def dnK (n:Nat):List Nat:=(List.range n).map fun j=>n - 1 - j
def fixR (nx:Nat→Nat) (n:Nat) (b:Bool) (r:Nat→Bool→Bool):List Bool:=sweepK nx r (dnK n) (sweepK nx r (dnK n) (List.replicate n b))
theorem stepK_len (nx:Nat→Nat) (r:Nat→Bool→Bool) (row:List Bool) (k:Nat):(stepK nx r row k).length=row.length:=by simp [stepK]
theorem sweepK_len (nx:Nat→Nat) (r:Nat→Bool→Bool):∀(ks:List Nat) (row:List Bool),(sweepK nx r ks row).length=row.length
  | [],_=>rfl
  | k::ks,row=>by rw [sweepK,List.foldl_cons];exact (sweepK_len nx r ks _).trans (stepK_len nx r row k)
theorem sweepK_snoc (nx:Nat→Nat) (r:Nat→Bool→Bool) (ks:List Nat) (k:Nat) (row:List Bool):sweepK nx r (ks++[k]) row=stepK nx r (sweepK nx r ks row) k:=by simp [sweepK]
theorem fixR_len (nx:Nat→Nat) (n:Nat) (b:Bool) (r:Nat→Bool→Bool):(fixR nx n b r).length=n:=by simp [fixR,sweepK_len]
theorem sweepK_congr {nx:Nat→Nat} {r r':Nat→Bool→Bool}:∀(ks:List Nat) (row:List Bool),(∀k∈ks,∀b,r k b=r' k b)→sweepK nx r ks row=sweepK nx r' ks row
  | [],_,_=>rfl
  | k::ks,row,h=>by
    rw [sweepK,sweepK,List.foldl_cons,List.foldl_cons]
    have e:stepK nx r row k=stepK nx r' row k:=by rw [stepK,stepK,h k (by simp)]
    rw [e];exact sweepK_congr ks _ fun k hk=>h k (by simp [hk])
theorem mem_dnK {n k:Nat} (h:k∈dnK n):k < n:=by
  obtain ⟨j,hj,rfl⟩:=List.mem_map.1 h
  have:=List.mem_range.1 hj;omega
theorem fixR_congr {nx:Nat→Nat} {n:Nat} {b:Bool} {r r':Nat→Bool→Bool} (h:∀k,k < n→∀b,r k b=r' k b):fixR nx n b r=fixR nx n b r':=by
  rw [fixR,fixR,sweepK_congr _ _ fun k hk=>h k (mem_dnK hk),sweepK_congr (dnK n) (List.replicate n b) fun k hk=>h k (mem_dnK hk)]
theorem sweepK_const {nx:Nat→Nat} {g:Nat→Bool} {n:Nat}:∀(j:Nat) (row:List Bool),row.length=n→j≤n→∀k,k < n→(sweepK nx (fun k _=>g k) ((List.range j).map fun i=>n - 1 - i) row).getD k default=if n - 1 - k < j then g k else row.getD k default:=by
  intro j
  induction j with
  | zero=>intro row _ _ k _;simp [sweepK]
  | succ j ih=>
    intro row hr hj k hk
    rw [List.range_succ,List.map_append,List.map_singleton,sweepK_snoc,stepK]
    have h:=ih row hr (by omega) k hk
    have hlen:=sweepK_len nx (fun k _=>g k) ((List.range j).map fun i=>n - 1 - i) row
    by_cases e:n - 1 - j=k
    · subst e
      rw [if_pos (by omega)]
      simp [List.getD,hlen,hr,hk]
    · rw [List.getD,List.getElem?_set_ne e]
      rw [List.getD] at h
      rw [h]
      by_cases h2:n - 1 - k < j
      · rw [if_pos h2,if_pos (by omega)]
      · rw [if_neg h2,if_neg (by omega)]
theorem ext_getD {a b:List Bool} (hl:a.length=b.length) (h:∀k,k < a.length→a.getD k default=b.getD k default):a=b:=by
  refine List.ext_getElem hl fun k h1 h2=>?_
  have:=h k h1
  simpa [List.getD,h1,h2] using this
theorem fixR_const (nx:Nat→Nat) (n:Nat) (b:Bool) (g:Nat→Bool):fixR nx n b (fun k _=>g k)=(List.range n).map g:=by
  refine ext_getD (by rw [fixR_len,List.length_map,List.length_range]) fun k hk=>?_
  rw [fixR_len] at hk
  rw [fixR,dnK,sweepK_const n _ (by simp [sweepK_len]) (Nat.le_refl _) k hk,if_pos (by omega)]
  simp [List.getD,hk]
def cellV (bit:Int→Nat→Bool) (lt:Nat→Int) (nx:Nat→Nat) (x:Sd) (A Bz:List Bool) (k:Nat) (later:Bool):Bool:=
  if x.op=1 then bit (lt k) x.n.toNat
  else if x.op=2 then decide (x.n=1)
  else if x.op=3 then !Bz.getD k default
  else if x.op=4 then Bz.getD (nx k) default
  else if x.op=5 then A.getD k default && Bz.getD k default
  else if x.op=6 then A.getD k default || Bz.getD k default
  else if x.op=7 then Bz.getD k default || (A.getD k default && later)
  else Bz.getD k default && (A.getD k default || later)
structure Las where
  bit:Int→Nat→Bool
  lt:Nat→Int
  nx:Nat→Nat
  n:Nat
def rowV (w:Las) (x:Sd) (A Bz:List Bool):List Bool:=fixR w.nx w.n (decide (x.op=8)) (cellV w.bit w.lt w.nx x A Bz)
theorem rowV_len (w:Las) (x:Sd) (A Bz:List Bool):(rowV w x A Bz).length=w.n:=fixR_len ..
theorem rowV_0 (w:Las) {x:Sd} (h:need x.op=0) (A Bz A' Bz':List Bool):rowV w x A Bz=rowV w x A' Bz':=by
  have h1:x.op=1∨x.op=2:=by rcases need_cases x.op with h | h | h | h<;>first | exact h.2 | omega
  refine fixR_congr fun k _ b=>?_
  rcases h1 with h1 | h1<;>simp [cellV,h1]
theorem rowV_1 (w:Las) {x:Sd} (h:need x.op=1) (A A' Bz:List Bool):rowV w x A Bz=rowV w x A' Bz:=by
  have h1:x.op=3∨x.op=4:=by rcases need_cases x.op with h | h | h | h<;>first | exact h.2 | omega
  refine fixR_congr fun k _ b=>?_
  rcases h1 with h1 | h1<;>simp [cellV,h1]
def tabV (w:Las) (f:List Sd):Nat→List (List Bool)
  | 0=>[]
  | i+1=>tabV w f i++[rowV w (f.getD i default) ((tabV w f i).getD (tst f (i - 1) - 1) []) ((tabV w f i).getD (i - 1) [])]
theorem tabV_len (w:Las) (f:List Sd) (i:Nat):(tabV w f i).length=i:=by
  induction i with
  | zero=>rfl
  | succ i ih=>rw [tabV,List.length_append,ih];rfl
def rowF (w:Las) (f:List Sd) (k:Nat):List Bool:=(tabV w f (k+1)).getD k []
theorem tabV_get (w:Las) (f:List Sd) {k i:Nat} (h:k < i):(tabV w f i).getD k []=rowF w f k:=by
  induction i with
  | zero=>omega
  | succ i ih=>
    by_cases e:k=i
    · subst e;rfl
    · have h1:=ih (by omega)
      rw [tabV,List.getD,List.getElem?_append_left (by rw [tabV_len];omega)]
      exact h1
theorem rowF_eq (w:Las) (f:List Sd) (k:Nat):rowF w f k=rowV w (f.getD k default) ((tabV w f k).getD (tst f (k - 1) - 1) []) ((tabV w f k).getD (k - 1) []):=by
  rw [rowF,tabV,List.getD,List.getElem?_append_right (by rw [tabV_len];omega),tabV_len]
  simp
theorem tabV_succ (w:Las) (f:List Sd) (i:Nat):tabV w f (i+1)=tabV w f i++[rowF w f i]:=by rw [rowF_eq];rfl
theorem rowF_len (w:Las) (f:List Sd) (k:Nat):(rowF w f k).length=w.n:=by rw [rowF_eq,rowV_len]
theorem rowF_0 (w:Las) {f:List Sd} {k:Nat} (h:need (f.getD k default).op=0):rowF w f k=rowV w (f.getD k default) [] []:=by rw [rowF_eq];exact rowV_0 w h ..
theorem rowF_1 (w:Las) {f:List Sd} {k:Nat} (hk:1≤k) (h:need (f.getD k default).op=1):rowF w f k=rowV w (f.getD k default) [] (rowF w f (k - 1)):=by
  rw [rowF_eq,tabV_get w f (by omega:k - 1 < k)];exact rowV_1 w h ..
theorem rowF_2 (w:Las) {f:List Sd} {k:Nat} (hk:1≤k) (h1:1≤tst f (k - 1)) (h2:tst f (k - 1)≤k - 1):rowF w f k=rowV w (f.getD k default) (rowF w f (tst f (k - 1) - 1)) (rowF w f (k - 1)):=by
  rw [rowF_eq,tabV_get w f (by omega:k - 1 < k),tabV_get w f (by omega:tst f (k - 1) - 1 < k)]
def runV (w:Las) (g:List Sd):Nat→List (List Bool)
  | 0=>[]
  | i+1=>
    if need (g.getD i default).op=0 then rowV w (g.getD i default) [] []::runV w g i
    else if need (g.getD i default).op=1 then rowV w (g.getD i default) [] ((runV w g i).headD [])::(runV w g i).tail
    else rowV w (g.getD i default) ((runV w g i).tail.headD []) ((runV w g i).headD [])::(runV w g i).tail.tail
structure OkFm (g:List Sd):Prop where
  l:g.length≤16
  ok:∀i,i < g.length→sdOk (g.getD i default)=true∧need (g.getD i default).op≤vals g i
  one:vals g g.length=1
theorem runV_len {w:Las} {g:List Sd} (h:OkFm g):∀i,i≤g.length→((runV w g i).length:Int)=vals g i:=by
  intro i
  induction i with
  | zero=>intro _;rfl
  | succ i ih=>
    intro hi
    have h1:=ih (by omega)
    have h2:=h.ok i (by omega)
    have h3:=sdOk_need h2.1
    have h4:=h2.2
    simp only [runV,vals]
    split
    · rename_i e;rw [List.length_cons];omega
    · split
      · rename_i e;rw [List.length_cons,List.length_tail];omega
      · rw [List.length_cons,List.length_tail,List.length_tail];omega
theorem runV_rows {w:Las} {g:List Sd} (h:OkFm g):∀i,i≤g.length→∀r∈runV w g i,r.length=w.n:=by
  intro i
  induction i with
  | zero=>intro _ r hr;cases hr
  | succ i ih=>
    intro hi r hr
    have h1:=ih (by omega)
    simp only [runV] at hr
    split at hr
    · rcases List.mem_cons.1 hr with rfl | hr
      · exact rowV_len ..
      · exact h1 r hr
    · split at hr
      · rcases List.mem_cons.1 hr with rfl | hr
        · exact rowV_len ..
        · exact h1 r (List.mem_of_mem_tail hr)
      · rcases List.mem_cons.1 hr with rfl | hr
        · exact rowV_len ..
        · exact h1 r (List.mem_of_mem_tail (List.mem_of_mem_tail hr))
theorem tst_in {f:List Sd} (g:GoodFm f):∀k,k < f.length→∀i,tst f k≤i→i≤k→tst f k≤tst f i:=by
  intro k
  induction k using Nat.strongRecOn with
  | ind k ih=>
    intro hk i h1 h2
    by_cases e:i=k
    · subst e;exact Nat.le_refl _
    have hok:=g.ok k hk
    have hnd:=sdOk_need hok.1
    rcases (by omega:need (f.getD k default).op=0∨need (f.getD k default).op=1∨need (f.getD k default).op=2) with h | h | h
    · rw [tst0 h] at h1;omega
    · have t:=tst1 g hk h
      rw [t.2] at h1 ⊢
      exact ih (k - 1) (by omega) (by omega) i h1 (by omega)
    · obtain ⟨t1,t2,t3,t4,_⟩:=tst2 g hk h
      rw [t4] at h1 ⊢
      by_cases hm:tst f (k - 1)≤i
      · have:=ih (k - 1) (by omega) (by omega) i hm (by omega)
        have h5:tst f (tst f (k - 1) - 1)≤tst f (k - 1) - 1:=by
          obtain ⟨r,_,e2,_⟩:=stk_top g (k:=tst f (k - 1)) (by omega) (by omega)
          exact e2
        omega
      · exact ih (tst f (k - 1) - 1) (by omega) (by omega) i h1 (by omega)
def subF (f:List Sd) (t k:Nat):List Sd:=(f.drop t).take (k+1 - t)
theorem subF_len {f:List Sd} {t k:Nat} (hk:k < f.length) (ht:t≤k):(subF f t k).length=k+1 - t:=by rw [subF,List.length_take,List.length_drop];omega
theorem subF_get {f:List Sd} {t k j:Nat} (hk:k < f.length) (ht:t≤k) (hj:j < k+1 - t):(subF f t k).getD j default=f.getD (t+j) default:=by
  simp [subF,List.getD,List.getElem?_take,hj]
theorem tst_le {f:List Sd} (g:GoodFm f) {k:Nat} (hk:k < f.length):tst f k≤k:=by
  obtain ⟨r,_,e,_⟩:=stk_top g (k:=k+1) (by omega) (by omega)
  exact e
theorem cont_top {i:Nat} {s k:Nat} {r:List (Nat×Nat)} (h:Cont i ((s,k)::r)):k+1=i:=h.1
theorem run_sub {w:Las} {f:List Sd} (g:GoodFm f) {k:Nat} (hk:k < f.length):∀j,j≤k+1 - tst f k→
    ∃X,stk f (tst f k+j)=X++stk f (tst f k)∧runV w (subF f (tst f k) k) j=X.map (fun x=>rowF w f x.2)∧vals (subF f (tst f k) k) j=X.length∧
      (j < k+1 - tst f k→need (f.getD (tst f k+j) default).op≤X.length):=by
  have htk:=tst_le g hk
  generalize ht:tst f k=t at htk ⊢
  intro j
  have need_ok:∀j X,j < k+1 - t→stk f (t+j)=X++stk f t→need (f.getD (t+j) default).op≤(X.length:Int):=by
    intro j X hj hX
    have hi:t+j < f.length:=by omega
    have hok:=g.ok (t+j) hi
    have hnd:=sdOk_need hok.1
    have hin:t≤tst f (t+j):=by have:=tst_in g k hk (t+j) (by omega) (by omega);omega
    have hct:=stk_cont g t (by omega)
    rcases (by omega:need (f.getD (t+j) default).op=0∨need (f.getD (t+j) default).op=1∨need (f.getD (t+j) default).op=2) with h | h | h
    · omega
    · have t1:=tst1 g hi h
      obtain ⟨r,e,e1,_⟩:=stk_top g (k:=t+j) (by omega) (by omega)
      cases X with
      | nil=>
        rw [List.nil_append,e] at hX
        rw [← hX] at hct
        have:=cont_top hct
        omega
      | cons a X=>simp only [List.length_cons];omega
    · obtain ⟨t1,t2,t3,t4,r,e⟩:=tst2 g hi h
      have h5:tst f (tst f (t+j - 1) - 1)≤tst f (t+j - 1) - 1:=tst_le g (by omega)
      cases X with
      | nil=>
        rw [List.nil_append,e] at hX
        rw [← hX] at hct
        have:=cont_top hct
        omega
      | cons a X=>
        cases X with
        | nil=>
          rw [e] at hX
          injection hX with _ hX
          change _=stk f t at hX
          rw [← hX] at hct
          have:=cont_top hct
          omega
        | cons b X=>simp only [List.length_cons];omega
  induction j with
  | zero=>intro _;exact ⟨[],rfl,rfl,rfl,fun hj=>need_ok 0 [] hj rfl⟩
  | succ j ih=>
    intro hj
    obtain ⟨X,h1,h2,h3,h4⟩:=ih (by omega)
    have h4:=h4 (by omega)
    have hi:t+j < f.length:=by omega
    have hok:=g.ok (t+j) hi
    have hnd:=sdOk_need hok.1
    have hg:=subF_get (f:=f) (t:=t) (k:=k) (j:=j) hk htk (by omega)
    have hin:t≤tst f (t+j):=by have:=tst_in g k hk (t+j) (by omega) (by omega);omega
    have fin:∀X',stk f (t+j+1)=X'++stk f t→runV w (subF f t k) (j+1)=X'.map (fun x=>rowF w f x.2)→vals (subF f t k) (j+1)=X'.length→
        ∃X,stk f (t+(j+1))=X++stk f t∧runV w (subF f t k) (j+1)=X.map (fun x=>rowF w f x.2)∧vals (subF f t k) (j+1)=X.length∧(j+1 < k+1 - t→need (f.getD (t+(j+1)) default).op≤X.length):=
      fun X' a b c=>⟨X',a,b,c,fun h=>need_ok (j+1) X' h a⟩
    rcases (by omega:need (f.getD (t+j) default).op=0∨need (f.getD (t+j) default).op=1∨need (f.getD (t+j) default).op=2) with h | h | h
    · refine fin ((t+j,t+j)::X) ?_ ?_ ?_
      · rw [stk,if_pos h,h1];rfl
      · rw [runV,hg,if_pos h,h2,List.map_cons,rowF_0 w h]
      · rw [vals,hg,h,h3];simp
    · have t1:=tst1 g hi h
      obtain ⟨r,e,e1,_⟩:=stk_top g (k:=t+j) (by omega) (by omega)
      cases X with
      | nil => have h4' : need (f.getD (t + j) default).op ≤ 0 := h4
               omega
      | cons a X=>
        have ha:a=(tst f (t+j - 1),t+j - 1):=by
          rw [e] at h1;injection h1 with h1 _;exact h1.symm
        refine fin ((a.1,t+j)::X) ?_ ?_ ?_
        · rw [stk,if_neg (by omega),if_pos h,h1];rfl
        · rw [runV,hg,if_neg (by omega),if_pos h,h2,List.map_cons,List.map_cons,List.headD_cons,List.tail_cons,rowF_1 w t1.1 h,ha]
        · rw [vals,hg,h,h3];simp
    · obtain ⟨t1,t2,t3,t4,r,e⟩:=tst2 g hi h
      cases X with
      | nil => have h4' : need (f.getD (t + j) default).op ≤ 0 := h4
               omega
      | cons a X=>
        cases X with
        | nil => have h4' : need (f.getD (t + j) default).op ≤ 1 := h4
                 omega
        | cons b X=>
          have hab:a=(tst f (t+j - 1),t+j - 1)∧b=(tst f (tst f (t+j - 1) - 1),tst f (t+j - 1) - 1):=by
            rw [e] at h1;injection h1 with h1 h5;injection h5 with h5 _;exact ⟨h1.symm,h5.symm⟩
          refine fin ((b.1,t+j)::X) ?_ ?_ ?_
          · rw [stk,if_neg (by omega),if_neg (by omega),h1];rfl
          · rw [runV,hg,if_neg (by omega),if_neg (by omega),h2,List.map_cons,List.map_cons,List.map_cons,List.headD_cons,List.tail_cons,List.headD_cons,List.tail_cons,rowF_2 w t1 t2 t3,hab.1,hab.2]
          · rw [vals,hg,h,h3];simp;omega
theorem vals_sub {f:List Sd} (g:GoodFm f) {k:Nat} (hk:k < f.length):OkFm (subF f (tst f k) k):=by
  have htk:=tst_le g hk
  have hl:=subF_len (f:=f) hk htk
  have hg1:=g.l1
  refine ⟨by omega,fun j hj=>?_,?_⟩
  · rw [hl] at hj
    obtain ⟨X,h1,h2,h3,h4⟩:=run_sub (w:=⟨fun _ _=>false,fun _=>0,fun _=>0,0⟩) g hk j (by omega)
    rw [subF_get hk htk hj,h3]
    exact ⟨(g.ok _ (by omega)).1,h4 hj⟩
  · obtain ⟨X,h1,h2,h3,h4⟩:=run_sub (w:=⟨fun _ _=>false,fun _=>0,fun _=>0,0⟩) g hk (k+1 - tst f k) (by omega)
    rw [hl,h3]
    obtain ⟨r,e,_,e2⟩:=stk_top g (k:=k+1) (by omega) (by omega)
    rw [Nat.add_sub_cancel] at e e2
    rw [show tst f k+(k+1 - tst f k)=k+1 by omega,e,e2] at h1
    have:=congrArg List.length h1
    simp at this
    omega
theorem run_tree {w:Las} {f:List Sd} (g:GoodFm f) {k:Nat} (hk:k < f.length):runV w (subF f (tst f k) k) (subF f (tst f k) k).length=[rowF w f k]:=by
  have htk:=tst_le g hk
  have hl:=subF_len (f:=f) hk htk
  obtain ⟨X,h1,h2,h3,h4⟩:=run_sub (w:=w) g hk (k+1 - tst f k) (by omega)
  obtain ⟨r,e,_,e2⟩:=stk_top g (k:=k+1) (by omega) (by omega)
  rw [Nat.add_sub_cancel] at e e2
  rw [show tst f k+(k+1 - tst f k)=k+1 by omega,e,e2] at h1
  have hX:X=[(tst f k,k)]:=by
    have h5:=congrArg List.length h1
    simp at h5
    cases X with
    | nil=>simp at h5
    | cons a X=>
      injection h1 with h6 h7
      cases X with
      | nil=>rw [← h6]
      | cons b X=>simp at h5;omega
  rw [hl,h2,hX];rfl
end Go.Pt
namespace Go.Proofs.Ytjdhigcefkihiaa
open Go Go.Proofs Go.RowKit Go.Shelf Go.Sep
attribute [local go_sem] Oper.semAt_some
set_option maxRecDepth 100000 in
set_option maxHeartbeats 2000000 in
theorem bw1_in (F:Fence) (n:Nat) (hF:F.fn 159) (hro:F.round=none) (hn:1≤n) (l Bs bo b off len:Nat) (hlen:len≤1000000) (J Jx:List (Nat×Bool)→World→Prop)
    (hY:∀pre x W,J pre W→pre.length < len→YieldAt F (n - 1) Try.prog l (bEnc len x) W fun e W'=>
      (e=.returned (.bool true)∧J (pre++[x]) W'∧BKp Bs bo b off len W W')∨(e=.returned (.bool false)∧Jx (pre++[x]) W'))
    (W:World) (hBs0:BBox Bs bo b off len W) (hc:BRow b off len W) (h0:J [] W) :
    CallsIn F n Try.prog 159 #[.func (.yield l) #[] #[],.pointer (some ⟨Bs,bo,none⟩)] W fun e W'=>(∃v,e=.returned v)∧
      ((∃ys,BKeys len len ys∧J ys W')∨(∃pre,(∃k,k≤len∧BKeys len k pre)∧Jx pre W')):=by
  refine callsIn_of_wp Try.func159 rfl hF ?_ hro
  simp only [Try.ntmps159,List.size_toArray,List.length_cons,List.length_nil,Nat.reduceAdd,Nat.reduceSub,Array.replicate_succ,Array.replicate_zero,List.push_toArray,List.append_toArray,List.nil_append,List.cons_append]
  obtain ⟨cap,hBs⟩:=hBs0
  have hBs0:BBox Bs bo b off len W:=⟨cap,hBs⟩
  gi_wp2
  gi_loopw [3] (fun i wr=>∃k:Nat,k≤len∧i=.int .i64 ((len:Int) - 1 - k)∧(∃ys,BKeys len k ys∧J ys wr)∧BKp Bs bo b off len W wr)
    (fun i _=>(intOf i+1).toNat)
  case atStart=>exact ⟨0,Nat.zero_le _,by simp,⟨[],rfl,h0⟩,BKp.refl' _ _ _ _ _ _⟩
  case round=>
    obtain ⟨k,hk,rfl,⟨ys,hys,hJs⟩,hkp⟩:=hrel
    obtain ⟨cap',hBs'⟩:=hkp.2 hBs0
    by_cases hlt:k < len
    · obtain ⟨v,hv⟩:=hkp.1 hc (len - 1 - k) (by omega)
      obtain ⟨fn,tmps,assign,body,hy,hR⟩:=hY _ (len - 1 - k,v) wr hJs (by rw [hys.len'];exact hlt)
      have hidx:((len - 1 - k:Nat):Int)=(len:Int) - 1 - k:=by omega
      have hmin:min (len - 1 - k) (len - 1)=len - 1 - k:=by omega
      unfold bEnc at hy
      dsimp only at hy
      rw [hmin,hidx] at hy
      have hge:0≤(len:Int) - 1 - k:=by omega
      have hlt2:(len:Int) - 1 - k < len:=by omega
      have hto:((len:Int) - 1 - k).toNat=len - 1 - k:=by omega
      gi_wp2
      refine hR.mono ?_
      rintro e W3 (⟨rfl,hJ3,hk3⟩ | ⟨rfl,hJx3⟩)
      · gi_wp2
        go_roundw
        case rel=>exact ⟨k+1,by omega,by simp;omega,⟨_,hys.succ' v,hJ3⟩,hkp.trans' hk3⟩
        case measure=>simp [intOf];omega
      · gi_wp2
        refine bodyPost_ret (results_none rfl _ _ _) rfl ?_
        exact ⟨⟨_,rfl⟩,.inr ⟨_,⟨k+1,by omega,hys.succ' v⟩,hJx3⟩⟩
    · obtain rfl:k=len:=by omega
      gi_wp2
      go_end0
      exact ⟨⟨_,rfl⟩,.inl ⟨_,hys,hJs⟩⟩
theorem bw_ok:BackOk Try.prog 159:=by
  refine ⟨Go.Proofs.enters_of Try.func159 (by kernel_rfl) rfl,?_⟩
  intro Bs bo b off len w h0 hlen hBs hb hs hc l J Jx W hW _ _ hY hJ
  refine bw1_in Fence.wide 2 trivial rfl (by omega) l Bs bo b off len hlen J Jx hY W ?_ ?_ hJ
  · obtain ⟨cap,h⟩:=hs
    exact ⟨cap,(hW.cell (p:=⟨Bs,bo,none⟩) hBs).trans h⟩
  · exact fun j hj=>let ⟨v,hv⟩:=hc j hj;⟨v,(hW.cell (p:=⟨b,off+j,none⟩) hb).trans hv⟩
end Go.Proofs.Ytjdhigcefkihiaa
namespace Go.Proofs.Ytjdhigcefkihiaa
open Go Go.Sep Go.Pt
attribute [local irreducible] CallT
def repB (n k:Nat) (x:Bool):List Bool:=List.replicate k x++List.replicate (n - k) false
theorem repB_len {n k:Nat} (x:Bool) (h:k≤n):(repB n k x).length=n:=by simp [repB];omega
theorem cB_rep (n:Nat):zerosA n [B false]=cP fB (List.replicate n false):=by
  induction n with
  | zero=>rfl
  | succ n ih=>rw [zerosA_succ,ih,List.replicate_succ];rfl
theorem repB_splice {n k j:Nat} (x:Bool) (hk:k≤n) (hj:j≤k) (hkj:k+j≤n):splice (cP fB (repB n k x)) k (cP fB (List.replicate j x))=cP fB (repB n (k+j) x):=by
  unfold splice repB
  rw [cP,cP,cP,← List.map_take,← List.map_drop,← List.map_append,← List.map_append]
  congr 1
  rw [List.take_left' (by simp),List.length_map,List.length_replicate]
  have e1:List.replicate k x++List.replicate j x=List.replicate (k+j) x:=by rw [List.replicate_append_replicate]
  rw [e1]
  congr 1
  rw [List.drop_append,List.drop_of_length_le (by simp),List.nil_append,List.drop_replicate,List.length_replicate]
  congr 1
  omega
theorem repB_take {n k j:Nat} (x:Bool) (hj:j≤k):List.take j (cP fB (repB n k x))=cP fB (List.replicate j x):=by
  unfold repB
  rw [cP,cP,← List.map_take]
  congr 1
  rw [List.take_append_of_le_length (by simpa using hj),List.take_replicate,Nat.min_eq_left hj]
theorem cB_all (l:List Bool):(cP fB l).all AV.isCell=true:=by
  rw [List.all_eq_true]
  intro c hc
  obtain ⟨x,_,rfl⟩:=List.mem_map.1 hc
  rfl
theorem RepeatB_row (x:Bool) (n:Nat) (hn:n≤1000000) {H:Heap} {K:AV→Heap→Prop} (h:∀q,H q=none→K (rowP q (List.replicate n x)) (H.set q (cP fB (List.replicate n x)))):CallT Try.prog 149 [.p (.sl [[.bool x]]),I n] H K:=by
  have wn:IntKind.u64.wrap (n:Int)=n:=u64_id (by omega) (by omega)
  have w1:IntKind.u64.wrap ((1:Nat):Int)=1:=u64_id (by omega) (by omega)
  have en:IntKind.i64.wrap (n:Int)=n:=i64_id (by omega) (by omega)
  have n0:¬(n:Int) < 0:=by omega
  have nb:¬(n:Int) > 9223372036854775807:=by omega
  refine W149_ok ?_;simp (maxSteps:=1000000) (disch:=first | assumption | (apply ν6;assumption)) only [W149,vz,vu,vv,eqS,eF_,↓c1_,↓c2_,tabs,reduceCtorEq,ι5,↓reduceIte,ν1,ν2,ν3,ν4,ν5,ι1,ι2,ι3,ι4,wn,w1,n0,decide_false]
  refine Pu.use (Mul_one n (by omega)) ?_
  (try simp (maxSteps:=1000000) (disch:=first | assumption | (apply ν6;assumption)) only [vz,vu,vv,eqS,eF_,↓c1_,↓c2_,tabs,reduceCtorEq,ι5,↓reduceIte,ν1,ν2,ν3,ν4,ν5,ι1,ι2,ι3,ι4,nb,en,makeSliceV,Int.lt_irrefl,decide_false,gt_iff_lt,copyV,slenV,cutV,srcV])
  refine ⟨by omega,by omega,by omega,by omega,fun r hr=>?_⟩
  have go:∀k:Nat,(k=0∧n=0∨1≤k∧k≤n)→L149_0 K (.sl r 1 0 n) (I k) (H.set r (cP fB (repB n k x))):=by
    intro k hk
    refine L149_0_rule k (fun k=>I k) (fun k=>H.set r (cP fB (repB n k x))) (fun k=>k=0∧n=0∨1≤k∧k≤n) (fun k=>n - k) ⟨hk,.refl _,Heap.le_refl _⟩ ?_
    clear hk k
    intro k hk
    have hl:=repB_len x (show k≤n by omega)
    have hc:(cP fB (repB n k x)).length=n:=by rw [cP,List.length_map,hl]
    (try simp (maxSteps:=1000000) (disch:=first | assumption | (apply ν6;assumption)) only [vz,vu,vv,eqS,eF_,↓c1_,↓c2_,tabs,reduceCtorEq,ι5,↓reduceIte,ν1,ν2,ν3,ν4,ν5,ι1,ι2,ι3,ι4,B149_0,copyV,slenV,cutV,srcV,load_at (Heap.set_same H r _),hc])
    refine ⟨fun h1=>⟨by omega,by omega,by omega,?_⟩,fun h1=>?_⟩
    · refine ⟨by omega,by omega,by omega,?_⟩
      have em:((n:Int) - (k:Int)).toNat=n - k:=by omega
      rw [em]
      obtain ⟨j,hj⟩:∃j,min k (n - k)=j:=⟨_,rfl⟩
      rw [hj,if_neg (by omega),Nat.mul_one,repB_take x (by omega),Nat.mul_one]
      have hcj:(cP fB (List.replicate j x)).length=j:=by simp [cP]
      have hs:=repB_splice (n:=n) (k:=k) (j:=j) x (by omega) (by omega) (by omega)
      simp only [splice] at hs
      rw [hs,hcj]
      refine ⟨by omega,by omega,cB_all _,k+j,by omega,by omega,?_,Heap.le_refl _⟩
      rw [wk_int,i64_id (by omega) (by omega)];simp
    · have e:k=n:=by omega
      subst e
      have e2:repB k k x=List.replicate k x:=by simp [repB]
      rw [e2]
      have:=h r hr
      rw [rowP,List.length_replicate] at this
      exact this
  by_cases h0:n=0
  · subst h0
    rw [if_pos (by simp)]
    exact go 0 (.inl ⟨rfl,rfl⟩)
  · have e1:min 1 n=1:=by omega
    have e2:List.take 1 [[PV.bool x]]=[[PV.bool x]]:=rfl
    rw [e1,if_neg (by decide),e2]
    have g:=go 1 (.inr ⟨by omega,by omega⟩)
    have e3:(List.map AV.p [[PV.bool x]].flatten++List.drop [[PV.bool x]].flatten.length (zerosA n [AV.p (PV.bool false)]))=cP fB (repB n 1 x):=by
      obtain ⟨m,rfl⟩:∃m,n=m+1:=⟨n - 1,by omega⟩
      rw [zerosA_succ,cB_rep]
      simp [repB,cP]
    rw [e3]
    refine ⟨fun e he=>?_,?_,rfl,g⟩
    · rw [List.mem_singleton] at he;rw [he];rfl
    · rw [cB_rep];simp [cP];omega
theorem Backward_spec {v:AV} {H:Heap} {K:AV→Heap→Prop} {q n:Nat} (h:∀r,H r=none→K (.fn 159 [.ptr r 0]) (H.set r [.sl q 1 0 n])):CallT Try.prog 150 [.sl q 1 0 n] H K:=by
  refine W150_ok ?_;simp (maxSteps:=1000000) (disch:=first | assumption | (apply ν6;assumption)) only [W150,vz,vu,vv,eqS,eF_,↓c1_,↓c2_,tabs,reduceCtorEq,ι5,↓reduceIte,ν1,ν2,ν3,ν4,ν5,ι1,ι2,ι3,ι4]
  exact h
theorem row_setB {row:List Bool} {k:Nat} {b:Bool} (h:k < row.length):List.take (k*1) (cP fB row)++[B b]++List.drop (k*1+1) (cP fB row)=cP fB (row.set k b):=by
  rw [Nat.mul_one,cP,cP,List.map_set,List.set_eq_take_append_cons_drop,if_pos (by simpa using h)];simp
abbrev xB (l:List Bool):List PV:=[.sl (l.map eBo)]
theorem fin_B {H G:Heap} {Ts:List Th} {q:Nat} {l:List Bool} (s:St H Ts G) (i:Nat) (hi:Ts[i]?=some (cellT q (cP fB l))):wkK (fun r H'=>r=.p (.sl (l.map eBo))∧H'=H) (rowP q l) G:=by
  have:=fin_own (sz:=1) (es:=l.map eBo) (q:=q) (H:=H) (H':=G) (K:=fun r H'=>r=.p (.sl (l.map eBo))∧H'=H) (by omega) (sizedMap (f:=eBo) (fun _=>rfl) l) (s.fr _ (List.mem_of_getElem? hi) q (by simp [cellT])) (fun y b hy=>by
    by_cases e:y=q
    · subst e;rw [Heap.set_same] at hy;rw [← hy];have h1:G y=some (cP fB l):=s.get i hi;rw [h1];exact congrArg some (cells_P fB l).symm
    · rw [Heap.set_other e] at hy;exact s.le y b hy) ⟨rfl,rfl⟩
  simpa only [Go.Sep.own,List.length_map] using this
def turnK (nx:Nat→Nat) (r:Nat→Bool→Bool) (n:Nat) (b:Bool):Nat→List Bool
  | 0=>List.replicate n b
  | i+1=>sweepK nx r (dnK n) (turnK nx r n b i)
theorem turnK_len (nx:Nat→Nat) (r:Nat→Bool→Bool) (n:Nat) (b:Bool):∀i,(turnK nx r n b i).length=n
  | 0=>by simp [turnK]
  | i+1=>by rw [turnK,sweepK_len];exact turnK_len nx r n b i
theorem nxW_lt {s l:List Int} {k:Nat} (h:1≤l.length):nxW s l k < s.length+l.length:=by unfold nxW;split<;>omega
theorem cB_len (row:List Bool):(cP fB row).length=row.length:=by simp [cP]
theorem cB_get {row:List Bool} {k:Nat} (h:k < row.length):((((cP fB row).drop (k*1)).take 1).headD .any)=B (row.getD k default):=by rw [Nat.mul_one];exact read_row (f:=fB) default h
theorem fixed_spec (s l:List Int) (h1:s.length≤24) (h2:1≤l.length∧l.length≤24) (b:Bool) (f0:Nat) (caps:List AV) (r:Nat→Bool→Bool) {H:Heap}
    (hr:∀{k:Nat} {nb:Bool} {G:Heap} {K:AV→Heap→Prop},k < s.length+l.length→Heap.le H G→K (B (r k nb)) G→callF Try.prog (.fn f0 caps) [I k,B nb] G K)
    {K:AV→Heap→Prop} (h:K (.p (.sl ((fixR (nxW s l) (s.length+l.length) b r).map eBo))) H):CallT Try.prog 130 [aL2 s l,B b,.fn f0 caps] H K:=by
  refine CallT.fin ?_
  have en:IntKind.i64.wrap ((s.length:Int)+(l.length:Int))=((s.length+l.length:Nat):Int):=by rw [i64_id (by omega) (by omega)];simp
  refine W130_ok ?_;simp (maxSteps:=1000000) (disch:=first | assumption | (apply ν6;assumption)) only [W130,vz,vu,vv,eqS,eF_,↓c1_,↓c2_,tabs,reduceCtorEq,ι5,↓reduceIte,ν1,ν2,ν3,ν4,ν5,ι1,ι2,ι3,ι4,en]
  intro r3 hr3 r5 n5 hr5
  have st:=((St.nil H).cell hr3 [Is s,Is l]).cell (r:=r5) (by rw [Heap.set_other n5];exact hr5) [.fn f0 caps]
  generalize (H.set r3 [Is s,Is l]).set r5 [.fn f0 caps]=G at st ⊢
  clear hr3 n5 hr5
  refine lit1 tab_76 rfl tab_4 ⟨rfl,rfl⟩ ?_
  (try simp (maxSteps:=1000000) (disch:=first | assumption | (apply ν6;assumption)) only [vz,vu,vv,eqS,eF_,↓c1_,↓c2_,tabs,reduceCtorEq,ι5,↓reduceIte,ν1,ν2,ν3,ν4,ν5,ι1,ι2,ι3,ι4,load_at (st.get 1 rfl),en])
  refine RepeatB_row b (s.length+l.length) (by omega) fun q hq=>?_
  replace st:=st.cell hq (cP fB (List.replicate (s.length+l.length) b))
  generalize G.set q (cP fB (List.replicate (s.length+l.length) b))=G1 at st ⊢
  (try simp (maxSteps:=1000000) (disch:=first | assumption | (apply ν6;assumption)) only [vz,vu,vv,eqS,eF_,↓c1_,↓c2_,tabs,reduceCtorEq,ι5,↓reduceIte,ν1,ν2,ν3,ν4,ν5,ι1,ι2,ι3,ι4])
  intro r7 hr7
  replace st:=st.cell hr7 [rowP q (List.replicate (s.length+l.length) b)]
  generalize G1.set r7 [rowP q (List.replicate (s.length+l.length) b)]=G2 at st ⊢
  generalize hN:s.length+l.length=N at st hr h
  have hN1:1≤N:=by omega
  have e0:rowP q (List.replicate N b)=.sl q 1 0 N:=by simp [rowP]
  rw [e0] at st
  clear e0 hr7 hq
  refine L130_0_rule ((0:Nat),G2) (fun s=>I s.1) (fun s=>s.2) (fun t=>t.1≤2∧St H [cellT r7 [.sl q 1 0 N],cellT q (cP fB (turnK (nxW s l) r N b t.1)),cellT r5 [.fn f0 caps],cellT r3 [Is s,Is l]] t.2) (fun s=>2 - s.1)
    ⟨⟨by simp,st⟩,.refl _,Heap.le_refl _⟩ ?_
  clear st G2
  rintro ⟨i,G2⟩ ⟨hi,st⟩
  dsimp only at hi st
  have hlen:=turnK_len (nxW s l) r N b i
  have e5:IntKind.i64.wrap ((i:Int)+1)=((i+1:Nat):Int):=by rw [i64_id (by omega) (by omega)];simp
  (try simp (maxSteps:=1000000) (disch:=first | assumption | (apply ν6;assumption)) only [vz,vu,vv,eqS,eF_,↓c1_,↓c2_,tabs,reduceCtorEq,ι5,↓reduceIte,ν1,ν2,ν3,ν4,ν5,ι1,ι2,ι3,ι4,B130_0,load_at (st.get 0 rfl),load_at (st.get 1 rfl),load_at (st.get 2 rfl)])
  refine ⟨fun h3=>?_,fun h3=>?_⟩
  · refine Backward_spec (v:=.any) fun bx hbx=>?_
    replace st:=st.cell hbx [.sl q 1 0 N]
    generalize G2.set bx [.sl q 1 0 N]=G3 at st ⊢
    generalize hrow:turnK (nxW s l) r N b i=row at st hlen
    refine R130_1_rule 159 bx q N (fun ks H'=>St H [cellT bx [.sl q 1 0 N],cellT r7 [.sl q 1 0 N],cellT q (cP fB (sweepK (nxW s l) r ks row)),cellT r5 [.fn f0 caps],cellT r3 [Is s,Is l]] H') bw_ok rfl ⟨by omega,by omega⟩ st ?_ ?_ ?_
    · intro ks H' hs
      exact ⟨hs.get 0 rfl,sweepK (nxW s l) r ks row,hs.get 2 rfl,by rw [sweepK_len,hlen]⟩
    · intro ks j H' hj hs
      have hl2:(sweepK (nxW s l) r ks row).length=N:=by rw [sweepK_len,hlen]
      generalize hrow2:sweepK (nxW s l) r ks row=row2 at hs hl2
      (try simp (maxSteps:=1000000) (disch:=first | assumption | (apply ν6;assumption)) only [vz,vu,vv,eqS,eF_,↓c1_,↓c2_,tabs,reduceCtorEq,ι5,↓reduceIte,ν1,ν2,ν3,ν4,ν5,ι1,ι2,ι3,ι4,RB130_1,load_at (hs.get 1 rfl),load_at (hs.get 3 rfl),load_at (hs.get 4 rfl)])
      refine Pu.use (nextPlace_spec s l h1 h2 (by omega:j < s.length+l.length)) ?_
      have hnx:nxW s l j < N:=by rw [← hN];exact nxW_lt h2.1
      have hsw:sweepK (nxW s l) r (ks++[j]) row=row2.set j (r j (row2.getD (nxW s l j) default)):=by rw [sweepK_snoc,hrow2];rfl
      have hc2:(cP fB row2).length=N:=by rw [cB_len,hl2]
      have hg2:=cB_get (row:=row2) (k:=nxW s l j) (by omega)
      have hset:=row_setB (row:=row2) (k:=j) (b:=r j (row2.getD (nxW s l j) default)) (by omega)
      generalize nxW s l j=m at hnx hsw hg2 hset ⊢
      (try simp (maxSteps:=1000000) (disch:=first | assumption | (apply ν6;assumption)) only [vz,vu,vv,eqS,eF_,↓c1_,↓c2_,tabs,reduceCtorEq,ι5,↓reduceIte,ν1,ν2,ν3,ν4,ν5,ι1,ι2,ι3,ι4,load_at (hs.get 1 rfl),load_at (hs.get 2 rfl),load_at (hs.get 3 rfl),load_at (hs.get 4 rfl),hc2,hg2])
      refine ⟨by omega,by omega,by omega,?_⟩
      have hcall:=fun {K:AV→Heap→Prop}=>hr (K:=K) (nb:=row2.getD m default) hj hs.le
      simp only [callF,List.cons_append,List.nil_append] at hcall
      refine hcall ?_
      (try simp (maxSteps:=1000000) (disch:=first | assumption | (apply ν6;assumption)) only [vz,vu,vv,eqS,eF_,↓c1_,↓c2_,tabs,reduceCtorEq,ι5,↓reduceIte,ν1,ν2,ν3,ν4,ν5,ι1,ι2,ι3,ι4,load_at (hs.get 1 rfl),load_at (hs.get 2 rfl),store_at (hs.get 2 rfl),hc2,hset])
      refine ⟨by omega,by omega,by omega,?_⟩
      rw [hsw]
      exact hs.put 2 rfl _
    · intro H' hs
      (try simp (maxSteps:=1000000) (disch:=first | assumption | (apply ν6;assumption)) only [vz,vu,vv,eqS,eF_,↓c1_,↓c2_,tabs,reduceCtorEq,ι5,↓reduceIte,ν1,ν2,ν3,ν4,ν5,ι1,ι2,ι3,ι4,e5])
      refine ⟨(i+1,H'),⟨by simp only;omega,?_⟩,by simp only;omega,.refl _,Heap.le_refl _⟩
      rw [turnK,hrow]
      exact hs.drop
  · have:i=2:=by omega
    subst this
    have hf:=fin_B st 1 rfl
    rw [rowP,hlen] at hf
    obtain ⟨v,H2,w,rfl,rfl⟩:=hf
    exact ⟨_,_,w,h⟩
end Go.Proofs.Ytjdhigcefkihiaa
namespace Go.Proofs.Ytjdhigcefkihiaa
open Go Go.Sep Go.Pt
attribute [local irreducible] CallT
theorem need_impl.operandsOfSaid_spec (op:Int):Pu Try.prog 69 [I op] (I (need op)):=by
  refine Pu.of fun H=>?_
  refine W69_ok ?_;simp (maxSteps:=1000000) (disch:=first | assumption | (apply ν6;assumption)) only [W69,vz,vu,vv,eqS,eF_,↓c1_,↓c2_,tabs,reduceCtorEq,ι5,↓reduceIte,ν1,ν2,ν3,ν4,ν5,ι1,ι2,ι3,ι4,J69_0,J69_1]
  by_cases h1:op=1
  · subst h1;simp [need]
  by_cases h2:op=2
  · subst h2;simp [need]
  by_cases h3:op=3
  · subst h3;simp [need]
  by_cases h4:op=4
  · subst h4;simp [need]
  by_cases h5:op=5
  · subst h5;simp [need]
  by_cases h6:op=6
  · subst h6;simp [need]
  by_cases h7:op=7
  · subst h7;simp [need]
  by_cases h8:op=8
  · subst h8;simp [need]
  simp [need,h1,h2,h3,h4,h5,h6,h7,h8]
theorem need_spec.l10Need_spec (op:Int):Pu Try.prog 72 [I op] (I (need op)):=by
  refine Pu.of fun H=>?_
  refine W72_ok ?_;simp (maxSteps:=1000000) (disch:=first | assumption | (apply ν6;assumption)) only [W72,vz,vu,vv,eqS,eF_,↓c1_,↓c2_,tabs,reduceCtorEq,ι5,↓reduceIte,ν1,ν2,ν3,ν4,ν5,ι1,ι2,ι3,ι4,J72_0,J72_1]
  by_cases h1:op=1
  · subst h1;simp [need]
  by_cases h2:op=2
  · subst h2;simp [need]
  by_cases h3:op=3
  · subst h3;simp [need]
  by_cases h4:op=4
  · subst h4;simp [need]
  by_cases h5:op=5
  · subst h5;simp [need]
  by_cases h6:op=6
  · subst h6;simp [need]
  by_cases h7:op=7
  · subst h7;simp [need]
  by_cases h8:op=8
  · subst h8;simp [need]
  simp [need,h1,h2,h3,h4,h5,h6,h7,h8]
theorem isSaid_spec (x:Sd):Pu Try.prog 88 [aD x] (B (sdOk x)):=by
  refine Pu.of fun H=>?_
  refine W88_ok ?_;simp (maxSteps:=1000000) (disch:=first | assumption | (apply ν6;assumption)) only [W88,vz,vu,vv,eqS,eF_,↓c1_,↓c2_,tabs,reduceCtorEq,ι5,↓reduceIte,ν1,ν2,ν3,ν4,ν5,ι1,ι2,ι3,ι4]
  intro r hr
  have hle:=Heap.le_set (b:=[I x.op,I x.n]) hr
  refine ⟨fun h1=>?_,fun h1=>⟨fun h2=>?_,fun h2=>?_⟩⟩
  · rw [sdOk,if_pos h1]
    exact ⟨fun h3=>⟨by rw [decide_eq_true h3,Bool.true_and],hle⟩,fun h3=>⟨by rw [decide_eq_false h3,Bool.false_and],hle⟩⟩
  · rw [sdOk,if_neg h1,if_pos h2]
    exact ⟨fun h3=>⟨by rw [decide_eq_true h3,Bool.true_or],hle⟩,fun h3=>⟨by rw [decide_eq_false h3,Bool.false_or],hle⟩⟩
  · refine Pu.use (need_impl.operandsOfSaid_spec x.op) ?_
    rw [sdOk,if_neg h1,if_neg h2]
    (try simp (maxSteps:=1000000) (disch:=first | assumption | (apply ν6;assumption)) only [vz,vu,vv,eqS,eF_,↓c1_,↓c2_,tabs,reduceCtorEq,ι5,↓reduceIte,ν1,ν2,ν3,ν4,ν5,ι1,ι2,ι3,ι4])
    exact ⟨fun h3=>⟨by rw [decide_eq_true h3,Bool.true_and],hle⟩,fun h3=>⟨by rw [decide_eq_false h3,Bool.false_and],hle⟩⟩
theorem l10N_spec (x:Sd) (h:0≤need x.op):Pu Try.prog 89 [aD x] (B (sdOk x)):=by
  refine Pu.of fun H=>?_
  refine W89_ok ?_;simp (maxSteps:=1000000) (disch:=first | assumption | (apply ν6;assumption)) only [W89,vz,vu,vv,eqS,eF_,↓c1_,↓c2_,tabs,reduceCtorEq,ι5,↓reduceIte,ν1,ν2,ν3,ν4,ν5,ι1,ι2,ι3,ι4]
  intro r hr
  have hle:=Heap.le_set (b:=[I x.op,I x.n]) hr
  refine ⟨fun h1=>?_,fun h1=>⟨fun h2=>?_,fun h2=>?_⟩⟩
  · rw [sdOk,if_pos h1]
    refine Pu.use (l1In_spec x.n 0 2) ⟨?_,hle⟩
    exact congrArg (fun b:Bool=>B b) (by rw [Bool.eq_iff_iff];simp only [Bool.and_eq_true,decide_eq_true_eq];omega)
  · rw [sdOk,if_neg h1,if_pos h2]
    refine Pu.use (l1In_spec x.n 0 1) ⟨?_,hle⟩
    exact congrArg (fun b:Bool=>B b) (by rw [Bool.eq_iff_iff];simp only [Bool.and_eq_true,Bool.or_eq_true,decide_eq_true_eq];omega)
  · rw [sdOk,if_neg h1,if_neg h2]
    have:0 < need x.op:=by
      rcases need_cases x.op with h3 | h3 | h3 | h3<;>omega
    exact ⟨by rw [decide_eq_true this,Bool.true_and],hle⟩
theorem goodF_false {f:List Sd} {i:Nat} (hi:i < f.length) (h:sdAt f i=false):goodF f=false:=by
  rw [goodF,Bool.and_eq_false_iff,Bool.and_eq_false_iff]
  exact .inl (.inr (range_all_false hi h))
theorem vals_bd {f:List Sd}:∀i,(∀j,j < i→sdAt f j=true)→0≤vals f i∧vals f i≤i:=by
  intro i
  induction i with
  | zero=>intro _;exact ⟨Int.le_refl _,Int.le_refl _⟩
  | succ i ih=>
    intro h
    have h1:=ih fun j hj=>h j (by omega)
    have h2:=h i (by omega)
    simp only [sdAt,Bool.and_eq_true,decide_eq_true_eq] at h2
    have h3:=sdOk_need h2.1
    have h4:=h2.2
    simp only [vals]
    omega
theorem GoodSaid_impl (f:List Sd) (hl:f.length≤1048576):Pu Try.prog 37 [Ds f] (B (goodF f)):=by
  refine Pu.of fun H=>?_
  refine W37_ok ?_;simp (maxSteps:=1000000) (disch:=first | assumption | (apply ν6;assumption)) only [W37,vz,vu,vv,eqS,eF_,↓c1_,↓c2_,tabs,reduceCtorEq,ι5,↓reduceIte,ν1,ν2,ν3,ν4,ν5,ι1,ι2,ι3,ι4]
  refine ⟨fun h1=>by rw [goodF,decide_eq_false (by omega)];rfl,fun h1=>⟨fun h2=>by rw [goodF,decide_eq_false (show ¬f.length≤16 by omega),Bool.and_false];rfl,fun h2=>?_⟩⟩
  refine L37_0_rule (0:Nat) (fun i=>I (vals f i)) (fun i=>I i) (fun _=>H) (fun i=>i≤f.length∧∀j,j < i→sdAt f j=true) (fun i=>f.length - i) ⟨⟨by omega,by intros;omega⟩,.refl _,.refl _,Heap.le_refl _⟩ ?_
  rintro i ⟨hi,ha⟩
  have hv:=vals_bd i ha
  (try simp (maxSteps:=1000000) (disch:=first | assumption | (apply ν6;assumption)) only [vz,vu,vv,eqS,eF_,↓c1_,↓c2_,tabs,reduceCtorEq,ι5,↓reduceIte,ν1,ν2,ν3,ν4,ν5,ι1,ι2,ι3,ι4,B37_0])
  refine ⟨fun h3=>⟨by omega,h3,?_⟩,fun h3=>?_⟩
  · have hlt:i < f.length:=by omega
    have hat:sdAt f i=(sdOk (f.getD i default) && decide (need (f.getD i default).op≤vals f i)):=rfl
    have hvs:vals f (i+1)=vals f i+(1 - need (f.getD i default).op):=rfl
    generalize f.getD i default=x at hat hvs ⊢
    intro r hr
    have hle:=Heap.le_set (b:=[I x.op,I x.n]) hr
    refine Pu.use (need_impl.operandsOfSaid_spec x.op) ?_
    (try simp (maxSteps:=1000000) (disch:=first | assumption | (apply ν6;assumption)) only [vz,vu,vv,eqS,eF_,↓c1_,↓c2_,tabs,reduceCtorEq,ι5,↓reduceIte,ν1,ν2,ν3,ν4,ν5,ι1,ι2,ι3,ι4])
    refine Pu.use (isSaid_spec x) ?_
    cases hok:sdOk x
    · (try simp (maxSteps:=1000000) (disch:=first | assumption | (apply ν6;assumption)) only [vz,vu,vv,eqS,eF_,↓c1_,↓c2_,tabs,reduceCtorEq,ι5,↓reduceIte,ν1,ν2,ν3,ν4,ν5,ι1,ι2,ι3,ι4])
      exact ⟨by rw [goodF_false hlt (by rw [hat,hok];rfl)],hle⟩
    · have hnd:=sdOk_need hok
      (try simp (maxSteps:=1000000) (disch:=first | assumption | (apply ν6;assumption)) only [vz,vu,vv,eqS,eF_,↓c1_,↓c2_,tabs,reduceCtorEq,ι5,↓reduceIte,ν1,ν2,ν3,ν4,ν5,ι1,ι2,ι3,ι4])
      refine ⟨fun h4=>⟨by rw [goodF_false hlt (by rw [hat,hok,Bool.true_and,decide_eq_false (by omega)])],hle⟩,fun h4=>⟨i+1,⟨by omega,fun j hj=>?_⟩,by omega,?_,?_,hle⟩⟩
      · rcases Nat.lt_succ_iff_lt_or_eq.1 hj with h | rfl
        · exact ha j h
        · rw [hat,hok,Bool.true_and,decide_eq_true (by omega)]
      · rw [wk_int,i64_id (n:=1 - need x.op) (by omega) (by omega),i64_id (by omega) (by omega),hvs]
      · rw [wk_int,i64_id (by omega) (by omega)];simp
  · have:i=f.length:=by omega
    subst this
    refine congrArg (fun b:Bool=>B b) ?_
    have hall:(List.range f.length).all (sdAt f)=true:=List.all_eq_true.2 fun j hj=>ha j (List.mem_range.1 hj)
    rw [goodF,hall,decide_eq_true (show 1≤f.length by omega),decide_eq_true (show f.length≤16 by omega)];rfl
theorem GoodSaid_spec (f:List Sd) (hl:f.length≤1048576):Pu Try.prog 38 [Ds f] (B (goodF f)):=by
  refine Pu.of fun H=>?_
  refine W38_ok ?_;simp (maxSteps:=1000000) (disch:=first | assumption | (apply ν6;assumption)) only [W38,vz,vu,vv,eqS,eF_,↓c1_,↓c2_,tabs,reduceCtorEq,ι5,↓reduceIte,ν1,ν2,ν3,ν4,ν5,ι1,ι2,ι3,ι4]
  refine Pu.use (l1In_spec f.length 1 16) ?_
  cases hin:(decide ((1:Int)≤f.length) && decide ((f.length:Int)≤16))
  · (try simp (maxSteps:=1000000) (disch:=first | assumption | (apply ν6;assumption)) only [vz,vu,vv,eqS,eF_,↓c1_,↓c2_,tabs,reduceCtorEq,ι5,↓reduceIte,ν1,ν2,ν3,ν4,ν5,ι1,ι2,ι3,ι4])
    rw [Bool.and_eq_false_iff,decide_eq_false_iff_not,decide_eq_false_iff_not] at hin
    rcases hin with h | h
    · rw [goodF,decide_eq_false (by omega)];rfl
    · rw [goodF,decide_eq_false (show ¬f.length≤16 by omega),Bool.and_false];rfl
  rw [Bool.and_eq_true,decide_eq_true_eq,decide_eq_true_eq] at hin
  (try simp (maxSteps:=1000000) (disch:=first | assumption | (apply ν6;assumption)) only [vz,vu,vv,eqS,eF_,↓c1_,↓c2_,tabs,reduceCtorEq,ι5,↓reduceIte,ν1,ν2,ν3,ν4,ν5,ι1,ι2,ι3,ι4])
  refine L38_0_rule (0:Nat) (fun i=>I (vals f i)) (fun i=>I i) (fun _=>H) (fun i=>i≤f.length∧∀j,j < i→sdAt f j=true) (fun i=>f.length - i) ⟨⟨by omega,by intros;omega⟩,.refl _,.refl _,Heap.le_refl _⟩ ?_
  rintro i ⟨hi,ha⟩
  have hv:=vals_bd i ha
  (try simp (maxSteps:=1000000) (disch:=first | assumption | (apply ν6;assumption)) only [vz,vu,vv,eqS,eF_,↓c1_,↓c2_,tabs,reduceCtorEq,ι5,↓reduceIte,ν1,ν2,ν3,ν4,ν5,ι1,ι2,ι3,ι4,B38_0])
  refine ⟨fun h3=>⟨by omega,h3,?_⟩,fun h3=>?_⟩
  · have hlt:i < f.length:=by omega
    have hat:sdAt f i=(sdOk (f.getD i default) && decide (need (f.getD i default).op≤vals f i)):=rfl
    have hvs:vals f (i+1)=vals f i+(1 - need (f.getD i default).op):=rfl
    generalize f.getD i default=x at hat hvs ⊢
    intro r hr
    have hle:=Heap.le_set (b:=[I x.op,I x.n]) hr
    refine Pu.use (need_spec.l10Need_spec x.op) ?_
    (try simp (maxSteps:=1000000) (disch:=first | assumption | (apply ν6;assumption)) only [vz,vu,vv,eqS,eF_,↓c1_,↓c2_,tabs,reduceCtorEq,ι5,↓reduceIte,ν1,ν2,ν3,ν4,ν5,ι1,ι2,ι3,ι4])
    refine ⟨fun h0=>⟨?_,hle⟩,fun h0=>?_⟩
    · have:sdOk x=false:=by
        cases hok:sdOk x
        · rfl
        · have:=sdOk_need hok;omega
      rw [goodF_false hlt (by rw [hat,this];rfl)]
    refine Pu.use (l10N_spec x (by omega)) ?_
    cases hok:sdOk x
    · (try simp (maxSteps:=1000000) (disch:=first | assumption | (apply ν6;assumption)) only [vz,vu,vv,eqS,eF_,↓c1_,↓c2_,tabs,reduceCtorEq,ι5,↓reduceIte,ν1,ν2,ν3,ν4,ν5,ι1,ι2,ι3,ι4])
      exact ⟨by rw [goodF_false hlt (by rw [hat,hok];rfl)],hle⟩
    · have hnd:=sdOk_need hok
      (try simp (maxSteps:=1000000) (disch:=first | assumption | (apply ν6;assumption)) only [vz,vu,vv,eqS,eF_,↓c1_,↓c2_,tabs,reduceCtorEq,ι5,↓reduceIte,ν1,ν2,ν3,ν4,ν5,ι1,ι2,ι3,ι4])
      refine ⟨fun h4=>⟨by rw [goodF_false hlt (by rw [hat,hok,Bool.true_and,decide_eq_false (by omega)])],hle⟩,fun h4=>⟨i+1,⟨by omega,fun j hj=>?_⟩,by omega,?_,?_,hle⟩⟩
      · rcases Nat.lt_succ_iff_lt_or_eq.1 hj with h | rfl
        · exact ha j h
        · rw [hat,hok,Bool.true_and,decide_eq_true (by omega)]
      · rw [wk_int,i64_id (n:=1 - need x.op) (by omega) (by omega),i64_id (by omega) (by omega),hvs]
      · rw [wk_int,i64_id (by omega) (by omega)];simp
  · have:i=f.length:=by omega
    subst this
    refine congrArg (fun b:Bool=>B b) ?_
    have hall:(List.range f.length).all (sdAt f)=true:=List.all_eq_true.2 fun j hj=>ha j (List.mem_range.1 hj)
    rw [goodF,hall,decide_eq_true (show 1≤f.length by omega),decide_eq_true (show f.length≤16 by omega)];rfl
end Go.Proofs.Ytjdhigcefkihiaa
namespace Go.Proofs.Ytjdhigcefkihiaa
open Go Go.Sep Go.Pt
attribute [local irreducible] CallT
theorem lit0G {G:Heap} {K:AV→Heap→Prop} (h:∀q,G q=none→K (.sl q 1 0 0) (G.set q [])):buildSliceV tab 110 0 [] G (wkK K):=by
  simp only [buildSliceV,tab_110,tab_23]
  refine ⟨by omega,?_⟩
  simp only [fillV,zerosA,List.replicate_zero,List.flatten_nil]
  exact fun r hr=>wkK.keep (h r hr)
theorem rg_new {H G:Heap} {Ts:List Th} {q:Nat} (s:St H Ts G) (hq:G q=none):St H (rnG (.sl q 1 0 0) [] [q]::Ts) (G.set q []):=
  s.push (rnG (.sl q 1 0 0) [] [q]) (New.cell hq) (.inr ⟨q,[],[],rfl,Heap.set_same _ _ _,⟨rfl,rfl⟩,rfl⟩)
theorem fin_rows {H G:Heap} {Ts:List Th} {x:AV} {gs:List (List Int)} {D:List Nat} (s:St H Ts G) (i:Nat) (hi:Ts[i]?=some (rnG x gs D)):wkK (fun r H'=>r=Ls gs∧H'=H) x G:=by
  have hr:RN LIc 1 x gs G D:=s.get i hi
  rcases hr with ⟨rfl,rfl,rfl⟩ | hr
  · exact ⟨_,_,.trans (.val .nil) (.forget s.le),rfl,rfl⟩
  · obtain ⟨q,rfl⟩:=LRow.sl hr
    obtain ⟨G',w,f⟩:=LRow.frzV (e:=eL) (sz:=1) (v:=.sl q 1 0 gs.length) (v':=Ls gs) (by omega) (fun _=>rfl) LIc.local LIc.frz hr (s.ndT i hi) (fun q _ hr=>hr)
    refine ⟨_,_,.trans w (.forget (H':=H) fun y b hb=>?_),rfl,rfl⟩
    rw [f y (fun hm=>by have:=s.fr _ (List.mem_of_getElem? hi) y hm;rw [this] at hb;cases hb)]
    exact s.le y b hb
def RowR (l:List Int) (r:AV) (G:Heap) (D:List Nat):Prop:=∃q,r=rowP q l∧G q=some (cP fI l)∧D=[q]
theorem RowR.res (l:List Int):ResT (RowR l):=by
  refine ⟨?_,?_,?_⟩
  · rintro r G G' D ⟨q,rfl,hq,rfl⟩ hf
    exact ⟨q,rfl,hf q (by simp) _ hq,rfl⟩
  · rintro r G D ⟨q,rfl,hq,rfl⟩
    refine ⟨.inr ⟨.inr ⟨.inl ⟨_,_,_,_,rfl⟩,fun _=>rfl⟩,fun _=>rfl⟩,fun y hy bs hb c hc=>?_⟩
    rw [List.mem_singleton.1 hy,hq] at hb
    cases hb
    obtain ⟨x,_,rfl⟩:=List.mem_map.1 hc
    exact .p (.int _ _)
  · rintro r G D n G0 h0 ⟨q,rfl,hq,rfl⟩
    refine ⟨q+n,rfl,?_,rfl⟩
    have hr:=LRow.sh (LPl.sh eI) h0 (LI_mk' hq)
    obtain ⟨q',cs,D',e1,e2,e3,e4⟩:=hr
    obtain ⟨rfl,-⟩:=LL.plain' e3
    have e:q'=q+n:=by
      have h1:shC n (rowP q l)=.sl (q+n) 1 0 l.length:=rfl
      rw [h1] at e1
      injection e1 with e1;exact e1.symm
    subst e
    have e5:cells (l.map eI)=cP fI l:=cells_P fI l
    rw [← e5];exact e2
theorem Clone_part {q off n:Nat} {l:List Int} {G:Heap} (hq:G q=some (cP fI l)) (hb:off+n≤l.length) (hl:l.length≤100000) {K:AV→Heap→Prop} (h:∀qn G',RowR ((l.drop off).take n) (rowP qn ((l.drop off).take n)) G' [qn]→New G G' [qn]→K (rowP qn ((l.drop off).take n)) G'):CallT Try.prog 65 [.sl q 1 off n] G K:=by
  refine thawR (R:=RowR ((l.drop off).take n)) (RowR.res _) (args':=[Is ((l.drop off).take n)]) (G1:=G.del q) (fun {K} h=>CloneI_row _ (by rw [List.length_take,List.length_drop];omega) fun q hq=>h _ _ [q] ⟨q,rfl,Heap.set_same _ _ _,rfl⟩ (New.cell hq)) ?_ ?_
  · refine Wk.frzS (es:=l.map fI) (by rw [hq,List.map_map];rfl) (.tup (.cons ?_ .nil))
    have:=FrzS.part (r:=q) (es:=l.map fI) off n (by rw [List.length_map];exact hb)
    have e:(((l.map fI).drop off).take n).map (fun v=>[v])=((l.drop off).take n).map eI:=by rw [← List.map_drop,← List.map_take,List.map_map];rfl
    rw [e] at this
    exact this
  · rintro r G' D ⟨qn,rfl,h1,rfl⟩ hn
    exact h qn G' ⟨qn,rfl,h1,rfl⟩ hn
def opsA (f:List Sd) (i:Nat):List (List Int):=(List.range i).map (opsF f)
theorem opsA_succ (f:List Sd) (i:Nat):opsA f (i+1)=opsA f i++[opsF f i]:=by simp [opsA,List.range_succ]
theorem opsA_len (f:List Sd) (i:Nat):(opsA f i).length=i:=by simp [opsA]
theorem opsA_get (f:List Sd) {n i:Nat} (h:i < n):(opsA f n).getD i default=opsF f i:=by simp [opsA,List.getD,h]
theorem roots_len {f:List Sd} (g:GoodFm f) (i:Nat) (hi:i≤f.length):(roots f i).length=(vals f i).toNat∧vals f i≤16∧0≤vals f i:=by
  have h:=stk_len g i hi
  have h2:vals f i≤i:=(vals_bd i fun j hj=>by
    have:=g.ok j (by omega)
    rw [sdAt,this.1,decide_eq_true this.2];rfl).2
  have:=g.l1
  rw [roots,List.length_map,List.length_reverse]
  omega
theorem operandIndexes_spec (f:List Sd) (g:GoodFm f):Pu Try.prog 104 [Ds f] (Ls (opsA f f.length)):=by
  have hl:=g.l1
  refine ⟨fun H=>CallT.fin ?_⟩
  refine W104_ok ?_;simp (maxSteps:=1000000) (disch:=first | assumption | (apply ν6;assumption)) only [W104,vz,vu,vv,eqS,eF_,↓c1_,↓c2_,tabs,reduceCtorEq,ι5,↓reduceIte,ν1,ν2,ν3,ν4,ν5,ι1,ι2,ι3,ι4]
  refine lit0G fun q0 hq0=>?_
  have st:=rg_new (St.nil H) hq0
  generalize H.set q0 []=G at st ⊢
  refine lit0I fun q1 hq1=>?_
  replace st:=st.cell hq1 (cP fI [])
  generalize G.set q1 (cP fI [])=G1 at st ⊢
  (try simp (maxSteps:=1000000) (disch:=first | assumption | (apply ν6;assumption)) only [vz,vu,vv,eqS,eF_,↓c1_,↓c2_,tabs,reduceCtorEq,ι5,↓reduceIte,ν1,ν2,ν3,ν4,ν5,ι1,ι2,ι3,ι4])
  refine L104_0_rule ((0:Nat),(.sl q0 1 0 0:AV),[q0],q1,G1) (fun s=>s.2.1) (fun s=>rowP s.2.2.2.1 (roots f s.1)) (fun s=>I s.1) (fun s=>s.2.2.2.2)
    (fun s=>s.1≤f.length∧St H [cellT s.2.2.2.1 (cP fI (roots f s.1)),rnG s.2.1 (opsA f s.1) s.2.2.1] s.2.2.2.2) (fun s=>f.length - s.1)
    ⟨⟨by simp,st⟩,.refl _,.refl _,.refl _,Heap.le_refl _⟩ ?_
  clear st
  rintro ⟨i,x,D,q,G⟩ ⟨hi,st⟩
  dsimp only at hi st
  (try simp (maxSteps:=1000000) (disch:=first | assumption | (apply ν6;assumption)) only [vz,vu,vv,eqS,eF_,↓c1_,↓c2_,tabs,reduceCtorEq,ι5,↓reduceIte,ν1,ν2,ν3,ν4,ν5,ι1,ι2,ι3,ι4,B104_0])
  refine ⟨fun h1=>⟨by omega,h1,?_⟩,fun h1=>?_⟩
  · have hlt:i < f.length:=by omega
    obtain ⟨rr,e1,e2,e3⟩:=roots_succ g hlt
    have hok:=g.ok i hlt
    have hnd:=sdOk_need hok.1
    have hrl:=roots_len g i hi
    have hlen:(roots f i).length=rr.length+(opsF f i).length:=by rw [e1,List.length_append]
    have hsucc:=opsA_succ f i
    generalize f.getD i default=y at e3 hok hnd ⊢
    intro r hr
    replace st:=st.cell hr [I y.op,I y.n]
    generalize G.set r [I y.op,I y.n]=G2 at st ⊢
    (try simp (maxSteps:=1000000) (disch:=first | assumption | (apply ν6;assumption)) only [vz,vu,vv,eqS,eF_,↓c1_,↓c2_,tabs,reduceCtorEq,ι5,↓reduceIte,ν1,ν2,ν3,ν4,ν5,ι1,ι2,ι3,ι4,load_at (st.get 0 rfl)])
    refine Pu.use (need_impl.operandsOfSaid_spec y.op) ?_
    have ew:IntKind.i64.wrap ((roots f i).length - need y.op)=(rr.length:Nat):=by rw [i64_id (by omega) (by omega)];omega
    (try simp (maxSteps:=1000000) (disch:=first | assumption | (apply ν6;assumption)) only [vz,vu,vv,eqS,eF_,↓c1_,↓c2_,tabs,reduceCtorEq,ι5,↓reduceIte,ν1,ν2,ν3,ν4,ν5,ι1,ι2,ι3,ι4,sliceV,ew])
    refine ⟨by omega,by omega,by omega,?_⟩
    have en:((roots f i).length - (rr.length:Int)).toNat=(opsF f i).length:=by omega
    have ep:((roots f i).drop (rr.length*1)).take (opsF f i).length=opsF f i:=by rw [e1,Nat.mul_one,List.drop_left,List.take_length]
    rw [en]
    refine Clone_part (st.get 1 rfl) (by omega) (by omega) fun qn G3 hrow hn=>?_
    rw [ep] at hrow ⊢
    obtain ⟨qn',e4,hqn,_⟩:=hrow
    injection e4 with e4;subst e4
    replace st:=st.push (cellT qn (cP fI (opsF f i))) hn hqn
    refine lit_live1 fun ql hql=>?_
    replace st:=st.cell hql [rowP qn (opsF f i)]
    generalize G3.set ql [.sl qn 1 0 (opsF f i).length]=G4 at st ⊢
    refine rn_pushL st 2 rfl (by rw [opsA_len];omega) fun q' D' G5 hq' st=>?_
    rw [← hsucc] at st
    simp only [List.set_cons_succ,List.set_cons_zero] at st
    have hq5:=(st.get 1 rfl:G5 q=_)
    rw [e1,cI_app] at hq5
    refine ⟨by omega,by omega,by omega,?_⟩
    refine lit1 tab_23 rfl tab_3 ⟨rfl,rfl⟩ ?_
    refine app_intsX (xs:=rr) (ys:=[(i:Int)]) hq5 (by simp only [List.length_singleton];omega) fun q2 hq2 hne=>?_
    rw [← e2]
    refine ⟨(i+1,.sl q' 1 0 ((opsA f i).length+1),D',q2,_),⟨by simp only;omega,(st.moved 1 rfl hq2 (c:=cP fI (roots f (i+1)))).drop⟩,by simp only;omega,.refl _,.refl _,?_,Heap.le_refl _⟩
    rw [wk_int,i64_id (by omega) (by omega)];simp
  · have:i=f.length:=by omega
    subst this
    exact fin_rows st 1 rfl
theorem lit1r {G:Heap} {K:AV→Heap→Prop} {n:Int} (h:∀q,G q=none→K (rowP q [n]) (G.set q (cP fI [n]))):buildSliceV tab 23 1 [(0,I n)] G (wkK K):=by
  simp only [buildSliceV,tab_23,tab_3]
  refine ⟨by omega,?_⟩
  simp only [fillV,zerosA,List.replicate_succ,List.replicate_zero,List.flatten_cons,List.flatten_nil,List.append_nil,AV.cells,splice]
  simp only [List.length_cons,List.length_nil,Nat.reduceAdd,Nat.zero_mul,Nat.zero_add,Nat.le_refl,and_self,if_true,List.take_zero,List.nil_append,List.drop_succ_cons,List.drop_zero,List.append_nil]
  exact fun r hr=>wkK.keep (h r hr)
def tr (f:List Sd):List Int:=sc (trL f f.length)
theorem tracked_row (f:List Sd) (g:GoodFm f) {H:Heap} {K:AV→Heap→Prop} (h:∀q G,RowR (tr f) (rowP q (tr f)) G [q]→New H G [q]→K (rowP q (tr f)) G):CallT Try.prog 62 [Ds f] H K:=by
  have hl:=g.l1
  have hl0:=g.l0
  refine CallT.fin ?_
  have e0:IntKind.i64.wrap ((f.length:Int) - 1)=f.length - 1:=i64_id (by omega) (by omega)
  refine W62_ok ?_;simp (maxSteps:=1000000) (disch:=first | assumption | (apply ν6;assumption)) only [W62,vz,vu,vv,eqS,eF_,↓c1_,↓c2_,tabs,reduceCtorEq,ι5,↓reduceIte,ν1,ν2,ν3,ν4,ν5,ι1,ι2,ι3,ι4,e0]
  refine lit1r (n:=(f.length:Int) - 1) fun q0 hq0=>?_
  have st:=(St.nil H).cell hq0 (cP fI (trL f 0))
  have ez:[(f.length:Int) - 1]=trL f 0:=by simp [trL]
  rw [ez]
  generalize H.set q0 (cP fI (trL f 0))=G at st ⊢
  refine Pu.use (operandIndexes_spec f g) ?_
  (try simp (maxSteps:=1000000) (disch:=first | assumption | (apply ν6;assumption)) only [vz,vu,vv,eqS,eF_,↓c1_,↓c2_,tabs,reduceCtorEq,ι5,↓reduceIte,ν1,ν2,ν3,ν4,ν5,ι1,ι2,ι3,ι4])
  refine L62_0_rule ((0:Nat),q0,G) (fun s=>rowP s.2.1 (trL f s.1)) (fun s=>I s.1) (fun s=>s.2.2)
    (fun s=>s.1≤f.length∧St H [cellT s.2.1 (cP fI (trL f s.1))] s.2.2) (fun s=>f.length - s.1)
    ⟨⟨by simp,st⟩,.refl _,.refl _,Heap.le_refl _⟩ ?_
  clear st
  rintro ⟨i,q,G⟩ ⟨hi,st⟩
  dsimp only at hi st
  have htl:=trL_len f i
  (try simp (maxSteps:=1000000) (disch:=first | assumption | (apply ν6;assumption)) only [vz,vu,vv,eqS,eF_,↓c1_,↓c2_,tabs,reduceCtorEq,ι5,↓reduceIte,ν1,ν2,ν3,ν4,ν5,ι1,ι2,ι3,ι4,B62_0])
  refine ⟨fun h1=>⟨by omega,h1,?_⟩,fun h1=>?_⟩
  · have hlt:i < f.length:=by omega
    have hok:=g.ok i hlt
    have hsucc:=trL_succ f i
    have e5:IntKind.i64.wrap ((i:Int)+1)=((i+1:Nat):Int):=by rw [i64_id (by omega) (by omega)];simp
    have hog:=opsA_get f hlt
    have hol:=opsA_len f f.length
    have hat:trAt f i=if (f.getD i default).op=7∨(f.getD i default).op=8 then [(i:Int),(i:Int) - 1] else if (f.getD i default).op=4 then [(i:Int) - 1] else []:=rfl
    have hop2:(f.getD i default).op=7∨(f.getD i default).op=8→opsF f i=[(tst f (i - 1):Int) - 1,(i:Int) - 1]:=fun h=>by
      have:need (f.getD i default).op=2:=by rcases h with h | h<;>rw [h]<;>rfl
      rw [opsF,if_neg (by omega),if_neg (by omega)]
    have hop1:(f.getD i default).op=4→opsF f i=[(i:Int) - 1]:=fun h=>by
      have:need (f.getD i default).op=1:=by rw [h];rfl
      rw [opsF,if_neg (by omega),if_pos this]
    generalize f.getD i default=y at hat hop1 hop2 hok ⊢
    intro r hr
    replace st:=st.cell hr [I y.op,I y.n]
    generalize G.set r [I y.op,I y.n]=G2 at st ⊢
    (try simp (maxSteps:=1000000) (disch:=first | assumption | (apply ν6;assumption)) only [vz,vu,vv,eqS,eF_,↓c1_,↓c2_,tabs,reduceCtorEq,ι5,↓reduceIte,ν1,ν2,ν3,ν4,ν5,ι1,ι2,ι3,ι4,load_at (st.get 0 rfl)])
    have key:∀b:Bool,(b=true↔(y.op=7∨y.op=8))→∀N:AV→AV→Heap→Prop,(∀q' G',St H [cellT q' (cP fI (trL f (i+1)))] G'→N (rowP q' (trL f (i+1))) (I ((i+1:Nat):Int)) G')→
        J62_1 (wkK K) N (rowP q (trL f i)) (Ls (opsA f f.length)) (I i) (Ds f) (I f.length) (I i) (I y.op) (B b) G2:=by
      intro b hb N hN
      (try simp (maxSteps:=1000000) (disch:=first | assumption | (apply ν6;assumption)) only [vz,vu,vv,eqS,eF_,↓c1_,↓c2_,tabs,reduceCtorEq,ι5,↓reduceIte,ν1,ν2,ν3,ν4,ν5,ι1,ι2,ι3,ι4,J62_1,e5])
      have e6:trL f i++trAt f i=trL f (i+1):=hsucc.symm
      refine ⟨fun h2=>?_,fun h2=>⟨fun h4=>?_,fun h4=>?_⟩⟩
      · have h7:=hb.1 h2
        have ho:=hop2 h7
        rw [hat,if_pos h7] at e6
        rw [hog,ho]
        refine ⟨by omega,by rw [hol];omega,by omega,by simp,?_⟩
        refine lit2 tab_23 rfl tab_3 ⟨rfl,rfl⟩ ?_
        refine st_appI (ys:=[(i:Int),(i:Int) - 1]) st 1 rfl (by simp only [List.length_cons,List.length_nil];omega) fun q' G' hq' st=>?_
        rw [e6] at st ⊢
        exact hN _ _ st.drop
      · have h7:¬(y.op=7∨y.op=8):=fun h=>by rw [hb.2 h] at h2;cases h2
        rw [hat,if_neg h7,if_pos h4] at e6
        rw [hog,hop1 h4]
        refine ⟨by omega,by rw [hol];omega,by omega,by simp,?_⟩
        refine lit1 tab_23 rfl tab_3 ⟨rfl,rfl⟩ ?_
        refine st_appI (ys:=[(i:Int) - 1]) st 1 rfl (by simp only [List.length_cons,List.length_nil];omega) fun q' G' hq' st=>?_
        rw [e6] at st ⊢
        exact hN _ _ st.drop
      · have h7:¬(y.op=7∨y.op=8):=fun h=>by rw [hb.2 h] at h2;cases h2
        rw [hat,if_neg h7,if_neg h4,List.append_nil] at e6
        rw [e6] at st ⊢
        exact hN _ _ st.drop
    refine ⟨fun h7=>key (decide (y.op=7)) (by simp [h7]) _ fun q' G' st=>⟨(i+1,q',G'),⟨by simp only;omega,st⟩,by simp only;omega,.refl _,.refl _,Heap.le_refl _⟩,fun h7=>key (decide (y.op=8)) (by simp [h7]) _ fun q' G' st=>⟨(i+1,q',G'),⟨by simp only;omega,st⟩,by simp only;omega,.refl _,.refl _,Heap.le_refl _⟩⟩
  · have:i=f.length:=by omega
    subst this
    have hq:G q=some (cP fI (trL f f.length)):=st.get 0 rfl
    have hsl:(srt (trL f f.length)).length=(trL f f.length).length:=List.length_mergeSort ..
    refine Sort_row hq (by omega) ?_
    replace st:=st.put 0 rfl (cP fI (srt (trL f f.length)))
    have hq:(G.set q (cP fI (srt (trL f f.length)))) q=some (cP fI (srt (trL f f.length))):=Heap.set_same _ _ _
    generalize G.set q (cP fI (srt (trL f f.length)))=G2 at st hq ⊢
    rw [show rowP q (trL f f.length)=rowP q (srt (trL f f.length)) by simp only [rowP,hsl]]
    refine Compact_row hq (by omega) ?_
    replace st:=st.put 0 rfl (cP fI (tr f))
    exact wkK.keep (h q _ ⟨q,rfl,st.get 0 rfl,rfl⟩ ⟨st.ndT 0 rfl,st.fr _ (List.mem_cons_self ..),st.le⟩)
end Go.Proofs.Ytjdhigcefkihiaa
namespace Go.Proofs.Ytjdhigcefkihiaa
open Go Go.Sep Go.Pt
attribute [local irreducible] CallT
def trQ (f:List Sd) (i:Nat):List Int:=(((List.range i).map (trAt f)).flatten).foldl put [(f.length:Int) - 1]
theorem trQ_succ (f:List Sd) (i:Nat):trQ f (i+1)=(trAt f i).foldl put (trQ f i):=by simp [trQ,List.range_succ,List.foldl_append]
theorem trQ_lt (f:List Sd) (i:Nat):(trQ f i).Pairwise (· < ·):=(foldl_put _ _ (by simp)).1
theorem foldl_putlen (xs:List Int):∀l,(xs.foldl put l).length≤l.length+xs.length:=by
  induction xs with
  | nil=>intro l;simp
  | cons a xs ih=>intro l;have:=ih (put l a);have:=put_len l a;rw [List.foldl_cons,List.length_cons];omega
theorem trQ_len (f:List Sd) (i:Nat):(trQ f i).length≤2*i+1:=by
  have h1:=foldl_putlen (((List.range i).map (trAt f)).flatten) [(f.length:Int) - 1]
  have h2:=trL_len f i
  rw [trL,List.length_cons] at h2
  rw [List.length_singleton] at h1
  unfold trQ;omega
theorem trQ_all (f:List Sd):trQ f f.length=tr f:=by
  have h:=foldl_put (((List.range f.length).map (trAt f)).flatten) [(f.length:Int) - 1] (by simp)
  refine rise_ext h.1 (sc_lt _) fun x=>?_
  unfold trQ tr
  rw [h.2,sc_mem,trL,List.mem_cons]
  simp
theorem l13Tracked_spec (f:List Sd) (g:GoodFm f):Pu Try.prog 55 [Ds f] (Is (tr f)):=by
  have hl:=g.l1
  have hl0:=g.l0
  refine Pu.of fun H=>?_
  have e0:IntKind.i64.wrap ((f.length:Int) - 1)=f.length - 1:=i64_id (by omega) (by omega)
  refine W55_ok ?_;simp (maxSteps:=1000000) (disch:=first | assumption | (apply ν6;assumption)) only [W55,vz,vu,vv,eqS,eF_,↓c1_,↓c2_,tabs,reduceCtorEq,ι5,↓reduceIte,ν1,ν2,ν3,ν4,ν5,ι1,ι2,ι3,ι4,e0]
  refine lit1 tab_23 rfl tab_3 ⟨rfl,rfl⟩ ?_
  (try simp (maxSteps:=1000000) (disch:=first | assumption | (apply ν6;assumption)) only [vz,vu,vv,eqS,eF_,↓c1_,↓c2_,tabs,reduceCtorEq,ι5,↓reduceIte,ν1,ν2,ν3,ν4,ν5,ι1,ι2,ι3,ι4])
  refine L55_0_rule (0:Nat) (fun i=>Is (trQ f i)) (fun i=>I i) (fun _=>H) (fun i=>i≤f.length) (fun i=>f.length - i) ⟨by omega,.refl _,.refl _,Heap.le_refl _⟩ ?_
  intro i hi
  have htl:=trQ_len f i
  have hlt:=trQ_lt f i
  (try simp (maxSteps:=1000000) (disch:=first | assumption | (apply ν6;assumption)) only [vz,vu,vv,eqS,eF_,↓c1_,↓c2_,tabs,reduceCtorEq,ι5,↓reduceIte,ν1,ν2,ν3,ν4,ν5,ι1,ι2,ι3,ι4,B55_0])
  refine ⟨fun h1=>⟨by omega,h1,?_⟩,fun h1=>?_⟩
  · have hlt:i < f.length:=by omega
    have e5:IntKind.i64.wrap ((i:Int)+1)=((i+1:Nat):Int):=by rw [i64_id (by omega) (by omega)];simp
    have e7:IntKind.i64.wrap ((i:Int) - 1)=(i:Int) - 1:=i64_id (by omega) (by omega)
    have hsucc:=trQ_succ f i
    have hat:trAt f i=if (f.getD i default).op=7∨(f.getD i default).op=8 then [(i:Int),(i:Int) - 1] else if (f.getD i default).op=4 then [(i:Int) - 1] else []:=rfl
    generalize f.getD i default=y at hat ⊢
    intro r hr
    have hle:=Heap.le_set (b:=[I y.op,I y.n]) hr
    generalize H.set r [I y.op,I y.n]=G at hle ⊢
    have key:∀b:Bool,(b=true↔(y.op=7∨y.op=8))→∀(K N),(∀G',Heap.le G G'→N (Is (trQ f (i+1))) (I ((i+1:Nat):Int)) G')→
        J55_1 K N (Is (trQ f i)) (I i) (Ds f) (I f.length) (I i) (I y.op) (B b) G:=by
      intro b hb K N hN
      (try simp (maxSteps:=1000000) (disch:=first | assumption | (apply ν6;assumption)) only [vz,vu,vv,eqS,eF_,↓c1_,↓c2_,tabs,reduceCtorEq,ι5,↓reduceIte,ν1,ν2,ν3,ν4,ν5,ι1,ι2,ι3,ι4,J55_1,e5,e7])
      refine ⟨fun h2=>?_,fun h2=>⟨fun h4=>?_,fun h4=>?_⟩⟩
      · rw [hat,if_pos (hb.1 h2)] at hsucc
        refine Pu.use (l1Put_spec _ (i:Int) ‹_› (by omega)) ?_
        have hpl:=put_len (trQ f i) (i:Int)
        refine Pu.use (l1Put_spec _ ((i:Int) - 1) (put_lt _ ‹_›) (by omega)) ?_
        rw [show put (put (trQ f i) i) (i - 1)=trQ f (i+1) by rw [hsucc];rfl]
        (try simp (maxSteps:=1000000) (disch:=first | assumption | (apply ν6;assumption)) only [vz,vu,vv,eqS,eF_,↓c1_,↓c2_,tabs,reduceCtorEq,ι5,↓reduceIte,ν1,ν2,ν3,ν4,ν5,ι1,ι2,ι3,ι4,e5])
        exact hN G (Heap.le_refl _)
      · have h7:¬(y.op=7∨y.op=8):=fun h=>by rw [hb.2 h] at h2;cases h2
        rw [hat,if_neg h7,if_pos h4] at hsucc
        refine Pu.use (l1Put_spec _ ((i:Int) - 1) ‹_› (by omega)) ?_
        rw [show put (trQ f i) (i - 1)=trQ f (i+1) by rw [hsucc];rfl]
        (try simp (maxSteps:=1000000) (disch:=first | assumption | (apply ν6;assumption)) only [vz,vu,vv,eqS,eF_,↓c1_,↓c2_,tabs,reduceCtorEq,ι5,↓reduceIte,ν1,ν2,ν3,ν4,ν5,ι1,ι2,ι3,ι4,e5])
        exact hN G (Heap.le_refl _)
      · have h7:¬(y.op=7∨y.op=8):=fun h=>by rw [hb.2 h] at h2;cases h2
        rw [hat,if_neg h7,if_neg h4] at hsucc
        rw [show trQ f i=trQ f (i+1) by rw [hsucc];rfl]
        exact hN G (Heap.le_refl _)
    refine ⟨fun h7=>key (decide (y.op=7)) (by simp [h7]) _ _ fun G' hg=>⟨i+1,by omega,by omega,.refl _,.refl _,Heap.le_trans hle hg⟩,fun h7=>key (decide (y.op=8)) (by simp [h7]) _ _ fun G' hg=>⟨i+1,by omega,by omega,.refl _,.refl _,Heap.le_trans hle hg⟩⟩
  · have:i=f.length:=by omega
    subst this
    rw [trQ_all]
def goodT (f:List Sd):Bool:=goodF f && decide ((tr f).length≤5)
theorem isTracked_spec (f:List Sd) (hl:f.length≤1048576):Pu Try.prog 60 [Ds f] (B (goodT f)):=by
  refine Pu.of fun H=>?_
  refine W60_ok ?_;simp (maxSteps:=1000000) (disch:=first | assumption | (apply ν6;assumption)) only [W60,vz,vu,vv,eqS,eF_,↓c1_,↓c2_,tabs,reduceCtorEq,ι5,↓reduceIte,ν1,ν2,ν3,ν4,ν5,ι1,ι2,ι3,ι4]
  refine Pu.use (GoodSaid_impl f hl) ?_
  cases hg:goodF f
  · (try simp (maxSteps:=1000000) (disch:=first | assumption | (apply ν6;assumption)) only [vz,vu,vv,eqS,eF_,↓c1_,↓c2_,tabs,reduceCtorEq,ι5,↓reduceIte,ν1,ν2,ν3,ν4,ν5,ι1,ι2,ι3,ι4])
    rw [goodT,hg]
    first | rfl | exact ⟨rfl,Heap.le_refl _⟩
  · (try simp (maxSteps:=1000000) (disch:=first | assumption | (apply ν6;assumption)) only [vz,vu,vv,eqS,eF_,↓c1_,↓c2_,tabs,reduceCtorEq,ι5,↓reduceIte,ν1,ν2,ν3,ν4,ν5,ι1,ι2,ι3,ι4])
    refine tracked_row f (goodF_iff.1 hg) fun q G hr hn=>?_
    (try simp (maxSteps:=1000000) (disch:=first | assumption | (apply ν6;assumption)) only [vz,vu,vv,eqS,eF_,↓c1_,↓c2_,tabs,reduceCtorEq,ι5,↓reduceIte,ν1,ν2,ν3,ν4,ν5,ι1,ι2,ι3,ι4])
    refine ⟨?_,hn.le⟩
    refine congrArg (fun b:Bool=>B b) ?_
    rw [goodT,hg,Bool.true_and]
    rw [Bool.eq_iff_iff];simp only [decide_eq_true_eq];omega
theorem l13Good_spec (f:List Sd) (hl:f.length≤1048576):Pu Try.prog 53 [Ds f] (B (goodT f)):=by
  refine Pu.of fun H=>?_
  refine W53_ok ?_;simp (maxSteps:=1000000) (disch:=first | assumption | (apply ν6;assumption)) only [W53,vz,vu,vv,eqS,eF_,↓c1_,↓c2_,tabs,reduceCtorEq,ι5,↓reduceIte,ν1,ν2,ν3,ν4,ν5,ι1,ι2,ι3,ι4]
  refine Pu.use (GoodSaid_spec f hl) ?_
  cases hg:goodF f
  · (try simp (maxSteps:=1000000) (disch:=first | assumption | (apply ν6;assumption)) only [vz,vu,vv,eqS,eF_,↓c1_,↓c2_,tabs,reduceCtorEq,ι5,↓reduceIte,ν1,ν2,ν3,ν4,ν5,ι1,ι2,ι3,ι4])
    rw [goodT,hg]
    first | rfl | exact ⟨rfl,Heap.le_refl _⟩
  · (try simp (maxSteps:=1000000) (disch:=first | assumption | (apply ν6;assumption)) only [vz,vu,vv,eqS,eF_,↓c1_,↓c2_,tabs,reduceCtorEq,ι5,↓reduceIte,ν1,ν2,ν3,ν4,ν5,ι1,ι2,ι3,ι4])
    refine Pu.use (l13Tracked_spec f (goodF_iff.1 hg)) ?_
    (try simp (maxSteps:=1000000) (disch:=first | assumption | (apply ν6;assumption)) only [vz,vu,vv,eqS,eF_,↓c1_,↓c2_,tabs,reduceCtorEq,ι5,↓reduceIte,ν1,ν2,ν3,ν4,ν5,ι1,ι2,ι3,ι4])
    refine congrArg (fun b:Bool=>B b) ?_
    rw [goodT,hg,Bool.true_and]
    rw [Bool.eq_iff_iff];simp only [decide_eq_true_eq];omega
theorem goodT_facts {f:List Sd} (h:goodT f=true):GoodFm f∧(tr f).length≤5:=by
  rw [goodT,Bool.and_eq_true,decide_eq_true_eq] at h
  exact ⟨goodF_iff.1 h.1,h.2⟩
theorem tracked_spec (f:List Sd) (g:GoodFm f):Pu Try.prog 62 [Ds f] (Is (tr f)):=by
  refine ⟨fun H=>CallT.fin (tracked_row f g fun q G hr hn=>?_)⟩
  obtain ⟨q',e,hq,_⟩:=hr
  injection e with e;subst e
  have hHq:=hn.fr q (by simp)
  refine fin_int hHq fun y b hb=>?_
  by_cases e:y=q
  · subst e;rw [Heap.set_same] at hb;rw [hq];exact hb
  · rw [Heap.set_other e] at hb;exact hn.le y b hb
def RowB (l:List Int) (ok:Bool) (r:AV) (G:Heap) (D:List Nat):Prop:=∃q,r=.tup [rowP q l,B ok]∧G q=some (cP fI l)∧D=[q]
theorem RowB.res (l:List Int) (ok:Bool):ResT (RowB l ok):=by
  refine ⟨?_,?_,?_⟩
  · rintro r G G' D ⟨q,rfl,hq,rfl⟩ hf
    exact ⟨q,rfl,hf q (by simp) _ hq,rfl⟩
  · rintro r G D ⟨q,rfl,hq,rfl⟩
    refine ⟨.inl ⟨_,rfl,fun u hu=>?_⟩,fun y hy bs hb c hc=>?_⟩
    · rcases List.mem_cons.1 hu with rfl | hu
      · exact .inr ⟨.inl ⟨_,_,_,_,rfl⟩,fun _=>rfl⟩
      · rw [List.mem_singleton] at hu;rw [hu];exact .inr ⟨.p (.bool ok),fun _=>rfl⟩
    · rw [List.mem_singleton.1 hy,hq] at hb
      cases hb
      obtain ⟨x,_,rfl⟩:=List.mem_map.1 hc
      exact .p (.int _ _)
  · rintro r G D n G0 h0 ⟨q,rfl,hq,rfl⟩
    obtain ⟨q',e,h1,_⟩:=(RowR.res l).sh h0 ⟨q,rfl,hq,rfl⟩
    have e2:q'=q+n:=by
      have h1:sh2 n (rowP q l)=.sl (q+n) 1 0 l.length:=rfl
      rw [h1] at e
      injection e with e;exact e.symm
    subst e2
    exact ⟨q+n,rfl,h1,rfl⟩
end Go.Proofs.Ytjdhigcefkihiaa
namespace Go.Proofs.Ytjdhigcefkihiaa
open Go Go.Sep Go.Pt
attribute [local irreducible] CallT
theorem eqI_live {q:Nat} {xs:List Int} {G:Heap} (hq:G q=some (cP fI xs)) (hl:xs.length≤1048576) {K:AV→Heap→Prop} (h:K (B true) G):CallT Try.prog 14 [rowP q xs,Is xs] G K:=
  Pu.thaw (eqIntS_spec xs hl) (.bool _) (Wk.frz (r:=q) (sz:=1) (es:=xs.map fun n=>[fI n]) (v':=.tup [vP fI xs,Is xs]) (by omega) (by rw [flat_P];exact hq) (szP _ _) (.tup (.cons frz_row (.cons (.same _) .nil)))) h
end Go.Proofs.Ytjdhigcefkihiaa
namespace Go.Proofs.Ytjdhigcefkihiaa
open Go Go.Sep Go.Pt
attribute [local irreducible] CallT
def bitF (g:Int) (i:Nat):Bool:=decide (bitsI .and .i64 (Int.fdiv g (2^(min i 64))) 1=1)
abbrev rnB (x:AV) (l:List Bool) (D:List Nat):Th:=rnT (LPl.local eBo) (LPl.has eBo) 1 x l D
theorem rnB_cases {x:AV} {l:List Bool} {G:Heap} {D:List Nat} (h:RN (LPl eBo) 1 x l G D):(x=.p .nil∧l=[]∧D=[])∨∃q,x=rowP q l∧G q=some (cP fB l)∧D=[q]:=by
  rcases h with h | ⟨q,cs,D',rfl,hq,hll,rfl⟩
  · exact .inl h
  · obtain ⟨rfl,rfl⟩:=LL.plain' hll
    refine .inr ⟨q,rfl,?_,rfl⟩
    have e:cells (l.map eBo)=cP fB l:=cells_P fB l
    rw [← e];exact hq
theorem rn_appB {H G:Heap} {Ts:List Th} {x:AV} {xs ys:List Bool} {D:List Nat} (s:St H Ts G) (i:Nat) (hi:Ts[i]?=some (rnB x xs D)) (hl:xs.length+ys.length≤1000000) {K:AV→Heap→Prop}
    (h:∀q' G',G q'=none→St H (Ts.set i (rnB (rowP q' (xs++ys)) (xs++ys) [q'])) G'→K (rowP q' (xs++ys)) G'):appendV tab 76 76 x (.p (.sl (ys.map eBo))) G (wkK K):=
  RN.app (bz:=1) tab_76 rfl tab_4 tab_76 rfl rfl rfl (fun _=>rfl) s i hi rfl (by omega) (by omega) h
theorem lit0B {G:Heap} {K:AV→Heap→Prop} (h:∀q,G q=none→K (.sl q 1 0 0) (G.set q [])):buildSliceV tab 76 0 [] G (wkK K):=by
  simp only [buildSliceV,tab_76,tab_4]
  refine ⟨by omega,?_⟩
  simp only [fillV,zerosA,List.replicate_zero,List.flatten_nil]
  exact fun r hr=>wkK.keep (h r hr)
def frJ (f:List Sd) (k j:Nat):Nat:=if j=0 then k else if j=1 then tst f (k - 1) else tst f (tst f (k - 1) - 1)
theorem l10From_spec (f:List Sd) (g:GoodFm f):∀k,k < f.length→Pu Try.prog 121 [Ds f,I k] (I (tst f k)):=by
  intro k
  induction k using Nat.strongRecOn with
  | ind k ih=>
    intro hk
    have hl:=g.l1
    have hok:=g.ok k hk
    have hnd:=sdOk_need hok.1
    refine Pu.of fun H=>?_
    refine W121_ok ?_;simp (maxSteps:=1000000) (disch:=first | assumption | (apply ν6;assumption)) only [W121,vz,vu,vv,eqS,eF_,↓c1_,↓c2_,tabs,reduceCtorEq,ι5,↓reduceIte,ν1,ν2,ν3,ν4,ν5,ι1,ι2,ι3,ι4]
    refine ⟨by omega,by omega,?_⟩
    refine Pu.use (need_spec.l10Need_spec (f.getD k default).op) ?_
    have t0:need (f.getD k default).op=0→tst f k=k:=fun h=>tst0 h
    have t1:need (f.getD k default).op=1→1≤k∧tst f k=tst f (k - 1):=fun h=>tst1 g hk h
    have t2:need (f.getD k default).op=2→1≤k∧1≤tst f (k - 1)∧tst f (k - 1)≤k - 1∧tst f k=tst f (tst f (k - 1) - 1):=fun h=>by
      obtain ⟨a,b,c,d,_⟩:=tst2 g hk h;exact ⟨a,b,c,d⟩
    generalize need (f.getD k default).op=m at hnd t0 t1 t2 ⊢
    refine L121_0_rule (0:Nat) (fun j=>I (frJ f k j)) (fun j=>I (m - j)) (fun _=>H) (fun j=>(j:Int)≤m) (fun j=>m.toNat - j) ⟨by omega,.refl _,by rw [wk_int];omega,Heap.le_refl _⟩ ?_
    intro j hj
    (try simp (maxSteps:=1000000) (disch:=first | assumption | (apply ν6;assumption)) only [vz,vu,vv,eqS,eF_,↓c1_,↓c2_,tabs,reduceCtorEq,ι5,↓reduceIte,ν1,ν2,ν3,ν4,ν5,ι1,ι2,ι3,ι4,B121_0])
    refine ⟨fun h1=>?_,fun h1=>?_⟩
    · have e1:IntKind.i64.wrap ((frJ f k j:Int) - 1)=((frJ f k j - 1:Nat):Int)∧frJ f k j - 1 < k∧tst f (frJ f k j - 1)=frJ f k (j+1):=by
        rcases (by omega:(j=0∧m=1)∨(j=0∧m=2)∨(j=1∧m=2)) with ⟨rfl,hm⟩ | ⟨rfl,hm⟩ | ⟨rfl,hm⟩
        · have:=t1 hm
          simp only [frJ,if_true]
          rw [i64_id (by omega) (by omega)]
          exact ⟨by omega,by omega,rfl⟩
        · have:=t2 hm
          simp only [frJ,if_true]
          rw [i64_id (by omega) (by omega)]
          exact ⟨by omega,by omega,rfl⟩
        · have:=t2 hm
          have h9:frJ f k 1=tst f (k - 1):=by simp [frJ]
          have h8:frJ f k 2=tst f (tst f (k - 1) - 1):=by simp [frJ]
          rw [h9,h8,i64_id (by omega) (by omega)]
          exact ⟨by omega,by omega,rfl⟩
      rw [e1.1]
      refine Pu.use (ih _ e1.2.1 (by omega)) ?_
      rw [e1.2.2]
      (try simp (maxSteps:=1000000) (disch:=first | assumption | (apply ν6;assumption)) only [vz,vu,vv,eqS,eF_,↓c1_,↓c2_,tabs,reduceCtorEq,ι5,↓reduceIte,ν1,ν2,ν3,ν4,ν5,ι1,ι2,ι3,ι4])
      refine ⟨j+1,by omega,by omega,.refl _,?_⟩
      rw [wk_int,i64_id (by omega) (by omega)];omega
    · refine congrArg (fun n:Int=>I n) ?_
      rcases (by omega:(j=0∧m=0)∨(j=1∧m=1)∨(j=2∧m=2)) with ⟨rfl,hm⟩ | ⟨rfl,hm⟩ | ⟨rfl,hm⟩
      · rw [t0 hm];simp [frJ]
      · rw [(t1 hm).2];simp [frJ]
      · rw [(t2 hm).2.2.2];simp [frJ]
structure Rd (f:List Sd) (out:List Bool) (i:Nat):Prop where
  i1:1≤i
  il:i - 1 < out.length
end Go.Proofs.Ytjdhigcefkihiaa
