/- Texts laid together: Mb0 Ms0 Ms1 Ma6 Mb1 Mg1 Tj0 Tj1 Tj3 Tj4 Tj5 Tk0 Tj6 Tg0 Pf1 Pf2 Rb3 Hf1 Mf0 Mf1 Mf2 Mf3 Mf4 Mf5 Hf2 Lt5 Lu0 Hf3. -/
import Derived.Test.YtjdhigcefkihiaaPb4
import Derived.RangeFuncBox
import Derived.RangeFuncLeaves
import Derived.Shelf.Abstract
import Derived.WalkKit
import Derived.OwnWalkIn
import Derived.TacticsInMore
import Derived.LoopNIn
import Derived.LoopIn
import Derived.Test.YtjdhigcefkihiaaProg
set_option linter.unusedVariables false
set_option linter.unusedSimpArgs false
open Nat renaming reduceAdd→ν1,reduceLeDiff→ν2,reduceLT→ν3,reduceMul→ν4,reduceSub→ν5
open Int renaming reduceToNat→ι1,reduceSub→ι2,reduceAdd→ι3,reduceNeg→ι4
open Array renaming toList→ι5
open Ne renaming symm→ν6
open List renaming forall_mem_cons→ν7
namespace Go.Proofs.Ytjdhigcefkihiaa
open Go Go.Sep Go.Pt
attribute [local irreducible] CallT
def RZ {α:Type} (L:Lay α) (sz z:Nat) (x:AV) (xs:List α) (G:Heap) (D:List Nat):Prop:=(x=.p .nil∧xs=[]∧D=[z]∧G z=some [])∨LRow L sz xs x G D
theorem RZ.local {α:Type} {L:Lay α} {sz z:Nat} (hL:L.Local) {x:AV} {xs:List α} {G G':Heap} {D:List Nat} (h:RZ L sz z x xs G D) (hf:∀y∈D,∀b,G y=some b→G' y=some b):RZ L sz z x xs G' D:=by
  rcases h with ⟨h1,h2,rfl,h3⟩ | h
  · exact .inl ⟨h1,h2,rfl,hf z (by simp) _ h3⟩
  · exact .inr (h.local hL hf)
theorem RZ.has {α:Type} {L:Lay α} {sz z:Nat} (hL:L.Has) {x:AV} {xs:List α} {G:Heap} {D:List Nat} (h:RZ L sz z x xs G D):∀y∈D,G y≠none:=by
  rcases h with ⟨h1,h2,rfl,h3⟩ | h
  · intro y hy;rw [List.mem_singleton.1 hy,h3];simp
  · exact h.has hL
theorem RZ.row {α:Type} {L:Lay α} {sz z:Nat} {x:AV} {xs:List α} {G:Heap} {D:List Nat} (h:RZ L sz z x xs G D):∃x',AV.wk x x'∧LRow L sz xs x' G D:=by
  rcases h with ⟨rfl,rfl,rfl,h3⟩ | h
  · exact ⟨.sl z sz 0 0,.nilo _ _ _,z,[],[],rfl,h3,⟨rfl,rfl⟩,rfl⟩
  · exact ⟨x,.refl _,h⟩
theorem RZ.sl {α:Type} {L:Lay α} {sz z:Nat} {x:AV} {xs:List α} {G:Heap} {D:List Nat} (h:RZ L sz z x xs G D):x=.p .nil∨∃q,x=.sl q sz 0 xs.length:=by
  rcases h with ⟨h1,_⟩ | ⟨q,cs,D',h1,_⟩
  · exact .inl h1
  · exact .inr ⟨q,h1⟩
def rzT {α:Type} {L:Lay α} (hL:L.Local) (hh:L.Has) (sz z:Nat) (x:AV) (xs:List α) (D:List Nat):Th:=⟨D,fun G=>RZ L sz z x xs G D,fun h f=>h.local hL f,fun h=>h.has hh⟩
theorem lent {α:Type} {L:Lay α} (hL:L.Local) (hh:L.Has) (sz:Nat) {H G:Heap} {Ts:List Th} {z:Nat} (s:St H Ts G) (i:Nat) (h:Ts[i]?=some (cellT z [])):St H (Ts.set i (rzT hL hh sz z (.p .nil) [] [z])) G:=
  s.repl i h _ (by simp [rzT]) (fun y hy=>.inl hy) (fun y b hb _=>hb) (.inl ⟨rfl,rfl,rfl,s.get i h⟩)
theorem RZ.app {tab:Tab} {t0 t1 e0 e1 sz z:Nat} {d d1 ed:TD} {α:Type} {e:α→List PV} (h1:tab t0=some d) (h2:d.k=.slice e0) (h3:tab e0=some ed) (h4:tab t1=some d1) (h5:d1.k=.slice e1) (h6:ed.size=sz) {bz:Nat} (h7:ed.bytes=bz)
    (hsz:∀a,(e a).length=sz) {H G:Heap} {Ts:List Th} {x y:AV} {xs ys:List α} {D:List Nat} {hL:(LPl e).Local} {hh:(LPl e).Has} (s:St H Ts G) (i:Nat) (hi:Ts[i]?=some (rzT hL hh sz z x xs D)) (hy:y=.p (.sl (ys.map e)))
    (hl:(xs.length+ys.length)*bz≤140737488355328) (hl2:xs.length+ys.length≤9223372036854775807) {K:AV→Heap→Prop}
    (h:∀q' G',G q'=none→St H (Ts.set i (rzT hL hh sz z (.sl q' sz 0 (xs++ys).length) (xs++ys) [q'])) G'→K (.sl q' sz 0 (xs++ys).length) G'):appendV tab t0 t1 x y G (wkK K):=by
  subst hy
  have hrz:RZ (LPl e) sz z x xs G D:=s.get i hi
  rcases hrz with ⟨rfl,rfl,rfl,hz⟩ | ⟨q,cs,D',rfl,hq,hll,rfl⟩
  · refine app_nil h1 h2 h3 h4 h5 h6 h7 (.inl rfl) (.inl rfl) (sizedMap hsz ys) (by simpa using hl) (by simpa using hl2) fun q' hq'=>?_
    have:=h q' _ hq' (s.repl i hi (rzT hL hh sz z (.sl q' sz 0 ([]++ys).length) ([]++ys) [q']) (by simp [rzT]) (fun y hy=>by
      simp only [rzT,List.mem_singleton] at hy;subst hy;exact .inr hq') (G':=G.set q' (cells (ys.map e))) (fun y b hb _=>Heap.le_set hq' y b hb) (.inr ⟨q',_,[],rfl,Heap.set_same _ _ _,LL.plain _,rfl⟩))
    simpa [Go.Sep.own] using this
  · have hq0:cs=cells (xs.map e)∧D'=[]:=by
      have key:∀(xs:List α) (cs:List AV) (D:List Nat),LL (LPl e) xs cs G D→cs=cells (xs.map e)∧D=[]:=by
        intro xs
        induction xs with
        | nil=>rintro cs D ⟨rfl,rfl⟩;exact ⟨rfl,rfl⟩
        | cons a xs ih=>
          rintro cs D ⟨c1,c2,D1,D2,rfl,rfl,⟨rfl,rfl⟩,h2⟩
          obtain ⟨rfl,rfl⟩:=ih _ _ h2
          exact ⟨by simp [cells],rfl⟩
      exact key _ _ _ hll
    obtain ⟨rfl,rfl⟩:=hq0
    have:=app_own (x:=.p (.sl (ys.map e))) (r:=q) (es:=xs.map e) (fs:=ys.map e) (H:=G) (K:=K) h1 h2 h3 h4 h5 h6 h7 (.inl rfl) hq (sizedMap hsz xs) (sizedMap hsz ys)
      (by simpa using hl) (by simpa using hl2) fun q' hq'=>by
        have:=h q' ((G.del q).set q' (cells ((xs++ys).map e))) hq' (s.repl i hi (rzT hL hh sz z (.sl q' sz 0 (xs++ys).length) (xs++ys) [q']) (by simp [rzT]) (fun y hy=>by
          simp only [rzT,List.mem_singleton] at hy;subst hy;exact .inr hq') (fun y b hb hy=>by
            simp only [rzT,List.mem_singleton] at hy
            rw [Heap.set_other (fun e=>by rw [e,hq'] at hb;cases hb),Heap.del_other hy];exact hb) (.inr ⟨q',_,[],rfl,Heap.set_same _ _ _,LL.plain _,rfl⟩))
        simpa only [Go.Sep.own,List.length_map,List.map_append,List.length_append] using this
    simpa only [Go.Sep.own,List.length_map] using this
end Go.Proofs.Ytjdhigcefkihiaa
namespace Go.Proofs.Ytjdhigcefkihiaa
open Go Go.Sep Go.Pt
attribute [local irreducible] CallT
end Go.Proofs.Ytjdhigcefkihiaa
namespace Go.Proofs.Ytjdhigcefkihiaa
open Go Go.Sep Go.Pt
attribute [local irreducible] CallT
end Go.Proofs.Ytjdhigcefkihiaa
namespace Go.Proofs.Ytjdhigcefkihiaa
open Go Go.Sep Go.Pt
attribute [local irreducible] CallT
structure GoodF (a:Au):Prop where
  st:1≤a.states∧a.states≤96
  fi:smI a.first∧a.first.length≤96
  ed:a.edges.length≤2400
  ei:∀e∈a.edges,edIn a.states e=true
  gl:a.goals.length≤6
  gi:∀g∈a.goals,smI g∧g.length≤96
end Go.Proofs.Ytjdhigcefkihiaa
namespace Go.Proofs.Ytjdhigcefkihiaa
open Go Go.Sep Go.Pt
attribute [local irreducible] CallT
end Go.Proofs.Ytjdhigcefkihiaa
namespace Go.Proofs.Ytjdhigcefkihiaa
open Go Go.Sep Go.Pt
attribute [local irreducible] CallT
structure GoodX (a:Au):Prop where
  st:1≤a.states∧a.states≤100000
  ed:a.edges.length≤400000
  ei:∀e∈a.edges,edIn a.states e=true
theorem GoodF.x {a:Au} (f:GoodF a):GoodX a:=⟨by have:=f.st;omega,by have:=f.ed;omega,f.ei⟩
end Go.Proofs.Ytjdhigcefkihiaa
namespace Go.Pt
inductive Rch (E:Nat→Nat→Prop):Nat→Nat→Prop
  | refl (a:Nat):Rch E a a
  | step {a b c:Nat} (h:E a b) (t:Rch E b c):Rch E a c
theorem Rch.trans {E:Nat→Nat→Prop} {a b c:Nat} (h:Rch E a b) (k:Rch E b c):Rch E a c:=by
  induction h with
  | refl=>exact k
  | step h t ih=>exact .step h (ih k)
theorem Rch.one {E:Nat→Nat→Prop} {a b:Nat} (h:E a b):Rch E a b:=.step h (.refl _)
theorem Rch.snoc {E:Nat→Nat→Prop} {a b c:Nat} (h:Rch E a b) (k:E b c):Rch E a c:=h.trans (.one k)
theorem Rch.keep {E:Nat→Nat→Prop} {P:Nat→Prop} {a b:Nat} (h:Rch E a b) (ha:P a) (hk:∀x y,P x→E x y→P y):P b:=by
  induction h with
  | refl=>exact ha
  | step h t ih=>exact ih (hk _ _ ha h)
theorem Rch.mono {E F:Nat→Nat→Prop} {a b:Nat} (h:Rch E a b) (hk:∀x y,E x y→F x y):Rch F a b:=by
  induction h with
  | refl=>exact .refl _
  | step h t ih=>exact .step (hk _ _ h) ih
def Con (E:Nat→Nat→Prop) (a b:Nat):Prop:=Rch E a b∧Rch E b a
theorem Con.refl {E:Nat→Nat→Prop} (a:Nat):Con E a a:=⟨.refl _,.refl _⟩
theorem Con.symm {E:Nat→Nat→Prop} {a b:Nat} (h:Con E a b):Con E b a:=⟨h.2,h.1⟩
theorem Con.trans {E:Nat→Nat→Prop} {a b c:Nat} (h:Con E a b) (k:Con E b c):Con E a c:=⟨h.1.trans k.1,k.2.trans h.2⟩
def Least (E:Nat→Nat→Prop) (a m:Nat):Prop:=Con E a m∧∀u,Con E a u→m≤u
theorem Least.ex (E:Nat→Nat→Prop) (a:Nat):∃m,Least E a m:=by
  suffices h:∀n,(∃u,Con E a u∧u≤n)→∃m,Least E a m from h a ⟨a,.refl a,Nat.le_refl _⟩
  intro n
  induction n with
  | zero=>rintro ⟨u,h1,h2⟩;exact ⟨u,h1,fun w _=>by omega⟩
  | succ n ih=>
    rintro ⟨u,h1,h2⟩
    by_cases h:∃u,Con E a u∧u≤n
    · exact ih h
    · exact ⟨u,h1,fun w hw=>Nat.le_of_not_lt fun hl=>h ⟨w,hw,by omega⟩⟩
noncomputable def partF (E:Nat→Nat→Prop) (a:Nat):Nat:=Classical.choose (Least.ex E a)
end Go.Pt
namespace Go.Pt
def updI (f:Nat→Int) (v:Nat) (x:Int):Nat→Int:=fun u=>if u=v then x else f u
theorem updI_same (f:Nat→Int) (v:Nat) (x:Int):updI f v x v=x:=if_pos rfl
theorem updI_ne (f:Nat→Int) {u v:Nat} (x:Int) (h:u≠v):updI f v x u=f u:=if_neg h
structure TS where
  fd:Nat→Int
  lw:Nat→Int
  pt:Nat→Int
  st:List Nat
  vs:Int
def cntF (fd:Nat→Int) (n:Nat):Nat:=(List.range n).countP fun v=>decide (fd v≠0)
structure TInv (E:Nat→Nat→Prop) (n:Nat) (gray:List Nat) (s:TS):Prop where
  cnt:s.vs=cntF s.fd n
  fd0:∀v,0≤s.fd v
  fdv:∀v,s.fd v≤s.vs
  fdn:∀v,s.fd v≠0→v < n
  stp:s.st.Pairwise (fun u v=>s.fd u < s.fd v)
  stm:∀v,v∈s.st↔s.fd v≠0∧s.pt v < 0
  don:∀v,0≤s.pt v→s.fd v≠0∧(∃m:Nat,Least E v m∧s.pt v=m)∧∀w,E v w→0≤s.pt w
  blk:∀v,s.fd v≠0→v∉gray→∀w,E v w→s.fd w≠0
  gst:∀x∈gray,x∈s.st
  gto:∀x∈gray,∀y∈s.st,s.fd x≤s.fd y→Rch E x y
  tog:∀y∈s.st,∃x∈gray,s.fd x≤s.fd y∧Rch E y x
structure TPost (E:Nat→Nat→Prop) (s s':TS) (v:Nat):Prop where
  fdk:∀u,s.fd u≠0→s'.fd u=s.fd u
  lwk:∀u,s.fd u≠0→s'.lw u=s.lw u
  new:∀u,s.fd u=0→s'.fd u≠0→s.vs < s'.fd u
  fv:s'.fd v≠0
  vs:s.vs≤s'.vs
  stk:∃s2,s'.st=s.st++s2∧(∀x∈s2,s.fd x=0)∧∀x∈s2,∀y∈s.st,E x y→s'.lw v≤s'.fd y
  low:s'.lw v≤s'.fd v
  lowv:v∉s'.st→s'.lw v=s'.fd v
  lows:v∈s'.st→∃y∈s'.st,s'.fd y=s'.lw v∧Rch E v y
structure TLoop (E:Nat→Nat→Prop) (n:Nat) (gray:List Nat) (s:TS) (v:Nat) (done:Nat→Prop) (t:TS):Prop where
  inv:TInv E n (v::gray) t
  fdk:∀u,s.fd u≠0→t.fd u=s.fd u
  lwk:∀u,s.fd u≠0→t.lw u=s.lw u
  new:∀u,s.fd u=0→t.fd u≠0→s.vs < t.fd u
  fv:t.fd v=s.vs+1
  vs:s.vs+1≤t.vs
  stk:∃s2,t.st=s.st++v::s2∧(∀x∈s2,s.fd x=0)∧∀x∈s2,∀y∈s.st,E x y→t.lw v≤t.fd y
  low:t.lw v≤t.fd v
  lows:∃y∈t.st,t.fd y=t.lw v∧Rch E v y
  don:∀w,done w→t.fd w≠0∧(w∈s.st→t.lw v≤t.fd w)
theorem TLoop.done {E:Nat→Nat→Prop} {n:Nat} {gray:List Nat} {s t:TS} {v:Nat} {d d':Nat→Prop} (h:TLoop E n gray s v d t) (hd:∀u,d' u→d u):TLoop E n gray s v d' t:=⟨h.inv,h.fdk,h.lwk,h.new,h.fv,h.vs,h.stk,h.low,h.lows,fun w hw=>h.don w (hd w hw)⟩
def TS.push (s:TS) (v:Nat):TS:=⟨updI s.fd v (s.vs+1),updI s.lw v (s.vs+1),s.pt,s.st++[v],s.vs+1⟩
def TS.low (t:TS) (v:Nat) (x:Int):TS:={ t with lw:=updI t.lw v x }
def TS.zero:TS:=⟨fun _=>0,fun _=>0,fun _=>-1,[],0⟩
end Go.Pt
namespace Go.Pt
structure BS where
  s:Nat→Int
  q:List Nat
def bput (d:Int) (b:BS) (w:Nat):BS:=if b.s w < 0 then ⟨updI b.s w d,b.q++[w]⟩ else b
def bstep (row:Nat→List Nat) (b:BS):BS:=
  match b.q with
  | []=>b
  | k::q=>(row k).foldl (bput (b.s k+1)) ⟨b.s,q⟩
def bini (some:List Nat):BS:=⟨fun v=>if v∈some then 0 else -1,some⟩
def bst (row:Nat→List Nat) (some:List Nat):Nat→BS
  | 0=>bini some
  | i+1=>bstep row (bst row some i)
def farF (row:Nat→List Nat) (n:Nat) (some:List Nat):Nat→Int:=(bst row some (n+some.length)).s
def cntU (s:Nat→Int) (n:Nat):Nat:=(List.range n).countP fun v=>decide (s v < 0)
theorem cntU_upd {s:Nat→Int} {n v:Nat} {x:Int} (h:v < n) (h0:s v < 0) (hx:0≤x):cntU (updI s v x) n+1=cntU s n:=by
  unfold cntU
  induction n with
  | zero=>omega
  | succ n ih=>
    rw [List.range_succ,List.countP_append,List.countP_append]
    by_cases e:v=n
    · subst e
      have:List.countP (fun u=>decide (updI s v x u < 0)) (List.range v)=List.countP (fun u=>decide (s u < 0)) (List.range v):=by
        apply List.countP_congr
        intro u hu
        have:=List.mem_range.1 hu
        rw [updI_ne _ _ (by omega)]
      rw [this]
      have:¬x < 0:=by omega
      simp [updI_same,h0,this]
    · have:=ih (by omega)
      have e2:List.countP (fun u=>decide (updI s v x u < 0)) [n]=List.countP (fun u=>decide (s u < 0)) [n]:=by
        simp [updI_ne s x (show n≠v by omega)]
      rw [e2];omega
structure BInv (row:Nat→List Nat) (n:Nat) (some:List Nat) (i:Nat) (b:BS):Prop where
  lo:∀v,-1≤b.s v
  hi:∀v,b.s v≤i
  z:∀v,b.s v=0↔v∈some
  pre:∀v,0 < b.s v→∃u,v∈row u∧b.s v=b.s u+1
  qq:∀v,0≤b.s v→v∈b.q∨∀w∈row v,0≤b.s w
  qs:∀v∈b.q,0≤b.s v
  lt:∀v,0≤b.s v→v < n
  ms:b.q.length+cntU b.s n+i≤n+some.length
structure BRow (n:Nat) (k:Nat) (d:Int) (b0:BS) (l:List Nat) (b:BS):Prop where
  old:∀v,0≤b0.s v→b.s v=b0.s v
  new:∀v,b0.s v < 0→b.s v=b0.s v∨(b.s v=d∧v∈l∧v < n∧v∈b.q)
  inq:∀v∈b.q,v∈b0.q∨0≤b.s v
  keep:∀v∈b0.q,v∈b.q
  all:∀v∈l,0≤b.s v
  ms:b.q.length+cntU b.s n=b0.q.length+cntU b0.s n
theorem BRow.nil (n k:Nat) (d:Int) (b:BS):BRow n k d b [] b:=⟨fun _ _=>rfl,fun _ _=>.inl rfl,fun _ h=>.inl h,fun _ h=>h,fun _ h=>(by cases h),rfl⟩
theorem BRow.snoc {n k:Nat} {d:Int} {b0 b:BS} {l:List Nat} {w:Nat} (h:BRow n k d b0 l b) (hd:0≤d) (hw:w < n):BRow n k d b0 (l++[w]) (bput d b w):=by
  unfold bput
  split
  · rename_i hn
    have hw0:b0.s w < 0:=Int.not_le.1 fun hk=>by have:=h.old w hk;omega
    refine ⟨fun v hv=>?_,fun v hv=>?_,fun v hv=>?_,fun v hv=>List.mem_append_left _ (h.keep v hv),fun v hv=>?_,?_⟩
    · have:v≠w:=fun e=>by subst e;omega
      show updI _ _ _ v=_;rw [updI_ne _ _ this];exact h.old v hv
    · show updI _ _ _ v=_∨_
      by_cases e:v=w
      · subst e
        exact .inr ⟨updI_same _ _ _,by simp,hw,by simp⟩
      · rcases h.new v hv with k1 | ⟨k1,k2,k3,k4⟩
        · exact .inl (by rw [updI_ne _ _ e];exact k1)
        · exact .inr ⟨by show updI _ _ _ v=_;rw [updI_ne _ _ e];exact k1,List.mem_append_left _ k2,k3,List.mem_append_left _ k4⟩
    · show _∨0≤updI _ _ _ v
      by_cases e:v=w
      · subst e;rw [updI_same];exact .inr hd
      · rcases List.mem_append.1 hv with hv | hv
        · rcases h.inq v hv with k1 | k1
          · exact .inl k1
          · exact .inr (by rw [updI_ne _ _ e];exact k1)
        · exact absurd (List.mem_singleton.1 hv) e
    · show 0≤updI _ _ _ v
      by_cases e:v=w
      · subst e;rw [updI_same];exact hd
      · rw [updI_ne _ _ e]
        rcases List.mem_append.1 hv with hv | hv
        · exact h.all v hv
        · exact absurd (List.mem_singleton.1 hv) e
    · have:=cntU_upd hw hn hd
      have:=h.ms
      simp only [List.length_append,List.length_singleton]
      omega
  · rename_i hn
    refine ⟨h.old,fun v hv=>?_,h.inq,h.keep,fun v hv=>?_,h.ms⟩
    · rcases h.new v hv with k1 | ⟨k1,k2,k3,k4⟩
      · exact .inl k1
      · exact .inr ⟨k1,List.mem_append_left _ k2,k3,k4⟩
    · rcases List.mem_append.1 hv with hv | hv
      · exact h.all v hv
      · rw [List.mem_singleton] at hv;subst hv;omega
end Go.Pt
namespace Go.Pt
abbrev ArcOf (row:Nat→List Nat) (a b:Nat):Prop:=b∈row a
def bput1 (s:Nat→Int) (best:Int) (v:Nat):Int:=if 0≤s v∧(best < 0∨s v < s best.toNat) then (v:Int) else best
def bestF (s:Nat→Int) (l:List Nat):Int:=l.foldl (bput1 s) (-1)
def nxtF (s:Nat→Int) (row:Nat→List Nat) (v:Nat):Nat:=((row v).find? fun w=>decide (s w=s v - 1)).getD 0
def itF (s:Nat→Int) (row:Nat→List Nat) (v:Nat):Nat→Nat
  | 0=>v
  | k+1=>nxtF s row (itF s row v k)
def wayF (s:Nat→Int) (row:Nat→List Nat) (v:Nat):List Nat:=(List.range ((s v).toNat+1)).map (itF s row v)
structure Near (s:Nat→Int) (row:Nat→List Nat):Prop where
  nx:∀v,0 < s v→∃w∈row v,s w=s v - 1
def Way (row:Nat→List Nat) (l:List Nat):Prop:=∀i,i+1 < l.length→l.getD (i+1) 0∈row (l.getD i 0)
def turnF (row:Nat→List Nat) (n:Nat) (w:Nat):List Nat:=(List.range n).flatMap fun v=>((row v).filter fun u=>decide (u=w)).map fun _=>v
structure GrOk (row:Nat→List Nat) (n:Nat):Prop where
  lt:∀v,∀w∈row v,w < n
  out:∀v,n≤v→row v=[]
theorem GrOk.src {row:Nat→List Nat} {n:Nat} (h:GrOk row n) {v w:Nat} (hw:w∈row v):v < n:=by
  refine Nat.lt_of_not_le fun hk=>?_
  rw [h.out v hk] at hw;cases hw
def toF (row:Nat→List Nat) (n:Nat) (to:List Nat):Nat→Int:=farF (turnF row n) n to
def lwayF (row:Nat→List Nat) (n:Nat) (some to:List Nat):List Nat:=if bestF (toF row n to) some < 0 then [] else wayF (toF row n to) row (bestF (toF row n to) some).toNat
structure LWay (row:Nat→List Nat) (some to:List Nat) (l:List Nat):Prop where
  pos:0 < l.length
  fst:l.getD 0 0∈some
  way:Way row l
  lst:l.getD (l.length - 1) 0∈to
def FairP (row:Nat→List Nat) (goals:List (List Nat)) (v:Nat):Prop:=
  (∃a b,Con (ArcOf row) v a∧Con (ArcOf row) v b∧b∈row a)∧∀g∈goals,∃x∈g,Con (ArcOf row) v x
open Classical in
noncomputable def fairF (row:Nat→List Nat) (goals:List (List Nat)) (v:Nat):Bool:=decide (FairP row goals v)
noncomputable def meetF (row:Nat→List Nat) (n:Nat) (some:List Nat) (goals:List (List Nat)):Int:=bestF (farF row n some) ((List.range n).filter (fairF row goals))
open Classical in
noncomputable def inF (row:Nat→List Nat) (v:Nat):List Nat:=(row v).filter fun w=>decide (Con (ArcOf row) v w)
open Classical in
noncomputable def in1F (row:Nat→List Nat) (m:Nat) (v:Nat):List Nat:=if Con (ArcOf row) m v then (row v).filter fun w=>decide (Con (ArcOf row) m w) else []
end Go.Pt
namespace Go.Pt
theorem gD_mem {l:List Nat} {i:Nat} (h:i < l.length):l.getD i 0∈l:=by simp [List.getD,List.getElem?_eq_getElem h]
def lastF (l:List Nat):Nat:=l.getD (l.length - 1) 0
open Classical in
noncomputable def ownF (row:Nat→List Nat) (m:Nat) (g:List Nat):List Nat:=g.filter fun v=>decide (Con (ArcOf row) m v)
noncomputable def legF (row:Nat→List Nat) (n m:Nat) (acc g:List Nat):List Nat:=acc++(lwayF (inF row) n [lastF acc] (ownF row m g)).tail
noncomputable def loopF (row:Nat→List Nat) (n m:Nat) (goals:List (List Nat)):List Nat:=goals.foldl (legF row n m) [m]
noncomputable def backF (row:Nat→List Nat) (n m:Nat) (acc:List Nat):List Nat:=lwayF (inF row) n (inF row (lastF acc)) [m]
structure LoopI (row:Nat→List Nat) (n m:Nat) (b:Nat) (gs:List (List Nat)) (acc:List Nat):Prop where
  ne:0 < acc.length
  hd:acc.getD 0 0=m
  con:∀x∈acc,Con (ArcOf row) m x
  lt:∀x∈acc,x < n
  way:Way (inF row) acc
  met:∀g∈gs,∃x∈acc,x∈g
  len:acc.length≤1+gs.length*(n+b)
theorem LoopI.last {row:Nat→List Nat} {n m b:Nat} {met:List (List Nat)} {acc:List Nat} (h:LoopI row n m b met acc):Con (ArcOf row) m (lastF acc)∧lastF acc < n:=by
  have:=gD_mem (l:=acc) (i:=acc.length - 1) (by have:=h.ne;omega)
  exact ⟨h.con _ this,h.lt _ this⟩
noncomputable def stemF (row:Nat→List Nat) (n m:Nat) (some:List Nat):List Nat:=(lwayF row n some [m]).dropLast
noncomputable def ringF (row:Nat→List Nat) (n m:Nat) (goals:List (List Nat)):List Nat:=loopF row n m goals++(backF row n m (loopF row n m goals)).dropLast
structure FairL (row:Nat→List Nat) (some:List Nat) (goals:List (List Nat)) (stem loop:List Nat):Prop where
  ne:0 < loop.length
  fst:(stem++loop).getD 0 0∈some
  way:Way row (stem++loop++[loop.getD 0 0])
  met:∀g∈goals,∃x∈loop,x∈g
end Go.Pt
namespace Go.Pt
end Go.Pt
namespace Go.Pt
section
variable (row:Nat→List Nat) (pf:Nat→Nat)
def ha1 (g:List Nat) (j:Nat) (p:Nat):Bool:=(g.take j).any fun v=>decide (pf v=p)
end
noncomputable def aw1 (row:Nat→List Nat) (k:Nat) (p:Nat):Bool:=(List.range k).any fun v=>decide (partF (ArcOf row) v=p∧0 < (inF row v).length)
def rwF (g:List (List Nat)) (v:Nat):List Nat:=g.getD v []
theorem rwF_out {g:List (List Nat)} {v:Nat} (h:g.length≤v):rwF g v=[]:=by simp [rwF,List.getD,List.getElem?_eq_none h]
theorem rwF_ok {g:List (List Nat)} (h:∀l∈g,∀x∈l,x < g.length):GrOk (rwF g) g.length:=by
  refine ⟨fun v w hw=>?_,fun v hv=>rwF_out hv⟩
  by_cases hv:v < g.length
  · refine h (rwF g v) ?_ w hw
    simp [rwF,List.getD,hv]
  · rw [rwF_out (by omega)] at hw;cases hw
def prT (g:List (List Nat)) (k j:Nat):List (Nat×Nat):=((List.range k).flatMap fun v=>(rwF g v).map fun w=>(w,v))++((rwF g k).take j).map fun w=>(w,k)
theorem prT_next (g:List (List Nat)) (k:Nat):prT g k (rwF g k).length=prT g (k+1) 0:=by simp [prT,List.range_succ,List.flatMap_append]
end Go.Pt
namespace Go.Proofs.Ytjdhigcefkihiaa
open Go Go.Sep Go.Pt
attribute [local irreducible] CallT
abbrev U64 (n:Int):AV:=.p (.int .u64 n)
theorem and32 (n:Nat) (hn:n < 4294967296):bitsI .and .u64 (n:Int) 4294967295=n:=by
  have h:(BitVec.ofInt IntKind.u64.bits (n:Int) &&& BitVec.ofInt IntKind.u64.bits 4294967295).toNat=n:=by
    rw [BitVec.toNat_and]
    have e1:(BitVec.ofInt IntKind.u64.bits (n:Int)).toNat=n:=by
      rw [BitVec.toNat_ofInt]
      show ((n:Int) % 18446744073709551616).toNat=n
      omega
    have e2:(BitVec.ofInt IntKind.u64.bits 4294967295).toNat=2^32 - 1:=by decide
    rw [e1,e2,Nat.and_two_pow_sub_one_eq_mod,Nat.mod_eq_of_lt hn]
  simp only [bitsI,h]
  rw [IntKind.wrap_u64];omega
theorem shr32 (n:Nat) (hn:n < 4294967296):(n:Int).fdiv (2^min 32 IntKind.u64.bits)=0:=by
  show (n:Int).fdiv (2^32)=0
  rw [Int.fdiv_eq_ediv_of_nonneg _ (by decide)]
  omega
theorem u64_id {n:Int} (h0:0≤n) (h1:n < 18446744073709551616):IntKind.u64.wrap n=n:=by rw [IntKind.wrap_u64];omega
theorem Mul64_one (n:Nat) (hn:n≤1000000000):Pu Try.prog 162 [U64 1,U64 n] (.tup [U64 0,U64 n]):=by
  refine Pu.of fun H=>?_
  have a1:=and32 n (by omega)
  have a2:bitsI .and .u64 1 4294967295=1:=and32 1 (by omega)
  have a3:bitsI .and .u64 0 4294967295=0:=and32 0 (by omega)
  have s1:=shr32 n (by omega)
  have s2:Int.fdiv 1 (2^min 32 IntKind.u64.bits)=0:=shr32 1 (by omega)
  have s3:Int.fdiv 0 (2^min 32 IntKind.u64.bits)=0:=shr32 0 (by omega)
  have w0:IntKind.u64.wrap 0=0:=u64_id (by omega) (by omega)
  have wn:IntKind.u64.wrap (n:Int)=n:=u64_id (by omega) (by omega)
  refine W162_ok ?_;simp (maxSteps:=1000000) (disch:=first | assumption | (apply ν6;assumption)) only [W162,vz,vu,vv,eqS,eF_,↓c1_,↓c2_,tabs,reduceCtorEq,ι5,↓reduceIte,ν1,ν2,ν3,ν4,ν5,ι1,ι2,ι3,ι4,a1,a2,s1,s2,s3,Int.zero_mul,Int.one_mul,Int.mul_zero,Int.zero_add,Int.add_zero,w0,wn,a3]
  simp
theorem Mul_one (n:Nat) (hn:n≤1000000000):Pu Try.prog 158 [U64 1,U64 n] (.tup [U64 0,U64 n]):=by
  refine Pu.of fun H=>?_
  refine W158_ok ?_;simp (maxSteps:=1000000) (disch:=first | assumption | (apply ν6;assumption)) only [W158,vz,vu,vv,eqS,eF_,↓c1_,↓c2_,tabs,reduceCtorEq,ι5,↓reduceIte,ν1,ν2,ν3,ν4,ν5,ι1,ι2,ι3,ι4]
  refine Pu.use (Mul64_one n hn) ?_
  (try simp (maxSteps:=1000000) (disch:=first | assumption | (apply ν6;assumption)) only [vz,vu,vv,eqS,eF_,↓c1_,↓c2_,tabs,reduceCtorEq,ι5,↓reduceIte,ν1,ν2,ν3,ν4,ν5,ι1,ι2,ι3,ι4])
  first | done | exact ⟨rfl,Heap.le_refl _⟩ | exact Heap.le_refl _
structure GrB (g:List (List Nat)):Prop where
  ok:∀l∈g,∀x∈l,x < g.length
  n:g.length≤100000
  arcs:(prT g g.length 0).length≤500000
theorem GrB.gr {g:List (List Nat)} (h:GrB g):GrOk (rwF g) g.length:=rwF_ok h.ok
theorem prT_len_mono (g:List (List Nat)) {k m:Nat} (h:k≤m):(prT g k 0).length≤(prT g m 0).length:=by
  induction m with
  | zero=>rw [Nat.le_zero.1 h];exact Nat.le_refl _
  | succ m ih=>
    rcases Nat.lt_or_eq_of_le h with h | rfl
    · refine Nat.le_trans (ih (by omega)) ?_
      rw [← prT_next g m]
      simp only [prT,List.length_append,List.take_zero,List.map_nil,List.length_nil]
      omega
    · exact Nat.le_refl _
theorem GrB.pr {g:List (List Nat)} (h:GrB g) {k j:Nat} (hk:k < g.length) (hj:j≤(rwF g k).length):(prT g k j).length≤500000:=by
  have h1:=prT_len_mono g (k:=k+1) (m:=g.length) hk
  rw [← prT_next g k] at h1
  have h2:=h.arcs
  simp only [prT,List.length_append,List.length_map,List.length_take] at h1 h2 ⊢
  omega
theorem GrB.row {g:List (List Nat)} (h:GrB g) {k:Nat} (hk:k < g.length):(rwF g k).length≤500000:=by
  have:=h.pr hk (Nat.le_refl _)
  simp only [prT,List.length_append,List.length_map,List.length_take] at this
  omega
theorem GrB.lt {g:List (List Nat)} (h:GrB g) {k j:Nat} (hj:j < (rwF g k).length):(rwF g k).getD j 0 < g.length:=by
  refine h.gr.lt k _ ?_
  simp [List.getD,hj]
end Go.Proofs.Ytjdhigcefkihiaa
namespace Go.Pt
structure Sd where
  op:Int
  n:Int
instance:Inhabited Sd:=⟨⟨0,0⟩⟩
def need (op:Int):Int:=if op=1∨op=2 then 0 else if op=3∨op=4 then 1 else if op=5∨op=6∨op=7∨op=8 then 2 else -1
def sdOk (x:Sd):Bool:=if x.op=1 then decide (0≤x.n) && decide (x.n < 3) else if x.op=2 then decide (x.n=0) || decide (x.n=1) else decide (0 < need x.op) && decide (x.n=0)
theorem need_cases (op:Int):(need op=0∧(op=1∨op=2))∨(need op=1∧(op=3∨op=4))∨(need op=2∧(op=5∨op=6∨op=7∨op=8))∨need op=-1:=by
  unfold need
  by_cases h1:op=1∨op=2
  · rw [if_pos h1];exact .inl ⟨rfl,h1⟩
  rw [if_neg h1]
  by_cases h2:op=3∨op=4
  · rw [if_pos h2];exact .inr (.inl ⟨rfl,h2⟩)
  rw [if_neg h2]
  by_cases h3:op=5∨op=6∨op=7∨op=8
  · rw [if_pos h3];exact .inr (.inr (.inl ⟨rfl,h3⟩))
  rw [if_neg h3];exact .inr (.inr (.inr rfl))
theorem sdOk_need {x:Sd} (h:sdOk x=true):0≤need x.op∧need x.op≤2:=by
  unfold sdOk at h
  split at h
  · rename_i e;rw [e];decide
  · split at h
    · rename_i e;rw [e];decide
    · rw [Bool.and_eq_true,decide_eq_true_eq] at h
      rcases need_cases x.op with h1 | h1 | h1 | h1<;>omega
def vals (f:List Sd):Nat→Int
  | 0=>0
  | i+1=>vals f i+(1 - need (f.getD i default).op)
def sdAt (f:List Sd) (i:Nat):Bool:=sdOk (f.getD i default) && decide (need (f.getD i default).op≤vals f i)
def goodF (f:List Sd):Bool:=decide (1≤f.length) && decide (f.length≤16) && (List.range f.length).all (sdAt f) && decide (vals f f.length=1)
def stk (f:List Sd):Nat→List (Nat×Nat)
  | 0=>[]
  | i+1=>
    if need (f.getD i default).op=0 then (i,i)::stk f i
    else if need (f.getD i default).op=1 then (((stk f i).headD (0,0)).1,i)::(stk f i).tail
    else (((stk f i).tail.headD (0,0)).1,i)::(stk f i).tail.tail
def tst (f:List Sd) (k:Nat):Nat:=((stk f (k+1)).headD (0,0)).1
def Cont:Nat→List (Nat×Nat)→Prop
  | i,[]=>i=0
  | i,(s,k)::r=>k+1=i∧s≤k∧Cont s r
structure GoodFm (f:List Sd):Prop where
  l0:1≤f.length
  l1:f.length≤16
  ok:∀i,i < f.length→sdOk (f.getD i default)=true∧need (f.getD i default).op≤vals f i
  one:vals f f.length=1
theorem goodF_iff {f:List Sd}:goodF f=true↔GoodFm f:=by
  unfold goodF
  simp only [Bool.and_eq_true,decide_eq_true_eq,List.all_eq_true,List.mem_range,sdAt]
  exact ⟨fun h=>⟨h.1.1.1,h.1.1.2,h.1.2,h.2⟩,fun h=>⟨⟨⟨h.l0,h.l1⟩,h.ok⟩,h.one⟩⟩
theorem stk_len {f:List Sd} (g:GoodFm f):∀i,i≤f.length→((stk f i).length:Int)=vals f i:=by
  intro i
  induction i with
  | zero=>intro _;rfl
  | succ i ih=>
    intro hi
    have h1:=ih (by omega)
    have h2:=g.ok i (by omega)
    have h3:=sdOk_need h2.1
    have h4:=h2.2
    simp only [stk,vals]
    split
    · rename_i e;rw [List.length_cons];omega
    · split
      · rename_i e;rw [List.length_cons,List.length_tail];omega
      · rw [List.length_cons,List.length_tail,List.length_tail];omega
theorem stk_cont {f:List Sd} (g:GoodFm f):∀i,i≤f.length→Cont i (stk f i):=by
  intro i
  induction i with
  | zero=>intro _;rfl
  | succ i ih=>
    intro hi
    have h1:=ih (by omega)
    have h2:=g.ok i (by omega)
    have h3:=sdOk_need h2.1
    have h4:=h2.2
    have h5:=stk_len g i (by omega)
    simp only [stk]
    split
    · exact ⟨rfl,Nat.le_refl _,h1⟩
    · split
      · cases hs:stk f i with
        | nil=>rw [hs] at h5;simp at h5;omega
        | cons a r=>
          obtain ⟨s,k⟩:=a
          rw [hs] at h1
          obtain ⟨c1,c2,c3⟩:=h1
          exact ⟨rfl,by simp only [List.headD_cons];omega,by simpa using c3⟩
      · cases hs:stk f i with
        | nil=>rw [hs] at h5;simp at h5;omega
        | cons a r=>
          obtain ⟨s,k⟩:=a
          rw [hs] at h1 h5
          obtain ⟨c1,c2,c3⟩:=h1
          cases r with
          | nil=>simp at h5;omega
          | cons b r=>
            obtain ⟨s2,k2⟩:=b
            obtain ⟨d1,d2,d3⟩:=c3
            exact ⟨rfl,by simp only [List.tail_cons,List.headD_cons];omega,by simpa using d3⟩
theorem stk_below {f:List Sd} (g:GoodFm f):∀n i,i≤n→i≤f.length→∀s k r,stk f i=(s,k)::r→stk f s=r:=by
  intro n
  induction n with
  | zero => intro i hi _ s k r h; have : i = 0 := by omega
            subst this;cases h
  | succ n ih=>
    intro i hi hl s k r h
    cases i with
    | zero=>cases h
    | succ i=>
      have h2:=g.ok i (by omega)
      have h3:=sdOk_need h2.1
      have h4:=h2.2
      have h5:=stk_len g i (by omega)
      have hc:=stk_cont g i (by omega)
      simp only [stk] at h
      split at h
      · injection h with e1 e2
        injection e1 with e3 e4
        rw [← e3];exact e2
      · split at h
        · cases hs:stk f i with
          | nil=>rw [hs] at h5;simp at h5;omega
          | cons a r'=>
            obtain ⟨s',k'⟩:=a
            rw [hs] at h
            simp only [List.headD_cons,List.tail_cons] at h
            injection h with e1 e2
            injection e1 with e3 e4
            rw [← e3,← e2]
            exact ih i (by omega) (by omega) s' k' r' hs
        · cases hs:stk f i with
          | nil=>rw [hs] at h5;simp at h5;omega
          | cons a r'=>
            obtain ⟨s',k'⟩:=a
            have hb:=ih i (by omega) (by omega) s' k' r' hs
            rw [hs] at h h5 hc
            cases r' with
            | nil=>simp at h5;omega
            | cons b r''=>
              obtain ⟨s2,k2⟩:=b
              simp only [List.headD_cons,List.tail_cons] at h
              injection h with e1 e2
              injection e1 with e3 e4
              obtain ⟨c1,c2,c3⟩:=hc
              rw [← e3,← e2]
              exact ih s' (by omega) (by omega) s2 k2 r'' hb
theorem tst0 {f:List Sd} {k:Nat} (h:need (f.getD k default).op=0):tst f k=k:=by rw [tst,stk,if_pos h];rfl
theorem stk_top {f:List Sd} (g:GoodFm f) {k:Nat} (hk:k≤f.length) (h0:0 < k):∃r,stk f k=(tst f (k - 1),k - 1)::r∧tst f (k - 1)≤k - 1∧stk f (tst f (k - 1))=r:=by
  have hc:=stk_cont g k hk
  cases hs:stk f k with
  | nil=>rw [hs] at hc;have:k=0:=hc;omega
  | cons a r=>
    obtain ⟨s,j⟩:=a
    rw [hs] at hc
    obtain ⟨c1,c2,c3⟩:=hc
    have e:tst f (k - 1)=s:=by
      unfold tst
      rw [show k - 1+1=k by omega,hs];rfl
    have hb:=stk_below g k k (Nat.le_refl _) hk s j r hs
    refine ⟨r,?_,?_,?_⟩
    · rw [e,show j=k - 1 by omega]
    · rw [e];omega
    · rw [e];exact hb
theorem tst1 {f:List Sd} (g:GoodFm f) {k:Nat} (hk:k < f.length) (h:need (f.getD k default).op=1):1≤k∧tst f k=tst f (k - 1):=by
  have h2:=g.ok k hk
  have h5:=stk_len g k (by omega)
  have h0:0 < k:=by
    cases k with
    | zero=>simp [stk] at h5;omega
    | succ k=>omega
  obtain ⟨r,e,_,_⟩:=stk_top g (by omega:k≤f.length) h0
  refine ⟨h0,?_⟩
  rw [tst,stk,if_neg (by omega),if_pos h,e];rfl
theorem tst2 {f:List Sd} (g:GoodFm f) {k:Nat} (hk:k < f.length) (h:need (f.getD k default).op=2):1≤k∧1≤tst f (k - 1)∧tst f (k - 1)≤k - 1∧tst f k=tst f (tst f (k - 1) - 1)∧∃r,stk f k=(tst f (k - 1),k - 1)::(tst f (tst f (k - 1) - 1),tst f (k - 1) - 1)::r:=by
  have h2:=g.ok k hk
  have h5:=stk_len g k (by omega)
  have h0:0 < k:=by
    cases k with
    | zero=>simp [stk] at h5;omega
    | succ k=>omega
  obtain ⟨r,e,e1,e2⟩:=stk_top g (by omega:k≤f.length) h0
  have h6:0 < tst f (k - 1):=by
    rcases Nat.eq_zero_or_pos (tst f (k - 1)) with hz | hz
    · rw [hz] at e2
      have:r=[]:=e2.symm
      rw [e,this] at h5
      simp at h5;omega
    · exact hz
  obtain ⟨r2,f1,f2,f3⟩:=stk_top g (by omega:tst f (k - 1)≤f.length) h6
  rw [e2] at f1
  refine ⟨h0,h6,e1,?_,r2,by rw [e,f1]⟩
  rw [tst,stk,if_neg (by omega),if_neg (by omega),e,f1];rfl
end Go.Pt
namespace Go.Pt
def stepK (nx:Nat→Nat) (r:Nat→Bool→Bool) (row:List Bool) (k:Nat):List Bool:=row.set k (r k (row.getD (nx k) default))
def sweepK (nx:Nat→Nat) (r:Nat→Bool→Bool) (ks:List Nat) (row:List Bool):List Bool:=ks.foldl (stepK nx r) row
def dnK (n:Nat):List Nat:=(List.range n).map fun j=>n - 1 - j
def fixR (nx:Nat→Nat) (n:Nat) (b:Bool) (r:Nat→Bool→Bool):List Bool:=sweepK nx r (dnK n) (sweepK nx r (dnK n) (List.replicate n b))
theorem stepK_len (nx:Nat→Nat) (r:Nat→Bool→Bool) (row:List Bool) (k:Nat):(stepK nx r row k).length=row.length:=by simp [stepK]
theorem sweepK_len (nx:Nat→Nat) (r:Nat→Bool→Bool):∀(ks:List Nat) (row:List Bool),(sweepK nx r ks row).length=row.length
  | [],_=>rfl
  | k::ks,row=>by rw [sweepK,List.foldl_cons];exact (sweepK_len nx r ks _).trans (stepK_len nx r row k)
theorem sweepK_snoc (nx:Nat→Nat) (r:Nat→Bool→Bool) (ks:List Nat) (k:Nat) (row:List Bool):sweepK nx r (ks++[k]) row=stepK nx r (sweepK nx r ks row) k:=by simp [sweepK]
theorem fixR_len (nx:Nat→Nat) (n:Nat) (b:Bool) (r:Nat→Bool→Bool):(fixR nx n b r).length=n:=by simp [fixR,sweepK_len]
theorem sweepK_congr {nx:Nat→Nat} {r r':Nat→Bool→Bool}:∀(ks:List Nat) (row:List Bool),(∀k∈ks,∀b,r k b=r' k b)→sweepK nx r ks row=sweepK nx r' ks row
  | [],_,_=>rfl
  | k::ks,row,h=>by
    rw [sweepK,sweepK,List.foldl_cons,List.foldl_cons]
    have e:stepK nx r row k=stepK nx r' row k:=by rw [stepK,stepK,h k (by simp)]
    rw [e];exact sweepK_congr ks _ fun k hk=>h k (by simp [hk])
theorem mem_dnK {n k:Nat} (h:k∈dnK n):k < n:=by
  obtain ⟨j,hj,rfl⟩:=List.mem_map.1 h
  have:=List.mem_range.1 hj;omega
theorem fixR_congr {nx:Nat→Nat} {n:Nat} {b:Bool} {r r':Nat→Bool→Bool} (h:∀k,k < n→∀b,r k b=r' k b):fixR nx n b r=fixR nx n b r':=by
  rw [fixR,fixR,sweepK_congr _ _ fun k hk=>h k (mem_dnK hk),sweepK_congr (dnK n) (List.replicate n b) fun k hk=>h k (mem_dnK hk)]
theorem sweepK_const {nx:Nat→Nat} {g:Nat→Bool} {n:Nat}:∀(j:Nat) (row:List Bool),row.length=n→j≤n→∀k,k < n→(sweepK nx (fun k _=>g k) ((List.range j).map fun i=>n - 1 - i) row).getD k default=if n - 1 - k < j then g k else row.getD k default:=by
  intro j
  induction j with
  | zero=>intro row _ _ k _;simp [sweepK]
  | succ j ih=>
    intro row hr hj k hk
    rw [List.range_succ,List.map_append,List.map_singleton,sweepK_snoc,stepK]
    have h:=ih row hr (by omega) k hk
    have hlen:=sweepK_len nx (fun k _=>g k) ((List.range j).map fun i=>n - 1 - i) row
    by_cases e:n - 1 - j=k
    · subst e
      rw [if_pos (by omega)]
      simp [List.getD,hlen,hr,hk]
    · rw [List.getD,List.getElem?_set_ne e]
      rw [List.getD] at h
      rw [h]
      by_cases h2:n - 1 - k < j
      · rw [if_pos h2,if_pos (by omega)]
      · rw [if_neg h2,if_neg (by omega)]
theorem ext_getD {a b:List Bool} (hl:a.length=b.length) (h:∀k,k < a.length→a.getD k default=b.getD k default):a=b:=by
  refine List.ext_getElem hl fun k h1 h2=>?_
  have:=h k h1
  simpa [List.getD,h1,h2] using this
theorem fixR_const (nx:Nat→Nat) (n:Nat) (b:Bool) (g:Nat→Bool):fixR nx n b (fun k _=>g k)=(List.range n).map g:=by
  refine ext_getD (by rw [fixR_len,List.length_map,List.length_range]) fun k hk=>?_
  rw [fixR_len] at hk
  rw [fixR,dnK,sweepK_const n _ (by simp [sweepK_len]) (Nat.le_refl _) k hk,if_pos (by omega)]
  simp [List.getD,hk]
def cellV (bit:Int→Nat→Bool) (lt:Nat→Int) (nx:Nat→Nat) (x:Sd) (A Bz:List Bool) (k:Nat) (later:Bool):Bool:=
  if x.op=1 then bit (lt k) x.n.toNat
  else if x.op=2 then decide (x.n=1)
  else if x.op=3 then !Bz.getD k default
  else if x.op=4 then Bz.getD (nx k) default
  else if x.op=5 then A.getD k default && Bz.getD k default
  else if x.op=6 then A.getD k default || Bz.getD k default
  else if x.op=7 then Bz.getD k default || (A.getD k default && later)
  else Bz.getD k default && (A.getD k default || later)
structure Las where
  bit:Int→Nat→Bool
  lt:Nat→Int
  nx:Nat→Nat
  n:Nat
def rowV (w:Las) (x:Sd) (A Bz:List Bool):List Bool:=fixR w.nx w.n (decide (x.op=8)) (cellV w.bit w.lt w.nx x A Bz)
theorem rowV_len (w:Las) (x:Sd) (A Bz:List Bool):(rowV w x A Bz).length=w.n:=fixR_len ..
theorem rowV_0 (w:Las) {x:Sd} (h:need x.op=0) (A Bz A' Bz':List Bool):rowV w x A Bz=rowV w x A' Bz':=by
  have h1:x.op=1∨x.op=2:=by rcases need_cases x.op with h | h | h | h<;>first | exact h.2 | omega
  refine fixR_congr fun k _ b=>?_
  rcases h1 with h1 | h1<;>simp [cellV,h1]
theorem rowV_1 (w:Las) {x:Sd} (h:need x.op=1) (A A' Bz:List Bool):rowV w x A Bz=rowV w x A' Bz:=by
  have h1:x.op=3∨x.op=4:=by rcases need_cases x.op with h | h | h | h<;>first | exact h.2 | omega
  refine fixR_congr fun k _ b=>?_
  rcases h1 with h1 | h1<;>simp [cellV,h1]
def tabV (w:Las) (f:List Sd):Nat→List (List Bool)
  | 0=>[]
  | i+1=>tabV w f i++[rowV w (f.getD i default) ((tabV w f i).getD (tst f (i - 1) - 1) []) ((tabV w f i).getD (i - 1) [])]
theorem tabV_len (w:Las) (f:List Sd) (i:Nat):(tabV w f i).length=i:=by
  induction i with
  | zero=>rfl
  | succ i ih=>rw [tabV,List.length_append,ih];rfl
def rowF (w:Las) (f:List Sd) (k:Nat):List Bool:=(tabV w f (k+1)).getD k []
theorem tabV_get (w:Las) (f:List Sd) {k i:Nat} (h:k < i):(tabV w f i).getD k []=rowF w f k:=by
  induction i with
  | zero=>omega
  | succ i ih=>
    by_cases e:k=i
    · subst e;rfl
    · have h1:=ih (by omega)
      rw [tabV,List.getD,List.getElem?_append_left (by rw [tabV_len];omega)]
      exact h1
theorem rowF_eq (w:Las) (f:List Sd) (k:Nat):rowF w f k=rowV w (f.getD k default) ((tabV w f k).getD (tst f (k - 1) - 1) []) ((tabV w f k).getD (k - 1) []):=by
  rw [rowF,tabV,List.getD,List.getElem?_append_right (by rw [tabV_len];omega),tabV_len]
  simp
theorem rowF_len (w:Las) (f:List Sd) (k:Nat):(rowF w f k).length=w.n:=by rw [rowF_eq,rowV_len]
theorem rowF_0 (w:Las) {f:List Sd} {k:Nat} (h:need (f.getD k default).op=0):rowF w f k=rowV w (f.getD k default) [] []:=by rw [rowF_eq];exact rowV_0 w h ..
theorem rowF_1 (w:Las) {f:List Sd} {k:Nat} (hk:1≤k) (h:need (f.getD k default).op=1):rowF w f k=rowV w (f.getD k default) [] (rowF w f (k - 1)):=by
  rw [rowF_eq,tabV_get w f (by omega:k - 1 < k)];exact rowV_1 w h ..
theorem rowF_2 (w:Las) {f:List Sd} {k:Nat} (hk:1≤k) (h1:1≤tst f (k - 1)) (h2:tst f (k - 1)≤k - 1):rowF w f k=rowV w (f.getD k default) (rowF w f (tst f (k - 1) - 1)) (rowF w f (k - 1)):=by
  rw [rowF_eq,tabV_get w f (by omega:k - 1 < k),tabV_get w f (by omega:tst f (k - 1) - 1 < k)]
def runV (w:Las) (g:List Sd):Nat→List (List Bool)
  | 0=>[]
  | i+1=>
    if need (g.getD i default).op=0 then rowV w (g.getD i default) [] []::runV w g i
    else if need (g.getD i default).op=1 then rowV w (g.getD i default) [] ((runV w g i).headD [])::(runV w g i).tail
    else rowV w (g.getD i default) ((runV w g i).tail.headD []) ((runV w g i).headD [])::(runV w g i).tail.tail
structure OkFm (g:List Sd):Prop where
  l:g.length≤16
  ok:∀i,i < g.length→sdOk (g.getD i default)=true∧need (g.getD i default).op≤vals g i
  one:vals g g.length=1
theorem GoodFm.okFm {f:List Sd} (g:GoodFm f):OkFm f:=⟨g.l1,g.ok,g.one⟩
theorem runV_len {w:Las} {g:List Sd} (h:OkFm g):∀i,i≤g.length→((runV w g i).length:Int)=vals g i:=by
  intro i
  induction i with
  | zero=>intro _;rfl
  | succ i ih=>
    intro hi
    have h1:=ih (by omega)
    have h2:=h.ok i (by omega)
    have h3:=sdOk_need h2.1
    have h4:=h2.2
    simp only [runV,vals]
    split
    · rename_i e;rw [List.length_cons];omega
    · split
      · rename_i e;rw [List.length_cons,List.length_tail];omega
      · rw [List.length_cons,List.length_tail,List.length_tail];omega
theorem runV_rows {w:Las} {g:List Sd} (h:OkFm g):∀i,i≤g.length→∀r∈runV w g i,r.length=w.n:=by
  intro i
  induction i with
  | zero=>intro _ r hr;cases hr
  | succ i ih=>
    intro hi r hr
    have h1:=ih (by omega)
    simp only [runV] at hr
    split at hr
    · rcases List.mem_cons.1 hr with rfl | hr
      · exact rowV_len ..
      · exact h1 r hr
    · split at hr
      · rcases List.mem_cons.1 hr with rfl | hr
        · exact rowV_len ..
        · exact h1 r (List.mem_of_mem_tail hr)
      · rcases List.mem_cons.1 hr with rfl | hr
        · exact rowV_len ..
        · exact h1 r (List.mem_of_mem_tail (List.mem_of_mem_tail hr))
theorem tst_in {f:List Sd} (g:GoodFm f):∀k,k < f.length→∀i,tst f k≤i→i≤k→tst f k≤tst f i:=by
  intro k
  induction k using Nat.strongRecOn with
  | ind k ih=>
    intro hk i h1 h2
    by_cases e:i=k
    · subst e;exact Nat.le_refl _
    have hok:=g.ok k hk
    have hnd:=sdOk_need hok.1
    rcases (by omega:need (f.getD k default).op=0∨need (f.getD k default).op=1∨need (f.getD k default).op=2) with h | h | h
    · rw [tst0 h] at h1;omega
    · have t:=tst1 g hk h
      rw [t.2] at h1 ⊢
      exact ih (k - 1) (by omega) (by omega) i h1 (by omega)
    · obtain ⟨t1,t2,t3,t4,_⟩:=tst2 g hk h
      rw [t4] at h1 ⊢
      by_cases hm:tst f (k - 1)≤i
      · have:=ih (k - 1) (by omega) (by omega) i hm (by omega)
        have h5:tst f (tst f (k - 1) - 1)≤tst f (k - 1) - 1:=by
          obtain ⟨r,_,e2,_⟩:=stk_top g (k:=tst f (k - 1)) (by omega) (by omega)
          exact e2
        omega
      · exact ih (tst f (k - 1) - 1) (by omega) (by omega) i h1 (by omega)
def subF (f:List Sd) (t k:Nat):List Sd:=(f.drop t).take (k+1 - t)
theorem subF_len {f:List Sd} {t k:Nat} (hk:k < f.length) (ht:t≤k):(subF f t k).length=k+1 - t:=by rw [subF,List.length_take,List.length_drop];omega
theorem subF_get {f:List Sd} {t k j:Nat} (hk:k < f.length) (ht:t≤k) (hj:j < k+1 - t):(subF f t k).getD j default=f.getD (t+j) default:=by
  simp [subF,List.getD,List.getElem?_take,hj]
theorem tst_le {f:List Sd} (g:GoodFm f) {k:Nat} (hk:k < f.length):tst f k≤k:=by
  obtain ⟨r,_,e,_⟩:=stk_top g (k:=k+1) (by omega) (by omega)
  exact e
theorem cont_top {i:Nat} {s k:Nat} {r:List (Nat×Nat)} (h:Cont i ((s,k)::r)):k+1=i:=h.1
theorem run_sub {w:Las} {f:List Sd} (g:GoodFm f) {k:Nat} (hk:k < f.length):∀j,j≤k+1 - tst f k→
    ∃X,stk f (tst f k+j)=X++stk f (tst f k)∧runV w (subF f (tst f k) k) j=X.map (fun x=>rowF w f x.2)∧vals (subF f (tst f k) k) j=X.length∧
      (j < k+1 - tst f k→need (f.getD (tst f k+j) default).op≤X.length):=by
  have htk:=tst_le g hk
  generalize ht:tst f k=t at htk ⊢
  intro j
  have need_ok:∀j X,j < k+1 - t→stk f (t+j)=X++stk f t→need (f.getD (t+j) default).op≤(X.length:Int):=by
    intro j X hj hX
    have hi:t+j < f.length:=by omega
    have hok:=g.ok (t+j) hi
    have hnd:=sdOk_need hok.1
    have hin:t≤tst f (t+j):=by have:=tst_in g k hk (t+j) (by omega) (by omega);omega
    have hct:=stk_cont g t (by omega)
    rcases (by omega:need (f.getD (t+j) default).op=0∨need (f.getD (t+j) default).op=1∨need (f.getD (t+j) default).op=2) with h | h | h
    · omega
    · have t1:=tst1 g hi h
      obtain ⟨r,e,e1,_⟩:=stk_top g (k:=t+j) (by omega) (by omega)
      cases X with
      | nil=>
        rw [List.nil_append,e] at hX
        rw [← hX] at hct
        have:=cont_top hct
        omega
      | cons a X=>simp only [List.length_cons];omega
    · obtain ⟨t1,t2,t3,t4,r,e⟩:=tst2 g hi h
      have h5:tst f (tst f (t+j - 1) - 1)≤tst f (t+j - 1) - 1:=tst_le g (by omega)
      cases X with
      | nil=>
        rw [List.nil_append,e] at hX
        rw [← hX] at hct
        have:=cont_top hct
        omega
      | cons a X=>
        cases X with
        | nil=>
          rw [e] at hX
          injection hX with _ hX
          change _=stk f t at hX
          rw [← hX] at hct
          have:=cont_top hct
          omega
        | cons b X=>simp only [List.length_cons];omega
  induction j with
  | zero=>intro _;exact ⟨[],rfl,rfl,rfl,fun hj=>need_ok 0 [] hj rfl⟩
  | succ j ih=>
    intro hj
    obtain ⟨X,h1,h2,h3,h4⟩:=ih (by omega)
    have h4:=h4 (by omega)
    have hi:t+j < f.length:=by omega
    have hok:=g.ok (t+j) hi
    have hnd:=sdOk_need hok.1
    have hg:=subF_get (f:=f) (t:=t) (k:=k) (j:=j) hk htk (by omega)
    have hin:t≤tst f (t+j):=by have:=tst_in g k hk (t+j) (by omega) (by omega);omega
    have fin:∀X',stk f (t+j+1)=X'++stk f t→runV w (subF f t k) (j+1)=X'.map (fun x=>rowF w f x.2)→vals (subF f t k) (j+1)=X'.length→
        ∃X,stk f (t+(j+1))=X++stk f t∧runV w (subF f t k) (j+1)=X.map (fun x=>rowF w f x.2)∧vals (subF f t k) (j+1)=X.length∧(j+1 < k+1 - t→need (f.getD (t+(j+1)) default).op≤X.length):=
      fun X' a b c=>⟨X',a,b,c,fun h=>need_ok (j+1) X' h a⟩
    rcases (by omega:need (f.getD (t+j) default).op=0∨need (f.getD (t+j) default).op=1∨need (f.getD (t+j) default).op=2) with h | h | h
    · refine fin ((t+j,t+j)::X) ?_ ?_ ?_
      · rw [stk,if_pos h,h1];rfl
      · rw [runV,hg,if_pos h,h2,List.map_cons,rowF_0 w h]
      · rw [vals,hg,h,h3];simp
    · have t1:=tst1 g hi h
      obtain ⟨r,e,e1,_⟩:=stk_top g (k:=t+j) (by omega) (by omega)
      cases X with
      | nil => have h4' : need (f.getD (t + j) default).op ≤ 0 := h4
               omega
      | cons a X=>
        have ha:a=(tst f (t+j - 1),t+j - 1):=by
          rw [e] at h1;injection h1 with h1 _;exact h1.symm
        refine fin ((a.1,t+j)::X) ?_ ?_ ?_
        · rw [stk,if_neg (by omega),if_pos h,h1];rfl
        · rw [runV,hg,if_neg (by omega),if_pos h,h2,List.map_cons,List.map_cons,List.headD_cons,List.tail_cons,rowF_1 w t1.1 h,ha]
        · rw [vals,hg,h,h3];simp
    · obtain ⟨t1,t2,t3,t4,r,e⟩:=tst2 g hi h
      cases X with
      | nil => have h4' : need (f.getD (t + j) default).op ≤ 0 := h4
               omega
      | cons a X=>
        cases X with
        | nil => have h4' : need (f.getD (t + j) default).op ≤ 1 := h4
                 omega
        | cons b X=>
          have hab:a=(tst f (t+j - 1),t+j - 1)∧b=(tst f (tst f (t+j - 1) - 1),tst f (t+j - 1) - 1):=by
            rw [e] at h1;injection h1 with h1 h5;injection h5 with h5 _;exact ⟨h1.symm,h5.symm⟩
          refine fin ((b.1,t+j)::X) ?_ ?_ ?_
          · rw [stk,if_neg (by omega),if_neg (by omega),h1];rfl
          · rw [runV,hg,if_neg (by omega),if_neg (by omega),h2,List.map_cons,List.map_cons,List.map_cons,List.headD_cons,List.tail_cons,List.headD_cons,List.tail_cons,rowF_2 w t1 t2 t3,hab.1,hab.2]
          · rw [vals,hg,h,h3];simp;omega
theorem run_tree {w:Las} {f:List Sd} (g:GoodFm f) {k:Nat} (hk:k < f.length):runV w (subF f (tst f k) k) (subF f (tst f k) k).length=[rowF w f k]:=by
  have htk:=tst_le g hk
  have hl:=subF_len (f:=f) hk htk
  obtain ⟨X,h1,h2,h3,h4⟩:=run_sub (w:=w) g hk (k+1 - tst f k) (by omega)
  obtain ⟨r,e,_,e2⟩:=stk_top g (k:=k+1) (by omega) (by omega)
  rw [Nat.add_sub_cancel] at e e2
  rw [show tst f k+(k+1 - tst f k)=k+1 by omega,e,e2] at h1
  have hX:X=[(tst f k,k)]:=by
    have h5:=congrArg List.length h1
    simp at h5
    cases X with
    | nil=>simp at h5
    | cons a X=>
      injection h1 with h6 h7
      cases X with
      | nil=>rw [← h6]
      | cons b X=>simp at h5;omega
  rw [hl,h2,hX];rfl
theorem tst_last {f:List Sd} (g:GoodFm f):tst f (f.length - 1)=0:=by
  have h0:=g.l0
  have h1:=stk_len g f.length (Nat.le_refl _)
  rw [g.one] at h1
  obtain ⟨r,e,_,e2⟩:=stk_top g (k:=f.length) (Nat.le_refl _) (by omega)
  have h2:r=[]:=by
    rw [e] at h1;simp at h1
    cases r with
    | nil=>rfl
    | cons a r=>simp at h1;omega
  have hc:=stk_cont g (tst f (f.length - 1)) (by have:=tst_le g (k:=f.length - 1) (by omega);omega)
  rw [e2,h2] at hc
  exact hc
theorem subF_all {f:List Sd} (g:GoodFm f):subF f (tst f (f.length - 1)) (f.length - 1)=f:=by
  have:=g.l0
  rw [tst_last g,subF,List.drop_zero,List.take_of_length_le (by omega)]
theorem run_all {w:Las} {f:List Sd} (g:GoodFm f):runV w f f.length=[rowF w f (f.length - 1)]:=by
  have h:=run_tree (w:=w) g (k:=f.length - 1) (by have:=g.l0;omega)
  rwa [subF_all g] at h
end Go.Pt
namespace Go.Proofs.Ytjdhigcefkihiaa
open Go Go.Proofs Go.RowKit Go.Shelf Go.Sep
attribute [local go_sem] Oper.semAt_some
set_option maxRecDepth 100000 in
set_option maxHeartbeats 2000000 in
theorem bw1_in (F:Fence) (n:Nat) (hF:F.fn 159) (hro:F.round=none) (hn:1≤n) (l Bs bo b off len:Nat) (hlen:len≤1000000) (J Jx:List (Nat×Bool)→World→Prop)
    (hY:∀pre x W,J pre W→pre.length < len→YieldAt F (n - 1) Try.prog l (bEnc len x) W fun e W'=>
      (e=.returned (.bool true)∧J (pre++[x]) W'∧BKp Bs bo b off len W W')∨(e=.returned (.bool false)∧Jx (pre++[x]) W'))
    (W:World) (hBs0:BBox Bs bo b off len W) (hc:BRow b off len W) (h0:J [] W) :
    CallsIn F n Try.prog 159 #[.func (.yield l) #[] #[],.pointer (some ⟨Bs,bo,none⟩)] W fun e W'=>(∃v,e=.returned v)∧
      ((∃ys,BKeys len len ys∧J ys W')∨(∃pre,(∃k,k≤len∧BKeys len k pre)∧Jx pre W')):=by
  refine callsIn_of_wp Try.func159 rfl hF ?_ hro
  simp only [Try.ntmps159,List.size_toArray,List.length_cons,List.length_nil,Nat.reduceAdd,Nat.reduceSub,Array.replicate_succ,Array.replicate_zero,List.push_toArray,List.append_toArray,List.nil_append,List.cons_append]
  obtain ⟨cap,hBs⟩:=hBs0
  have hBs0:BBox Bs bo b off len W:=⟨cap,hBs⟩
  gi_wp2
  gi_loopw [3] (fun i wr=>∃k:Nat,k≤len∧i=.int .i64 ((len:Int) - 1 - k)∧(∃ys,BKeys len k ys∧J ys wr)∧BKp Bs bo b off len W wr)
    (fun i _=>(intOf i+1).toNat)
  case atStart=>exact ⟨0,Nat.zero_le _,by simp,⟨[],rfl,h0⟩,BKp.refl' _ _ _ _ _ _⟩
  case round=>
    obtain ⟨k,hk,rfl,⟨ys,hys,hJs⟩,hkp⟩:=hrel
    obtain ⟨cap',hBs'⟩:=hkp.2 hBs0
    by_cases hlt:k < len
    · obtain ⟨v,hv⟩:=hkp.1 hc (len - 1 - k) (by omega)
      obtain ⟨fn,tmps,assign,body,hy,hR⟩:=hY _ (len - 1 - k,v) wr hJs (by rw [hys.len'];exact hlt)
      have hidx:((len - 1 - k:Nat):Int)=(len:Int) - 1 - k:=by omega
      have hmin:min (len - 1 - k) (len - 1)=len - 1 - k:=by omega
      unfold bEnc at hy
      dsimp only at hy
      rw [hmin,hidx] at hy
      have hge:0≤(len:Int) - 1 - k:=by omega
      have hlt2:(len:Int) - 1 - k < len:=by omega
      have hto:((len:Int) - 1 - k).toNat=len - 1 - k:=by omega
      gi_wp2
      refine hR.mono ?_
      rintro e W3 (⟨rfl,hJ3,hk3⟩ | ⟨rfl,hJx3⟩)
      · gi_wp2
        go_roundw
        case rel=>exact ⟨k+1,by omega,by simp;omega,⟨_,hys.succ' v,hJ3⟩,hkp.trans' hk3⟩
        case measure=>simp [intOf];omega
      · gi_wp2
        refine bodyPost_ret (results_none rfl _ _ _) rfl ?_
        exact ⟨⟨_,rfl⟩,.inr ⟨_,⟨k+1,by omega,hys.succ' v⟩,hJx3⟩⟩
    · obtain rfl:k=len:=by omega
      gi_wp2
      go_end0
      exact ⟨⟨_,rfl⟩,.inl ⟨_,hys,hJs⟩⟩
theorem bw_ok:BackOk Try.prog 159:=by
  refine ⟨Go.Proofs.enters_of Try.func159 (by kernel_rfl) rfl,?_⟩
  intro Bs bo b off len w h0 hlen hBs hb hs hc l J Jx W hW _ _ hY hJ
  refine bw1_in Fence.wide 2 trivial rfl (by omega) l Bs bo b off len hlen J Jx hY W ?_ ?_ hJ
  · obtain ⟨cap,h⟩:=hs
    exact ⟨cap,(hW.cell (p:=⟨Bs,bo,none⟩) hBs).trans h⟩
  · exact fun j hj=>let ⟨v,hv⟩:=hc j hj;⟨v,(hW.cell (p:=⟨b,off+j,none⟩) hb).trans hv⟩
end Go.Proofs.Ytjdhigcefkihiaa
namespace Go.Proofs.Ytjdhigcefkihiaa
open Go Go.Sep Go.Pt
attribute [local irreducible] CallT
def repB (n k:Nat) (x:Bool):List Bool:=List.replicate k x++List.replicate (n - k) false
theorem repB_len {n k:Nat} (x:Bool) (h:k≤n):(repB n k x).length=n:=by simp [repB];omega
theorem cB_rep (n:Nat):zerosA n [B false]=cP fB (List.replicate n false):=by
  induction n with
  | zero=>rfl
  | succ n ih=>rw [zerosA_succ,ih,List.replicate_succ];rfl
theorem repB_splice {n k j:Nat} (x:Bool) (hk:k≤n) (hj:j≤k) (hkj:k+j≤n):splice (cP fB (repB n k x)) k (cP fB (List.replicate j x))=cP fB (repB n (k+j) x):=by
  unfold splice repB
  rw [cP,cP,cP,← List.map_take,← List.map_drop,← List.map_append,← List.map_append]
  congr 1
  rw [List.take_left' (by simp),List.length_map,List.length_replicate]
  have e1:List.replicate k x++List.replicate j x=List.replicate (k+j) x:=by rw [List.replicate_append_replicate]
  rw [e1]
  congr 1
  rw [List.drop_append,List.drop_of_length_le (by simp),List.nil_append,List.drop_replicate,List.length_replicate]
  congr 1
  omega
theorem repB_take {n k j:Nat} (x:Bool) (hj:j≤k):List.take j (cP fB (repB n k x))=cP fB (List.replicate j x):=by
  unfold repB
  rw [cP,cP,← List.map_take]
  congr 1
  rw [List.take_append_of_le_length (by simpa using hj),List.take_replicate,Nat.min_eq_left hj]
theorem cB_all (l:List Bool):(cP fB l).all AV.isCell=true:=by
  rw [List.all_eq_true]
  intro c hc
  obtain ⟨x,_,rfl⟩:=List.mem_map.1 hc
  rfl
theorem RepeatB_row (x:Bool) (n:Nat) (hn:n≤1000000) {H:Heap} {K:AV→Heap→Prop} (h:∀q,H q=none→K (rowP q (List.replicate n x)) (H.set q (cP fB (List.replicate n x)))):CallT Try.prog 149 [.p (.sl [[.bool x]]),I n] H K:=by
  have wn:IntKind.u64.wrap (n:Int)=n:=u64_id (by omega) (by omega)
  have w1:IntKind.u64.wrap ((1:Nat):Int)=1:=u64_id (by omega) (by omega)
  have en:IntKind.i64.wrap (n:Int)=n:=i64_id (by omega) (by omega)
  have n0:¬(n:Int) < 0:=by omega
  have nb:¬(n:Int) > 9223372036854775807:=by omega
  refine W149_ok ?_;simp (maxSteps:=1000000) (disch:=first | assumption | (apply ν6;assumption)) only [W149,vz,vu,vv,eqS,eF_,↓c1_,↓c2_,tabs,reduceCtorEq,ι5,↓reduceIte,ν1,ν2,ν3,ν4,ν5,ι1,ι2,ι3,ι4,wn,w1,n0,decide_false]
  refine Pu.use (Mul_one n (by omega)) ?_
  (try simp (maxSteps:=1000000) (disch:=first | assumption | (apply ν6;assumption)) only [vz,vu,vv,eqS,eF_,↓c1_,↓c2_,tabs,reduceCtorEq,ι5,↓reduceIte,ν1,ν2,ν3,ν4,ν5,ι1,ι2,ι3,ι4,nb,en,makeSliceV,Int.lt_irrefl,decide_false,gt_iff_lt,copyV,slenV,cutV,srcV])
  refine ⟨by omega,by omega,by omega,by omega,fun r hr=>?_⟩
  have go:∀k:Nat,(k=0∧n=0∨1≤k∧k≤n)→L149_0 K (.sl r 1 0 n) (I k) (H.set r (cP fB (repB n k x))):=by
    intro k hk
    refine L149_0_rule k (fun k=>I k) (fun k=>H.set r (cP fB (repB n k x))) (fun k=>k=0∧n=0∨1≤k∧k≤n) (fun k=>n - k) ⟨hk,.refl _,Heap.le_refl _⟩ ?_
    clear hk k
    intro k hk
    have hl:=repB_len x (show k≤n by omega)
    have hc:(cP fB (repB n k x)).length=n:=by rw [cP,List.length_map,hl]
    (try simp (maxSteps:=1000000) (disch:=first | assumption | (apply ν6;assumption)) only [vz,vu,vv,eqS,eF_,↓c1_,↓c2_,tabs,reduceCtorEq,ι5,↓reduceIte,ν1,ν2,ν3,ν4,ν5,ι1,ι2,ι3,ι4,B149_0,copyV,slenV,cutV,srcV,load_at (Heap.set_same H r _),hc])
    refine ⟨fun h1=>⟨by omega,by omega,by omega,?_⟩,fun h1=>?_⟩
    · refine ⟨by omega,by omega,by omega,?_⟩
      have em:((n:Int) - (k:Int)).toNat=n - k:=by omega
      rw [em]
      obtain ⟨j,hj⟩:∃j,min k (n - k)=j:=⟨_,rfl⟩
      rw [hj,if_neg (by omega),Nat.mul_one,repB_take x (by omega),Nat.mul_one]
      have hcj:(cP fB (List.replicate j x)).length=j:=by simp [cP]
      have hs:=repB_splice (n:=n) (k:=k) (j:=j) x (by omega) (by omega) (by omega)
      simp only [splice] at hs
      rw [hs,hcj]
      refine ⟨by omega,by omega,cB_all _,k+j,by omega,by omega,?_,Heap.le_refl _⟩
      rw [wk_int,i64_id (by omega) (by omega)];simp
    · have e:k=n:=by omega
      subst e
      have e2:repB k k x=List.replicate k x:=by simp [repB]
      rw [e2]
      have:=h r hr
      rw [rowP,List.length_replicate] at this
      exact this
  by_cases h0:n=0
  · subst h0
    rw [if_pos (by simp)]
    exact go 0 (.inl ⟨rfl,rfl⟩)
  · have e1:min 1 n=1:=by omega
    have e2:List.take 1 [[PV.bool x]]=[[PV.bool x]]:=rfl
    rw [e1,if_neg (by decide),e2]
    have g:=go 1 (.inr ⟨by omega,by omega⟩)
    have e3:(List.map AV.p [[PV.bool x]].flatten++List.drop [[PV.bool x]].flatten.length (zerosA n [AV.p (PV.bool false)]))=cP fB (repB n 1 x):=by
      obtain ⟨m,rfl⟩:∃m,n=m+1:=⟨n - 1,by omega⟩
      rw [zerosA_succ,cB_rep]
      simp [repB,cP]
    rw [e3]
    refine ⟨fun e he=>?_,?_,rfl,g⟩
    · rw [List.mem_singleton] at he;rw [he];rfl
    · rw [cB_rep];simp [cP];omega
theorem Backward_spec {v:AV} {H:Heap} {K:AV→Heap→Prop} {q n:Nat} (h:∀r,H r=none→K (.fn 159 [.ptr r 0]) (H.set r [.sl q 1 0 n])):CallT Try.prog 150 [.sl q 1 0 n] H K:=by
  refine W150_ok ?_;simp (maxSteps:=1000000) (disch:=first | assumption | (apply ν6;assumption)) only [W150,vz,vu,vv,eqS,eF_,↓c1_,↓c2_,tabs,reduceCtorEq,ι5,↓reduceIte,ν1,ν2,ν3,ν4,ν5,ι1,ι2,ι3,ι4]
  exact h
theorem row_setB {row:List Bool} {k:Nat} {b:Bool} (h:k < row.length):List.take (k*1) (cP fB row)++[B b]++List.drop (k*1+1) (cP fB row)=cP fB (row.set k b):=by
  rw [Nat.mul_one,cP,cP,List.map_set,List.set_eq_take_append_cons_drop,if_pos (by simpa using h)];simp
theorem fin_B {H G:Heap} {Ts:List Th} {q:Nat} {l:List Bool} (s:St H Ts G) (i:Nat) (hi:Ts[i]?=some (cellT q (cP fB l))):wkK (fun r H'=>r=.p (.sl (l.map eBo))∧H'=H) (rowP q l) G:=by
  have:=fin_own (sz:=1) (es:=l.map eBo) (q:=q) (H:=H) (H':=G) (K:=fun r H'=>r=.p (.sl (l.map eBo))∧H'=H) (by omega) (sizedMap (f:=eBo) (fun _=>rfl) l) (s.fr _ (List.mem_of_getElem? hi) q (by simp [cellT])) (fun y b hy=>by
    by_cases e:y=q
    · subst e;rw [Heap.set_same] at hy;rw [← hy];have h1:G y=some (cP fB l):=s.get i hi;rw [h1];exact congrArg some (cells_P fB l).symm
    · rw [Heap.set_other e] at hy;exact s.le y b hy) ⟨rfl,rfl⟩
  simpa only [Go.Sep.own,List.length_map] using this
def turnK (nx:Nat→Nat) (r:Nat→Bool→Bool) (n:Nat) (b:Bool):Nat→List Bool
  | 0=>List.replicate n b
  | i+1=>sweepK nx r (dnK n) (turnK nx r n b i)
theorem turnK_len (nx:Nat→Nat) (r:Nat→Bool→Bool) (n:Nat) (b:Bool):∀i,(turnK nx r n b i).length=n
  | 0=>by simp [turnK]
  | i+1=>by rw [turnK,sweepK_len];exact turnK_len nx r n b i
theorem nxW_lt {s l:List Int} {k:Nat} (h:1≤l.length):nxW s l k < s.length+l.length:=by unfold nxW;split<;>omega
theorem cB_len (row:List Bool):(cP fB row).length=row.length:=by simp [cP]
theorem cB_get {row:List Bool} {k:Nat} (h:k < row.length):((((cP fB row).drop (k*1)).take 1).headD .any)=B (row.getD k default):=by rw [Nat.mul_one];exact read_row (f:=fB) default h
theorem fixed_spec (s l:List Int) (h1:s.length≤24) (h2:1≤l.length∧l.length≤24) (b:Bool) (f0:Nat) (caps:List AV) (r:Nat→Bool→Bool) {H:Heap}
    (hr:∀{k:Nat} {nb:Bool} {G:Heap} {K:AV→Heap→Prop},k < s.length+l.length→Heap.le H G→K (B (r k nb)) G→callF Try.prog (.fn f0 caps) [I k,B nb] G K)
    {K:AV→Heap→Prop} (h:K (.p (.sl ((fixR (nxW s l) (s.length+l.length) b r).map eBo))) H):CallT Try.prog 130 [aL2 s l,B b,.fn f0 caps] H K:=by
  refine CallT.fin ?_
  have en:IntKind.i64.wrap ((s.length:Int)+(l.length:Int))=((s.length+l.length:Nat):Int):=by rw [i64_id (by omega) (by omega)];simp
  refine W130_ok ?_;simp (maxSteps:=1000000) (disch:=first | assumption | (apply ν6;assumption)) only [W130,vz,vu,vv,eqS,eF_,↓c1_,↓c2_,tabs,reduceCtorEq,ι5,↓reduceIte,ν1,ν2,ν3,ν4,ν5,ι1,ι2,ι3,ι4,en]
  intro r3 hr3 r5 n5 hr5
  have st:=((St.nil H).cell hr3 [Is s,Is l]).cell (r:=r5) (by rw [Heap.set_other n5];exact hr5) [.fn f0 caps]
  generalize (H.set r3 [Is s,Is l]).set r5 [.fn f0 caps]=G at st ⊢
  clear hr3 n5 hr5
  refine lit1 tab_76 rfl tab_4 ⟨rfl,rfl⟩ ?_
  (try simp (maxSteps:=1000000) (disch:=first | assumption | (apply ν6;assumption)) only [vz,vu,vv,eqS,eF_,↓c1_,↓c2_,tabs,reduceCtorEq,ι5,↓reduceIte,ν1,ν2,ν3,ν4,ν5,ι1,ι2,ι3,ι4,load_at (st.get 1 rfl),en])
  refine RepeatB_row b (s.length+l.length) (by omega) fun q hq=>?_
  replace st:=st.cell hq (cP fB (List.replicate (s.length+l.length) b))
  generalize G.set q (cP fB (List.replicate (s.length+l.length) b))=G1 at st ⊢
  (try simp (maxSteps:=1000000) (disch:=first | assumption | (apply ν6;assumption)) only [vz,vu,vv,eqS,eF_,↓c1_,↓c2_,tabs,reduceCtorEq,ι5,↓reduceIte,ν1,ν2,ν3,ν4,ν5,ι1,ι2,ι3,ι4])
  intro r7 hr7
  replace st:=st.cell hr7 [rowP q (List.replicate (s.length+l.length) b)]
  generalize G1.set r7 [rowP q (List.replicate (s.length+l.length) b)]=G2 at st ⊢
  generalize hN:s.length+l.length=N at st hr h
  have hN1:1≤N:=by omega
  have e0:rowP q (List.replicate N b)=.sl q 1 0 N:=by simp [rowP]
  rw [e0] at st
  clear e0 hr7 hq
  refine L130_0_rule ((0:Nat),G2) (fun s=>I s.1) (fun s=>s.2) (fun t=>t.1≤2∧St H [cellT r7 [.sl q 1 0 N],cellT q (cP fB (turnK (nxW s l) r N b t.1)),cellT r5 [.fn f0 caps],cellT r3 [Is s,Is l]] t.2) (fun s=>2 - s.1)
    ⟨⟨by simp,st⟩,.refl _,Heap.le_refl _⟩ ?_
  clear st G2
  rintro ⟨i,G2⟩ ⟨hi,st⟩
  dsimp only at hi st
  have hlen:=turnK_len (nxW s l) r N b i
  have e5:IntKind.i64.wrap ((i:Int)+1)=((i+1:Nat):Int):=by rw [i64_id (by omega) (by omega)];simp
  (try simp (maxSteps:=1000000) (disch:=first | assumption | (apply ν6;assumption)) only [vz,vu,vv,eqS,eF_,↓c1_,↓c2_,tabs,reduceCtorEq,ι5,↓reduceIte,ν1,ν2,ν3,ν4,ν5,ι1,ι2,ι3,ι4,B130_0,load_at (st.get 0 rfl),load_at (st.get 1 rfl),load_at (st.get 2 rfl)])
  refine ⟨fun h3=>?_,fun h3=>?_⟩
  · refine Backward_spec (v:=.any) fun bx hbx=>?_
    replace st:=st.cell hbx [.sl q 1 0 N]
    generalize G2.set bx [.sl q 1 0 N]=G3 at st ⊢
    generalize hrow:turnK (nxW s l) r N b i=row at st hlen
    refine R130_1_rule 159 bx q N (fun ks H'=>St H [cellT bx [.sl q 1 0 N],cellT r7 [.sl q 1 0 N],cellT q (cP fB (sweepK (nxW s l) r ks row)),cellT r5 [.fn f0 caps],cellT r3 [Is s,Is l]] H') bw_ok rfl ⟨by omega,by omega⟩ st ?_ ?_ ?_
    · intro ks H' hs
      exact ⟨hs.get 0 rfl,sweepK (nxW s l) r ks row,hs.get 2 rfl,by rw [sweepK_len,hlen]⟩
    · intro ks j H' hj hs
      have hl2:(sweepK (nxW s l) r ks row).length=N:=by rw [sweepK_len,hlen]
      generalize hrow2:sweepK (nxW s l) r ks row=row2 at hs hl2
      (try simp (maxSteps:=1000000) (disch:=first | assumption | (apply ν6;assumption)) only [vz,vu,vv,eqS,eF_,↓c1_,↓c2_,tabs,reduceCtorEq,ι5,↓reduceIte,ν1,ν2,ν3,ν4,ν5,ι1,ι2,ι3,ι4,RB130_1,load_at (hs.get 1 rfl),load_at (hs.get 3 rfl),load_at (hs.get 4 rfl)])
      refine Pu.use (nextPlace_spec s l h1 h2 (by omega:j < s.length+l.length)) ?_
      have hnx:nxW s l j < N:=by rw [← hN];exact nxW_lt h2.1
      have hsw:sweepK (nxW s l) r (ks++[j]) row=row2.set j (r j (row2.getD (nxW s l j) default)):=by rw [sweepK_snoc,hrow2];rfl
      have hc2:(cP fB row2).length=N:=by rw [cB_len,hl2]
      have hg2:=cB_get (row:=row2) (k:=nxW s l j) (by omega)
      have hset:=row_setB (row:=row2) (k:=j) (b:=r j (row2.getD (nxW s l j) default)) (by omega)
      generalize nxW s l j=m at hnx hsw hg2 hset ⊢
      (try simp (maxSteps:=1000000) (disch:=first | assumption | (apply ν6;assumption)) only [vz,vu,vv,eqS,eF_,↓c1_,↓c2_,tabs,reduceCtorEq,ι5,↓reduceIte,ν1,ν2,ν3,ν4,ν5,ι1,ι2,ι3,ι4,load_at (hs.get 1 rfl),load_at (hs.get 2 rfl),load_at (hs.get 3 rfl),load_at (hs.get 4 rfl),hc2,hg2])
      refine ⟨by omega,by omega,by omega,?_⟩
      have hcall:=fun {K:AV→Heap→Prop}=>hr (K:=K) (nb:=row2.getD m default) hj hs.le
      simp only [callF,List.cons_append,List.nil_append] at hcall
      refine hcall ?_
      (try simp (maxSteps:=1000000) (disch:=first | assumption | (apply ν6;assumption)) only [vz,vu,vv,eqS,eF_,↓c1_,↓c2_,tabs,reduceCtorEq,ι5,↓reduceIte,ν1,ν2,ν3,ν4,ν5,ι1,ι2,ι3,ι4,load_at (hs.get 1 rfl),load_at (hs.get 2 rfl),store_at (hs.get 2 rfl),hc2,hset])
      refine ⟨by omega,by omega,by omega,?_⟩
      rw [hsw]
      exact hs.put 2 rfl _
    · intro H' hs
      (try simp (maxSteps:=1000000) (disch:=first | assumption | (apply ν6;assumption)) only [vz,vu,vv,eqS,eF_,↓c1_,↓c2_,tabs,reduceCtorEq,ι5,↓reduceIte,ν1,ν2,ν3,ν4,ν5,ι1,ι2,ι3,ι4,e5])
      refine ⟨(i+1,H'),⟨by simp only;omega,?_⟩,by simp only;omega,.refl _,Heap.le_refl _⟩
      rw [turnK,hrow]
      exact hs.drop
  · have:i=2:=by omega
    subst this
    have hf:=fin_B st 1 rfl
    rw [rowP,hlen] at hf
    obtain ⟨v,H2,w,rfl,rfl⟩:=hf
    exact ⟨_,_,w,h⟩
end Go.Proofs.Ytjdhigcefkihiaa
namespace Go.Sep
open Go Go.RowKit Go.Proofs.Ytjdhigcefkihiaa
structure ResT (R:AV→Heap→List Nat→Prop):Prop where
  loc:∀{r G G' D},R r G D→(∀y∈D,∀b,G y=some b→G' y=some b)→R r G' D
  gd:∀{r G D},R r G D→Gd2 r∧∀y∈D,∀bs,G y=some bs→∀c∈bs,GdC c
  sh:∀{r G D n G0},(∀q,n≤q→G0 q=none)→R r G D→R (sh2 n r) (Heap.or G0 (shH n G)) (D.map (·+n))
end Go.Sep
namespace Go.Proofs.Ytjdhigcefkihiaa
open Go Go.Sep Go.Pt
attribute [local irreducible] CallT
abbrev eD (x:Sd):List PV:=[.int .i64 x.op,.int .i64 x.n]
abbrev aD (x:Sd):AV:=.agg [I x.op,I x.n]
abbrev Ds (xs:List Sd):AV:=.p (.sl (xs.map eD))
abbrev rowD (q:Nat) (xs:List Sd):AV:=.sl q 2 0 xs.length
abbrev cD (xs:List Sd):List AV:=cells (xs.map eD)
theorem szD (xs:List Sd):Sized 2 (xs.map eD):=sizedMap (f:=eD) (fun _=>rfl) xs
end Go.Proofs.Ytjdhigcefkihiaa
namespace Go.Proofs.Ytjdhigcefkihiaa
open Go Go.Sep Go.Pt
attribute [local irreducible] CallT
theorem need_impl.operandsOfSaid_spec (op:Int):Pu Try.prog 69 [I op] (I (need op)):=by
  refine Pu.of fun H=>?_
  refine W69_ok ?_;simp (maxSteps:=1000000) (disch:=first | assumption | (apply ν6;assumption)) only [W69,vz,vu,vv,eqS,eF_,↓c1_,↓c2_,tabs,reduceCtorEq,ι5,↓reduceIte,ν1,ν2,ν3,ν4,ν5,ι1,ι2,ι3,ι4,J69_0,J69_1]
  by_cases h1:op=1
  · subst h1;simp [need]
  by_cases h2:op=2
  · subst h2;simp [need]
  by_cases h3:op=3
  · subst h3;simp [need]
  by_cases h4:op=4
  · subst h4;simp [need]
  by_cases h5:op=5
  · subst h5;simp [need]
  by_cases h6:op=6
  · subst h6;simp [need]
  by_cases h7:op=7
  · subst h7;simp [need]
  by_cases h8:op=8
  · subst h8;simp [need]
  simp [need,h1,h2,h3,h4,h5,h6,h7,h8]
theorem need_spec.l10Need_spec (op:Int):Pu Try.prog 72 [I op] (I (need op)):=by
  refine Pu.of fun H=>?_
  refine W72_ok ?_;simp (maxSteps:=1000000) (disch:=first | assumption | (apply ν6;assumption)) only [W72,vz,vu,vv,eqS,eF_,↓c1_,↓c2_,tabs,reduceCtorEq,ι5,↓reduceIte,ν1,ν2,ν3,ν4,ν5,ι1,ι2,ι3,ι4,J72_0,J72_1]
  by_cases h1:op=1
  · subst h1;simp [need]
  by_cases h2:op=2
  · subst h2;simp [need]
  by_cases h3:op=3
  · subst h3;simp [need]
  by_cases h4:op=4
  · subst h4;simp [need]
  by_cases h5:op=5
  · subst h5;simp [need]
  by_cases h6:op=6
  · subst h6;simp [need]
  by_cases h7:op=7
  · subst h7;simp [need]
  by_cases h8:op=8
  · subst h8;simp [need]
  simp [need,h1,h2,h3,h4,h5,h6,h7,h8]
theorem isSaid_spec (x:Sd):Pu Try.prog 88 [aD x] (B (sdOk x)):=by
  refine Pu.of fun H=>?_
  refine W88_ok ?_;simp (maxSteps:=1000000) (disch:=first | assumption | (apply ν6;assumption)) only [W88,vz,vu,vv,eqS,eF_,↓c1_,↓c2_,tabs,reduceCtorEq,ι5,↓reduceIte,ν1,ν2,ν3,ν4,ν5,ι1,ι2,ι3,ι4]
  intro r hr
  have hle:=Heap.le_set (b:=[I x.op,I x.n]) hr
  refine ⟨fun h1=>?_,fun h1=>⟨fun h2=>?_,fun h2=>?_⟩⟩
  · rw [sdOk,if_pos h1]
    exact ⟨fun h3=>⟨by rw [decide_eq_true h3,Bool.true_and],hle⟩,fun h3=>⟨by rw [decide_eq_false h3,Bool.false_and],hle⟩⟩
  · rw [sdOk,if_neg h1,if_pos h2]
    exact ⟨fun h3=>⟨by rw [decide_eq_true h3,Bool.true_or],hle⟩,fun h3=>⟨by rw [decide_eq_false h3,Bool.false_or],hle⟩⟩
  · refine Pu.use (need_impl.operandsOfSaid_spec x.op) ?_
    rw [sdOk,if_neg h1,if_neg h2]
    (try simp (maxSteps:=1000000) (disch:=first | assumption | (apply ν6;assumption)) only [vz,vu,vv,eqS,eF_,↓c1_,↓c2_,tabs,reduceCtorEq,ι5,↓reduceIte,ν1,ν2,ν3,ν4,ν5,ι1,ι2,ι3,ι4])
    exact ⟨fun h3=>⟨by rw [decide_eq_true h3,Bool.true_and],hle⟩,fun h3=>⟨by rw [decide_eq_false h3,Bool.false_and],hle⟩⟩
theorem l10N_spec (x:Sd) (h:0≤need x.op):Pu Try.prog 89 [aD x] (B (sdOk x)):=by
  refine Pu.of fun H=>?_
  refine W89_ok ?_;simp (maxSteps:=1000000) (disch:=first | assumption | (apply ν6;assumption)) only [W89,vz,vu,vv,eqS,eF_,↓c1_,↓c2_,tabs,reduceCtorEq,ι5,↓reduceIte,ν1,ν2,ν3,ν4,ν5,ι1,ι2,ι3,ι4]
  intro r hr
  have hle:=Heap.le_set (b:=[I x.op,I x.n]) hr
  refine ⟨fun h1=>?_,fun h1=>⟨fun h2=>?_,fun h2=>?_⟩⟩
  · rw [sdOk,if_pos h1]
    refine Pu.use (l1In_spec x.n 0 2) ⟨?_,hle⟩
    exact congrArg (fun b:Bool=>B b) (by rw [Bool.eq_iff_iff];simp only [Bool.and_eq_true,decide_eq_true_eq];omega)
  · rw [sdOk,if_neg h1,if_pos h2]
    refine Pu.use (l1In_spec x.n 0 1) ⟨?_,hle⟩
    exact congrArg (fun b:Bool=>B b) (by rw [Bool.eq_iff_iff];simp only [Bool.and_eq_true,Bool.or_eq_true,decide_eq_true_eq];omega)
  · rw [sdOk,if_neg h1,if_neg h2]
    have:0 < need x.op:=by
      rcases need_cases x.op with h3 | h3 | h3 | h3<;>omega
    exact ⟨by rw [decide_eq_true this,Bool.true_and],hle⟩
theorem goodF_false {f:List Sd} {i:Nat} (hi:i < f.length) (h:sdAt f i=false):goodF f=false:=by
  rw [goodF,Bool.and_eq_false_iff,Bool.and_eq_false_iff]
  exact .inl (.inr (range_all_false hi h))
theorem vals_bd {f:List Sd}:∀i,(∀j,j < i→sdAt f j=true)→0≤vals f i∧vals f i≤i:=by
  intro i
  induction i with
  | zero=>intro _;exact ⟨Int.le_refl _,Int.le_refl _⟩
  | succ i ih=>
    intro h
    have h1:=ih fun j hj=>h j (by omega)
    have h2:=h i (by omega)
    simp only [sdAt,Bool.and_eq_true,decide_eq_true_eq] at h2
    have h3:=sdOk_need h2.1
    have h4:=h2.2
    simp only [vals]
    omega
theorem GoodSaid_impl (f:List Sd) (hl:f.length≤1048576):Pu Try.prog 37 [Ds f] (B (goodF f)):=by
  refine Pu.of fun H=>?_
  refine W37_ok ?_;simp (maxSteps:=1000000) (disch:=first | assumption | (apply ν6;assumption)) only [W37,vz,vu,vv,eqS,eF_,↓c1_,↓c2_,tabs,reduceCtorEq,ι5,↓reduceIte,ν1,ν2,ν3,ν4,ν5,ι1,ι2,ι3,ι4]
  refine ⟨fun h1=>by rw [goodF,decide_eq_false (by omega)];rfl,fun h1=>⟨fun h2=>by rw [goodF,decide_eq_false (show ¬f.length≤16 by omega),Bool.and_false];rfl,fun h2=>?_⟩⟩
  refine L37_0_rule (0:Nat) (fun i=>I (vals f i)) (fun i=>I i) (fun _=>H) (fun i=>i≤f.length∧∀j,j < i→sdAt f j=true) (fun i=>f.length - i) ⟨⟨by omega,by intros;omega⟩,.refl _,.refl _,Heap.le_refl _⟩ ?_
  rintro i ⟨hi,ha⟩
  have hv:=vals_bd i ha
  (try simp (maxSteps:=1000000) (disch:=first | assumption | (apply ν6;assumption)) only [vz,vu,vv,eqS,eF_,↓c1_,↓c2_,tabs,reduceCtorEq,ι5,↓reduceIte,ν1,ν2,ν3,ν4,ν5,ι1,ι2,ι3,ι4,B37_0])
  refine ⟨fun h3=>⟨by omega,h3,?_⟩,fun h3=>?_⟩
  · have hlt:i < f.length:=by omega
    have hat:sdAt f i=(sdOk (f.getD i default) && decide (need (f.getD i default).op≤vals f i)):=rfl
    have hvs:vals f (i+1)=vals f i+(1 - need (f.getD i default).op):=rfl
    generalize f.getD i default=x at hat hvs ⊢
    intro r hr
    have hle:=Heap.le_set (b:=[I x.op,I x.n]) hr
    refine Pu.use (need_impl.operandsOfSaid_spec x.op) ?_
    (try simp (maxSteps:=1000000) (disch:=first | assumption | (apply ν6;assumption)) only [vz,vu,vv,eqS,eF_,↓c1_,↓c2_,tabs,reduceCtorEq,ι5,↓reduceIte,ν1,ν2,ν3,ν4,ν5,ι1,ι2,ι3,ι4])
    refine Pu.use (isSaid_spec x) ?_
    cases hok:sdOk x
    · (try simp (maxSteps:=1000000) (disch:=first | assumption | (apply ν6;assumption)) only [vz,vu,vv,eqS,eF_,↓c1_,↓c2_,tabs,reduceCtorEq,ι5,↓reduceIte,ν1,ν2,ν3,ν4,ν5,ι1,ι2,ι3,ι4])
      exact ⟨by rw [goodF_false hlt (by rw [hat,hok];rfl)],hle⟩
    · have hnd:=sdOk_need hok
      (try simp (maxSteps:=1000000) (disch:=first | assumption | (apply ν6;assumption)) only [vz,vu,vv,eqS,eF_,↓c1_,↓c2_,tabs,reduceCtorEq,ι5,↓reduceIte,ν1,ν2,ν3,ν4,ν5,ι1,ι2,ι3,ι4])
      refine ⟨fun h4=>⟨by rw [goodF_false hlt (by rw [hat,hok,Bool.true_and,decide_eq_false (by omega)])],hle⟩,fun h4=>⟨i+1,⟨by omega,fun j hj=>?_⟩,by omega,?_,?_,hle⟩⟩
      · rcases Nat.lt_succ_iff_lt_or_eq.1 hj with h | rfl
        · exact ha j h
        · rw [hat,hok,Bool.true_and,decide_eq_true (by omega)]
      · rw [wk_int,i64_id (n:=1 - need x.op) (by omega) (by omega),i64_id (by omega) (by omega),hvs]
      · rw [wk_int,i64_id (by omega) (by omega)];simp
  · have:i=f.length:=by omega
    subst this
    refine congrArg (fun b:Bool=>B b) ?_
    have hall:(List.range f.length).all (sdAt f)=true:=List.all_eq_true.2 fun j hj=>ha j (List.mem_range.1 hj)
    rw [goodF,hall,decide_eq_true (show 1≤f.length by omega),decide_eq_true (show f.length≤16 by omega)];rfl
theorem GoodSaid_spec (f:List Sd) (hl:f.length≤1048576):Pu Try.prog 38 [Ds f] (B (goodF f)):=by
  refine Pu.of fun H=>?_
  refine W38_ok ?_;simp (maxSteps:=1000000) (disch:=first | assumption | (apply ν6;assumption)) only [W38,vz,vu,vv,eqS,eF_,↓c1_,↓c2_,tabs,reduceCtorEq,ι5,↓reduceIte,ν1,ν2,ν3,ν4,ν5,ι1,ι2,ι3,ι4]
  refine Pu.use (l1In_spec f.length 1 16) ?_
  cases hin:(decide ((1:Int)≤f.length) && decide ((f.length:Int)≤16))
  · (try simp (maxSteps:=1000000) (disch:=first | assumption | (apply ν6;assumption)) only [vz,vu,vv,eqS,eF_,↓c1_,↓c2_,tabs,reduceCtorEq,ι5,↓reduceIte,ν1,ν2,ν3,ν4,ν5,ι1,ι2,ι3,ι4])
    rw [Bool.and_eq_false_iff,decide_eq_false_iff_not,decide_eq_false_iff_not] at hin
    rcases hin with h | h
    · rw [goodF,decide_eq_false (by omega)];rfl
    · rw [goodF,decide_eq_false (show ¬f.length≤16 by omega),Bool.and_false];rfl
  rw [Bool.and_eq_true,decide_eq_true_eq,decide_eq_true_eq] at hin
  (try simp (maxSteps:=1000000) (disch:=first | assumption | (apply ν6;assumption)) only [vz,vu,vv,eqS,eF_,↓c1_,↓c2_,tabs,reduceCtorEq,ι5,↓reduceIte,ν1,ν2,ν3,ν4,ν5,ι1,ι2,ι3,ι4])
  refine L38_0_rule (0:Nat) (fun i=>I (vals f i)) (fun i=>I i) (fun _=>H) (fun i=>i≤f.length∧∀j,j < i→sdAt f j=true) (fun i=>f.length - i) ⟨⟨by omega,by intros;omega⟩,.refl _,.refl _,Heap.le_refl _⟩ ?_
  rintro i ⟨hi,ha⟩
  have hv:=vals_bd i ha
  (try simp (maxSteps:=1000000) (disch:=first | assumption | (apply ν6;assumption)) only [vz,vu,vv,eqS,eF_,↓c1_,↓c2_,tabs,reduceCtorEq,ι5,↓reduceIte,ν1,ν2,ν3,ν4,ν5,ι1,ι2,ι3,ι4,B38_0])
  refine ⟨fun h3=>⟨by omega,h3,?_⟩,fun h3=>?_⟩
  · have hlt:i < f.length:=by omega
    have hat:sdAt f i=(sdOk (f.getD i default) && decide (need (f.getD i default).op≤vals f i)):=rfl
    have hvs:vals f (i+1)=vals f i+(1 - need (f.getD i default).op):=rfl
    generalize f.getD i default=x at hat hvs ⊢
    intro r hr
    have hle:=Heap.le_set (b:=[I x.op,I x.n]) hr
    refine Pu.use (need_spec.l10Need_spec x.op) ?_
    (try simp (maxSteps:=1000000) (disch:=first | assumption | (apply ν6;assumption)) only [vz,vu,vv,eqS,eF_,↓c1_,↓c2_,tabs,reduceCtorEq,ι5,↓reduceIte,ν1,ν2,ν3,ν4,ν5,ι1,ι2,ι3,ι4])
    refine ⟨fun h0=>⟨?_,hle⟩,fun h0=>?_⟩
    · have:sdOk x=false:=by
        cases hok:sdOk x
        · rfl
        · have:=sdOk_need hok;omega
      rw [goodF_false hlt (by rw [hat,this];rfl)]
    refine Pu.use (l10N_spec x (by omega)) ?_
    cases hok:sdOk x
    · (try simp (maxSteps:=1000000) (disch:=first | assumption | (apply ν6;assumption)) only [vz,vu,vv,eqS,eF_,↓c1_,↓c2_,tabs,reduceCtorEq,ι5,↓reduceIte,ν1,ν2,ν3,ν4,ν5,ι1,ι2,ι3,ι4])
      exact ⟨by rw [goodF_false hlt (by rw [hat,hok];rfl)],hle⟩
    · have hnd:=sdOk_need hok
      (try simp (maxSteps:=1000000) (disch:=first | assumption | (apply ν6;assumption)) only [vz,vu,vv,eqS,eF_,↓c1_,↓c2_,tabs,reduceCtorEq,ι5,↓reduceIte,ν1,ν2,ν3,ν4,ν5,ι1,ι2,ι3,ι4])
      refine ⟨fun h4=>⟨by rw [goodF_false hlt (by rw [hat,hok,Bool.true_and,decide_eq_false (by omega)])],hle⟩,fun h4=>⟨i+1,⟨by omega,fun j hj=>?_⟩,by omega,?_,?_,hle⟩⟩
      · rcases Nat.lt_succ_iff_lt_or_eq.1 hj with h | rfl
        · exact ha j h
        · rw [hat,hok,Bool.true_and,decide_eq_true (by omega)]
      · rw [wk_int,i64_id (n:=1 - need x.op) (by omega) (by omega),i64_id (by omega) (by omega),hvs]
      · rw [wk_int,i64_id (by omega) (by omega)];simp
  · have:i=f.length:=by omega
    subst this
    refine congrArg (fun b:Bool=>B b) ?_
    have hall:(List.range f.length).all (sdAt f)=true:=List.all_eq_true.2 fun j hj=>ha j (List.mem_range.1 hj)
    rw [goodF,hall,decide_eq_true (show 1≤f.length by omega),decide_eq_true (show f.length≤16 by omega)];rfl
end Go.Proofs.Ytjdhigcefkihiaa
namespace Go.Proofs.Ytjdhigcefkihiaa
open Go Go.Sep Go.Pt
attribute [local irreducible] CallT
def RowR (l:List Int) (r:AV) (G:Heap) (D:List Nat):Prop:=∃q,r=rowP q l∧G q=some (cP fI l)∧D=[q]
theorem RowR.res (l:List Int):ResT (RowR l):=by
  refine ⟨?_,?_,?_⟩
  · rintro r G G' D ⟨q,rfl,hq,rfl⟩ hf
    exact ⟨q,rfl,hf q (by simp) _ hq,rfl⟩
  · rintro r G D ⟨q,rfl,hq,rfl⟩
    refine ⟨.inr ⟨.inr ⟨.inl ⟨_,_,_,_,rfl⟩,fun _=>rfl⟩,fun _=>rfl⟩,fun y hy bs hb c hc=>?_⟩
    rw [List.mem_singleton.1 hy,hq] at hb
    cases hb
    obtain ⟨x,_,rfl⟩:=List.mem_map.1 hc
    exact .p (.int _ _)
  · rintro r G D n G0 h0 ⟨q,rfl,hq,rfl⟩
    refine ⟨q+n,rfl,?_,rfl⟩
    have hr:=LRow.sh (LPl.sh eI) h0 (LI_mk' hq)
    obtain ⟨q',cs,D',e1,e2,e3,e4⟩:=hr
    obtain ⟨rfl,-⟩:=LL.plain' e3
    have e:q'=q+n:=by
      have h1:shC n (rowP q l)=.sl (q+n) 1 0 l.length:=rfl
      rw [h1] at e1
      injection e1 with e1;exact e1.symm
    subst e
    have e5:cells (l.map eI)=cP fI l:=cells_P fI l
    rw [← e5];exact e2
end Go.Proofs.Ytjdhigcefkihiaa
namespace Go.Proofs.Ytjdhigcefkihiaa
open Go Go.Sep Go.Pt
attribute [local irreducible] CallT
def RowB (l:List Int) (ok:Bool) (r:AV) (G:Heap) (D:List Nat):Prop:=∃q,r=.tup [rowP q l,B ok]∧G q=some (cP fI l)∧D=[q]
theorem RowB.res (l:List Int) (ok:Bool):ResT (RowB l ok):=by
  refine ⟨?_,?_,?_⟩
  · rintro r G G' D ⟨q,rfl,hq,rfl⟩ hf
    exact ⟨q,rfl,hf q (by simp) _ hq,rfl⟩
  · rintro r G D ⟨q,rfl,hq,rfl⟩
    refine ⟨.inl ⟨_,rfl,fun u hu=>?_⟩,fun y hy bs hb c hc=>?_⟩
    · rcases List.mem_cons.1 hu with rfl | hu
      · exact .inr ⟨.inl ⟨_,_,_,_,rfl⟩,fun _=>rfl⟩
      · rw [List.mem_singleton] at hu;rw [hu];exact .inr ⟨.p (.bool ok),fun _=>rfl⟩
    · rw [List.mem_singleton.1 hy,hq] at hb
      cases hb
      obtain ⟨x,_,rfl⟩:=List.mem_map.1 hc
      exact .p (.int _ _)
  · rintro r G D n G0 h0 ⟨q,rfl,hq,rfl⟩
    obtain ⟨q',e,h1,_⟩:=(RowR.res l).sh h0 ⟨q,rfl,hq,rfl⟩
    have e2:q'=q+n:=by
      have h1:sh2 n (rowP q l)=.sl (q+n) 1 0 l.length:=rfl
      rw [h1] at e
      injection e with e;exact e.symm
    subst e2
    exact ⟨q+n,rfl,h1,rfl⟩
end Go.Proofs.Ytjdhigcefkihiaa
namespace Go.Proofs.Ytjdhigcefkihiaa
open Go Go.Sep Go.Pt
attribute [local irreducible] CallT
end Go.Proofs.Ytjdhigcefkihiaa
namespace Go.Proofs.Ytjdhigcefkihiaa
open Go Go.Sep Go.Pt
attribute [local irreducible] CallT
def bitF (g:Int) (i:Nat):Bool:=decide (bitsI .and .i64 (Int.fdiv g (2^(min i 64))) 1=1)
abbrev rnB (x:AV) (l:List Bool) (D:List Nat):Th:=rnT (LPl.local eBo) (LPl.has eBo) 1 x l D
theorem rnB_cases {x:AV} {l:List Bool} {G:Heap} {D:List Nat} (h:RN (LPl eBo) 1 x l G D):(x=.p .nil∧l=[]∧D=[])∨∃q,x=rowP q l∧G q=some (cP fB l)∧D=[q]:=by
  rcases h with h | ⟨q,cs,D',rfl,hq,hll,rfl⟩
  · exact .inl h
  · obtain ⟨rfl,rfl⟩:=LL.plain' hll
    refine .inr ⟨q,rfl,?_,rfl⟩
    have e:cells (l.map eBo)=cP fB l:=cells_P fB l
    rw [← e];exact hq
theorem rn_appB {H G:Heap} {Ts:List Th} {x:AV} {xs ys:List Bool} {D:List Nat} (s:St H Ts G) (i:Nat) (hi:Ts[i]?=some (rnB x xs D)) (hl:xs.length+ys.length≤1000000) {K:AV→Heap→Prop}
    (h:∀q' G',G q'=none→St H (Ts.set i (rnB (rowP q' (xs++ys)) (xs++ys) [q'])) G'→K (rowP q' (xs++ys)) G'):appendV tab 76 76 x (.p (.sl (ys.map eBo))) G (wkK K):=
  RN.app (bz:=1) tab_76 rfl tab_4 tab_76 rfl rfl rfl (fun _=>rfl) s i hi rfl (by omega) (by omega) h
theorem lit0B {G:Heap} {K:AV→Heap→Prop} (h:∀q,G q=none→K (.sl q 1 0 0) (G.set q [])):buildSliceV tab 76 0 [] G (wkK K):=by
  simp only [buildSliceV,tab_76,tab_4]
  refine ⟨by omega,?_⟩
  simp only [fillV,zerosA,List.replicate_zero,List.flatten_nil]
  exact fun r hr=>wkK.keep (h r hr)
structure Rd (f:List Sd) (out:List Bool) (i:Nat):Prop where
  i1:1≤i
  il:i - 1 < out.length
end Go.Proofs.Ytjdhigcefkihiaa
namespace Go.Proofs.Ytjdhigcefkihiaa
open Go Go.Sep Go.Pt
attribute [local irreducible] CallT
def lasL (s l:List Int):Las:=⟨bitF,letW s l,nxW s l,s.length+l.length⟩
abbrev vB (l:List Bool):PV:=.sl (l.map eBo)
theorem clo_1 {r5:Nat} {ops:List (List Bool)} {k:Nat} {G:Heap} (hG:G r5=some [.p (.sl (ops.map fun r=>[vB r]))]) (h0:0 < ops.length) (hk:k < (ops.getD 0 []).length) {K:AV→Heap→Prop} (h:K (B ((ops.getD 0 []).getD k default)) G):CallT Try.prog 128 [I k,.ptr r5 0] G K:=by
  have hk':k < (ops.getD 0 default).length:=hk
  refine W128_ok ?_;simp (maxSteps:=1000000) (disch:=first | assumption | (apply ν6;assumption)) only [W128,vz,vu,vv,eqS,eF_,↓c1_,↓c2_,tabs,reduceCtorEq,ι5,↓reduceIte,ν1,ν2,ν3,ν4,ν5,ι1,ι2,ι3,ι4,load_at hG]
  exact ⟨by omega,by omega,by omega,by omega,h⟩
theorem clo_2 {r5:Nat} {ops:List (List Bool)} {k:Nat} {G:Heap} (hG:G r5=some [.p (.sl (ops.map fun r=>[vB r]))]) (h0:1 < ops.length) (hk:k < (ops.getD 1 []).length) {K:AV→Heap→Prop} (h:K (B ((ops.getD 1 []).getD k default)) G):CallT Try.prog 129 [I k,.ptr r5 0] G K:=by
  have hk':k < (ops.getD 1 default).length:=hk
  refine W129_ok ?_;simp (maxSteps:=1000000) (disch:=first | assumption | (apply ν6;assumption)) only [W129,vz,vu,vv,eqS,eF_,↓c1_,↓c2_,tabs,reduceCtorEq,ι5,↓reduceIte,ν1,ν2,ν3,ν4,ν5,ι1,ι2,ι3,ι4,load_at hG]
  exact ⟨by omega,by omega,by omega,by omega,h⟩
theorem clo_3 {r5 r7 r8:Nat} {ops:List (List Bool)} {k:Nat} {nb:Bool} {G:Heap} (hG:G r5=some [.p (.sl (ops.map fun r=>[vB r]))]) (h7:G r7=some [.fn 128 [.ptr r5 0]]) (h8:G r8=some [.fn 129 [.ptr r5 0]])
    (h0:1 < ops.length) (hk0:k < (ops.getD 0 []).length) (hk:k < (ops.getD 1 []).length) {K:AV→Heap→Prop} (h:K (B ((ops.getD 1 []).getD k default || ((ops.getD 0 []).getD k default && nb))) G):CallT Try.prog 131 [I k,B nb,.ptr r8 0,.ptr r7 0] G K:=by
  refine W131_ok ?_;simp (maxSteps:=1000000) (disch:=first | assumption | (apply ν6;assumption)) only [W131,vz,vu,vv,eqS,eF_,↓c1_,↓c2_,tabs,reduceCtorEq,ι5,↓reduceIte,ν1,ν2,ν3,ν4,ν5,ι1,ι2,ι3,ι4,load_at h7,load_at h8]
  refine clo_2 hG h0 hk ?_
  generalize (ops.getD 1 []).getD k default=u at h ⊢
  cases u
  · (try simp (maxSteps:=1000000) (disch:=first | assumption | (apply ν6;assumption)) only [vz,vu,vv,eqS,eF_,↓c1_,↓c2_,tabs,reduceCtorEq,ι5,↓reduceIte,ν1,ν2,ν3,ν4,ν5,ι1,ι2,ι3,ι4,load_at h7])
    refine clo_1 hG (by omega) hk0 ?_
    generalize (ops.getD 0 []).getD k default=u at h ⊢
    cases u
    · (try simp (maxSteps:=1000000) (disch:=first | assumption | (apply ν6;assumption)) only [vz,vu,vv,eqS,eF_,↓c1_,↓c2_,tabs,reduceCtorEq,ι5,↓reduceIte,ν1,ν2,ν3,ν4,ν5,ι1,ι2,ι3,ι4])
      exact h
    · (try simp (maxSteps:=1000000) (disch:=first | assumption | (apply ν6;assumption)) only [vz,vu,vv,eqS,eF_,↓c1_,↓c2_,tabs,reduceCtorEq,ι5,↓reduceIte,ν1,ν2,ν3,ν4,ν5,ι1,ι2,ι3,ι4])
      exact h
  · (try simp (maxSteps:=1000000) (disch:=first | assumption | (apply ν6;assumption)) only [vz,vu,vv,eqS,eF_,↓c1_,↓c2_,tabs,reduceCtorEq,ι5,↓reduceIte,ν1,ν2,ν3,ν4,ν5,ι1,ι2,ι3,ι4])
    exact h
theorem clo_4 {r5 r7 r8:Nat} {ops:List (List Bool)} {k:Nat} {nb:Bool} {G:Heap} (hG:G r5=some [.p (.sl (ops.map fun r=>[vB r]))]) (h7:G r7=some [.fn 128 [.ptr r5 0]]) (h8:G r8=some [.fn 129 [.ptr r5 0]])
    (h0:1 < ops.length) (hk0:k < (ops.getD 0 []).length) (hk:k < (ops.getD 1 []).length) {K:AV→Heap→Prop} (h:K (B ((ops.getD 1 []).getD k default && ((ops.getD 0 []).getD k default || nb))) G):CallT Try.prog 132 [I k,B nb,.ptr r8 0,.ptr r7 0] G K:=by
  refine W132_ok ?_;simp (maxSteps:=1000000) (disch:=first | assumption | (apply ν6;assumption)) only [W132,vz,vu,vv,eqS,eF_,↓c1_,↓c2_,tabs,reduceCtorEq,ι5,↓reduceIte,ν1,ν2,ν3,ν4,ν5,ι1,ι2,ι3,ι4,load_at h7,load_at h8]
  refine clo_2 hG h0 hk ?_
  generalize (ops.getD 1 []).getD k default=u at h ⊢
  cases u
  · (try simp (maxSteps:=1000000) (disch:=first | assumption | (apply ν6;assumption)) only [vz,vu,vv,eqS,eF_,↓c1_,↓c2_,tabs,reduceCtorEq,ι5,↓reduceIte,ν1,ν2,ν3,ν4,ν5,ι1,ι2,ι3,ι4])
    exact h
  · (try simp (maxSteps:=1000000) (disch:=first | assumption | (apply ν6;assumption)) only [vz,vu,vv,eqS,eF_,↓c1_,↓c2_,tabs,reduceCtorEq,ι5,↓reduceIte,ν1,ν2,ν3,ν4,ν5,ι1,ι2,ι3,ι4,load_at h7])
    refine clo_1 hG (by omega) hk0 ?_
    generalize (ops.getD 0 []).getD k default=u at h ⊢
    cases u
    · (try simp (maxSteps:=1000000) (disch:=first | assumption | (apply ν6;assumption)) only [vz,vu,vv,eqS,eF_,↓c1_,↓c2_,tabs,reduceCtorEq,ι5,↓reduceIte,ν1,ν2,ν3,ν4,ν5,ι1,ι2,ι3,ι4])
      exact h
    · (try simp (maxSteps:=1000000) (disch:=first | assumption | (apply ν6;assumption)) only [vz,vu,vv,eqS,eF_,↓c1_,↓c2_,tabs,reduceCtorEq,ι5,↓reduceIte,ν1,ν2,ν3,ν4,ν5,ι1,ι2,ι3,ι4])
      exact h
theorem litB {b:Bool} {G:Heap} {K:AV→Heap→Prop} (h:K (.p (.sl ([b].map eBo))) G):buildSliceV tab 76 1 [(0,B b)] G (wkK K):=lit1 tab_76 rfl tab_4 ⟨rfl,rfl⟩ h
theorem rnB_val {H G:Heap} {Ts:List Th} {x:AV} {l:List Bool} {D:List Nat} (s:St H Ts G) (i:Nat) (hi:Ts[i]?=some (rnB x l D)):wkK (fun r H'=>r=.p (vB l)∧H'=H) x G:=by
  rcases rnB_cases (s.get i hi) with ⟨rfl,rfl,rfl⟩ | ⟨q,rfl,hq,rfl⟩
  · exact ⟨_,_,.trans (.val .nil) (.forget s.le),rfl,rfl⟩
  · have:=fin_own (sz:=1) (es:=l.map eBo) (q:=q) (H:=H) (H':=G) (K:=fun r H'=>r=.p (vB l)∧H'=H) (by omega) (sizedMap (f:=eBo) (fun _=>rfl) l) (s.fr _ (List.mem_of_getElem? hi) q (by simp [rnT])) (fun y b hy=>by
      by_cases e:y=q
      · subst e;rw [Heap.set_same] at hy;rw [← hy,hq];exact congrArg some (cells_P fB l).symm
      · rw [Heap.set_other e] at hy;exact s.le y b hy) ⟨rfl,rfl⟩
    simpa only [Go.Sep.own,List.length_map] using this
theorem holdsAlong_spec (s l:List Int) (h1:s.length≤24) (h2:1≤l.length∧l.length≤24) (x:Sd) (hx:sdOk x=true) (ops:List (List Bool)) (ho:(ops.length:Int)=need x.op) (hops:∀r∈ops,r.length=s.length+l.length) (A Bz:List Bool)
    (e1:need x.op=1→ops=[Bz]) (e2:need x.op=2→ops=[A,Bz]) {H:Heap} {K:AV→Heap→Prop} (h:K (.p (vB (rowV (lasL s l) x A Bz))) H):CallT Try.prog 107 [aL2 s l,aD x,.p (.sl (ops.map fun r=>[vB r]))] H K:=by
  refine CallT.fin ?_
  refine W107_ok ?_;simp (maxSteps:=1000000) (disch:=first | assumption | (apply ν6;assumption)) only [W107,vz,vu,vv,eqS,eF_,↓c1_,↓c2_,tabs,reduceCtorEq,ι5,↓reduceIte,ν1,ν2,ν3,ν4,ν5,ι1,ι2,ι3,ι4]
  intro r3 hr3 r4 n4 hr4 r5 n5 n53 hr5
  intro r7 n75 n74 n73 hr7 r8 n87 n85 n84 n83 hr8
  have st:=(((((St.nil H).cell hr3 [Is s,Is l]).cell (r:=r4) (by rw [Heap.set_other n4];exact hr4) [I x.op,I x.n]).cell (r:=r5) (by rw [Heap.set_other n5,Heap.set_other n53];exact hr5) [.p (.sl (ops.map fun r=>[vB r]))]).cell (r:=r7) (by rw [Heap.set_other n75,Heap.set_other n74,Heap.set_other n73];exact hr7) [.nilfn]).cell (r:=r8) (by rw [Heap.set_other n87,Heap.set_other n85,Heap.set_other n84,Heap.set_other n83];exact hr8) [.nilfn]
  generalize ((((H.set r3 [Is s,Is l]).set r4 [I x.op,I x.n]).set r5 [.p (.sl (ops.map fun r=>[vB r]))]).set r7 [.nilfn]).set r8 [.nilfn]=G at st ⊢
  clear hr3 n4 hr4 n5 n53 hr5 n75 n74 n73 hr7 n87 n85 n84 n83 hr8
  rw [store_at (st.get 1 rfl)]
  replace st:=st.put 1 rfl [.fn 128 [.ptr r5 0]]
  (try simp (maxSteps:=1000000) (disch:=first | assumption | (apply ν6;assumption)) only [vz,vu,vv,eqS,eF_,↓c1_,↓c2_,tabs,reduceCtorEq,ι5,↓reduceIte,ν1,ν2,ν3,ν4,ν5,ι1,ι2,ι3,ι4])
  generalize G.set r7 [.fn 128 [.ptr r5 0]]=G1 at st ⊢
  simp only [List.set_cons_succ,List.set_cons_zero] at st
  rw [store_at (st.get 0 rfl)]
  replace st:=st.put 0 rfl [.fn 129 [.ptr r5 0]]
  (try simp (maxSteps:=1000000) (disch:=first | assumption | (apply ν6;assumption)) only [vz,vu,vv,eqS,eF_,↓c1_,↓c2_,tabs,reduceCtorEq,ι5,↓reduceIte,ν1,ν2,ν3,ν4,ν5,ι1,ι2,ι3,ι4])
  generalize G1.set r8 [.fn 129 [.ptr r5 0]]=G2 at st ⊢
  simp only [List.set_cons_succ,List.set_cons_zero] at st
  (try simp (maxSteps:=1000000) (disch:=first | assumption | (apply ν6;assumption)) only [vz,vu,vv,eqS,eF_,↓c1_,↓c2_,tabs,reduceCtorEq,ι5,↓reduceIte,ν1,ν2,ν3,ν4,ν5,ι1,ι2,ι3,ι4,load_at (st.get 4 rfl),load_at (st.get 3 rfl)])
  have key:∀(g:Nat→Bool→Bool),(∀k,k < s.length+l.length→∀b,cellV bitF (letW s l) (nxW s l) x A Bz k b=g k b)→rowV (lasL s l) x A Bz=fixR (nxW s l) (s.length+l.length) (decide (x.op=8)) g:=fun g hg=>fixR_congr hg
  have eN:IntKind.i64.wrap ((s.length:Int)+(l.length:Int))=((s.length+l.length:Nat):Int):=by rw [i64_id (by omega) (by omega)];simp
  refine ⟨fun c7=>?_,fun c7=>⟨fun c8=>?_,fun c8=>?_⟩⟩
  · have hn:need x.op=2:=by rw [c7];rfl
    have he:=e2 hn
    refine fixed_spec s l h1 h2 false _ _ (fun k nb=>Bz.getD k default || (A.getD k default && nb)) (fun {k nb G K} hk hle hK=>?_) ⟨_,_,.forget st.le,?_⟩
    · simp only [callF,List.cons_append,List.nil_append]
      have hA:=hops A (by rw [he];simp)
      have hB:=hops Bz (by rw [he];simp)
      refine clo_3 (ops:=ops) (hle _ _ (st.get 2 rfl)) (hle _ _ (st.get 1 rfl)) (hle _ _ (st.get 0 rfl)) (by rw [he];simp) (by rw [he];exact hA ▸ hk) (by rw [he];exact hB ▸ hk) ?_
      rw [he];exact hK
    · have:=key (fun k nb=>Bz.getD k default || (A.getD k default && nb)) fun k hk b=>by simp [cellV,c7]
      rw [this,c7] at h;exact h
  · have hn:need x.op=2:=by rw [c8];rfl
    have he:=e2 hn
    refine fixed_spec s l h1 h2 true _ _ (fun k nb=>Bz.getD k default && (A.getD k default || nb)) (fun {k nb G K} hk hle hK=>?_) ⟨_,_,.forget st.le,?_⟩
    · simp only [callF,List.cons_append,List.nil_append]
      have hA:=hops A (by rw [he];simp)
      have hB:=hops Bz (by rw [he];simp)
      refine clo_4 (ops:=ops) (hle _ _ (st.get 2 rfl)) (hle _ _ (st.get 1 rfl)) (hle _ _ (st.get 0 rfl)) (by rw [he];simp) (by rw [he];exact hA ▸ hk) (by rw [he];exact hB ▸ hk) ?_
      rw [he];exact hK
    · have:=key (fun k nb=>Bz.getD k default && (A.getD k default || nb)) fun k hk b=>by simp [cellV,c8]
      rw [this,c8] at h;exact h
  · refine lit0B fun q0 hq0=>?_
    replace st:=st.push (rnB (.sl q0 1 0 0) [] [q0]) (New.cell hq0) (.inr ⟨q0,[],[],rfl,Heap.set_same _ _ _,⟨rfl,rfl⟩,rfl⟩)
    generalize G2.set q0 []=G3 at st ⊢
    (try simp (maxSteps:=1000000) (disch:=first | assumption | (apply ν6;assumption)) only [vz,vu,vv,eqS,eF_,↓c1_,↓c2_,tabs,reduceCtorEq,ι5,↓reduceIte,ν1,ν2,ν3,ν4,ν5,ι1,ι2,ι3,ι4,load_at (st.get 5 rfl),eN])
    have hop:x.op=1∨x.op=2∨x.op=3∨x.op=4∨x.op=5∨x.op=6:=by
      have:=sdOk_need hx
      rcases need_cases x.op with h | h | h | h<;>omega
    have hcl:∀k b,cellV bitF (letW s l) (nxW s l) x A Bz k b=cellV bitF (letW s l) (nxW s l) x A Bz k false:=fun k b=>by rcases hop with e | e | e | e | e | e<;>simp [cellV,e]
    have hrow:rowV (lasL s l) x A Bz=(List.range (s.length+l.length)).map fun k=>cellV bitF (letW s l) (nxW s l) x A Bz k false:=(key _ fun k _ b=>hcl k b).trans (fixR_const ..)
    rw [hrow] at h
    clear key hrow hcl hq0
    refine L107_0_rule ((0:Nat),(.sl q0 1 0 0:AV),[q0],G3) (fun s=>s.2.1) (fun s=>I s.1) (fun s=>s.2.2.2)
      (fun t=>t.1≤s.length+l.length∧St H [rnB t.2.1 ((List.range t.1).map fun k=>cellV bitF (letW s l) (nxW s l) x A Bz k false) t.2.2.1,cellT r8 [.fn 129 [.ptr r5 0]],cellT r7 [.fn 128 [.ptr r5 0]],cellT r5 [.p (.sl (ops.map fun r=>[vB r]))],cellT r4 [I x.op,I x.n],cellT r3 [Is s,Is l]] t.2.2.2) (fun t=>s.length+l.length - t.1)
      ⟨⟨by simp,st⟩,.refl _,.refl _,Heap.le_refl _⟩ ?_
    clear st
    rintro ⟨i,x1,D,G⟩ ⟨hi,st⟩
    dsimp only at hi st
    have e5:IntKind.i64.wrap ((i:Int)+1)=((i+1:Nat):Int):=by rw [i64_id (by omega) (by omega)];simp
    (try simp (maxSteps:=1000000) (disch:=first | assumption | (apply ν6;assumption)) only [vz,vu,vv,eqS,eF_,↓c1_,↓c2_,tabs,reduceCtorEq,ι5,↓reduceIte,ν1,ν2,ν3,ν4,ν5,ι1,ι2,ι3,ι4,B107_0,load_at (st.get 1 rfl),load_at (st.get 2 rfl),load_at (st.get 4 rfl),load_at (st.get 5 rfl),e5])
    refine ⟨fun h3=>?_,fun h3=>?_⟩
    · have hlt:i < s.length+l.length:=by omega
      have dir:∀bv:Bool,bv=cellV bitF (letW s l) (nxW s l) x A Bz i false→∀N2:AV→Heap→Prop,(∀q' G',St H [rnB (.sl q' 1 0 (i+1)) ((List.range (i+1)).map fun k=>cellV bitF (letW s l) (nxW s l) x A Bz k false) [q'],cellT r8 [.fn 129 [.ptr r5 0]],cellT r7 [.fn 128 [.ptr r5 0]],cellT r5 [.p (.sl (ops.map fun r=>[vB r]))],cellT r4 [I x.op,I x.n],cellT r3 [Is s,Is l]] G'→N2 (.sl q' 1 0 (i+1)) G')→
          buildSliceV tab 76 1 [(0,B bv)] G (wkK fun v87 H12=>appendV tab 76 76 x1 v87 H12 (wkK N2)):=by
        intro bv hbv N2 hN
        refine litB ?_
        refine rn_appB (ys:=[bv]) st 0 rfl (by simp only [List.length_map,List.length_range,List.length_singleton];omega) fun q' G' hq' st=>?_
        have:=hN q' G'
        rw [List.range_succ,List.map_append,List.map_singleton,← hbv] at this
        have e:rowP q' (((List.range i).map fun k=>cellV bitF (letW s l) (nxW s l) x A Bz k false)++[bv])=.sl q' 1 0 (i+1):=by simp [rowP]
        rw [e] at st ⊢
        exact this st
      have fin:∀bv:Bool,bv=cellV bitF (letW s l) (nxW s l) x A Bz i false→∀N1:AV→AV→Heap→Prop,(∀q' G',St H [rnB (.sl q' 1 0 (i+1)) ((List.range (i+1)).map fun k=>cellV bitF (letW s l) (nxW s l) x A Bz k false) [q'],cellT r8 [.fn 129 [.ptr r5 0]],cellT r7 [.fn 128 [.ptr r5 0]],cellT r5 [.p (.sl (ops.map fun r=>[vB r]))],cellT r4 [I x.op,I x.n],cellT r3 [Is s,Is l]] G'→N1 (.sl q' 1 0 (i+1)) (I (i+1:Nat)) G')→
          J107_1 (wkK K) N1 (.ptr r3 0) (.ptr r4 0) (.ptr r7 0) (.ptr r8 0) x1 (B bv) (I (s.length+l.length:Nat)) (I i) G:=by
        intro bv hbv N1 hN
        (try simp (maxSteps:=1000000) (disch:=first | assumption | (apply ν6;assumption)) only [vz,vu,vv,eqS,eF_,↓c1_,↓c2_,tabs,reduceCtorEq,ι5,↓reduceIte,ν1,ν2,ν3,ν4,ν5,ι1,ι2,ι3,ι4,J107_1,e5])
        exact dir bv hbv _ hN
      refine ⟨fun c=>?_,fun c1=>?_⟩
      · refine Pu.use (letterAt_spec s l h1 h2 hlt) ?_
        (try simp (maxSteps:=1000000) (disch:=first | assumption | (apply ν6;assumption)) only [vz,vu,vv,eqS,eF_,↓c1_,↓c2_,tabs,reduceCtorEq,ι5,↓reduceIte,ν1,ν2,ν3,ν4,ν5,ι1,ι2,ι3,ι4,load_at (st.get 4 rfl)])
        have hn0:0≤x.n:=by
          have hx2:=hx
          rw [sdOk,if_pos c,Bool.and_eq_true,decide_eq_true_eq] at hx2;exact hx2.1
        refine ⟨hn0,fin _ (by rw [cellV,if_pos c];rfl) _ (fun q' G' st=>⟨(i+1,_,[q'],G'),⟨by simp only;omega,st⟩,by simp only;omega,.refl _,.refl _,Heap.le_refl _⟩)⟩
      refine ⟨fun c=>?_,fun c3=>⟨fun c=>?_,fun c4=>⟨fun c=>?_,fun c5=>⟨fun c=>?_,fun c6=>?_⟩⟩⟩⟩
      · have he:=e1 (by rw [c];rfl)
        subst he
        have hB:Bz.length=s.length+l.length:=hops Bz (by simp)
        refine clo_1 (ops:=[Bz]) (st.get 3 rfl) (by simp) (by simpa [hB] using hlt) ?_
        (try simp (maxSteps:=1000000) (disch:=first | assumption | (apply ν6;assumption)) only [vz,vu,vv,eqS,eF_,↓c1_,↓c2_,tabs,reduceCtorEq,ι5,↓reduceIte,ν1,ν2,ν3,ν4,ν5,ι1,ι2,ι3,ι4])
        exact fin _ (by simp [cellV,c]) _ (fun q' G' st=>⟨(i+1,_,[q'],G'),⟨by simp only;omega,st⟩,by simp only;omega,.refl _,.refl _,Heap.le_refl _⟩)
      · have he:=e1 (by rw [c];rfl)
        subst he
        have hB:Bz.length=s.length+l.length:=hops Bz (by simp)
        refine Pu.use (nextPlace_spec s l h1 h2 hlt) ?_
        (try simp (maxSteps:=1000000) (disch:=first | assumption | (apply ν6;assumption)) only [vz,vu,vv,eqS,eF_,↓c1_,↓c2_,tabs,reduceCtorEq,ι5,↓reduceIte,ν1,ν2,ν3,ν4,ν5,ι1,ι2,ι3,ι4,load_at (st.get 2 rfl)])
        refine clo_1 (ops:=[Bz]) (st.get 3 rfl) (by simp) (by have:=nxW_lt (s:=s) (l:=l) (k:=i) h2.1;simpa [hB] using this) ?_
        exact fin _ (by simp [cellV,c]) _ (fun q' G' st=>⟨(i+1,_,[q'],G'),⟨by simp only;omega,st⟩,by simp only;omega,.refl _,.refl _,Heap.le_refl _⟩)
      · have he:=e2 (by rw [c];rfl)
        subst he
        have hA:A.length=s.length+l.length:=hops A (by simp)
        have hB:Bz.length=s.length+l.length:=hops Bz (by simp)
        have hcv:cellV bitF (letW s l) (nxW s l) x A Bz i false=(A.getD i default && Bz.getD i default):=by simp [cellV,c]
        refine clo_1 (ops:=[A,Bz]) (st.get 3 rfl) (by simp) (by simpa [hA] using hlt) ?_
        simp only [List.getD_cons_zero]
        cases hu:A.getD i default
        · (try simp (maxSteps:=1000000) (disch:=first | assumption | (apply ν6;assumption)) only [vz,vu,vv,eqS,eF_,↓c1_,↓c2_,tabs,reduceCtorEq,ι5,↓reduceIte,ν1,ν2,ν3,ν4,ν5,ι1,ι2,ι3,ι4])
          exact dir false (by rw [hcv,hu];rfl) _ (fun q' G' st=>⟨(i+1,_,[q'],G'),⟨by simp only;omega,st⟩,by simp only;omega,.refl _,.refl _,Heap.le_refl _⟩)
        · (try simp (maxSteps:=1000000) (disch:=first | assumption | (apply ν6;assumption)) only [vz,vu,vv,eqS,eF_,↓c1_,↓c2_,tabs,reduceCtorEq,ι5,↓reduceIte,ν1,ν2,ν3,ν4,ν5,ι1,ι2,ι3,ι4,load_at (st.get 1 rfl)])
          refine clo_2 (ops:=[A,Bz]) (st.get 3 rfl) (by simp) (by simpa [hB] using hlt) ?_
          exact fin _ (by rw [hcv,hu];rfl) _ (fun q' G' st=>⟨(i+1,_,[q'],G'),⟨by simp only;omega,st⟩,by simp only;omega,.refl _,.refl _,Heap.le_refl _⟩)
      · have he:=e2 (by rw [c];rfl)
        subst he
        have hA:A.length=s.length+l.length:=hops A (by simp)
        have hB:Bz.length=s.length+l.length:=hops Bz (by simp)
        have hcv:cellV bitF (letW s l) (nxW s l) x A Bz i false=(A.getD i default || Bz.getD i default):=by simp [cellV,c]
        refine clo_1 (ops:=[A,Bz]) (st.get 3 rfl) (by simp) (by simpa [hA] using hlt) ?_
        simp only [List.getD_cons_zero]
        cases hu:A.getD i default
        · (try simp (maxSteps:=1000000) (disch:=first | assumption | (apply ν6;assumption)) only [vz,vu,vv,eqS,eF_,↓c1_,↓c2_,tabs,reduceCtorEq,ι5,↓reduceIte,ν1,ν2,ν3,ν4,ν5,ι1,ι2,ι3,ι4,load_at (st.get 1 rfl)])
          refine clo_2 (ops:=[A,Bz]) (st.get 3 rfl) (by simp) (by simpa [hB] using hlt) ?_
          exact fin _ (by rw [hcv,hu];rfl) _ (fun q' G' st=>⟨(i+1,_,[q'],G'),⟨by simp only;omega,st⟩,by simp only;omega,.refl _,.refl _,Heap.le_refl _⟩)
        · (try simp (maxSteps:=1000000) (disch:=first | assumption | (apply ν6;assumption)) only [vz,vu,vv,eqS,eF_,↓c1_,↓c2_,tabs,reduceCtorEq,ι5,↓reduceIte,ν1,ν2,ν3,ν4,ν5,ι1,ι2,ι3,ι4])
          exact dir true (by rw [hcv,hu];rfl) _ (fun q' G' st=>⟨(i+1,_,[q'],G'),⟨by simp only;omega,st⟩,by simp only;omega,.refl _,.refl _,Heap.le_refl _⟩)
      · have c2:x.op=2:=by omega
        exact fin _ (by simp [cellV,c2]) _ (fun q' G' st=>⟨(i+1,_,[q'],G'),⟨by simp only;omega,st⟩,by simp only;omega,.refl _,.refl _,Heap.le_refl _⟩)
    · have:i=s.length+l.length:=by omega
      subst this
      obtain ⟨v,H2,w,rfl,rfl⟩:=rnB_val st 0 rfl
      exact ⟨_,_,w,h⟩
theorem lit0BB {G:Heap} {K:AV→Heap→Prop} (h:∀q,G q=none→K (.sl q 1 0 0) (G.set q [])):buildSliceV tab 71 0 [] G (wkK K):=by
  simp only [buildSliceV,tab_71,tab_76]
  refine ⟨by omega,?_⟩
  simp only [fillV,zerosA,List.replicate_zero,List.flatten_nil]
  exact fun r hr=>wkK.keep (h r hr)
theorem CloneB_part {q off n:Nat} {rows:List (List Bool)} {G:Heap} (hq:G q=some (cP vB rows)) (hb:off+n≤rows.length) (hl:rows.length≤100000) {K:AV→Heap→Prop} (h:K (.p (.sl (((rows.drop off).take n).map fun r=>[vB r]))) G):CallT Try.prog 108 [.sl q 1 off n] G K:=by
  refine CallT.fin ?_
  refine W108_ok ?_;simp (maxSteps:=1000000) (disch:=first | assumption | (apply ν6;assumption)) only [W108,vz,vu,vv,eqS,eF_,↓c1_,↓c2_,tabs,reduceCtorEq,ι5,↓reduceIte,ν1,ν2,ν3,ν4,ν5,ι1,ι2,ι3,ι4]
  have main:buildSliceV tab 71 0 [] G (wkK fun v5 H1=>appendV tab 71 71 v5 (.sl q 1 off n) H1 (wkK fun v7 H2=>wkK K v7 H2)):=by
    refine lit0BB fun q1 hq1=>?_
    have hne:q≠q1:=fun e=>by rw [← e,hq] at hq1;cases hq1
    have hqq:(G.set q1 []) q=some (cP vB rows):=by rw [Heap.set_other hne];exact hq
    simp only [appendV,tab_71,tab_76,srcV,baseV,Heap.set_same,hqq]
    have hl2:(cP vB rows).length=rows.length:=by simp [cP]
    have ht:List.take (n*1) (List.drop off (cP vB rows))=cP vB ((rows.drop off).take n):=by rw [Nat.mul_one,cP,cP,← List.map_drop,← List.map_take]
    rw [hl2,ht]
    refine ⟨trivial,by omega,trivial,by simp,by omega,by omega,cP_cell vB _,fun r hr=>wkK.keep ?_⟩
    rw [Heap.set_none] at hr
    have hpl:((rows.drop off).take n).length=n:=by rw [List.length_take,List.length_drop];omega
    refine ⟨_,_,?_,h⟩
    have hw:=Wk.own_le (q:=r) (sz:=1) (es:=((rows.drop off).take n).map fun r=>[vB r]) (H:=G) (H':=((G.set q1 []).del q1).set r ([]++cP vB ((rows.drop off).take n))) (by omega) (szP vB _) hr.2 (fun y b hy=>by
      rw [cells_P,List.nil_append] at *
      by_cases e:y=r
      · subst e;rw [Heap.set_same] at hy ⊢;exact hy
      · rw [Heap.set_other e] at hy ⊢
        have e1:y≠q1:=fun e=>by rw [e,hq1] at hy;cases hy
        rw [Heap.del_other e1,Heap.set_other e1];exact hy)
    simpa only [Go.Sep.own,List.length_map,hpl,Nat.zero_add,Nat.zero_mul,List.take_zero,List.drop_zero,List.nil_append] using hw
  cases n with
  | zero=>
    simp only [binV,eqV,tab_71,isNilV,unkV,sliceLike]
    refine ⟨trivial,?_⟩
    (try simp (maxSteps:=1000000) (disch:=first | assumption | (apply ν6;assumption)) only [vz,vu,vv,eqS,eF_,↓c1_,↓c2_,tabs,reduceCtorEq,ι5,↓reduceIte,ν1,ν2,ν3,ν4,ν5,ι1,ι2,ι3,ι4])
    refine ⟨⟨_,_,.val (v':=.p (.sl [])) .nil,h⟩,main⟩
  | succ n=>
    simp only [binV,eqV,tab_71,isNilV]
    (try simp (maxSteps:=1000000) (disch:=first | assumption | (apply ν6;assumption)) only [vz,vu,vv,eqS,eF_,↓c1_,↓c2_,tabs,reduceCtorEq,ι5,↓reduceIte,ν1,ν2,ν3,ν4,ν5,ι1,ι2,ι3,ι4])
    exact main
theorem app_rowsX {q:Nat} {xs:List (List Bool)} {y:List Bool} {ex:List AV} {G:Heap} {K:AV→Heap→Prop} (hq:G q=some (cP vB xs++ex)) (hl:xs.length≤1000000)
    (h:∀q',G q'=none→q'≠q→K (.sl q' 1 0 (xs.length+1)) ((G.del q).set q' (cP vB (xs++[y])))):appendV tab 71 71 (.sl q 1 0 xs.length) (.p (.sl [[vB y]])) G (wkK K):=by
  have hlen:(cP vB xs).length=xs.length:=by simp [cP]
  simp only [appendV,tab_71,tab_76,srcV,baseV,hq]
  refine ⟨szP vB [y],trivial,by rw [List.length_append,hlen];omega,by simp only [List.length_singleton];omega,by simp only [List.length_singleton];omega,cP_cell vB [y],fun q' hq'=>wkK.keep ?_⟩
  have hne:q'≠q:=fun e=>by rw [e,hq] at hq';cases hq'
  have:=h q' hq' hne
  have e:List.take (xs.length*1) (List.drop 0 (cP vB xs++ex))=cP vB xs:=by rw [List.drop_zero,Nat.mul_one,← hlen,List.take_left]
  have e2:cP vB (xs++[y])=cP vB xs++cP vB [y]:=by simp [cP]
  rw [e2] at this
  rw [e]
  exact this
theorem runV_top {w:Las} {g:List Sd} (h:OkFm g) {i:Nat} (hi:i < g.length):∃(rr ops:List (List Bool)) (A Bz:List Bool),runV w g i=ops.reverse++rr∧runV w g (i+1)=rowV w (g.getD i default) A Bz::rr∧(ops.length:Int)=need (g.getD i default).op∧
    (need (g.getD i default).op=1→ops=[Bz])∧(need (g.getD i default).op=2→ops=[A,Bz]):=by
  have hok:=h.ok i hi
  have hnd:=sdOk_need hok.1
  have hlen:=runV_len (w:=w) h i (by omega)
  rcases (by omega:need (g.getD i default).op=0∨need (g.getD i default).op=1∨need (g.getD i default).op=2) with hn | hn | hn
  · exact ⟨runV w g i,[],[],[],rfl,by rw [runV,if_pos hn],by rw [hn];rfl,fun h=>by omega,fun h=>by omega⟩
  · cases hs:runV w g i with
    | nil=>rw [hs] at hlen;simp at hlen;omega
    | cons b rr=>exact ⟨rr,[b],[],b,by simp,by rw [runV,if_neg (by omega),if_pos hn,hs];rfl,by rw [hn];rfl,fun _=>rfl,fun h=>by omega⟩
  · cases hs:runV w g i with
    | nil=>rw [hs] at hlen;simp at hlen;omega
    | cons b r1=>
      cases r1 with
      | nil=>rw [hs] at hlen;simp at hlen;omega
      | cons a rr=>exact ⟨rr,[a,b],a,b,by simp,by rw [runV,if_neg (by omega),if_neg (by omega),hs];rfl,by rw [hn];rfl,fun h=>by omega,fun _=>rfl⟩
theorem vals_16 {g:List Sd} (h:OkFm g) (i:Nat) (hi:i≤g.length):0≤vals g i∧vals g i≤16:=by
  have h2:=vals_bd i fun j hj=>by
    have:=h.ok j (by omega)
    rw [sdAt,this.1,decide_eq_true this.2];rfl
  have:=h.l
  omega
theorem along_spec (s l:List Int) (h1:s.length≤24) (h2:1≤l.length∧l.length≤24) (g:List Sd) (hg:OkFm g) {H:Heap} {K:AV→Heap→Prop} (h:K (.p (vB ((runV (lasL s l) g g.length).headD []))) H):CallT Try.prog 63 [aL2 s l,Ds g] H K:=by
  refine CallT.fin ?_
  have hl:=hg.l
  refine W63_ok ?_;simp (maxSteps:=1000000) (disch:=first | assumption | (apply ν6;assumption)) only [W63,vz,vu,vv,eqS,eF_,↓c1_,↓c2_,tabs,reduceCtorEq,ι5,↓reduceIte,ν1,ν2,ν3,ν4,ν5,ι1,ι2,ι3,ι4]
  intro r2 hr2
  have st:=(St.nil H).cell hr2 [Is s,Is l]
  generalize H.set r2 [Is s,Is l]=G at st ⊢
  clear hr2
  refine lit0BB fun q0 hq0=>?_
  replace st:=st.cell hq0 (cP vB ([]:List (List Bool)))
  have e0:(cP vB ([]:List (List Bool)))=[]:=rfl
  rw [← e0]
  generalize G.set q0 (cP vB ([]:List (List Bool)))=G1 at st ⊢
  (try simp (maxSteps:=1000000) (disch:=first | assumption | (apply ν6;assumption)) only [vz,vu,vv,eqS,eF_,↓c1_,↓c2_,tabs,reduceCtorEq,ι5,↓reduceIte,ν1,ν2,ν3,ν4,ν5,ι1,ι2,ι3,ι4])
  refine L63_0_rule ((0:Nat),q0,G1) (fun t=>.sl t.2.1 1 0 (runV (lasL s l) g t.1).length) (fun t=>I t.1) (fun t=>t.2.2)
    (fun t=>t.1≤g.length∧St H [cellT t.2.1 (cP vB (runV (lasL s l) g t.1).reverse),cellT r2 [Is s,Is l]] t.2.2) (fun t=>g.length - t.1)
    ⟨⟨by simp,st⟩,.refl _,.refl _,Heap.le_refl _⟩ ?_
  clear st e0 hq0
  rintro ⟨i,q,G⟩ ⟨hi,st⟩
  dsimp only at hi st
  have hlen:=runV_len (w:=lasL s l) hg i hi
  have hv:=vals_16 hg i hi
  (try simp (maxSteps:=1000000) (disch:=first | assumption | (apply ν6;assumption)) only [vz,vu,vv,eqS,eF_,↓c1_,↓c2_,tabs,reduceCtorEq,ι5,↓reduceIte,ν1,ν2,ν3,ν4,ν5,ι1,ι2,ι3,ι4,B63_0])
  refine ⟨fun h3=>⟨by omega,h3,?_⟩,fun h3=>?_⟩
  · have hlt:i < g.length:=by omega
    have hok:=hg.ok i hlt
    obtain ⟨rr,ops,A,Bz,e1,e2,e3,e4,e5⟩:=runV_top (w:=lasL s l) hg hlt
    have hrows:=runV_rows (w:=lasL s l) hg i hi
    generalize g.getD i default=y at e2 e3 e4 e5 hok ⊢
    have hnd:=sdOk_need hok.1
    intro r hr
    replace st:=st.cell hr [I y.op,I y.n]
    generalize G.set r [I y.op,I y.n]=G2 at st ⊢
    have hll:(runV (lasL s l) g i).length=ops.length+rr.length:=by rw [e1];simp
    (try simp (maxSteps:=1000000) (disch:=first | assumption | (apply ν6;assumption)) only [vz,vu,vv,eqS,eF_,↓c1_,↓c2_,tabs,reduceCtorEq,ι5,↓reduceIte,ν1,ν2,ν3,ν4,ν5,ι1,ι2,ι3,ι4,load_at (st.get 0 rfl)])
    refine Pu.use (need_impl.operandsOfSaid_spec y.op) ?_
    have ew:IntKind.i64.wrap (((runV (lasL s l) g i).length:Int) - need y.op)=(rr.length:Nat):=by rw [i64_id (by omega) (by omega)];omega
    (try simp (maxSteps:=1000000) (disch:=first | assumption | (apply ν6;assumption)) only [vz,vu,vv,eqS,eF_,↓c1_,↓c2_,tabs,reduceCtorEq,ι5,↓reduceIte,ν1,ν2,ν3,ν4,ν5,ι1,ι2,ι3,ι4,sliceV,ew,load_at (st.get 0 rfl),load_at (st.get 2 rfl)])
    refine ⟨by omega,by omega,by omega,by omega,by omega,by omega,?_⟩
    have hrev:(runV (lasL s l) g i).reverse=rr.reverse++ops:=by rw [e1];simp
    have en:(((runV (lasL s l) g i).length:Int) - (rr.length:Int)).toNat=ops.length:=by omega
    rw [en,Nat.mul_one]
    refine CloneB_part (st.get 1 rfl) (by rw [List.length_reverse];omega) (by rw [List.length_reverse];omega) ?_
    have ep:((runV (lasL s l) g i).reverse.drop rr.length).take ops.length=ops:=by rw [hrev,List.drop_left' (by simp),List.take_length]
    rw [ep]
    (try simp (maxSteps:=1000000) (disch:=first | assumption | (apply ν6;assumption)) only [vz,vu,vv,eqS,eF_,↓c1_,↓c2_,tabs,reduceCtorEq,ι5,↓reduceIte,ν1,ν2,ν3,ν4,ν5,ι1,ι2,ι3,ι4,load_at (st.get 0 rfl),load_at (st.get 2 rfl)])
    refine holdsAlong_spec s l h1 h2 y hok.1 ops e3 (fun r hr=>hrows r (by rw [e1];simp [hr])) A Bz e4 e5 ?_
    refine lit1 tab_71 rfl tab_76 ⟨rfl,rfl⟩ ?_
    have hq:G2 q=some (cP vB rr.reverse++cP vB ops):=by
      have:=(st.get 1 rfl:G2 q=_)
      rw [this,hrev];simp [cP]
    have hrl:rr.length=rr.reverse.length:=by simp
    rw [hrl]
    refine app_rowsX (y:=rowV (lasL s l) y A Bz) hq (by rw [List.length_reverse];omega) fun q' hq' hne=>?_
    have e6:rr.reverse++[rowV (lasL s l) y A Bz]=(runV (lasL s l) g (i+1)).reverse:=by rw [e2];simp
    rw [e6]
    refine ⟨(i+1,q',_),⟨by simp only;omega,(St.moved (c:=cP vB (runV (lasL s l) g (i+1)).reverse) st.drop 0 rfl hq')⟩,by simp only;omega,?_,?_,Heap.le_refl _⟩
    · rw [e2,List.length_cons,List.length_reverse];exact .refl _
    · rw [wk_int,i64_id (by omega) (by omega)];simp
  · have:i=g.length:=by omega
    subst this
    rw [hg.one] at hlen
    obtain ⟨row,hrow⟩:∃row,runV (lasL s l) g g.length=[row]:=by
      cases hs:runV (lasL s l) g g.length with
      | nil=>rw [hs] at hlen;cases hlen
      | cons a r=>
        cases r with
        | nil=>exact ⟨a,rfl⟩
        | cons b r=>rw [hs] at hlen;simp at hlen;omega
    rw [hrow] at h st ⊢
    (try simp (maxSteps:=1000000) (disch:=first | assumption | (apply ν6;assumption)) only [vz,vu,vv,eqS,eF_,↓c1_,↓c2_,tabs,reduceCtorEq,ι5,↓reduceIte,ν1,ν2,ν3,ν4,ν5,ι1,ι2,ι3,ι4,load_at (st.get 0 rfl)])
    refine ⟨by omega,by omega,by simp,⟨_,_,.forget st.le,h⟩⟩
end Go.Proofs.Ytjdhigcefkihiaa
namespace Go.Proofs.Ytjdhigcefkihiaa
open Go Go.Sep Go.Pt
attribute [local irreducible] CallT
end Go.Proofs.Ytjdhigcefkihiaa
namespace Go.Sep
open Go Go.RowKit Go.Proofs.Ytjdhigcefkihiaa
structure ResU (R:AV→Heap→List Nat→Prop):Prop where
  loc:∀{r G G' D},R r G D→(∀y∈D,∀b,G y=some b→G' y=some b)→R r G' D
  gd:∀{r G D},R r G D→Gd2 r∧∀y∈D,∀bs,G y=some bs→∀c∈bs,GdC c
  sh:∀{r G D n G0},(∀q,n≤q→G0 q=none)→R r G D→R (sh2 n r) (Heap.or G0 (shH n G)) (D.map (·+n))
end Go.Sep
namespace Go.Proofs.Ytjdhigcefkihiaa
open Go Go.Sep Go.Pt
attribute [local irreducible] CallT
theorem LPg.sl {p:Pg} {v:AV} {G:Heap} {D:List Nat} (h:LPg p v G D):∃q1 q2,v=.agg [I p.wide,I p.vars,.sl q1 2 0 p.start.length,.sl q2 2 0 p.cmds.length]:=by
  obtain ⟨x,y,E1,E2,rfl,rfl,hx,hy⟩:=h
  obtain ⟨qx,rfl⟩:=LRow.sl hx
  obtain ⟨qy,rfl⟩:=LRow.sl hy
  exact ⟨qx,qy,rfl⟩
end Go.Proofs.Ytjdhigcefkihiaa
namespace Go.Proofs.Ytjdhigcefkihiaa
open Go Go.Sep Go.Pt
attribute [local irreducible] CallT
end Go.Proofs.Ytjdhigcefkihiaa
