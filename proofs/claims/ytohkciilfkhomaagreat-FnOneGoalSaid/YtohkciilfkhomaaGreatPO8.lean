/- Texts laid together: Mg0 Ss1 Lay Ss2 Ms1 Mb1 Mg1 Tj0 Tj1 Tj3 Tj4. -/
import Derived.Test.YtohkciilfkhomaaGreatPO7
import Derived.Sort.Grow
import Derived.Shelf.SlGeneric
import Derived.Shelf.SlLaysNS
import Derived.Test.YtohkciilfkhomaaGreatProg
import Derived.Shelf.SortG.Plain
import Derived.Shelf.SortG.SortNone
import Derived.Shelf.SlicesG.CompactI
set_option linter.unusedVariables false
set_option linter.unusedSimpArgs false
open Go.Sep.AV renaming any → Q_
open Nat renaming reduceAdd→Y1,reduceLeDiff→Y2,reduceLT→Y3,reduceMul→Y4,reduceSub→Y5
open Int renaming reduceToNat→X1,reduceSub→X2,reduceAdd→X3,reduceNeg→X4
open Array renaming toList→X5
open Ne renaming symm→Y6
open List renaming forall_mem_cons→Y7
namespace Go.Sep
open Go Go.RowKit
inductive FinK (K:k_):k_ where
 | done {v:AV} {H:Heap} (h:K v H):FinK K v H
 | wk {v v':AV} {H H':Heap} (h:Wk v H v' H') (k:FinK K v' H'):FinK K v H
 | ghost {v:AV} {H:Heap} (k:∀z,H z=none→FinK K v (H.set z [])):FinK K v H
theorem UpV.finish {B0:Nat} {w0:World} {F:Heap} {K:k_} {v:AV} {H:Heap} (h:FinK K v H):∀{Z:Fro} {φ:Pm} {x:Value} {w:World},Disj H F→Sim Z φ B0 w0 (H.or F) w→Cv Z φ v x→UpV B0 w0 F Z φ K x w:=by
 induction h with
 | done h=>exact fun hd hs hc=>⟨_,_,_,_,h,Fro.le_refl _,Pm.le_refl _,hd,hs,hc⟩
 | wk h k ih=>
  intro Z φ x w hd hs hc
  obtain ⟨Z',φ',h1,h2,h3,h4,h5⟩:=UpV.wk h hd hs hc
  obtain ⟨v',H',Z2,φ2,a,b,c,d,e,f⟩:=ih h3 h4 h5
  exact ⟨v',H',Z2,φ2,a,Fro.le_trans h1 b,Pm.le_trans h2 c,d,e,f⟩
 | ghost k ih=>
  intro Z φ x w hd hs hc
  obtain ⟨r,φ',h1,h2,h3,h4⟩:=Rel.ghost hd hs
  obtain ⟨v',H',Z2,φ2,a,b,c,d,e,f⟩:=ih r h1 h3 h4 (hc.mono (Fro.le_refl _) h2)
  exact ⟨v',H',Z2,φ2,a,b,Pm.le_trans h2 c,d,e,f⟩
theorem a_a.finish {P:Program} {f:Nat} {args:List AV} {H:Heap} {K:k_} (h:a_a P f args H (FinK K)):a_a P f args H K:=by
 refine ⟨h.1,fun B0 w0 F Z φ w xs hd hs ha=>(h.2 B0 w0 F Z φ w xs hd hs ha).mono ?_⟩
 rintro e w' ⟨x,rfl,v,H',Z',φ',hk,b,c,d,e,f⟩
 obtain ⟨v',H2,Z2,φ2,a,b2,c2,d2,e2,f2⟩:=UpV.finish hk d e f
 exact ⟨x,rfl,v',H2,Z2,φ2,a,Fro.le_trans b b2,Pm.le_trans c c2,d2,e2,f2⟩
theorem FinK.ofWkK {K:k_} {v:AV} {H:Heap} (h:wkK K v H):FinK K v H:=let ⟨_,_,a,b⟩:=h;.wk a (.done b)
def RN {α:Type} (L:Lay α) (sz:Nat) (x:AV) (xs:List α) (G:Heap) (D:List Nat):Prop:=(x=.p .nil∧xs=[]∧D=[])∨LRow L sz xs x G D
theorem RN.local {α:Type} {L:Lay α} {sz:Nat} (hL:L.Local) {x:AV} {xs:List α} {G G':Heap} {D:List Nat} (h:RN L sz x xs G D) (hf:∀y∈D,∀b,G y=some b→G' y=some b):RN L sz x xs G' D:=by
 rcases h with h | h
 ·exact .inl h
 ·exact .inr (h.local hL hf)
theorem RN.has {α:Type} {L:Lay α} {sz:Nat} (hL:L.Has) {x:AV} {xs:List α} {G:Heap} {D:List Nat} (h:RN L sz x xs G D):∀y∈D,G y≠none:=by
 rcases h with ⟨h1,h2,rfl⟩ | h
 ·intro y hy;cases hy
 ·exact h.has hL
def rnT {α:Type} {L:Lay α} (hL:L.Local) (hh:L.Has) (sz:Nat) (x:AV) (xs:List α) (D:List Nat):Th:=⟨D,fun G=>RN L sz x xs G D,fun h f=>h.local hL f,fun h=>h.has hh⟩
theorem LL.plain' {α:Type} {e:α→List PV} {G:Heap}:∀{xs:List α} {cs:List AV} {D:List Nat},LL (LPl e) xs cs G D→cs=cells (xs.map e)∧D=[]
 | [],_,_,⟨h1,h2⟩=>⟨h1,h2⟩
 | a::xs,_,_,⟨c1,c2,D1,D2,e1,e2,h1,h2⟩=>by
  obtain ⟨f1,f2⟩:=LL.plain' h2
  rw [e1,e2,h1.1,h1.2,f1,f2]
  exact ⟨by simp [cells],rfl⟩
theorem RN.app {tab:Tab} {t0 t1 e0 e1 sz:Nat} {d d1 ed:TD} {α:Type} {e:α→List PV} (h1:tab t0=some d) (h2:d.k=.slice e0) (h3:tab e0=some ed) (h4:tab t1=some d1) (h5:d1.k=.slice e1) (h6:ed.size=sz) {bz:Nat} (h7:ed.bytes=bz)
  (hsz:∀a,(e a).length=sz) {H G:Heap} {Ts:List Th} {x y:AV} {xs ys:List α} {D:List Nat} {hL:(LPl e).Local} {hh:(LPl e).Has} (s:St H Ts G) (i:Nat) (hi:Ts[i]?=some (rnT hL hh sz x xs D)) (hy:y=.p (.sl (ys.map e)))
  (hl:(xs.length+ys.length)*bz≤140737488355328) (hl2:xs.length+ys.length≤9223372036854775807) {K:k_}
  (h:∀q' G',G q'=none→St H (Ts.set i (rnT hL hh sz (.sl q' sz 0 (xs++ys).length) (xs++ys) [q'])) G'→K (.sl q' sz 0 (xs++ys).length) G'):aP_ tab t0 t1 x y G (wkK K):=by
 subst hy
 have hrz:RN (LPl e) sz x xs G D:=s.get i hi
 rcases hrz with ⟨rfl,rfl,rfl⟩ | ⟨q,cs,D',rfl,hq,hll,rfl⟩
 ·refine app_nil h1 h2 h3 h4 h5 h6 h7 (.inl rfl) (.inl rfl) (a_q hsz ys) (by simpa using hl) (by simpa using hl2) fun q' hq'=>?_
  have:=h q' _ hq' (s.repl i hi (rnT hL hh sz (.sl q' sz 0 ([]++ys).length) ([]++ys) [q']) (by simp [rnT]) (fun y hy=>by
   simp only [rnT,List.mem_singleton] at hy;subst hy;exact .inr hq') (G':=G.set q' (cells (ys.map e))) (fun y b hb _=>Heap.le_set hq' y b hb) (.inr ⟨q',_,[],rfl,Heap.set_same _ _ _,LL.plain _,rfl⟩))
  simpa [Go.Sep.own] using this
 ·obtain ⟨rfl,rfl⟩:=LL.plain' hll
  have:=d_4 (x:=.p (.sl (ys.map e))) (r:=q) (es:=xs.map e) (fs:=ys.map e) (H:=G) (K:=K) h1 h2 h3 h4 h5 h6 h7 (.inl rfl) hq (a_q hsz xs) (a_q hsz ys)
   (by simpa using hl) (by simpa using hl2) fun q' hq'=>by
    have:=h q' ((G.del q).set q' (cells ((xs++ys).map e))) hq' (s.repl i hi (rnT hL hh sz (.sl q' sz 0 (xs++ys).length) (xs++ys) [q']) (by simp [rnT]) (fun y hy=>by
     simp only [rnT,List.mem_singleton] at hy;subst hy;exact .inr hq') (fun y b hb hy=>by
      simp only [rnT,List.mem_singleton] at hy
      rw [Heap.set_other (fun e=>by rw [e,hq'] at hb;cases hb),Heap.del_other hy];exact hb) (.inr ⟨q',_,[],rfl,Heap.set_same _ _ _,LL.plain _,rfl⟩))
    simpa only [Go.Sep.own,List.length_map,List.map_append,List.length_append] using this
  simpa only [Go.Sep.own,List.length_map] using this
end Go.Sep
namespace Go.Proofs.YtohkciilfkhomaaGreat
open Go Go.Sep Go.Pt
attribute [local irreducible] a_a
def LIn:Lay (List Int):=fun l cs G D=>∃x,cs=[x]∧RN (LPl eI) 1 x l G D
theorem LIn.local:Lay.Local LIn:=by
 rintro c cs G G' D ⟨x,e,h⟩ hf
 exact ⟨x,e,h.local (LPl.local eI) hf⟩
theorem LIn.has:Lay.Has LIn:=by
 rintro c cs G D ⟨x,e,h⟩
 exact h.has (LPl.has eI)
theorem LIn.size:Lay.Size LIn 1:=by
 rintro c cs G D ⟨x,rfl,h⟩;rfl
abbrev rnI (x:AV) (l:List Int) (D:List Nat):Th:=rnT (LPl.local eI) (LPl.has eI) 1 x l D
def tabT (q:Nat) (rows:List (List Int)) (D:List Nat):Th:=⟨D,fun G=>LRow LIn 1 rows (.sl q 1 0 rows.length) G D,fun h f=>h.local LIn.local f,fun h=>h.has LIn.has⟩
def a_7 (q:Nat) (pre:List AV) (c:AV) (post:List AV) (rows:List (List Int)) (i:Nat) (D:List Nat):Th:=
 ⟨D,fun G=>G q=some (pre++(c::post))∧∃Dp Dq,D=q::(Dp++Dq)∧LL LIn (rows.take i) pre G Dp∧LL LIn (rows.drop (i+1)) post G Dq,by
  rintro G G' ⟨h1,Dp,Dq,rfl,h2,h3⟩ hf
  exact ⟨hf q (by simp) _ h1,Dp,Dq,rfl,LL.local LIn.local h2 fun y hy b hb=>hf y (by simp [hy]) b hb,LL.local LIn.local h3 fun y hy b hb=>hf y (by simp [hy]) b hb⟩,by
  rintro G ⟨h1,Dp,Dq,rfl,h2,h3⟩ y hy
  simp only [List.mem_cons,List.mem_append] at hy
  rcases hy with rfl | hy | hy
  ·rw [h1];simp
  ·exact LL.has LIn.has h2 y hy
  ·exact LL.has LIn.has h3 y hy⟩
theorem c_1 {H G:Heap} {Ts:List Th} {q:Nat} {rows:List (List Int)} {D:List Nat} (s:St H Ts G) (k:Nat) (hk:Ts[k]?=some (tabT q rows D)) {i:Nat} (hi:i < rows.length) :
  ∃pre c post Di Dr,pre.length=i∧pre.length+(post.length+1)=rows.length∧St H (rnI c (rows.getD i default) Di::a_7 q pre c post rows i Dr::Ts.eraseIdx k) G:=by
 have s1:=s.pick k hk
 have hr:LRow LIn 1 rows (.sl q 1 0 rows.length) G D:=s1.get 0 rfl
 obtain ⟨q',cs,D',e1,e2,e3,rfl⟩:=hr
 injection e1 with e1
 subst e1
 obtain ⟨c1,c,c2,D1,Di,D2,rfl,rfl,h1,⟨x,rfl,h2⟩,h3,h4⟩:=LL.split LIn.size e3 hi
 have h5:=LL.size LIn.size h4
 rw [List.length_drop] at h5
 refine ⟨c1,x,c2,Di,q::(D1++D2),by omega,by omega,?_⟩
 have nd:=s1.ndT 0 rfl
 simp only [tabT] at nd
 refine St.step (old:=[tabT q rows (q::(D1++(Di++D2)))]) s1 [rnI x _ Di,a_7 q c1 x c2 rows i (q::(D1++D2))] ?_ (fun t ht y hy=>?_) (fun y b hb _=>hb) (fun t ht=>?_)
 ·simp only [List.flatMap_cons,List.flatMap_nil,List.append_nil,rnT,a_7]
  rw [List.nodup_append]
  rw [List.nodup_cons,List.nodup_append,List.nodup_append] at nd
  simp only [List.mem_append,not_or] at nd
  obtain ⟨⟨n1,n2,n3⟩,n4,⟨n5,n6,n7⟩,n8⟩:=nd
  refine ⟨n5,?_,fun a ha b hb e=>?_⟩
  ·rw [List.nodup_cons,List.nodup_append]
   simp only [List.mem_append,not_or]
   exact ⟨⟨n1,n3⟩,n4,n6,fun a ha b hb=>n8 a ha b (.inr hb)⟩
  ·subst e
   simp only [List.mem_cons,List.mem_append] at hb
   rcases hb with rfl | hb | hb
   ·exact n2 ha
   ·exact n8 a hb a (.inl ha) rfl
   ·exact n7 a ha a hb rfl
 ·refine .inl ⟨_,List.mem_singleton.2 rfl,?_⟩
  simp only [List.mem_cons,List.not_mem_nil,or_false] at ht
  rcases ht with rfl | rfl
  ·simp only [rnT] at hy;simp [tabT,hy]
  ·simp only [a_7,List.mem_cons,List.mem_append] at hy
   simp only [tabT,List.mem_cons,List.mem_append]
   rcases hy with hy | hy | hy
   ·exact .inl hy
   ·exact .inr (.inl hy)
   ·exact .inr (.inr (.inr hy))
 ·simp only [List.mem_cons,List.not_mem_nil,or_false] at ht
  rcases ht with rfl | rfl
  ·exact h2
  ·exact ⟨e2,D1,D2,rfl,h3,h4⟩
theorem tab_rd {pre post:List AV} {c:AV} {i:Nat} (h:pre.length=i):(List.take 1 (List.drop (i*1) (pre++(c::post)))).headD Q_=c:=by
 rw [List.drop_append,List.drop_of_length_le (by omega)]
 simp [h]
theorem tab_sp {pre post:List AV} {c c':AV} {i:Nat} (h:pre.length=i):List.take (i*1) (pre++(c::post))++[c']++List.drop (i*1+1) (pre++(c::post))=pre++(c'::post):=
 splice_at (c:=[c]) (c':=[c']) (by omega) rfl rfl
theorem e_a {H G:Heap} {Ts:List Th} {q:Nat} {pre post:List AV} {c c':AV} {rows:List (List Int)} {l':List Int} {i:Nat} {Di Dr:List Nat} (s:St H (rnI c' l' Di::a_7 q pre c post rows i Dr::Ts) G) (hi:i < rows.length) :
  ∃D,St H (tabT q (rows.set i l') D::Ts) (G.set q (pre++(c'::post))):=by
 have h2:RN (LPl eI) 1 c' l' G Di:=s.get 0 rfl
 obtain ⟨hq,D1,D2,rfl,h3,h4⟩:=s.get 1 rfl
 have nd0:=s.ndT 0 rfl
 have nd1:=s.ndT 1 rfl
 have dj:=s.disjI 0 1 rfl rfl (by decide)
 simp only [rnT] at nd0
 simp only [a_7,List.nodup_cons,List.nodup_append,List.mem_append,not_or] at nd1
 simp only [rnT,a_7,List.mem_cons,List.mem_append,not_or] at dj
 have hf:∀y b,G y=some b→y≠q→(G.set q (pre++(c'::post))) y=some b:=fun y b hb hy=>by rw [Heap.set_other hy];exact hb
 refine ⟨q::(D1++(Di++D2)),?_⟩
 refine St.step (old:=[rnI c' l' Di,a_7 q pre c post rows i (q::(D1++D2))]) s [tabT q (rows.set i l') (q::(D1++(Di++D2)))] ?_ (fun t ht y hy=>?_) (fun y b hb hy=>hf y b hb fun e=>hy (a_7 q pre c post rows i (q::(D1++D2))) (by simp) (by simp [a_7,e])) (fun t ht=>?_)
 ·simp only [List.flatMap_cons,List.flatMap_nil,List.append_nil,tabT]
  rw [List.nodup_cons,List.nodup_append,List.nodup_append]
  simp only [List.mem_append,not_or]
  refine ⟨⟨nd1.1.1,fun h=>(dj q h).1 rfl,nd1.1.2⟩,nd1.2.1,⟨nd0,nd1.2.2.1,fun a ha b hb e=>(dj a ha).2.2 (e ▸ hb)⟩,fun a ha b hb e=>?_⟩
  rcases hb with hb | hb
  ·exact (dj b hb).2.1 (e ▸ ha)
  ·exact nd1.2.2.2 a ha b hb e
 ·rw [List.mem_singleton] at ht;subst ht
  simp only [tabT,List.mem_cons,List.mem_append] at hy
  refine .inl ?_
  rcases hy with hy | hy | hy | hy
  ·exact ⟨a_7 q pre c post rows i (q::(D1++D2)),by simp,by simp [a_7,hy]⟩
  ·exact ⟨a_7 q pre c post rows i (q::(D1++D2)),by simp,by simp [a_7,hy]⟩
  ·exact ⟨rnI c' l' Di,by simp,by simp [rnT,hy]⟩
  ·exact ⟨a_7 q pre c post rows i (q::(D1++D2)),by simp,by simp [a_7,hy]⟩
 ·rw [List.mem_singleton] at ht;subst ht
  have a1:=LL.local LIn.local h3 (G':=G.set q (pre++(c'::post))) fun y hy b hb=>hf y b hb fun e=>nd1.1.1 (e ▸ hy)
  have a2:=LL.local LIn.local h4 (G':=G.set q (pre++(c'::post))) fun y hy b hb=>hf y b hb fun e=>nd1.1.2 (e ▸ hy)
  have a3:=h2.local (LPl.local eI) (G':=G.set q (pre++(c'::post))) fun y hy b hb=>hf y b hb (dj y hy).1
  have e:rows.set i l'=rows.take i++(l'::rows.drop (i+1)):=by rw [List.set_eq_take_append_cons_drop,if_pos hi]
  refine ⟨q,pre++(c'::post),D1++(Di++D2),rfl,Heap.set_same _ _ _,?_,rfl⟩
  rw [e]
  exact LL.join a1 ⟨[c'],post,Di,D2,rfl,rfl,⟨c',rfl,a3⟩,a2⟩
theorem d_l {H G:Heap} {Ts:List Th} {q n:Nat} (s:St H Ts G) (hq:G q=none):St H (tabT q (List.replicate n []) [q]::Ts) (G.set q (zA_ n [.p .nil])):=by
 refine s.push (tabT q (List.replicate n []) [q]) (New.cell hq) ⟨q,zA_ n [.p .nil],[],rfl,Heap.set_same _ _ _,?_,rfl⟩
 generalize G.set q (zA_ n [.p .nil])=G1
 induction n with
 | zero=>exact ⟨rfl,rfl⟩
 | succ n ih=>exact ⟨[.p .nil],zA_ n [.p .nil],[],[],by rw [a_5],rfl,⟨_,rfl,.inl ⟨rfl,rfl,rfl⟩⟩,ih⟩
theorem c_2 {K:k_} {v:AV} {H:Heap} {Ts:List Th} {q:Nat} {rows:List (List Int)} (h:∀G D,St H (⟨D,fun G=>LII rows (.sl q 1 0 rows.length) G D,fun h f=>LRow.local LIc.local h f,fun h=>LRow.has LIc.has h⟩::Ts) G→FinK K v G) :
  ∀{G:Heap} {D:List Nat},St H (tabT q rows D::Ts) G→FinK K v G:=by
 have key:∀(n:Nat) (i:Nat) (G:Heap) (pre post:List AV) (D1 D2:List Nat),n+i=rows.length→G q=some (pre++post)→LL LIc (rows.take i) pre G D1→LL LIn (rows.drop i) post G D2→(q::(D1++D2)).Nodup→(∀y∈q::(D1++D2),H y=none)→St H Ts G→(∀y∈q::(D1++D2),∀t∈Ts,y∉t.D)→FinK K v G:=by
  intro n
  induction n with
  | zero=>
   intro i G pre post D1 D2 hi hq h1 h2 hnd hfr s hd
   rw [List.take_of_length_le (by omega)] at h1
   rw [List.drop_of_length_le (by omega)] at h2
   obtain ⟨rfl,rfl⟩:=h2
   simp only [List.append_nil] at hq hnd hfr hd
   refine h G (q::D1) ⟨s.le,?_,?_,?_⟩
   ·rw [List.flatMap_cons,List.nodup_append]
    refine ⟨hnd,s.nd,fun a ha b hb e=>?_⟩
    obtain ⟨t,ht,hbt⟩:=List.mem_flatMap.1 hb
    exact hd a ha t ht (e ▸ hbt)
   ·intro t ht
    rcases List.mem_cons.1 ht with rfl | ht
    ·exact hfr
    ·exact s.fr t ht
   ·intro t ht
    rcases List.mem_cons.1 ht with rfl | ht
    ·exact ⟨q,pre,D1,rfl,hq,h1,rfl⟩
    ·exact s.ok t ht
  | succ n ih=>
   intro i G pre post D1 D2 hi hq h1 h2 hnd hfr s hd
   have hlt:i < rows.length:=by omega
   rw [a_K hlt] at h2
   obtain ⟨c,c2,Da,Db,rfl,rfl,⟨x,rfl,hx⟩,h3⟩:=h2
   rcases hx with ⟨rfl,hr,rfl⟩ | hx
   ·refine .ghost fun z hz=>?_
    have nz:∀y b,G y=some b→y≠z:=fun y b hb e=>by rw [e,hz] at hb;cases hb
    have hqz:q≠z:=nz q _ hq
    have le1:=Heap.le_set (b:=[]) hz
    have hq1:=le1 _ _ hq
    refine .wk (.cell (cs':=pre++(.sl z 1 0 0::c2)) hq1 (by simp) fun j a a' e1 e2=>?_) ?_
    ·rw [List.getElem?_append] at e1 e2
     split at e1
     ·rename_i hlt'
      rw [if_pos hlt'] at e2
      rw [e1] at e2;cases e2;exact .refl _
     ·rename_i hge
      rw [if_neg hge] at e2
      cases hj:j - pre.length with
      | zero=>rw [hj] at e1 e2;simp at e1 e2;subst e1;subst e2;exact .nilo _ _ _
      | succ m=>rw [hj] at e1 e2;simp at e1 e2;rw [e1] at e2;cases e2;exact .refl _
    ·have old:∀y b,G y=some b→y≠q→((G.set z []).set q (pre++(.sl z 1 0 0::c2))) y=some b:=fun y b hb hy=>by rw [Heap.set_other hy];exact le1 y b hb
     have hzq:((G.set z []).set q (pre++(.sl z 1 0 0::c2))) z=some []:=by rw [Heap.set_other (Ne.symm hqz),Heap.set_same]
     simp only [List.nil_append] at h3 hnd hfr hd
     have hnd':=hnd
     rw [List.nodup_cons,List.nodup_append] at hnd'
     simp only [List.mem_append,not_or] at hnd'
     have zD1:z∉D1:=fun hm=>LL.has LIc.has h1 z hm hz
     have zDb:z∉Db:=fun hm=>LL.has LIn.has h3 z hm hz
     have hHz:H z=none:=by
      cases hh:H z with
      | none=>rfl
      | some b=>rw [s.le z b hh] at hz;cases hz
     refine ih (i+1) _ (pre++[.sl z 1 0 0]) c2 (D1++[z]) Db (by omega) (by rw [Heap.set_same];simp) ?_ ?_ ?_ ?_ ?_ ?_
     ·rw [tS_ hlt,hr]
      exact LL.snoc ⟨_,rfl,⟨z,[],[],rfl,hzq,⟨rfl,rfl⟩,rfl⟩⟩ (LL.local LIc.local h1 fun y hy b hb=>old y b hb (fun e=>hnd'.1.1 (e ▸ hy)))
     ·exact LL.local LIn.local h3 fun y hy b hb=>old y b hb (fun e=>hnd'.1.2 (e ▸ hy))
     ·rw [List.nodup_cons,List.nodup_append,List.nodup_append]
      simp only [List.mem_append,List.mem_singleton,not_or]
      refine ⟨⟨⟨hnd'.1.1,hqz⟩,hnd'.1.2⟩,⟨hnd'.2.1,by simp,fun a ha b hb e=>zD1 (by rw [← hb,← e];exact ha)⟩,hnd'.2.2.1,fun a ha b hb e=>?_⟩
      rcases ha with ha | ha
      ·exact hnd'.2.2.2 a ha b hb e
      ·exact zDb (by rw [← ha,e];exact hb)
     ·intro y hy
      simp only [List.mem_cons,List.mem_append,List.not_mem_nil,or_false] at hy
      rcases hy with rfl | (hy | rfl) | hy
      ·exact hfr _ (by simp)
      ·exact hfr _ (by simp [hy])
      ·exact hHz
      ·exact hfr _ (by simp [hy])
     ·refine ⟨fun y b hb=>old y b (s.le y b hb) fun e=>?_,s.nd,s.fr,fun t ht=>t.loc (s.ok t ht) fun y hy b hb=>old y b hb fun e=>hd q (by simp) t ht (e ▸ hy)⟩
      have:=hfr q (by simp)
      rw [← e,hb] at this;cases this
     ·intro y hy t ht hyt
      simp only [List.mem_cons,List.mem_append,List.not_mem_nil,or_false] at hy
      rcases hy with rfl | (hy | rfl) | hy
      ·exact hd _ (by simp) t ht hyt
      ·exact hd _ (by simp [hy]) t ht hyt
      ·exact t.has (s.ok t ht) _ hyt hz
      ·exact hd _ (by simp [hy]) t ht hyt
   ·refine ih (i+1) G (pre++[x]) c2 (D1++Da) Db (by omega) (by rw [hq];simp) ?_ h3 (by rw [List.append_assoc];exact hnd) (by rw [List.append_assoc];exact hfr) s (by rw [List.append_assoc];exact hd)
    rw [tS_ hlt]
    exact LL.snoc ⟨x,rfl,hx⟩ h1
 intro G D s
 have hr:LRow LIn 1 rows (.sl q 1 0 rows.length) G D:=s.get 0 rfl
 obtain ⟨q',cs,D',e1,e2,e3,rfl⟩:=hr
 injection e1 with e1
 subst e1
 refine key rows.length 0 G [] cs [] D' rfl e2 ⟨by simp,rfl⟩ (by simpa using e3) (by have:=s.ndT 0 rfl;simpa [tabT] using this) (by have:=s.fr _ (List.mem_cons_self ..);simpa [tabT] using this) s.drop fun y hy t ht=>?_
 obtain ⟨j,hj⟩:=List.mem_iff_getElem?.1 ht
 exact s.disjI 0 (j+1) rfl (by simpa using hj) (by omega) y (by simpa [tabT] using hy)
theorem c_J {H G:Heap} {Ts:List Th} {q:Nat} {xs ys:List Int} (s:St H Ts G) (i:Nat) (hi:Ts[i]?=some (cT_ q (cP fI xs))) (hl:xs.length+ys.length≤1000000000) {K:k_}
  (h:∀q' G',G q'=none→St H (Ts.set i (cT_ q' (cP fI (xs++ys)))) G'→K (rowP q' (xs++ys)) G'):aP_ tab 24 24 (rowP q xs) (Is ys) G (wkK K):=by
 have hq:G q=some (cP fI xs):=s.get i hi
 exact app_intsX (ex:=[]) (by rw [hq,List.append_nil]) hl fun q' hq' hne=>h q' _ hq' (s.moved i hi hq')
abbrev eBo (b:Bool):List PV:=[.bool b]
abbrev fB (b:Bool):PV:=.bool b
theorem mapB_rd {l:List Bool} {i:Nat} (h:i < l.length):(List.take 1 (List.drop (i*1) (cP fB l))).headD Q_=B (l.getD i default):=by
 rw [Nat.mul_one,cP,← List.map_drop,a_K h];rfl
abbrev Bls (xs:List Bool):AV:=.p (.sl (xs.map eBo))
theorem frz_rowB {q:Nat} {xs:List Bool}:FrzR q 1 (xs.map eBo) (rowP q xs) (Bls xs):=by
 have:FrzR q 1 (xs.map eBo) (.sl q 1 0 (xs.map eBo).length) (.p (.sl (xs.map eBo))):=.here
 rwa [List.length_map] at this
theorem wkB {q:Nat} {xs:List Bool} {G:Heap} (hq:G q=some (cP fB xs)) (C:AV→AV) (hC:∀{q sz es a a'},FrzR q sz es a a'→FrzR q sz es (C a) (C a')):Wk (C (rowP q xs)) G (C (Bls xs)) (G.del q):=by
 have e:cells (xs.map eBo)=cP fB xs:=b_o fB xs
 exact Wk.frz (r:=q) (sz:=1) (es:=xs.map eBo) (by omega) (by have h:=hq;rw [← e] at h;exact h) (a_q (f:=eBo) (fun _=>rfl) xs) (hC frz_rowB)
theorem cB_set {l:List Bool} {t:Nat} (h:t < l.length) (b:Bool):List.take (t*1) (cP fB l)++[B b]++List.drop (t*1+1) (cP fB l)=cP fB (l.set t b):=by
 rw [List.set_eq_take_append_cons_drop,if_pos h,Nat.mul_one]
 simp [cP,List.map_take,List.map_drop]
theorem f_I {n:Nat} (p:Nat→Bool) (t:Nat):((List.range n).map p).set t true=(List.range n).map fun u=>decide (u=t) || p u:=by
 apply List.ext_getElem?
 intro k
 rw [List.getElem?_set,List.getElem?_map,List.getElem?_map,List.length_map,List.length_range]
 by_cases hk:k < n
 ·rw [List.getElem?_range hk]
  by_cases e:t=k
  ·subst e;simp [hk]
  ·have:¬k=t:=fun h=>e h.symm
   simp [e,this]
 ·rw [List.getElem?_eq_none (by simp;omega)]
  by_cases e:t=k
  ·subst e;simp [hk]
  ·simp [e]
theorem c_K (n:Nat):zA_ n [B false]=cP fB ((List.range n).map fun _=>false):=by
 induction n with
 | zero=>rfl
 | succ n ih=>rw [a_5,ih,List.range_succ_eq_map];simp [cP]
end Go.Proofs.YtohkciilfkhomaaGreat
namespace Go.Sep
open Go Go.RowKit Go.Sort Go.Proofs.YtohkciilfkhomaaGreat
theorem Sim.ahead {Z:Fro} {φ:Pm} {B0:Nat} {w0 w:World} {H:Heap} (s:Sim Z φ B0 w0 H w) (n:Nat):Sim Z φ B0 w0 H (Go.Sort.ahead w n):=
 ⟨s.b0,⟨⟨s.below.os,s.below.tape,s.below.output,s.below.size,s.below.block⟩,s.below.drawn.trans (.of (Nat.le_add_right _ _))⟩,s.bnd,fun r blk e=>let ⟨pl,hp,hl⟩:=s.live r blk e;⟨pl,hp,hl.world fun _ h=>h⟩,s.disj,fun b i v hz=>s.froz b i v hz,s.zsep⟩
theorem e_b {w:World} {b:Nat} {cur:Array Value} {e:TypeId} {fr:Nat×Nat} (h:w.heap[b]?=some (.cells cur e fr)) (f:Array Value→Array Value):mapBlock w b f=w.setRow b (f cur):=by
 unfold mapBlock World.setRow
 congr 1
 apply Array.ext_getElem?
 intro k
 simp only [Array.getElem?_modify]
 by_cases hk:b=k
 ·subst hk;simp [h,onCells]
 ·simp [hk]
theorem Sim.grow {Z:Fro} {φ:Pm} {B0:Nat} {w0 w:World} {H:Heap} (s:Sim Z φ B0 w0 H w) (os:Array Obj):Sim Z φ B0 w0 H (Go.Sort.grow w os):=
 s.later ⟨⟨rfl,rfl,rfl,by simp,fun k hk=>heap_grow_old w os hk⟩,.of (Nat.le_refl _)⟩
theorem Sim.putInts {Z:Fro} {φ:Pm} {B0:Nat} {w0 w:World} {H:Heap} (s:Sim Z φ B0 w0 H w) {r:Nat} {zs zs':List Int} (hr:H r=some (zs.map fun n=>AV.p (.int .i64 n))) (hl:zs'.length=zs.length) (hpos:0 < zs.length) {pl:Place} (hp:φ r=some pl) (n:Nat) (os:Array Obj) :
  Sim Z φ B0 w0 (H.set r (zs'.map fun n=>AV.p (.int .i64 n))) (Go.Sort.grow (putRow (Value.int .i64) (Go.Sort.ahead w n) pl.b pl.o zs'.toArray) os):=by
 obtain ⟨pl',hp',hlive⟩:=s.live r _ hr
 rw [hp] at hp';cases hp'
 rcases hlive with ⟨_,h0⟩ | ⟨cur,e,h1,h2,h3,h4,h5⟩
 ·cases zs with
  | nil=>simp at hpos
  | cons a zs=>simp at h0
 rw [List.length_map] at h3
 refine Sim.grow ?_ os
 have s1:=s.ahead n
 have h1':(Go.Sort.ahead w n).heap[pl.b]?=some (.cells cur e (0,0)):=h1
 rw [putRow,e_b h1']
 refine s1.setRow hr hp h1' (by omega) _ (by simp [putCells]) ?_ _ (by rw [List.length_map];omega) ?_
 ·intro i hi
  simp only [putCells,Array.getElem?_mapIdx]
  cases cur[i]? with
  | none=>rfl
  | some v=>simp only [Option.map_some];rw [if_neg (by simp;omega)]
 ·intro i av hi
  rw [List.getElem?_map] at hi
  cases hz:zs'[i]? with
  | none=>rw [hz] at hi;cases hi
  | some x=>
   rw [hz] at hi
   cases hi
   have hlt:i < zs'.length:=(List.getElem?_eq_some_iff.1 hz).1
   refine ⟨.int .i64 x,?_,.p (.int _ _)⟩
   have hc:pl.o+i < cur.size:=by omega
   simp only [putCells,Array.getElem?_mapIdx,Array.getElem?_eq_getElem hc,Option.map_some]
   rw [if_pos (by simp;omega)]
   have:(List.toArray zs')[pl.o+i - pl.o]! = x:=by
    rw [Nat.add_sub_cancel_left]
    have:=(List.getElem?_eq_some_iff.1 hz).2
    simp [hlt,this]
   rw [this]
theorem Sim.holdsInts {Z:Fro} {φ:Pm} {B0:Nat} {w0 w:World} {H:Heap} (s:Sim Z φ B0 w0 H w) {r:Nat} {zs:List Int} (hr:H r=some (zs.map fun n=>AV.p (.int .i64 n))) (hpos:0 < zs.length) {pl:Place} (hp:φ r=some pl) :
  Holds (Value.int .i64) w pl.b pl.o zs.toArray∧pl.b < w.heap.size:=by
 obtain ⟨pl',hp',hlive⟩:=s.live r _ hr
 rw [hp] at hp';cases hp'
 rcases hlive with ⟨_,h0⟩ | ⟨cur,e,h1,h2,h3,h4,h5⟩
 ·cases zs with
  | nil=>simp at hpos
  | cons a zs=>simp at h0
 refine ⟨fun j hj=>⟨?_,?_⟩,(Array.getElem?_eq_some_iff.1 h1).1⟩
 ·have hj':j < zs.length:=by simpa using hj
  have hz:zs[j]?=some zs[j]:=List.getElem?_eq_getElem hj'
  obtain ⟨x,hx,hc⟩:=h5 j (.p (.int .i64 zs[j])) (by rw [List.getElem?_map,hz];rfl)
  have ex:x=.int .i64 zs[j]:=by
   cases hc with
   | p h=>cases h;rfl
  rw [cell_of_row w pl.b _ cur e _ h1,hx,ex]
  simp [hj']
 ·unfold World.frozen?
  rw [h1];simp
theorem a_a.inPlace {P:Program} {f:Nat} (hb:a_p P f) {H:Heap} {q:Nat} {zs:List Int} (hq:H q=some (zs.map fun n=>AV.p (.int .i64 n))) (g:List Int) (hg:g.length=zs.length)
  (hc:∀blk off cap w,zs.length≤cap→Holds (Value.int .i64) w blk off zs.toArray→blk < w.heap.size→Calls P f #[.slice (some ⟨blk,off,none⟩) zs.length cap] w fun e w'=>
   e=.returned (.tuple #[])∧∃n os,w'=Go.Sort.grow (putRow (Value.int .i64) (Go.Sort.ahead w n) blk off g.toArray) os)
  (hn:zs=[]→∀p cap w,Calls P f #[.slice p 0 cap] w fun e w'=>e=.returned (.tuple #[])∧w'=w)
  {K:k_} (h:K (.tup []) (H.set q (g.map fun n=>AV.p (.int .i64 n)))):a_a P f [.sl q 1 0 zs.length] H K:=by
 refine ⟨hb,?_⟩
 intro B0 w0 F Z φ w xs hd hs ha
 obtain ⟨hsz,hrel⟩:=ha
 obtain ⟨x,rfl⟩:∃x,xs=#[x]:=by
  have h1:xs.size=1:=hsz
  exact ⟨xs[0],by
   apply Array.ext
   ·simp [h1]
   ·intro i hi1 hi2
    have:i=0:=by simp at hi2;omega
    subst this;simp⟩
 have hx:=hrel 0 (.sl q 1 0 zs.length) x rfl rfl
 have hq':(H.or F) q=some (zs.map fun n=>AV.p (.int .i64 n)):=Heap.or_left hq
 have hFq:F q=none:=hd q (by rw [hq];simp)
 have empty:zs=[]→∀a c,x=.slice a 0 c→Calls P f #[x] w (fun e w'=>∃x,e=.returned x∧UpV B0 w0 F Z φ K x w'):=by
  rintro rfl a c rfl
  refine (hn rfl a c w).mono ?_
  rintro e w' ⟨rfl,rfl⟩
  have hg0:g=[]:=List.eq_nil_of_length_eq_zero hg
  subst hg0
  have hset:H.set q []=H:=by
   funext y
   by_cases e:y=q
   ·subst e;rw [Heap.set_same];exact hq.symm
   ·rw [Heap.set_other e]
  refine ⟨_,rfl,.tup [],H,Z,φ,?_,Fro.le_refl _,Pm.le_refl _,hd,hs,.tup [] #[] rfl (fun i av x h=>by simp at h)⟩
  rw [← hset];exact h
 generalize hm:zs.length=m at hx
 cases hx with
 | slz _ _ _ a=>exact empty (List.eq_nil_of_length_eq_zero hm) a 0 rfl
 | sl hp hl hC=>
  rename_i c pl
  subst hm
  by_cases h0:zs.length=0
  ·exact empty (List.eq_nil_of_length_eq_zero h0) _ _ (by rw [h0])
  have hh:=hs.holdsInts hq' (by omega) hp
  refine (hc pl.b pl.o c w hl hh.1 hh.2).mono ?_
  rintro e w' ⟨rfl,n,os,rfl⟩
  have s2:=hs.putInts (zs':=g) hq' hg (by omega) hp n os
  refine ⟨_,rfl,.tup [],H.set q (g.map fun n=>AV.p (.int .i64 n)),Z,φ,h,Fro.le_refl _,Pm.le_refl _,hd.set hFq,?_,.tup [] #[] rfl (fun i av x h=>by simp at h)⟩
  rw [Heap.or_set];exact s2
theorem a_a.inPlaceC {P:Program} {f:Nat} (hb:a_p P f) {H:Heap} {q:Nat} {zs:List Int} (hq:H q=some (zs.map fun n=>AV.p (.int .i64 n))) (g tl:List Int) (hg:(g++tl).length=zs.length)
  (hc:∀blk off cap w,zs.length≤cap→Holds (Value.int .i64) w blk off zs.toArray→blk < w.heap.size→Calls P f #[.slice (some ⟨blk,off,none⟩) zs.length cap] w fun e w'=>
   e=.returned (.slice (some ⟨blk,off,none⟩) g.length cap)∧∃n,w'=putRow (Value.int .i64) (Go.Sort.ahead w n) blk off (g++tl).toArray)
  (hn:zs=[]→∀p cap w,Calls P f #[.slice p 0 cap] w fun e w'=>e=.returned (.slice p 0 cap)∧w'=w)
  {K:k_} (h:K (.sl q 1 0 g.length) (H.set q ((g++tl).map fun n=>AV.p (.int .i64 n)))):a_a P f [.sl q 1 0 zs.length] H K:=by
 refine ⟨hb,?_⟩
 intro B0 w0 F Z φ w xs hd hs ha
 obtain ⟨hsz,hrel⟩:=ha
 obtain ⟨x,rfl⟩:∃x,xs=#[x]:=by
  have h1:xs.size=1:=hsz
  exact ⟨xs[0],by
   apply Array.ext
   ·simp [h1]
   ·intro i hi1 hi2
    have:i=0:=by simp at hi2;omega
    subst this;simp⟩
 have hx:=hrel 0 (.sl q 1 0 zs.length) x rfl rfl
 have hq':(H.or F) q=some (zs.map fun n=>AV.p (.int .i64 n)):=Heap.or_left hq
 have hFq:F q=none:=hd q (by rw [hq];simp)
 have empty:zs=[]→∀a c,x=.slice a 0 c→Cv Z φ (.sl q 1 0 0) x→Calls P f #[x] w (fun e w'=>∃x,e=.returned x∧UpV B0 w0 F Z φ K x w'):=by
  rintro rfl a c rfl hcv
  refine (hn rfl a c w).mono ?_
  rintro e w' ⟨rfl,rfl⟩
  have hg0:=List.eq_nil_of_length_eq_zero hg
  rw [List.append_eq_nil_iff] at hg0
  obtain ⟨rfl,rfl⟩:=hg0
  have hset:H.set q []=H:=by
   funext y
   by_cases e:y=q
   ·subst e;rw [Heap.set_same];exact hq.symm
   ·rw [Heap.set_other e]
  refine ⟨_,rfl,_,H,Z,φ,?_,Fro.le_refl _,Pm.le_refl _,hd,hs,hcv⟩
  rw [← hset];exact h
 have hx0:=hx
 generalize hm:zs.length=m at hx
 cases hx with
 | slz _ _ _ a=>exact empty (List.eq_nil_of_length_eq_zero hm) a 0 rfl (.slz _ _ _ _)
 | sl hp hl hC=>
  rename_i c pl
  subst hm
  by_cases h0:zs.length=0
  ·exact empty (List.eq_nil_of_length_eq_zero h0) _ _ (by rw [h0]) (by rw [h0] at hx0;rw [h0];exact hx0)
  have hh:=hs.holdsInts hq' (by omega) hp
  refine (hc pl.b pl.o c w hl hh.1 hh.2).mono ?_
  rintro e w' ⟨rfl,n,rfl⟩
  have s2:=hs.putInts (zs':=g++tl) hq' hg (by omega) hp n #[]
  rw [Go.Sort.grow_empty] at s2
  rw [List.length_append] at hg
  refine ⟨_,rfl,.sl q 1 0 g.length,H.set q ((g++tl).map fun n=>AV.p (.int .i64 n)),Z,φ,h,Fro.le_refl _,Pm.le_refl _,hd.set hFq,?_,.sl hp (by omega) hC⟩
  rw [Heap.or_set];exact s2
theorem a_a.nilArg {P:Program} {f:Nat} (hb:a_p P f) {v:AV} {r:Value} (hr:∀Z φ,Cv Z φ v r) (hn:∀w,Calls P f #[.slice none 0 0] w fun e w'=>e=.returned r∧w'=w) {H:Heap} {K:k_} (h:K v H):a_a P f [.p .nil] H K:=by
 refine ⟨hb,?_⟩
 intro B0 w0 F Z φ w xs hd hs ha
 obtain ⟨hsz,hrel⟩:=ha
 obtain ⟨x,rfl⟩:∃x,xs=#[x]:=by
  have h1:xs.size=1:=hsz
  exact ⟨xs[0],by
   apply Array.ext
   ·simp [h1]
   ·intro i hi1 hi2
    have:i=0:=by simp at hi2;omega
    subst this;simp⟩
 have hx:=hrel 0 (.p .nil) x rfl rfl
 have ex:x=.slice none 0 0:=by
  cases hx with
  | p h=>cases h;rfl
 subst ex
 refine (hn w).mono ?_
 rintro e w' ⟨rfl,rfl⟩
 exact ⟨_,rfl,v,H,Z,φ,h,Fro.le_refl _,Pm.le_refl _,hd,hs,hr _ _⟩
end Go.Sep
/-
 DERIVED: THE SHELF's CONTRACTS AT THIS DUMP,IN PLAIN WORDS (tools/lay-plain.mjs out of 'YtohkciilfkhomaaGreatLay.lean',which tools/lay-shelf.mjs wrote): THE SAME DECLARATIONS UNDER THE SAME NAMES: 'import','namespace','open','def','theorem' AND NOTHING ELSE: no command of the shelf's: FOR A HAND-IN. Each laying: the table of numbers ('.._ren') and one theorem,a field a fact of the dump's own or the kernel's comparison;each contract: ONE APPLICATION.
-/
namespace Go.Proofs
open Go.Shelf
def Tryz.laySort_ren:Go.Shelf.Ren:=⟨fun | 53=>82 | 64=>117 | 63=>116 | 78=>136 | 79=>137 | 70=>127 | 71=>128 | 72=>129 | 73=>130 | 74=>131 | 75=>132 | 59=>133 | 76=>134 | 77=>135 | 88=>138 | 89=>139 | 90=>140 | 91=>141 | 92=>142 | 68=>125 | 96=>143 | n=>n,fun | 22=>24 | 23=>3 | 3=>3 | 51=>109 | 0=>0 | 67=>127 | 69=>69 | 4=>4 | 61=>135 | 60=>134 | 44=>139 | 5=>5 | 9=>9 | 75=>143 | 79=>147 | 83=>149 | 84=>150 | n=>n,fun | n=>n⟩
theorem Tryz.laySort:Go.Proofs.SlLaysN.n53 Tryz.prog Tryz.laySort_ren:={
 mixed:=by kernel_rfl
 f53:=⟨Tryz.f82.name,by decide,Tryz.func82.trans (congrArg some (by kernel_rfl))⟩
 f59:=⟨Tryz.f133.name,by decide,Tryz.func133.trans (congrArg some (by kernel_rfl))⟩
 f63:=⟨Tryz.f116.name,by decide,Tryz.func116.trans (congrArg some (by kernel_rfl))⟩
 f64:=Tryz.func117.trans (congrArg some (by kernel_rfl))
 f68:=⟨Tryz.f125.name,by decide,Tryz.func125.trans (congrArg some (by kernel_rfl))⟩
 f70:=⟨Tryz.f127.name,by decide,Tryz.func127.trans (congrArg some (by kernel_rfl))⟩
 f71:=⟨Tryz.f128.name,by decide,Tryz.func128.trans (congrArg some (by kernel_rfl))⟩
 f72:=⟨Tryz.f129.name,by decide,Tryz.func129.trans (congrArg some (by kernel_rfl))⟩
 f73:=⟨Tryz.f130.name,by decide,Tryz.func130.trans (congrArg some (by kernel_rfl))⟩
 f74:=⟨Tryz.f131.name,by decide,Tryz.func131.trans (congrArg some (by kernel_rfl))⟩
 f75:=⟨Tryz.f132.name,by decide,Tryz.func132.trans (congrArg some (by kernel_rfl))⟩
 f76:=⟨Tryz.f134.name,by decide,Tryz.func134.trans (congrArg some (by kernel_rfl))⟩
 f77:=⟨Tryz.f135.name,by decide,Tryz.func135.trans (congrArg some (by kernel_rfl))⟩
 f78:=Tryz.func136.trans (congrArg some (by kernel_rfl))
 f79:=Tryz.func137.trans (congrArg some (by kernel_rfl))
 f88:=⟨Tryz.f138.name,by decide,Tryz.func138.trans (congrArg some (by kernel_rfl))⟩
 f89:=Tryz.func139.trans (congrArg some (by kernel_rfl))
 f90:=Tryz.func140.trans (congrArg some (by kernel_rfl))
 f91:=⟨Tryz.f141.name,by decide,Tryz.func141.trans (congrArg some (by kernel_rfl))⟩
 f92:=⟨Tryz.f142.name,by decide,Tryz.func142.trans (congrArg some (by kernel_rfl))⟩
 f96:=⟨Tryz.f143.name,by decide,Tryz.func143.trans (congrArg some (by kernel_rfl))⟩
 t0:=Tryz.underlying0
 a0:=Tryz.isAgg0
 z0:=Tryz.sizeOf0
 v0:=Tryz.zeroValue0
 t3:=Tryz.underlying3
 a3:=Tryz.isAgg3
 z3:=Tryz.sizeOf3
 v3:=Tryz.zeroValue3
 t4:=Tryz.underlying4
 a4:=Tryz.isAgg4
 z4:=Tryz.sizeOf4
 v4:=Tryz.zeroValue4
 t5:=Tryz.underlying5
 a5:=Tryz.isAgg5
 z5:=Tryz.sizeOf5
 v5:=Tryz.zeroValue5
 t9:=Tryz.underlying9
 a9:=Tryz.isAgg9
 z9:=Tryz.sizeOf9
 v9:=Tryz.zeroValue9
 t22:=Tryz.underlying24
 a22:=Tryz.isAgg24
 z22:=Tryz.sizeOf24
 v22:=Tryz.zeroValue24
 t23:=Tryz.underlying3
 a23:=Tryz.isAgg3
 z23:=Tryz.sizeOf3
 v23:=Tryz.zeroValue3
 t44:=Tryz.underlying139
 a44:=Tryz.isAgg139
 z44:=Tryz.sizeOf139
 v44:=Tryz.zeroValue139
 t51:=Tryz.underlying109
 a51:=Tryz.isAgg109
 z51:=Tryz.sizeOf109
 v51:=Tryz.zeroValue109
 t60:=Tryz.underlying134
 a60:=Tryz.isAgg134
 z60:=Tryz.sizeOf134
 v60:=Tryz.zeroValue134
 t61:=Tryz.underlying135
 a61:=Tryz.isAgg135
 z61:=Tryz.sizeOf135
 v61:=Tryz.zeroValue135
 t67:=Tryz.underlying127
 a67:=Tryz.isAgg127
 z67:=Tryz.sizeOf127
 v67:=Tryz.zeroValue127
 t69:=Tryz.underlying69
 a69:=Tryz.isAgg69
 z69:=Tryz.sizeOf69
 v69:=Tryz.zeroValue69
 t75:=Tryz.underlying143
 a75:=Tryz.isAgg143
 z75:=Tryz.sizeOf143
 v75:=Tryz.zeroValue143
 t79:=Tryz.underlying147
 a79:=Tryz.isAgg147
 z79:=Tryz.sizeOf147
 v79:=Tryz.zeroValue147
 t83:=Tryz.underlying149
 a83:=Tryz.isAgg149
 z83:=Tryz.sizeOf149
 v83:=Tryz.zeroValue149
 t84:=Tryz.underlying150
 a84:=Tryz.isAgg150
 z84:=Tryz.sizeOf150
 v84:=Tryz.zeroValue150 }
def Tryz.layCompact_ren:Go.Shelf.Ren:=⟨fun | 43=>83 | n=>n,fun | 22=>24 | 23=>3 | 3=>3 | 4=>4 | 0=>0 | n=>n,fun | n=>n⟩
theorem Tryz.layCompact:Go.Proofs.SlLaysN.n43 Tryz.prog Tryz.layCompact_ren:={
 mixed:=by kernel_rfl
 f43:=⟨Tryz.f83.name,by decide,Tryz.func83.trans (congrArg some (by kernel_rfl))⟩
 t0:=Tryz.underlying0
 a0:=Tryz.isAgg0
 z0:=Tryz.sizeOf0
 v0:=Tryz.zeroValue0
 t3:=Tryz.underlying3
 a3:=Tryz.isAgg3
 z3:=Tryz.sizeOf3
 v3:=Tryz.zeroValue3
 t4:=Tryz.underlying4
 a4:=Tryz.isAgg4
 z4:=Tryz.sizeOf4
 v4:=Tryz.zeroValue4
 t22:=Tryz.underlying24
 a22:=Tryz.isAgg24
 z22:=Tryz.sizeOf24
 v22:=Tryz.zeroValue24
 t23:=Tryz.underlying3
 a23:=Tryz.isAgg3
 z23:=Tryz.sizeOf3
 v23:=Tryz.zeroValue3
 i23:=by kernel_rfl }
end Go.Proofs
namespace Go.Proofs.YtohkciilfkhomaaGreat
open Go Go.Sep Go.Pt Go.RowKit
abbrev srt (zs:List Int):List Int:=zs.mergeSort fun x y=>decide (x≤y)
theorem Sort_hb:a_p Tryz.prog 82:=⟨_,bO_ Tryz.f82,Tryz.func82,by kernel_rfl,rfl⟩
theorem f_c:a_p Tryz.prog 83:=⟨_,bO_ Tryz.f83,Tryz.func83,by kernel_rfl,rfl⟩
theorem Sort_row {H:Heap} {q:Nat} {zs:List Int} {K:k_} (hq:H q=some (zs.map fun n=>AV.p (.int .i64 n))) (hl:zs.length≤1000000000) (h:K (.tup []) (H.set q ((srt zs).map fun n=>AV.p (.int .i64 n)))):a_a Tryz.prog 82 [.sl q 1 0 zs.length] H K:=
 a_a.inPlace Sort_hb hq (srt zs) (List.length_mergeSort ..) (fun blk off cap w _ hH hb=>AnyG.slices_Sort_int Tryz.laySort blk off cap zs w hH hb (by omega)) (fun _ p cap w=>AnyG.slices_Sort_int_none Tryz.laySort p cap w) h
theorem Sort_nil {H:Heap} {K:k_} (h:K (.tup []) H):a_a Tryz.prog 82 [.p .nil] H K:=
 a_a.nilArg Sort_hb (fun Z φ=>.tup [] #[] rfl (fun i av x h=>by simp at h)) (fun w=>AnyG.slices_Sort_int_none Tryz.laySort none 0 w) h
theorem Compact_row {H:Heap} {q:Nat} {zs:List Int} {K:k_} (hq:H q=some (zs.map fun n=>AV.p (.int .i64 n))) (hl:zs.length≤1000000000) (h:K (.sl q 1 0 (Lib.compact zs).length) (H.set q ((Lib.compact zs).map fun n=>AV.p (.int .i64 n)))):a_a Tryz.prog 83 [.sl q 1 0 zs.length] H K:=by
 refine a_a.fin ?_
 refine a_a.inPlaceC f_c hq (Lib.compact zs) (List.replicate (zs.length - (Lib.compact zs).length) 0) (by have:=d_9 zs;rw [List.length_append,List.length_replicate];omega) (fun blk off cap w hc hH hb=>AnyG.slices_Compact_int Tryz.layCompact blk off cap zs w hH (by omega) hc) (fun _ p cap w=>AnyG.slices_Compact_int_empty Tryz.layCompact p cap w) ?_
 refine ⟨_,_,.cell (cs':=(Lib.compact zs).map fun n=>AV.p (.int .i64 n)) (Heap.set_same _ _ _) (by rw [List.map_append,List.length_append];omega) (fun i a a' h1 h2=>?_),?_⟩
 ·rw [List.map_append,List.getElem?_append_left (List.getElem?_eq_some_iff.1 h2).1,h2] at h1
  cases h1;exact .refl _
 ·rw [Heap.set_set];exact h
theorem Compact_nil {H:Heap} {K:k_} (h:K (.p .nil) H):a_a Tryz.prog 83 [.p .nil] H K:=
 a_a.nilArg f_c (fun Z φ=>.p .nil) (fun w=>AnyG.slices_Compact_int_empty Tryz.layCompact none 0 w) h
end Go.Proofs.YtohkciilfkhomaaGreat
namespace Go.Proofs.YtohkciilfkhomaaGreat
open Go Go.Sep Go.Pt
attribute [local irreducible] a_a
theorem d_m {H G:Heap} {Ts:List Th} {x:AV} {xs ys:List Int} {D:List Nat} (s:St H Ts G) (i:Nat) (hi:Ts[i]?=some (rnI x xs D)) (hl:xs.length+ys.length≤1000000) {K:k_}
  (h:∀q' G',G q'=none→St H (Ts.set i (rnI (rowP q' (xs++ys)) (xs++ys) [q'])) G'→K (rowP q' (xs++ys)) G'):aP_ tab 24 24 x (Is ys) G (wkK K):=
 RN.app (bz:=8) a_g rfl a_u a_g rfl rfl rfl (fun _=>rfl) s i hi rfl (by omega) (by omega) h
theorem b_p {x:AV} {l:List Int} {G:Heap} {D:List Nat} (h:RN (LPl eI) 1 x l G D):(x=.p .nil∧l=[]∧D=[])∨∃q,x=rowP q l∧G q=some (cP fI l)∧D=[q]:=by
 rcases h with h | ⟨q,cs,D',rfl,hq,hll,rfl⟩
 ·exact .inl h
 ·obtain ⟨rfl,rfl⟩:=LL.plain' hll
  refine .inr ⟨q,rfl,?_,rfl⟩
  have e:cells (l.map eI)=cP fI l:=b_o fI l
  rw [← e];exact hq
theorem rnI_mk {l:List Int} {G:Heap} {q:Nat} (h:G q=some (cP fI l)):RN (LPl eI) 1 (rowP q l) l G [q]:=.inr (e_9 h)
theorem rn_sort {H G:Heap} {Ts:List Th} {x:AV} {l:List Int} {D:List Nat} (s:St H Ts G) (i:Nat) (hi:Ts[i]?=some (rnI x l D)) (hl:l.length≤1000000) {K:k_}
  (h:∀G',St H (Ts.set i (rnI x (srt l) D)) G'→K (.tup []) G'):a_a Tryz.prog 82 [x] G K:=by
 have hsl:(srt l).length=l.length:=List.length_mergeSort ..
 rcases b_p (s.get i hi) with ⟨rfl,rfl,rfl⟩ | ⟨q,rfl,hq,rfl⟩
 ·refine Sort_nil (h G ?_)
  exact s.repl i hi _ (by simp [rnT]) (fun y hy=>.inl hy) (fun y b hb _=>hb) (.inl ⟨rfl,by simp [srt],rfl⟩)
 ·refine Sort_row hq (by omega) (h _ ?_)
  refine s.repl i hi _ (by simp [rnT]) (fun y hy=>.inl hy) (fun y b hb hy=>?_) ?_
  ·simp only [rnT,List.mem_singleton] at hy
   rw [Heap.set_other hy];exact hb
  ·have:=rnI_mk (l:=srt l) (q:=q) (G:=G.set q (cP fI (srt l))) (Heap.set_same _ _ _)
   rw [rowP,hsl] at this
   exact this
theorem rn_compact {H G:Heap} {Ts:List Th} {x:AV} {l:List Int} {D:List Nat} (s:St H Ts G) (i:Nat) (hi:Ts[i]?=some (rnI x l D)) (hl:l.length≤1000000) {K:k_}
  (h:∀x' G',(x'=.p .nil∨∃q,x'=.sl q 1 0 (Lib.compact l).length)→St H (Ts.set i (rnI x' (Lib.compact l) D)) G'→K x' G'):a_a Tryz.prog 83 [x] G K:=by
 rcases b_p (s.get i hi) with ⟨rfl,rfl,rfl⟩ | ⟨q,rfl,hq,rfl⟩
 ·refine Compact_nil (h _ G (.inl rfl) ?_)
  exact s.repl i hi _ (by simp [rnT]) (fun y hy=>.inl hy) (fun y b hb _=>hb) (.inl ⟨rfl,by simp [Lib.compact,Lib.compactUpTo],rfl⟩)
 ·refine Compact_row hq (by omega) (h _ _ (.inr ⟨q,rfl⟩) ?_)
  refine s.repl i hi _ (by simp [rnT]) (fun y hy=>.inl hy) (fun y b hb hy=>?_) (rnI_mk (Heap.set_same _ _ _))
  simp only [rnT,List.mem_singleton] at hy
  rw [Heap.set_other hy];exact hb
end Go.Proofs.YtohkciilfkhomaaGreat
namespace Go.Proofs.YtohkciilfkhomaaGreat
open Go Go.Sep Go.Pt
attribute [local irreducible] a_a
def onTo (a:Au) (j:Nat) (e:Ed):Int:=if e.src∈a.goals.getD j default then ((j+1:Nat):Int) % a.goals.length else j
def onE (a:Au) (j:Nat) (e:Ed):Ed:=⟨e.src+j*a.states,e.lt,e.dst+onTo a j e*a.states⟩
def onF (a:Au) (j:Nat):List Ed:=((List.range j).map fun j=>a.edges.map (onE a j)).flatten
def onP (a:Au) (j i:Nat):List Ed:=onF a j++(a.edges.take i).map (onE a j)
theorem onP_zero (a:Au) (j:Nat):onP a j 0=onF a j:=by simp [onP]
theorem onP_succ (a:Au) (j:Nat) {i:Nat} (h:i < a.edges.length):onP a j (i+1)=onP a j i++[onE a j (a.edges.getD i default)]:=by
 rw [onP,tS_ h,List.map_append,← List.append_assoc];rfl
theorem onP_all (a:Au) (j:Nat):onP a j a.edges.length=onF a (j+1):=by
 rw [onP,List.take_length,onF,onF,List.range_succ,List.map_append,List.flatten_append];simp
theorem onF_len (a:Au) (j:Nat):(onF a j).length=j*a.edges.length:=by
 induction j with
 | zero=>simp [onF]
 | succ j ih=>
  rw [← onP_all,onP,List.length_append,ih,List.length_map,List.take_length,Nat.add_mul,Nat.one_mul]
theorem onP_len (a:Au) (j i:Nat) (hi:i≤a.edges.length):(onP a j i).length=j*a.edges.length+i:=by
 rw [onP,List.length_append,onF_len,List.length_map,List.length_take,Nat.min_eq_left hi]
def onT (a:Au):Au:=⟨a.goals.length*a.states,a.first,onF a a.goals.length,[a.goals.getD 0 default]⟩
def onZ (a:Au):Au:=⟨a.states,a.first,a.edges,[a_o a 0]⟩
def onR (a:Au):Au×Bool:=if a_l a then (if a.goals.length < 2 then (onZ a,true) else if a_l (onT a) then (onT a,true) else (c_t,false)) else (c_t,false)
theorem goalAt0 {a:Au} (h:¬a.goals.length < 2):a_o a 0=a.goals.getD 0 default:=by
 unfold a_o;rw [if_pos (by omega)];rfl
theorem onT_sm {a:Au} (ha:GoodF a):smAu (onT a):=by
 have h1:=ha.fi.2
 have h2:=ha.ed
 have h3:=ha.gl
 have hm:a.goals.length*a.edges.length≤6*2400:=Nat.mul_le_mul (by omega) (by omega)
 refine ⟨by show a.first.length≤_;have:=ha.fi.1.1;omega,by show (onF a _).length≤_;rw [onF_len];omega,by simp [onT],fun c hc=>?_⟩
 simp only [onT,List.mem_singleton] at hc
 subst hc
 by_cases h0:0 < a.goals.length
 ·have:=a_e (p:=fun x=>smI x∧x.length≤96) (d:=default) ha.gi h0
  have:=this.1.1
  omega
 ·have:a.goals=[]:=List.eq_nil_of_length_eq_zero (by omega)
  rw [this];exact Nat.zero_le _
theorem e_c {H G:Heap} {Ts:List Th} {z1 z2 z3:Nat} (s:St H Ts G) (i j k:Nat) (hi:Ts[i]?=some (riT z1 (.p .nil) [] [z1])) (hj:Ts[j]?=some (reT z2 (.p .nil) [] [z2])) (hk:Ts[k]?=some (rgT z3 (.p .nil) [] [z3])) (hij:i≠j) (hik:i≠k) (hjk:j≠k) {K:k_}
  (h:∀v G D,LAu c_t v G D→New H G D→K (.tup [v,B false]) G):wkK K (.tup [zA,B false]) G:=by
 obtain ⟨x',y',w',hw,hl,hn⟩:=b_A 0 s i j k hi hj hk hij hik hjk
 exact ⟨_,_,.val (v':=.tup [.agg [I 0,x',y',w'],B false]) (a_W ⟨hw,.refl _,trivial⟩),h _ _ _ hl hn⟩
theorem lend3 {H G:Heap} {Ts:List Th} (s:St H Ts G) {K:k_} {P:Program} {f:Nat} {args:List AV} (hb:a_p P f) (h:∀z1 z2 z3 G,St H (riT z1 (.p .nil) [] [z1]::reT z2 (.p .nil) [] [z2]::rgT z3 (.p .nil) [] [z3]::Ts) G→a_a P f args G K):a_a P f args G K:=by
 refine a_a.ghost hb fun z1 hz1=>?_
 refine a_a.ghost hb fun z2 hz2=>?_
 refine a_a.ghost hb fun z3 hz3=>?_
 have s:=((s.cell hz1 []).cell hz2 []).cell hz3 []
 exact h _ _ _ _ (lent LIc.local LIc.has 1 (lent (LPl.local eE) (LPl.has eE) 3 (lent (LPl.local eI) (LPl.has eI) 1 s 0 rfl) 1 rfl) 2 rfl)
theorem rz_au {H G:Heap} {Ts:List Th} {z1 z2 z3:Nat} {x y w:AV} {l:List Int} {es:List Ed} {gs:List (List Int)} {D1 D2 D3:List Nat} (n:Int) (s:St H (rgT z3 w gs D3::reT z2 y es D2::riT z1 x l D1::Ts) G) :
  ∃q1 q2 q3,AV.wk (.agg [I n,x,y,w]) (.agg [I n,.sl q1 1 0 l.length,.sl q2 3 0 es.length,.sl q3 1 0 gs.length])∧St H (auT ⟨n,l,es,gs⟩ (.agg [I n,.sl q1 1 0 l.length,.sl q2 3 0 es.length,.sl q3 1 0 gs.length]) (D1++(D2++D3))::Ts) G:=by
 obtain ⟨x',y',w',hw,hl,hn⟩:=b_A n s 2 1 0 rfl rfl rfl (by decide) (by decide) (by decide)
 obtain ⟨a,b,c,D1',D2',D3',e,hD,h1,h2,h3⟩:=id hl
 obtain ⟨q1,rfl⟩:=LRow.sl h1
 obtain ⟨q2,rfl⟩:=LRow.sl h2
 obtain ⟨q3,rfl⟩:=LRow.sl h3
 injection e with e
 simp only [List.cons.injEq,and_true,true_and] at e
 obtain ⟨rfl,rfl,rfl⟩:=e
 refine ⟨q1,q2,q3,hw,?_⟩
 refine St.step (old:=[rgT z3 w gs D3,reT z2 y es D2,riT z1 x l D1]) s [auT _ _ (D1++(D2++D3))] ?_ (fun t ht u hu=>?_) (fun y b hb _=>hb) (fun t ht=>?_)
 ·simpa [auT] using hn.nd
 ·rw [List.mem_singleton] at ht;subst ht
  simp only [auT,List.mem_append] at hu
  refine .inl ?_
  rcases hu with hu | hu | hu
  ·exact ⟨_,List.mem_cons_of_mem _ (List.mem_cons_of_mem _ (List.mem_cons_self ..)),hu⟩
  ·exact ⟨_,List.mem_cons_of_mem _ (List.mem_cons_self ..),hu⟩
  ·exact ⟨_,List.mem_cons_self ..,hu⟩
 ·rw [List.mem_singleton] at ht;subst ht
  exact hl
theorem au_new {H G:Heap} {Ts:List Th} {a:Au} {v:AV} {D:List Nat} (s:St H Ts G) (i:Nat) (h:Ts[i]?=some (auT a v D)):LAu a v G D∧New H G D:=
 ⟨s.get i h,s.ndT i h,s.fr _ (List.mem_of_getElem? h),s.le⟩
theorem f_J (a:Au) (ha:GoodF a) {H:Heap} {K:k_} (h:∀v G D,LAu a v G D→New H G D→K v G):a_a Tryz.prog 51 [aAu a] H K:=by
 have hfi:=ha.fi
 have hed:=ha.ed
 have hgl:=ha.gl
 refine a_a.fin ?_
 refine a_a.ghost W51_hb fun z hz=>?_
 have st:=lent LIc.local LIc.has 1 ((St.nil H).cell hz []) 0 rfl
 generalize H.set z []=H0 at st ⊢
 refine W51_ok ?_;simp (maxSteps:=1000000) (disch:=first|assumption|apply Y6;assumption) only [W51,vz,vu,vv,eqS,eF_,↓c1_,↓c2_,tabs,reduceCtorEq,X5,↓reduceIte,Y1,Y2,Y3,Y4,Y5,X1,X2,X3,X4]
 intro r hr r2 nr2 hr2
 replace st:=(st.cell hr [I a.states,Is a.first,Es a.edges,Ls a.goals]).cell (r:=r2) (by rw [Heap.set_other nr2];exact hr2) [I 0,.p .nil,.p .nil,.p .nil]
 generalize (H0.set r [I a.states,Is a.first,Es a.edges,Ls a.goals]).set r2 [I 0,.p .nil,.p .nil,.p .nil]=G at st ⊢
 clear hr hr2 nr2
 (try simp (disch:=first|assumption|apply Y6;assumption) only [vz,vu,vv,eqS,eF_,↓c1_,↓c2_,tabs,reduceCtorEq,X5,↓reduceIte,Y1,Y2,Y3,Y4,Y5,X1,X2,X3,X4,lA_ (st.get 1 rfl)])
 refine b_j a.first (by omega) fun q1 hq1=>?_
 replace st:=st.cell hq1 (cP fI a.first)
 generalize G.set q1 (cP fI a.first)=G1 at st ⊢
 (try simp (disch:=first|assumption|apply Y6;assumption) only [vz,vu,vv,eqS,eF_,↓c1_,↓c2_,tabs,reduceCtorEq,X5,↓reduceIte,Y1,Y2,Y3,Y4,Y5,X1,X2,X3,X4,lA_ (st.get 2 rfl)])
 refine CloneE_row a.edges (by omega) fun qe hqe=>?_
 replace st:=st.cell hqe (cE a.edges)
 generalize G1.set qe (cE a.edges)=G2 at st ⊢
 (try simp (disch:=first|assumption|apply Y6;assumption) only [vz,vu,vv,eqS,eF_,↓c1_,↓c2_,tabs,reduceCtorEq,X5,↓reduceIte,Y1,Y2,Y3,Y4,Y5,X1,X2,X3,X4,lA_ (st.get 3 rfl)])
 intro r3 hr3
 replace st:=st.cell hr3 [I a.states,rowP q1 a.first,rowE qe a.edges,.p .nil]
 (try simp (disch:=first|assumption|apply Y6;assumption) only [vz,vu,vv,eqS,eF_,↓c1_,↓c2_,tabs,reduceCtorEq,X5,↓reduceIte,Y1,Y2,Y3,Y4,Y5,X1,X2,X3,X4,lA_ (st.get 4 rfl)])
 generalize G2.set r3 [I a.states,rowP q1 a.first,rowE qe a.edges,.p .nil]=G3 at st ⊢
 refine L51_0_rule ((0:Nat),(.p .nil:AV),[z],G3) (fun s=>I s.1) (fun s=>s.2.2.2)
  (fun s=>s.1≤a.goals.length∧St H [cT_ r3 [I a.states,rowP q1 a.first,rowE qe a.edges,s.2.1],cT_ qe (cE a.edges),cT_ q1 (cP fI a.first),cT_ r2 [I 0,.p .nil,.p .nil,.p .nil],cT_ r [I a.states,Is a.first,Es a.edges,Ls a.goals],rgT z s.2.1 (a.goals.take s.1) s.2.2.1] s.2.2.2) (fun s=>a.goals.length - s.1)
  ⟨⟨by simp,st⟩,.refl _,Heap.le_refl _⟩ ?_
 clear st
 rintro ⟨i,x,D,G⟩ ⟨hi,st⟩
 dsimp only at hi st
 (try simp (disch:=first|assumption|apply Y6;assumption) only [vz,vu,vv,eqS,eF_,↓c1_,↓c2_,tabs,reduceCtorEq,X5,↓reduceIte,Y1,Y2,Y3,Y4,Y5,X1,X2,X3,X4,B51_0])
 refine ⟨fun h1=>⟨by omega,h1,?_⟩,fun h1=>?_⟩
 ·have hlt:i < a.goals.length:=by omega
  have hg:=a_e (p:=fun x=>smI x∧x.length≤96) (d:=default) ha.gi hlt
  (try simp (disch:=first|assumption|apply Y6;assumption) only [vz,vu,vv,eqS,eF_,↓c1_,↓c2_,tabs,reduceCtorEq,X5,↓reduceIte,Y1,Y2,Y3,Y4,Y5,X1,X2,X3,X4,lA_ (st.get 0 rfl)])
  refine b_j (a.goals.getD i default) (by omega) fun qn hqn=>?_
  replace st:=st.cell hqn (cP fI (a.goals.getD i default))
  generalize G.set qn (cP fI (a.goals.getD i default))=Gn at st ⊢
  (try simp (disch:=first|assumption|apply Y6;assumption) only [vz,vu,vv,eqS,eF_,↓c1_,↓c2_,tabs,reduceCtorEq,X5,↓reduceIte,Y1,Y2,Y3,Y4,Y5,X1,X2,X3,X4,lA_ (st.get 1 rfl)])
  refine a_2 fun ql hql=>?_
  replace st:=st.cell hql [rowP qn (a.goals.getD i default)]
  generalize Gn.set ql [.sl qn 1 0 (a.goals.getD i default).length]=Gl at st ⊢
  (try simp (disch:=first|assumption|apply Y6;assumption) only [vz,vu,vv,eqS,eF_,↓c1_,↓c2_,tabs,reduceCtorEq,X5,↓reduceIte,Y1,Y2,Y3,Y4,Y5,X1,X2,X3,X4,lA_ (st.get 2 rfl)])
  refine c_Y st 5 rfl (by rw [List.length_take];omega) fun q' D' G' hq' st=>?_
  rw [← tS_ hlt] at st
  have hln:(a.goals.take i).length+1=i+1:=by rw [List.length_take,Nat.min_eq_left hi]
  rw [hln] at st ⊢
  (try simp (disch:=first|assumption|apply Y6;assumption) only [vz,vu,vv,eqS,eF_,↓c1_,↓c2_,tabs,reduceCtorEq,X5,↓reduceIte,Y1,Y2,Y3,Y4,Y5,X1,X2,X3,X4,sA_ (st.get 0 rfl)])
  refine ⟨(i+1,.sl q' 1 0 (i+1),D',_),⟨by simp only;omega,st.put 0 rfl [I a.states,rowP q1 a.first,rowE qe a.edges,.sl q' 1 0 (i+1)]⟩,by simp only;omega,?_,Heap.le_refl _⟩
  rw [a_r,i6_ (by omega) (by omega)];simp
 ·have:i=a.goals.length:=by omega
  subst this
  rw [List.take_length] at st
  rcases (st.get 5 rfl:RZ LIc 1 z x _ G D).sl with rfl | ⟨qx,rfl⟩
  ·(try simp (disch:=first|assumption|apply Y6;assumption) only [vz,vu,vv,eqS,eF_,↓c1_,↓c2_,tabs,reduceCtorEq,X5,↓reduceIte,Y1,Y2,Y3,Y4,Y5,X1,X2,X3,X4,lA_ (st.get 0 rfl),sA_ (st.get 3 rfl)])
   replace st:=c_d (f_E (st.put 3 rfl [I a.states,rowP q1 a.first,rowE qe a.edges,.p .nil]) 1 rfl) 2 rfl
   obtain ⟨x',y',w',hw,hl,hn⟩:=b_A a.states st 2 1 5 rfl rfl rfl (by decide) (by decide) (by decide)
   exact ⟨_,_,.val hw,h _ _ _ hl hn⟩
  ·(try simp (disch:=first|assumption|apply Y6;assumption) only [vz,vu,vv,eqS,eF_,↓c1_,↓c2_,tabs,reduceCtorEq,X5,↓reduceIte,Y1,Y2,Y3,Y4,Y5,X1,X2,X3,X4,lA_ (st.get 0 rfl),sA_ (st.get 3 rfl)])
   replace st:=c_d (f_E (st.put 3 rfl [I a.states,rowP q1 a.first,rowE qe a.edges,.sl qx 1 0 a.goals.length]) 1 rfl) 2 rfl
   obtain ⟨x',y',w',hw,hl,hn⟩:=b_A a.states st 2 1 5 rfl rfl rfl (by decide) (by decide) (by decide)
   exact ⟨_,_,.val hw,h _ _ _ hl hn⟩
theorem l12Own_live (a:Au) (ha:GoodF a) {H:Heap} {K:k_} (h:∀v G D,LAu a v G D→New H G D→K v G):a_a Tryz.prog 56 [aAu a] H K:=by
 have hfi:=ha.fi
 have hed:=ha.ed
 have hgl:=ha.gl
 refine a_a.fin ?_
 refine a_a.ghost W56_hb fun z hz=>?_
 have st:=lent LIc.local LIc.has 1 ((St.nil H).cell hz []) 0 rfl
 generalize H.set z []=H0 at st ⊢
 refine W56_ok ?_;simp (maxSteps:=1000000) (disch:=first|assumption|apply Y6;assumption) only [W56,vz,vu,vv,eqS,eF_,↓c1_,↓c2_,tabs,reduceCtorEq,X5,↓reduceIte,Y1,Y2,Y3,Y4,Y5,X1,X2,X3,X4]
 intro r hr r2 nr2 hr2
 replace st:=(st.cell hr [I a.states,Is a.first,Es a.edges,Ls a.goals]).cell (r:=r2) (by rw [Heap.set_other nr2];exact hr2) [I 0,.p .nil,.p .nil,.p .nil]
 generalize (H0.set r [I a.states,Is a.first,Es a.edges,Ls a.goals]).set r2 [I 0,.p .nil,.p .nil,.p .nil]=G at st ⊢
 clear hr hr2 nr2
 have n0:b_f tab 25 0 []=some (fun r=>.sl r 3 0 0,[]):=by
  simp only [b_f,d_z,e_3,ifN,a_C,zA_]
  rfl
 (try simp (disch:=first|assumption|apply Y6;assumption) only [vz,vu,vv,eqS,eF_,↓c1_,↓c2_,tabs,reduceCtorEq,X5,↓reduceIte,Y1,Y2,Y3,Y4,Y5,X1,X2,X3,X4,lA_ (st.get 1 rfl),n0,safeV_some,newV_some])
 refine b_K a.first (by omega) fun q1 hq1=>?_
 replace st:=st.cell hq1 (cP fI a.first)
 generalize G.set q1 (cP fI a.first)=G1 at st ⊢
 (try simp (disch:=first|assumption|apply Y6;assumption) only [vz,vu,vv,eqS,eF_,↓c1_,↓c2_,tabs,reduceCtorEq,X5,↓reduceIte,Y1,Y2,Y3,Y4,Y5,X1,X2,X3,X4,lA_ (st.get 2 rfl)])
 intro q0 hq0
 refine app_topE (xs:=[]) (ys:=a.edges) hq0 (by simp;omega) fun qe hqe=>?_
 rw [List.nil_append]
 replace st:=st.cell hqe (cE a.edges)
 generalize G1.set qe (cE a.edges)=G2 at st ⊢
 (try simp (disch:=first|assumption|apply Y6;assumption) only [vz,vu,vv,eqS,eF_,↓c1_,↓c2_,tabs,reduceCtorEq,X5,↓reduceIte,Y1,Y2,Y3,Y4,Y5,X1,X2,X3,X4,lA_ (st.get 3 rfl)])
 intro r3 hr3
 replace st:=st.cell hr3 [I a.states,rowP q1 a.first,rowE qe a.edges,.p .nil]
 (try simp (disch:=first|assumption|apply Y6;assumption) only [vz,vu,vv,eqS,eF_,↓c1_,↓c2_,tabs,reduceCtorEq,X5,↓reduceIte,Y1,Y2,Y3,Y4,Y5,X1,X2,X3,X4,lA_ (st.get 4 rfl)])
 generalize G2.set r3 [I a.states,rowP q1 a.first,rowE qe a.edges,.p .nil]=G3 at st ⊢
 refine L56_0_rule ((0:Nat),(.p .nil:AV),[z],G3) (fun s=>I s.1) (fun s=>s.2.2.2)
  (fun s=>s.1≤a.goals.length∧St H [cT_ r3 [I a.states,rowP q1 a.first,rowE qe a.edges,s.2.1],cT_ qe (cE a.edges),cT_ q1 (cP fI a.first),cT_ r2 [I 0,.p .nil,.p .nil,.p .nil],cT_ r [I a.states,Is a.first,Es a.edges,Ls a.goals],rgT z s.2.1 (a.goals.take s.1) s.2.2.1] s.2.2.2) (fun s=>a.goals.length - s.1)
  ⟨⟨by simp,st⟩,.refl _,Heap.le_refl _⟩ ?_
 clear st
 rintro ⟨i,x,D,G⟩ ⟨hi,st⟩
 dsimp only at hi st
 (try simp (disch:=first|assumption|apply Y6;assumption) only [vz,vu,vv,eqS,eF_,↓c1_,↓c2_,tabs,reduceCtorEq,X5,↓reduceIte,Y1,Y2,Y3,Y4,Y5,X1,X2,X3,X4,B56_0])
 refine ⟨fun h1=>⟨by omega,h1,?_⟩,fun h1=>?_⟩
 ·have hlt:i < a.goals.length:=by omega
  have hg:=a_e (p:=fun x=>smI x∧x.length≤96) (d:=default) ha.gi hlt
  (try simp (disch:=first|assumption|apply Y6;assumption) only [vz,vu,vv,eqS,eF_,↓c1_,↓c2_,tabs,reduceCtorEq,X5,↓reduceIte,Y1,Y2,Y3,Y4,Y5,X1,X2,X3,X4,lA_ (st.get 0 rfl)])
  refine b_K (a.goals.getD i default) (by omega) fun qn hqn=>?_
  replace st:=st.cell hqn (cP fI (a.goals.getD i default))
  generalize G.set qn (cP fI (a.goals.getD i default))=Gn at st ⊢
  (try simp (disch:=first|assumption|apply Y6;assumption) only [vz,vu,vv,eqS,eF_,↓c1_,↓c2_,tabs,reduceCtorEq,X5,↓reduceIte,Y1,Y2,Y3,Y4,Y5,X1,X2,X3,X4,lA_ (st.get 1 rfl)])
  refine a_2 fun ql hql=>?_
  replace st:=st.cell hql [rowP qn (a.goals.getD i default)]
  generalize Gn.set ql [.sl qn 1 0 (a.goals.getD i default).length]=Gl at st ⊢
  (try simp (disch:=first|assumption|apply Y6;assumption) only [vz,vu,vv,eqS,eF_,↓c1_,↓c2_,tabs,reduceCtorEq,X5,↓reduceIte,Y1,Y2,Y3,Y4,Y5,X1,X2,X3,X4,lA_ (st.get 2 rfl)])
  refine c_Y st 5 rfl (by rw [List.length_take];omega) fun q' D' G' hq' st=>?_
  rw [← tS_ hlt] at st
  have hln:(a.goals.take i).length+1=i+1:=by rw [List.length_take,Nat.min_eq_left hi]
  rw [hln] at st ⊢
  (try simp (disch:=first|assumption|apply Y6;assumption) only [vz,vu,vv,eqS,eF_,↓c1_,↓c2_,tabs,reduceCtorEq,X5,↓reduceIte,Y1,Y2,Y3,Y4,Y5,X1,X2,X3,X4,sA_ (st.get 0 rfl)])
  refine ⟨(i+1,.sl q' 1 0 (i+1),D',_),⟨by simp only;omega,st.put 0 rfl [I a.states,rowP q1 a.first,rowE qe a.edges,.sl q' 1 0 (i+1)]⟩,by simp only;omega,?_,Heap.le_refl _⟩
  rw [a_r,i6_ (by omega) (by omega)];simp
 ·have:i=a.goals.length:=by omega
  subst this
  rw [List.take_length] at st
  rcases (st.get 5 rfl:RZ LIc 1 z x _ G D).sl with rfl | ⟨qx,rfl⟩
  ·(try simp (disch:=first|assumption|apply Y6;assumption) only [vz,vu,vv,eqS,eF_,↓c1_,↓c2_,tabs,reduceCtorEq,X5,↓reduceIte,Y1,Y2,Y3,Y4,Y5,X1,X2,X3,X4,lA_ (st.get 0 rfl),sA_ (st.get 3 rfl)])
   replace st:=c_d (f_E (st.put 3 rfl [I a.states,rowP q1 a.first,rowE qe a.edges,.p .nil]) 1 rfl) 2 rfl
   obtain ⟨x',y',w',hw,hl,hn⟩:=b_A a.states st 2 1 5 rfl rfl rfl (by decide) (by decide) (by decide)
   exact ⟨_,_,.val hw,h _ _ _ hl hn⟩
  ·(try simp (disch:=first|assumption|apply Y6;assumption) only [vz,vu,vv,eqS,eF_,↓c1_,↓c2_,tabs,reduceCtorEq,X5,↓reduceIte,Y1,Y2,Y3,Y4,Y5,X1,X2,X3,X4,lA_ (st.get 0 rfl),sA_ (st.get 3 rfl)])
   replace st:=c_d (f_E (st.put 3 rfl [I a.states,rowP q1 a.first,rowE qe a.edges,.sl qx 1 0 a.goals.length]) 1 rfl) 2 rfl
   obtain ⟨x',y',w',hw,hl,hn⟩:=b_A a.states st 2 1 5 rfl rfl rfl (by decide) (by decide) (by decide)
   exact ⟨_,_,.val hw,h _ _ _ hl hn⟩
end Go.Proofs.YtohkciilfkhomaaGreat
namespace Go.Proofs.YtohkciilfkhomaaGreat
open Go Go.Sep Go.Pt
attribute [local irreducible] a_a
def outN (a:Au) (k s:Nat):List Int:=((a.edges.take k).filter fun e=>decide (e.src=(s:Int))).map (·.dst)
def outR (a:Au) (k:Nat):List (List Int):=(List.range a.states.toNat).map (outN a k)
theorem c_3 (a:Au) (k:Nat):(outR a k).length=a.states.toNat:=by simp [outR]
theorem outR_zero (a:Au):outR a 0=List.replicate a.states.toNat []:=by
 rw [outR]
 apply List.ext_getElem
 ·simp
 ·intro i h1 h2;simp [outN]
theorem outR_get (a:Au) (k:Nat) {s:Nat} (h:s < a.states.toNat):(outR a k).getD s default=outN a k s:=by simp [outR,List.getD,h]
theorem d_M (a:Au) (k s:Nat):(outN a k s).length≤a.edges.length:=by
 rw [outN,List.length_map]
 exact Nat.le_trans (List.length_filter_le _ _) (by rw [List.length_take];omega)
theorem outR_succ (a:Au) {k:Nat} (hk:k < a.edges.length) (h0:0≤(a.edges.getD k default).src) (h1:(a.edges.getD k default).src < a.states) :
  outR a (k+1)=(outR a k).set (a.edges.getD k default).src.toNat (outN a k (a.edges.getD k default).src.toNat++[(a.edges.getD k default).dst]):=by
 have hs:=tS_ hk
 generalize a.edges.getD k default=e at hs h0 h1 ⊢
 apply List.ext_getElem
 ·simp [outR]
 ·intro s h2 h3
  simp only [outR,List.getElem_map,List.getElem_range,List.getElem_set]
  simp only [outN,hs,List.filter_append,List.map_append]
  by_cases he:e.src.toNat=s
  ·subst he
   rw [if_pos rfl]
   have:e.src=(e.src.toNat:Int):=by omega
   simp [← this]
  ·rw [if_neg he]
   have:¬e.src=(s:Int):=by omega
   simp [this]
def d_n (a:Au) (i:Nat):List (List Int):=(List.range a.states.toNat).map fun s=>if s < i then sc (outN a a.edges.length s) else outN a a.edges.length s
def b_q (a:Au):List (List Int):=(List.range a.states.toNat).map fun s=>sc (outN a a.edges.length s)
theorem e_d (a:Au) (i:Nat):(d_n a i).length=a.states.toNat:=by simp [d_n]
theorem c_4 (a:Au):(b_q a).length=a.states.toNat:=by simp [b_q]
theorem nextR_zero (a:Au):d_n a 0=outR a a.edges.length:=by simp [d_n,outR]
theorem nextR_all (a:Au):d_n a a.states.toNat=b_q a:=by
 rw [d_n,b_q]
 apply List.map_congr_left
 intro s hs
 rw [if_pos (List.mem_range.1 hs)]
theorem nextR_get (a:Au) {i:Nat} (h:i < a.states.toNat):(d_n a i).getD i default=outN a a.edges.length i:=by simp [d_n,List.getD,h]
theorem nextR_succ (a:Au) {i:Nat} (h:i < a.states.toNat):d_n a (i+1)=(d_n a i).set i (sc (outN a a.edges.length i)):=by
 apply List.ext_getElem
 ·simp [d_n]
 ·intro s h2 h3
  simp only [d_n,List.getElem_map,List.getElem_range,List.getElem_set]
  by_cases he:i=s
  ·subst he;simp
  ·rw [if_neg he]
   by_cases hs:s < i
   ·rw [if_pos hs,if_pos (by omega)]
   ·rw [if_neg hs,if_neg (by omega)]
structure GoodX (a:Au):Prop where
 st:1≤a.states∧a.states≤100000
 ed:a.edges.length≤400000
 ei:∀e∈a.edges,edIn a.states e=true
theorem GoodF.x {a:Au} (f:GoodF a):GoodX a:=⟨by have:=f.st;omega,by have:=f.ed;omega,f.ei⟩
theorem next_liveX (a:Au) (fa:GoodX a) {H:Heap} {K:k_} (h:∀x G D,LII (b_q a) x G D→New H G D→K x G):a_a Tryz.prog 31 [aAu a] H K:=by
 have hst:=fa.st
 have hed:=fa.ed
 refine a_a.finish ?_
 have hz:((a.states.toNat:Nat):Int)=a.states:=by omega
 refine W31_ok ?_;simp (maxSteps:=1000000) (disch:=first|assumption|apply Y6;assumption) only [W31,vz,vu,vv,eqS,eF_,↓c1_,↓c2_,tabs,reduceCtorEq,X5,↓reduceIte,Y1,Y2,Y3,Y4,Y5,X1,X2,X3,X4,mS_]
 intro r hr
 refine ⟨by omega,by omega,by omega,by omega,fun q hq1 hq=>?_⟩
 have st:=(St.nil H).cell hr [I a.states,Is a.first,Es a.edges,Ls a.goals]
 replace st:=d_l (n:=a.states.toNat) st (q:=q) (by rw [Heap.set_other hq1];exact hq)
 rw [← outR_zero] at st
 generalize (H.set r [I a.states,Is a.first,Es a.edges,Ls a.goals]).set q (zA_ a.states.toNat [.p .nil])=G1 at st ⊢
 (try simp (disch:=first|assumption|apply Y6;assumption) only [vz,vu,vv,eqS,eF_,↓c1_,↓c2_,tabs,reduceCtorEq,X5,↓reduceIte,Y1,Y2,Y3,Y4,Y5,X1,X2,X3,X4,lA_ (st.get 1 rfl)])
 refine L31_0_rule ((0:Nat),[q],G1) (fun s=>I s.1) (fun s=>s.2.2) (fun s=>s.1≤a.edges.length∧St H [tabT q (outR a s.1) s.2.1,cT_ r [I a.states,Is a.first,Es a.edges,Ls a.goals]] s.2.2) (fun s=>a.edges.length - s.1)
  ⟨⟨by simp,st⟩,.refl _,Heap.le_refl _⟩ ?_
 clear st
 rintro ⟨k,D,G⟩ ⟨hk,st⟩
 dsimp only at hk st
 (try simp (disch:=first|assumption|apply Y6;assumption) only [vz,vu,vv,eqS,eF_,↓c1_,↓c2_,tabs,reduceCtorEq,X5,↓reduceIte,Y1,Y2,Y3,Y4,Y5,X1,X2,X3,X4,B31_0])
 refine ⟨fun h1=>⟨by omega,h1,?_⟩,fun h1=>?_⟩
 ·have hlt:k < a.edges.length:=by omega
  have hm:a.edges.getD k default∈a.edges:=a_e (p:=fun x=>x∈a.edges) (fun _ h=>h) hlt
  have hei:=a_h.1 (fa.ei _ hm)
  have hsucc:=outR_succ a hlt (by omega) (by omega)
  generalize a.edges.getD k default=e at hei hsucc ⊢
  intro r5 hr5
  replace st:=st.cell hr5 [I e.src,I e.lt,I e.dst]
  generalize G.set r5 [I e.src,I e.lt,I e.dst]=G2 at st ⊢
  have hi:e.src.toNat < (outR a k).length:=by rw [c_3];omega
  obtain ⟨pre,c,post,Di,Dr,hpl,hpp,st⟩:=c_1 st 1 rfl hi
  rw [outR_get a k (by omega)] at st
  rw [c_3] at hpp
  simp only [List.eraseIdx_cons_succ,List.eraseIdx_cons_zero] at st
  have hG:=(st.get 1 rfl:(a_7 q pre c post _ _ Dr).P G2).1
  have hrd:=tab_rd (c:=c) (post:=post) hpl
  have hb:e.src.toNat*1+1≤pre.length+(post.length+1):=by omega
  have hsp:∀c',List.take (e.src.toNat*1) (pre++(c::post))++[c']++List.drop (e.src.toNat*1+1) (pre++(c::post))=pre++(c'::post):=fun c'=>tab_sp hpl
  (try simp (disch:=first|assumption|apply Y6;assumption) only [vz,vu,vv,eqS,eF_,↓c1_,↓c2_,tabs,reduceCtorEq,X5,↓reduceIte,Y1,Y2,Y3,Y4,Y5,X1,X2,X3,X4,lA_ (st.get 2 rfl)])
  refine ⟨by omega,by omega,?_⟩
  (try simp (disch:=first|assumption|apply Y6;assumption) only [vz,vu,vv,eqS,eF_,↓c1_,↓c2_,tabs,reduceCtorEq,X5,↓reduceIte,Y1,Y2,Y3,Y4,Y5,X1,X2,X3,X4,lA_ hG,hrd])
  refine ⟨hb,?_⟩
  refine lit1 a_g rfl a_u ⟨rfl,rfl⟩ ?_
  (try simp (disch:=first|assumption|apply Y6;assumption) only [vz,vu,vv,eqS,eF_,↓c1_,↓c2_,tabs,reduceCtorEq,X5,↓reduceIte,Y1,Y2,Y3,Y4,Y5,X1,X2,X3,X4,lA_ (st.get 2 rfl),lA_ hG,hrd])
  refine ⟨hb,?_⟩
  have hol:=d_M a k e.src.toNat
  refine d_m (ys:=[e.dst]) st 0 rfl (by simp only [List.length_cons,List.length_nil];omega) fun q' G' hq' st=>?_
  simp only [List.set_cons_zero] at st
  have hG:=(st.get 1 rfl:(a_7 q pre c post _ _ Dr).P G').1
  (try simp (disch:=first|assumption|apply Y6;assumption) only [vz,vu,vv,eqS,eF_,↓c1_,↓c2_,tabs,reduceCtorEq,X5,↓reduceIte,Y1,Y2,Y3,Y4,Y5,X1,X2,X3,X4,lA_ (st.get 2 rfl),sA_ hG])
  refine ⟨by omega,by omega,hb,?_⟩
  obtain ⟨D',st⟩:=e_a st hi
  rw [← hsucc] at st
  rw [hsp]
  simp only [rowP,List.length_append,List.length_singleton] at st
  refine ⟨(k+1,D',_),⟨by simp only;omega,st.erase 1⟩,by simp only;omega,?_,Heap.le_refl _⟩
  rw [a_r,i6_ (by omega) (by omega)];simp
 ·have:k=a.edges.length:=by omega
  subst this
  rw [← nextR_zero] at st
  (try simp (disch:=first|assumption|apply Y6;assumption) only [vz,vu,vv,eqS,eF_,↓c1_,↓c2_,tabs,reduceCtorEq,X5,↓reduceIte,Y1,Y2,Y3,Y4,Y5,X1,X2,X3,X4])
  refine L31_1_rule ((0:Nat),D,G) (fun s=>I s.1) (fun s=>s.2.2) (fun s=>s.1≤a.states.toNat∧St H [tabT q (d_n a s.1) s.2.1,cT_ r [I a.states,Is a.first,Es a.edges,Ls a.goals]] s.2.2) (fun s=>a.states.toNat - s.1)
   ⟨⟨by simp,st⟩,.refl _,Heap.le_refl _⟩ ?_
  clear st D
  rintro ⟨i,D,G⟩ ⟨hi,st⟩
  dsimp only at hi st
  (try simp (disch:=first|assumption|apply Y6;assumption) only [vz,vu,vv,eqS,eF_,↓c1_,↓c2_,tabs,reduceCtorEq,X5,↓reduceIte,Y1,Y2,Y3,Y4,Y5,X1,X2,X3,X4,B31_1])
  refine ⟨fun h1=>?_,fun h1=>?_⟩
  ·have hlt:i < a.states.toNat:=by omega
   have hsucc:=nextR_succ a hlt
   have hol:=d_M a a.edges.length i
   obtain ⟨pre,c,post,Di,Dr,hpl,hpp,st⟩:=c_1 st 0 rfl (by rw [e_d];exact hlt)
   rw [nextR_get a hlt] at st
   rw [e_d] at hpp
   simp only [List.eraseIdx_cons_zero] at st
   have hrd:=tab_rd (c:=c) (post:=post) hpl
   have hb:i*1+1≤pre.length+(post.length+1):=by omega
   have hsp:∀c',List.take (i*1) (pre++(c::post))++[c']++List.drop (i*1+1) (pre++(c::post))=pre++(c'::post):=fun c'=>tab_sp hpl
   have hG:=(st.get 1 rfl:(a_7 q pre c post _ _ Dr).P G).1
   generalize outN a a.edges.length i=l at st hsucc hol
   (try simp (disch:=first|assumption|apply Y6;assumption) only [vz,vu,vv,eqS,eF_,↓c1_,↓c2_,tabs,reduceCtorEq,X5,↓reduceIte,Y1,Y2,Y3,Y4,Y5,X1,X2,X3,X4,lA_ hG,hrd])
   refine ⟨by omega,h1,hb,?_⟩
   refine rn_sort st 0 rfl (by omega) fun G2 st=>?_
   simp only [List.set_cons_zero] at st
   have hsl:(srt l).length=l.length:=List.length_mergeSort ..
   have hG:=(st.get 1 rfl:(a_7 q pre c post _ _ Dr).P G2).1
   (try simp (disch:=first|assumption|apply Y6;assumption) only [vz,vu,vv,eqS,eF_,↓c1_,↓c2_,tabs,reduceCtorEq,X5,↓reduceIte,Y1,Y2,Y3,Y4,Y5,X1,X2,X3,X4,lA_ hG,hrd])
   refine ⟨by omega,h1,hb,?_⟩
   refine rn_compact st 0 rfl (by omega) fun x' G3 hx' st=>?_
   simp only [List.set_cons_zero] at st
   have hG:=(st.get 1 rfl:(a_7 q pre c post _ _ Dr).P G3).1
   obtain ⟨D',st⟩:=e_a st (by rw [e_d];exact hlt)
   have esc:Lib.compact (srt l)=sc l:=rfl
   rw [esc,← hsucc] at st
   rcases hx' with rfl | ⟨qx,rfl⟩
   ·(try simp (disch:=first|assumption|apply Y6;assumption) only [vz,vu,vv,eqS,eF_,↓c1_,↓c2_,tabs,reduceCtorEq,X5,↓reduceIte,Y1,Y2,Y3,Y4,Y5,X1,X2,X3,X4,sA_ hG])
    refine ⟨by omega,h1,hb,?_⟩
    rw [hsp]
    refine ⟨(i+1,D',_),⟨by simp only;omega,st⟩,by simp only;omega,?_,Heap.le_refl _⟩
    rw [a_r,i6_ (by omega) (by omega)];simp
   ·(try simp (disch:=first|assumption|apply Y6;assumption) only [vz,vu,vv,eqS,eF_,↓c1_,↓c2_,tabs,reduceCtorEq,X5,↓reduceIte,Y1,Y2,Y3,Y4,Y5,X1,X2,X3,X4,sA_ hG])
    refine ⟨by omega,h1,hb,?_⟩
    rw [hsp]
    refine ⟨(i+1,D',_),⟨by simp only;omega,st⟩,by simp only;omega,?_,Heap.le_refl _⟩
    rw [a_r,i6_ (by omega) (by omega)];simp
  ·have:i=a.states.toNat:=by omega
   subst this
   rw [nextR_all] at st
   have e:(b_q a).length=a.states.toNat:=c_4 a
   rw [← e]
   refine c_2 (fun G D s=>.done (h _ _ _ (s.get 0 rfl) ⟨s.ndT 0 rfl,s.fr _ (List.mem_cons_self ..),s.le⟩)) st
theorem next_live (a:Au) (fa:GoodF a) {H:Heap} {K:k_} (h:∀x G D,LII (b_q a) x G D→New H G D→K x G):a_a Tryz.prog 31 [aAu a] H K:=next_liveX a fa.x h
end Go.Proofs.YtohkciilfkhomaaGreat
namespace Go.Pt
inductive Rch (E:Nat→Nat→Prop):Nat→Nat→Prop
 | refl (a:Nat):Rch E a a
 | step {a b c:Nat} (h:E a b) (t:Rch E b c):Rch E a c
theorem Rch.trans {E:Nat→Nat→Prop} {a b c:Nat} (h:Rch E a b) (k:Rch E b c):Rch E a c:=by
 induction h with
 | refl=>exact k
 | step h t ih=>exact .step h (ih k)
theorem Rch.one {E:Nat→Nat→Prop} {a b:Nat} (h:E a b):Rch E a b:=.step h (.refl _)
theorem Rch.snoc {E:Nat→Nat→Prop} {a b c:Nat} (h:Rch E a b) (k:E b c):Rch E a c:=h.trans (.one k)
theorem Rch.leave {E:Nat→Nat→Prop} {P:Nat→Prop} {a b:Nat} (h:Rch E a b) (ha:P a) (hb:¬P b):∃x y,P x∧¬P y∧E x y∧Rch E a x∧Rch E y b:=by
 induction h with
 | refl=>exact absurd ha hb
 | @step a c b h t ih=>
  by_cases hc:P c
  ·obtain ⟨x,y,h1,h2,h3,h4,h5⟩:=ih hc hb
   exact ⟨x,y,h1,h2,h3,.step h h4,h5⟩
  ·exact ⟨a,c,ha,hc,h,.refl _,t⟩
theorem Rch.keep {E:Nat→Nat→Prop} {P:Nat→Prop} {a b:Nat} (h:Rch E a b) (ha:P a) (hk:∀x y,P x→E x y→P y):P b:=by
 induction h with
 | refl=>exact ha
 | step h t ih=>exact ih (hk _ _ ha h)
theorem Rch.rev {E:Nat→Nat→Prop} {a b:Nat} (h:Rch E a b):Rch (fun x y=>E y x) b a:=by
 induction h with
 | refl=>exact .refl _
 | step h t ih=>exact ih.snoc h
theorem Rch.mono {E F:Nat→Nat→Prop} {a b:Nat} (h:Rch E a b) (hk:∀x y,E x y→F x y):Rch F a b:=by
 induction h with
 | refl=>exact .refl _
 | step h t ih=>exact .step (hk _ _ h) ih
def Con (E:Nat→Nat→Prop) (a b:Nat):Prop:=Rch E a b∧Rch E b a
theorem Con.refl {E:Nat→Nat→Prop} (a:Nat):Con E a a:=⟨.refl _,.refl _⟩
theorem Con.symm {E:Nat→Nat→Prop} {a b:Nat} (h:Con E a b):Con E b a:=⟨h.2,h.1⟩
theorem Con.trans {E:Nat→Nat→Prop} {a b c:Nat} (h:Con E a b) (k:Con E b c):Con E a c:=⟨h.1.trans k.1,k.2.trans h.2⟩
theorem Con.rev {E:Nat→Nat→Prop} {a b:Nat} (h:Con E a b):Con (fun x y=>E y x) a b:=⟨h.2.rev,h.1.rev⟩
def c_g (E:Nat→Nat→Prop) (a m:Nat):Prop:=Con E a m∧∀u,Con E a u→m≤u
theorem c_g.uniq {E:Nat→Nat→Prop} {a m k:Nat} (h:c_g E a m) (h':c_g E a k):m=k:=Nat.le_antisymm (h.2 _ h'.1) (h'.2 _ h.1)
theorem c_g.ex (E:Nat→Nat→Prop) (a:Nat):∃m,c_g E a m:=by
 suffices h:∀n,(∃u,Con E a u∧u≤n)→∃m,c_g E a m from h a ⟨a,.refl a,Nat.le_refl _⟩
 intro n
 induction n with
 | zero=>rintro ⟨u,h1,h2⟩;exact ⟨u,h1,fun w _=>by omega⟩
 | succ n ih=>
  rintro ⟨u,h1,h2⟩
  by_cases h:∃u,Con E a u∧u≤n
  ·exact ih h
  ·exact ⟨u,h1,fun w hw=>Nat.le_of_not_lt fun hl=>h ⟨w,hw,by omega⟩⟩
noncomputable def a_n (E:Nat→Nat→Prop) (a:Nat):Nat:=Classical.choose (c_g.ex E a)
theorem b_r (E:Nat→Nat→Prop) (a:Nat):c_g E a (a_n E a):=Classical.choose_spec (c_g.ex E a)
theorem f_K {E:Nat→Nat→Prop} {a m:Nat} (h:c_g E a m):a_n E a=m:=(b_r E a).uniq h
theorem c_g.of_con {E:Nat→Nat→Prop} {a b m:Nat} (h:c_g E a m) (hc:Con E a b):c_g E b m:=⟨hc.symm.trans h.1,fun u hu=>h.2 u (hc.trans hu)⟩
theorem b_L {E:Nat→Nat→Prop} {a b:Nat}:a_n E a=a_n E b↔Con E a b:=by
 constructor
 ·intro h
  have h1:=(b_r E a).1
  rw [h] at h1
  exact h1.trans (b_r E b).1.symm
 ·intro h
  exact f_K ((b_r E b).of_con h.symm)
theorem partF_le (E:Nat→Nat→Prop) (a:Nat):a_n E a≤a:=(b_r E a).2 a (.refl a)
end Go.Pt
namespace Go.Pt
def updI (f:Nat→Int) (v:Nat) (x:Int):Nat→Int:=fun u=>if u=v then x else f u
theorem a_y (f:Nat→Int) (v:Nat) (x:Int):updI f v x v=x:=if_pos rfl
theorem a_A (f:Nat→Int) {u v:Nat} (x:Int) (h:u≠v):updI f v x u=f u:=if_neg h
structure TS where
 fd:Nat→Int
 lw:Nat→Int
 pt:Nat→Int
 st:List Nat
 vs:Int
def cntF (fd:Nat→Int) (n:Nat):Nat:=(List.range n).countP fun v=>decide (fd v≠0)
theorem cntF_le (fd:Nat→Int) (n:Nat):cntF fd n≤n:=by
 have:=List.countP_le_length (p:=fun v=>decide (fd v≠0)) (l:=List.range n)
 rwa [List.length_range] at this
theorem cntF_upd {fd:Nat→Int} {n v:Nat} {x:Int} (h:v < n) (h0:fd v=0) (hx:x≠0):cntF (updI fd v x) n=cntF fd n+1:=by
 unfold cntF
 induction n with
 | zero=>omega
 | succ n ih=>
  rw [List.range_succ,List.countP_append,List.countP_append]
  by_cases e:v=n
  ·subst e
   have:List.countP (fun u=>decide (updI fd v x u≠0)) (List.range v)=List.countP (fun u=>decide (fd u≠0)) (List.range v):=by
    apply List.countP_congr
    intro u hu
    have:=List.mem_range.1 hu
    rw [a_A _ _ (by omega)]
   rw [this]
   simp [a_y,h0,hx]
  ·rw [ih (by omega)]
   have:List.countP (fun u=>decide (updI fd v x u≠0)) [n]=List.countP (fun u=>decide (fd u≠0)) [n]:=by
    simp [a_A fd x (show n≠v by omega)]
   rw [this];omega
theorem cntF_lt {fd:Nat→Int} {n v:Nat} (h:v < n) (h0:fd v=0):cntF fd n < n:=by
 have h1:=cntF_upd h h0 (show (1:Int)≠0 by decide)
 have h2:=cntF_le (updI fd v 1) n
 omega
structure TInv (E:Nat→Nat→Prop) (n:Nat) (gray:List Nat) (s:TS):Prop where
 cnt:s.vs=cntF s.fd n
 fd0:∀v,0≤s.fd v
 fdv:∀v,s.fd v≤s.vs
 fdn:∀v,s.fd v≠0→v < n
 stp:s.st.Pairwise (fun u v=>s.fd u < s.fd v)
 stm:∀v,v∈s.st↔s.fd v≠0∧s.pt v < 0
 don:∀v,0≤s.pt v→s.fd v≠0∧(∃m:Nat,c_g E v m∧s.pt v=m)∧∀w,E v w→0≤s.pt w
 blk:∀v,s.fd v≠0→v∉gray→∀w,E v w→s.fd w≠0
 gst:∀x∈gray,x∈s.st
 gto:∀x∈gray,∀y∈s.st,s.fd x≤s.fd y→Rch E x y
 tog:∀y∈s.st,∃x∈gray,s.fd x≤s.fd y∧Rch E y x
structure TPost (E:Nat→Nat→Prop) (s s':TS) (v:Nat):Prop where
 fdk:∀u,s.fd u≠0→s'.fd u=s.fd u
 lwk:∀u,s.fd u≠0→s'.lw u=s.lw u
 new:∀u,s.fd u=0→s'.fd u≠0→s.vs < s'.fd u
 fv:s'.fd v≠0
 vs:s.vs≤s'.vs
 stk:∃s2,s'.st=s.st++s2∧(∀x∈s2,s.fd x=0)∧∀x∈s2,∀y∈s.st,E x y→s'.lw v≤s'.fd y
 low:s'.lw v≤s'.fd v
 lowv:v∉s'.st→s'.lw v=s'.fd v
 lows:v∈s'.st→∃y∈s'.st,s'.fd y=s'.lw v∧Rch E v y
structure TLoop (E:Nat→Nat→Prop) (n:Nat) (gray:List Nat) (s:TS) (v:Nat) (done:Nat→Prop) (t:TS):Prop where
 inv:TInv E n (v::gray) t
 fdk:∀u,s.fd u≠0→t.fd u=s.fd u
 lwk:∀u,s.fd u≠0→t.lw u=s.lw u
 new:∀u,s.fd u=0→t.fd u≠0→s.vs < t.fd u
 fv:t.fd v=s.vs+1
 vs:s.vs+1≤t.vs
 stk:∃s2,t.st=s.st++v::s2∧(∀x∈s2,s.fd x=0)∧∀x∈s2,∀y∈s.st,E x y→t.lw v≤t.fd y
 low:t.lw v≤t.fd v
 lows:∃y∈t.st,t.fd y=t.lw v∧Rch E v y
 don:∀w,done w→t.fd w≠0∧(w∈s.st→t.lw v≤t.fd w)
theorem TLoop.done {E:Nat→Nat→Prop} {n:Nat} {gray:List Nat} {s t:TS} {v:Nat} {d d':Nat→Prop} (h:TLoop E n gray s v d t) (hd:∀u,d' u→d u):TLoop E n gray s v d' t:=⟨h.inv,h.fdk,h.lwk,h.new,h.fv,h.vs,h.stk,h.low,h.lows,fun w hw=>h.don w (hd w hw)⟩
def TS.push (s:TS) (v:Nat):TS:=⟨updI s.fd v (s.vs+1),updI s.lw v (s.vs+1),s.pt,s.st++[v],s.vs+1⟩
def TS.low (t:TS) (v:Nat) (x:Int):TS:={ t with lw:=updI t.lw v x }
def TS.pop (t:TS) (S:List Nat) (st:List Nat) (m:Int):TS:={ t with pt:=fun u=>if u∈S then m else t.pt u,st:=st }
theorem TInv.vs0 {E:Nat→Nat→Prop} {n:Nat} {gray:List Nat} {s:TS} (h:TInv E n gray s):0≤s.vs:=by rw [h.cnt];omega
theorem TInv.lowI {E:Nat→Nat→Prop} {n:Nat} {gray:List Nat} {s:TS} (h:TInv E n gray s) (v:Nat) (x:Int):TInv E n gray (s.low v x):=⟨h.cnt,h.fd0,h.fdv,h.fdn,h.stp,h.stm,h.don,h.blk,h.gst,h.gto,h.tog⟩
theorem T_start {E:Nat→Nat→Prop} {n:Nat} {gray:List Nat} {s:TS} {v:Nat} (h:TInv E n gray s) (hv:v < n) (h0:s.fd v=0) (hr:∀x∈gray,Rch E x v):TLoop E n gray s v (fun _=>False) (s.push v):=by
 have hvs:=h.vs0
 have hfd:∀u,s.fd u≠0→(s.push v).fd u=s.fd u:=fun u hu=>a_A _ _ (fun e=>hu (e ▸ h0))
 have hfv:(s.push v).fd v=s.vs+1:=a_y _ _ _
 have hns:v∉s.st:=fun hm=>((h.stm v).1 hm).1 h0
 have hst:∀y∈s.st,(s.push v).fd y=s.fd y:=fun y hy=>hfd y ((h.stm y).1 hy).1
 have hpt:s.pt v < 0:=Int.not_le.1 fun hp=>(h.don v hp).1 h0
 refine ⟨⟨?_,?_,?_,?_,?_,?_,?_,?_,?_,?_,?_⟩,hfd,fun u hu=>a_A _ _ (fun e=>hu (e ▸ h0)),?_,hfv,Int.le_refl _,⟨[],rfl,by simp,by simp⟩,?_,⟨v,by simp [TS.push],?_,.refl _⟩,fun w hw=>hw.elim⟩
 ·show s.vs+1=_
  rw [show (s.push v).fd=updI s.fd v (s.vs+1) from rfl,cntF_upd hv h0 (by omega),h.cnt];rfl
 ·intro u
  by_cases e:u=v
  ·subst e;rw [hfv];omega
  ·show 0≤updI _ _ _ u;rw [a_A _ _ e];exact h.fd0 u
 ·intro u
  show _≤s.vs+1
  by_cases e:u=v
  ·subst e;rw [hfv];exact Int.le_refl _
  ·show updI _ _ _ u≤_;rw [a_A _ _ e];have:=h.fdv u;omega
 ·intro u hu
  by_cases e:u=v
  ·subst e;exact hv
  ·exact h.fdn u (by have:(s.push v).fd u=s.fd u:=a_A _ _ e;rwa [this] at hu)
 ·show (s.st++[v]).Pairwise _
  rw [List.pairwise_append]
  refine ⟨h.stp.imp_of_mem fun {a b} ha hb hab=>by rw [hst a ha,hst b hb];exact hab,by simp,fun a ha b hb=>?_⟩
  rw [List.mem_singleton] at hb;subst hb
  rw [hst a ha,hfv]
  have:=h.fdv a;omega
 ·intro u
  show u∈s.st++[v]↔_∧s.pt u < 0
  rw [List.mem_append,List.mem_singleton]
  by_cases e:u=v
  ·subst e;rw [hfv];exact ⟨fun _=>⟨by omega,hpt⟩,fun _=>.inr rfl⟩
  ·have e1:(s.push v).fd u=s.fd u:=a_A _ _ e
   rw [e1,← h.stm u];simp [e]
 ·intro u hu
  have:=h.don u hu
  exact ⟨by rw [hfd u this.1];exact this.1,this.2⟩
 ·intro u hu hg w hw
  simp only [List.mem_cons,not_or] at hg
  have e1:(s.push v).fd u=s.fd u:=a_A _ _ hg.1
  have:=h.blk u (e1 ▸ hu) hg.2 w hw
  rw [hfd w this];exact this
 ·intro x hx
  show x∈s.st++[v]
  rcases List.mem_cons.1 hx with rfl | hx
  ·simp
  ·exact List.mem_append_left _ (h.gst x hx)
 ·intro x hx y hy hxy
  have hy':y∈s.st∨y=v:=by simpa [TS.push] using hy
  rcases List.mem_cons.1 hx with rfl | hxg
  ·rcases hy' with hy' | rfl
   ·rw [hfv,hst y hy'] at hxy
    have:=h.fdv y;omega
   ·exact .refl _
  ·rcases hy' with hy' | rfl
   ·rw [hst y hy',hst x (h.gst x hxg)] at hxy
    exact h.gto x hxg y hy' hxy
   ·exact hr x hxg
 ·intro y hy
  have hy':y∈s.st∨y=v:=by simpa [TS.push] using hy
  rcases hy' with hy' | rfl
  ·obtain ⟨x,h1,h2,h3⟩:=h.tog y hy'
   exact ⟨x,List.mem_cons_of_mem _ h1,by rw [hst y hy',hst x (h.gst x h1)];exact h2,h3⟩
  ·exact ⟨y,List.mem_cons_self ..,Int.le_refl _,.refl _⟩
 ·intro u hu hu'
  by_cases e:u=v
  ·subst e;rw [hfv];omega
  ·have e1:(s.push v).fd u=s.fd u:=a_A _ _ e
   rw [e1] at hu';exact absurd hu hu'
 ·show updI _ _ _ v≤updI _ _ _ v;rw [a_y,a_y];exact Int.le_refl _
 ·show updI _ _ _ v=updI _ _ _ v;rw [a_y,a_y]
theorem T_low {E:Nat→Nat→Prop} {n:Nat} {gray:List Nat} {s t:TS} {v w:Nat} {done:Nat→Prop} {x:Int} (h:TLoop E n gray s v done t) (h0:s.fd v=0) (hx:x≤t.lw v) (hy:∃y∈t.st,t.fd y=x∧Rch E v y)
  (hw:t.fd w≠0∧(w∈s.st→x≤t.fd w)):TLoop E n gray s v (fun u=>done u∨u=w) (t.low v x):=by
 have hlw:(t.low v x).lw v=x:=a_y _ _ _
 obtain ⟨s2,h1,h2,h3⟩:=h.stk
 refine ⟨h.inv.lowI v x,h.fdk,fun u hu=>?_,h.new,h.fv,h.vs,⟨s2,h1,h2,fun a ha y hy e=>?_⟩,?_,?_,?_⟩
 ·rw [show (t.low v x).lw u=t.lw u from a_A _ _ (fun e=>hu (e ▸ h0))];exact h.lwk u hu
 ·rw [hlw];exact Int.le_trans hx (h3 a ha y hy e)
 ·rw [hlw];exact Int.le_trans hx h.low
 ·rw [hlw];exact hy
 ·intro u hu
  rw [hlw]
  rcases hu with hu | rfl
  ·exact ⟨(h.don u hu).1,fun hs=>Int.le_trans hx ((h.don u hu).2 hs)⟩
  ·exact hw
theorem T_back {E:Nat→Nat→Prop} {n:Nat} {gray:List Nat} {s t:TS} {v w:Nat} {done:Nat→Prop} (h:TLoop E n gray s v done t) (h0:s.fd v=0) (hE:E v w) (hf:t.fd w≠0) (hp:t.pt w < 0) :
  TLoop E n gray s v (fun u=>done u∨u=w) (t.low v (min (t.lw v) (t.fd w))):=by
 refine T_low h h0 (Int.min_le_left _ _) ?_ ⟨hf,fun _=>Int.min_le_right _ _⟩
 rcases Int.le_total (t.lw v) (t.fd w) with hle | hle
 ·rw [Int.min_eq_left hle];exact h.lows
 ·rw [Int.min_eq_right hle];exact ⟨w,(h.inv.stm w).2 ⟨hf,hp⟩,rfl,.one hE⟩
theorem T_skip {E:Nat→Nat→Prop} {n:Nat} {gray:List Nat} {s t:TS} {v w:Nat} {done:Nat→Prop} (h:TLoop E n gray s v done t) (hf:t.fd w≠0) (hp:0≤t.pt w):TLoop E n gray s v (fun u=>done u∨u=w) t:=by
 refine ⟨h.inv,h.fdk,h.lwk,h.new,h.fv,h.vs,h.stk,h.low,h.lows,fun u hu=>?_⟩
 rcases hu with hu | rfl
 ·exact h.don u hu
 ·refine ⟨hf,fun hs=>?_⟩
  obtain ⟨s2,h1,_,_⟩:=h.stk
  have:=(h.inv.stm u).1 (by rw [h1];exact List.mem_append_left _ hs)
  omega
theorem T_call {E:Nat→Nat→Prop} {n:Nat} {gray:List Nat} {s t t':TS} {v w:Nat} {done:Nat→Prop} (h:TLoop E n gray s v done t) (h0:s.fd v=0) (hi:TInv E n gray s) (hE:E v w) (hf:t.fd w=0) (h':TInv E n (v::gray) t') (p:TPost E t t' w) :
  TLoop E n gray s v (fun u=>done u∨u=w) (t'.low v (min (t'.lw v) (t'.lw w))):=by
 have hvs:=hi.vs0
 have hfv:t'.fd v=s.vs+1:=by rw [p.fdk v (by rw [h.fv];omega),h.fv]
 have hlv:t'.lw v=t.lw v:=p.lwk v (by rw [h.fv];omega)
 have hold:∀u,s.fd u≠0→t'.fd u=s.fd u:=fun u hu=>by rw [p.fdk u (by rw [h.fdk u hu];exact hu),h.fdk u hu]
 obtain ⟨s2,h1,h2,h3⟩:=h.stk
 obtain ⟨s3,g1,g2,g3⟩:=p.stk
 have hs0:∀y∈s.st,s.fd y≠0:=fun y hy=>((hi.stm y).1 hy).1
 have base:∀(x:Int),x≤t'.lw v→x≤t'.lw w→(∃y∈t'.st,t'.fd y=x∧Rch E v y)→TLoop E n gray s v (fun u=>done u∨u=w) (t'.low v x):=by
  intro x hx1 hx2 hx3
  have hlw:(t'.low v x).lw v=x:=a_y _ _ _
  refine ⟨h'.lowI v x,hold,fun u hu=>?_,fun u hu hu'=>?_,hfv,?_,⟨s2++s3,?_,?_,?_⟩,?_,?_,?_⟩
  ·rw [show (t'.low v x).lw u=t'.lw u from a_A _ _ (fun e=>hu (e ▸ h0)),p.lwk u (by rw [h.fdk u hu];exact hu),h.lwk u hu]
  ·by_cases e:t.fd u=0
   ·have:=p.new u e hu'
    have:=h.vs
    show s.vs < t'.fd u
    omega
   ·have:=h.new u hu e
    show s.vs < t'.fd u
    rw [p.fdk u e];exact this
  ·have:=h.vs;have:=p.vs;show s.vs+1≤t'.vs;omega
  ·show t'.st=_
   rw [g1,h1];simp
  ·intro y hy
   rcases List.mem_append.1 hy with hy | hy
   ·exact h2 y hy
   ·have:=g2 y hy
    exact Classical.byContradiction fun hne=>hne (by
     have e:=h.fdk y hne
     rw [this] at e;exact e.symm)
  ·intro a ha y hy e
   rw [hlw]
   show x≤t'.fd y
   have hty:t.fd y≠0:=by rw [h.fdk y (hs0 y hy)];exact hs0 y hy
   rcases List.mem_append.1 ha with ha | ha
   ·have:=h3 a ha y hy e
    rw [hlv] at hx1
    rw [p.fdk y hty]
    omega
   ·have:=g3 a ha y (by rw [h1];exact List.mem_append_left _ hy) e
    omega
  ·rw [hlw]
   show x≤t'.fd v
   have:=h.low
   rw [h.fv] at this
   rw [hfv];rw [hlv] at hx1;omega
  ·rw [hlw];exact hx3
  ·intro u hu
   rw [hlw]
   show t'.fd u≠0∧(u∈s.st→x≤t'.fd u)
   rcases hu with hu | rfl
   ·have:=h.don u hu
    rw [p.fdk u this.1]
    refine ⟨this.1,fun hs=>?_⟩
    have:=this.2 hs
    rw [hlv] at hx1;omega
   ·refine ⟨p.fv,fun hs=>?_⟩
    have e:=h.fdk u (hs0 u hs)
    rw [hf] at e
    exact absurd e.symm (hs0 u hs)
 refine base _ (Int.min_le_left _ _) (Int.min_le_right _ _) ?_
 have left:∃y∈t'.st,t'.fd y=t'.lw v∧Rch E v y:=by
  obtain ⟨y,k1,k2,k3⟩:=h.lows
  have hy:=((h.inv.stm y).1 k1).1
  exact ⟨y,by rw [g1];exact List.mem_append_left _ k1,by rw [p.fdk y hy,hlv];exact k2,k3⟩
 rcases Int.le_total (t'.lw v) (t'.lw w) with hle | hle
 ·rw [Int.min_eq_left hle];exact left
 ·by_cases hw:w∈t'.st
  ·rw [Int.min_eq_right hle]
   obtain ⟨y,k1,k2,k3⟩:=p.lows hw
   exact ⟨y,k1,k2,.step hE k3⟩
  ·have e1:=p.lowv hw
   have e2:=p.new w hf p.fv
   have e3:=h.low
   have e4:=h.inv.fdv v
   have:min (t'.lw v) (t'.lw w)=t'.lw v:=Int.min_eq_left (by omega)
   rw [this];exact left
theorem T_stay {E:Nat→Nat→Prop} {n:Nat} {gray:List Nat} {s t:TS} {v:Nat} {done:Nat→Prop} (h:TLoop E n gray s v done t) (hi:TInv E n gray s) (h0:s.fd v=0) (hd:∀w,E v w→done w) (hl:t.lw v < t.fd v) :
  TInv E n gray t∧TPost E s t v:=by
 have hvs:=hi.vs0
 obtain ⟨s2,h1,h2,h3⟩:=h.stk
 have hvst:v∈t.st:=by rw [h1];simp
 refine ⟨⟨h.inv.cnt,h.inv.fd0,h.inv.fdv,h.inv.fdn,h.inv.stp,h.inv.stm,h.inv.don,fun u hu hg w hw=>?_,fun x hx=>h.inv.gst x (List.mem_cons_of_mem _ hx),fun x hx=>h.inv.gto x (List.mem_cons_of_mem _ hx),fun y hy=>?_⟩,
  h.fdk,h.lwk,h.new,by rw [h.fv];omega,by have:=h.vs;omega,⟨v::s2,h1,?_,?_⟩,h.low,fun hn=>absurd hvst hn,fun _=>h.lows⟩
 ·by_cases e:u=v
  ·subst e;exact (h.don w (hd w hw)).1
  ·exact h.inv.blk u hu (by simp [e,hg]) w hw
 ·obtain ⟨x,k1,k2,k3⟩:=h.inv.tog y hy
  rcases List.mem_cons.1 k1 with rfl | k1
  ·obtain ⟨z,m1,m2,m3⟩:=h.lows
   obtain ⟨u,p1,p2,p3⟩:=h.inv.tog z m1
   rcases List.mem_cons.1 p1 with rfl | p1
   ·omega
   ·exact ⟨u,p1,by omega,k3.trans (m3.trans p3)⟩
  ·exact ⟨x,k1,k2,k3⟩
 ·intro x hx
  rcases List.mem_cons.1 hx with rfl | hx
  ·exact h0
  ·exact h2 x hx
 ·intro x hx y hy e
  rcases List.mem_cons.1 hx with rfl | hx
  ·exact (h.don y (hd y e)).2 hy
  ·exact h3 x hx y hy e
theorem T_pop {E:Nat→Nat→Prop} {n:Nat} {gray:List Nat} {s t:TS} {v:Nat} {done:Nat→Prop} (h:TLoop E n gray s v done t) (hi:TInv E n gray s) (h0:s.fd v=0) (hd:∀w,E v w→done w) (hl:¬t.lw v < t.fd v)
  {s2:List Nat} (h1:t.st=s.st++v::s2) {m:Nat} (hm:m∈v::s2) (hmin:∀u∈v::s2,m≤u) :
  TInv E n gray (t.pop (v::s2) s.st m)∧TPost E s (t.pop (v::s2) s.st m) v:=by
 have hvs:=hi.vs0
 obtain ⟨s2',h1',h2,h3⟩:=h.stk
 rw [h1] at h1'
 have e2:=List.append_cancel_left h1'
 injection e2 with _ e2
 subst e2
 have hs0:∀y∈s.st,s.fd y≠0:=fun y hy=>((hi.stm y).1 hy).1
 have hS0:∀y∈v::s2,s.fd y=0:=by
  intro y hy
  rcases List.mem_cons.1 hy with rfl | hy
  ·exact h0
  ·exact h2 y hy
 have hdis:∀y∈s.st,y∉v::s2:=fun y hy hy'=>hs0 y hy (hS0 y hy')
 have hSt:∀y∈v::s2,y∈t.st:=fun y hy=>by rw [h1];exact List.mem_append_right _ hy
 have hfv:∀y∈v::s2,t.fd v≤t.fd y:=by
  intro y hy
  have:=h.new y (hS0 y hy) ((h.inv.stm y).1 (hSt y hy)).1
  rw [h.fv];omega
 have hlow:t.lw v=t.fd v:=by have:=h.low;omega
 have hout:∀x∈v::s2,∀y,E x y→y∈v::s2∨0≤t.pt y:=by
  intro x hx y e
  by_cases hp:0≤t.pt y
  ·exact .inr hp
  ·have hfy:t.fd y≠0:=by
    by_cases ex:x=v
    ·subst ex;exact (h.don y (hd y e)).1
    ·refine h.inv.blk x ((h.inv.stm x).1 (hSt x hx)).1 ?_ y e
     intro hg
     rcases List.mem_cons.1 hg with hg | hg
     ·exact ex hg
     ·exact hdis x (hi.gst x hg) hx
   have hys:y∈t.st:=(h.inv.stm y).2 ⟨hfy,by omega⟩
   rw [h1] at hys
   rcases List.mem_append.1 hys with hyo | hyo
   ·exfalso
    have hlt:t.fd y < t.fd v:=by
     rw [h.fdk y (hs0 y hyo),h.fv]
     have:=hi.fdv y;omega
    have:t.lw v≤t.fd y:=by
     rcases List.mem_cons.1 hx with rfl | hxo
     ·exact (h.don y (hd y e)).2 hyo
     ·exact h3 x hxo y hyo e
    omega
   ·exact .inl hyo
 have hclo:∀x y,0≤t.pt x→Rch E x y→0≤t.pt y:=fun x y hx hr=>hr.keep (P:=fun z=>0≤t.pt z) hx fun a b ha hab=>(h.inv.don a ha).2.2 b hab
 have hneg:∀y∈t.st,¬0≤t.pt y:=fun y hy=>by have:=((h.inv.stm y).1 hy).2;omega
 have hvto:∀x∈v::s2,Rch E v x:=fun x hx=>h.inv.gto v (List.mem_cons_self ..) x (hSt x hx) (hfv x hx)
 have htov:∀x∈v::s2,Rch E x v:=by
  intro x hx
  obtain ⟨y,k1,k2,k3⟩:=h.inv.tog x (hSt x hx)
  rcases List.mem_cons.1 k1 with rfl | k1
  ·exact k3
  ·exfalso
   obtain ⟨a,b,p1,p2,p3,p4,p5⟩:=k3.leave (P:=fun z=>z∈v::s2) hx (hdis y (hi.gst y k1))
   rcases hout a p1 b p3 with q | q
   ·exact p2 q
   ·exact hneg y (h.inv.gst y (List.mem_cons_of_mem _ k1)) (hclo b y q p5)
 have hcon:∀x,Con E v x↔x∈v::s2:=by
  intro x
  constructor
  ·intro hc
   refine Classical.byContradiction fun hn=>?_
   obtain ⟨a,b,p1,p2,p3,p4,p5⟩:=hc.1.leave (P:=fun z=>z∈v::s2) (List.mem_cons_self ..) hn
   rcases hout a p1 b p3 with q | q
   ·exact p2 q
   ·exact hneg v (hSt v (List.mem_cons_self ..)) (hclo b v q (p5.trans hc.2))
  ·intro hx;exact ⟨hvto x hx,htov x hx⟩
 have hleast:∀x∈v::s2,c_g E x m:=by
  intro x hx
  have:c_g E v m:=⟨(hcon m).2 hm,fun u hu=>hmin u ((hcon u).1 hu)⟩
  exact this.of_con ((hcon x).2 hx)
 have hpS:∀x∈v::s2,(t.pop (v::s2) s.st m).pt x=m:=fun x hx=>if_pos hx
 have hpN:∀x,x∉v::s2→(t.pop (v::s2) s.st m).pt x=t.pt x:=fun x hx=>if_neg hx
 have hp0:∀x,0≤t.pt x→x∉v::s2:=fun x hx hxs=>hneg x (hSt x hxs) hx
 refine ⟨⟨h.inv.cnt,h.inv.fd0,h.inv.fdv,h.inv.fdn,?_,?_,?_,?_,hi.gst,?_,?_⟩,h.fdk,h.lwk,h.new,by show t.fd v≠0;rw [h.fv];omega,by have:=h.vs;show s.vs≤t.vs;omega,⟨[],by simp [TS.pop],by simp,by simp⟩,h.low,fun _=>hlow,?_⟩
 ·show s.st.Pairwise _
  refine hi.stp.imp_of_mem fun {a b} ha hb hab=>?_
  show t.fd a < t.fd b
  rw [h.fdk a (hs0 a ha),h.fdk b (hs0 b hb)];exact hab
 ·intro u
  show u∈s.st↔t.fd u≠0∧_
  by_cases hu:u∈v::s2
  ·rw [hpS u hu]
   exact ⟨fun hs=>absurd hu (hdis u hs),fun hk=>by omega⟩
  ·rw [hpN u hu,← h.inv.stm u,h1,List.mem_append]
   exact ⟨.inl,fun hk=>hk.resolve_right hu⟩
 ·intro u hu
  show t.fd u≠0∧_
  by_cases hus:u∈v::s2
  ·refine ⟨((h.inv.stm u).1 (hSt u hus)).1,⟨m,hleast u hus,hpS u hus⟩,fun w hw=>?_⟩
   rcases hout u hus w hw with q | q
   ·rw [hpS w q];omega
   ·rw [hpN w (hp0 w q)];exact q
  ·rw [hpN u hus] at hu ⊢
   obtain ⟨k1,k2,k3⟩:=h.inv.don u hu
   refine ⟨k1,k2,fun w hw=>?_⟩
   have:=k3 w hw
   rw [hpN w (hp0 w this)];exact this
 ·intro u hu hg w hw
  show t.fd w≠0
  by_cases e:u=v
  ·subst e;exact (h.don w (hd w hw)).1
  ·exact h.inv.blk u hu (by simp [e,hg]) w hw
 ·intro x hx y hy hxy
  refine hi.gto x hx y hy ?_
  have:t.fd x≤t.fd y:=hxy
  rw [h.fdk x (hs0 x (hi.gst x hx)),h.fdk y (hs0 y hy)] at this
  exact this
 ·intro y hy
  obtain ⟨x,k1,k2,k3⟩:=hi.tog y hy
  refine ⟨x,k1,?_,k3⟩
  show t.fd x≤t.fd y
  rw [h.fdk x (hs0 x (hi.gst x k1)),h.fdk y (hs0 y hy)];exact k2
 ·intro hv
  exact absurd (List.mem_cons_self ..) (hdis v hv)
def TS.zero:TS:=⟨fun _=>0,fun _=>0,fun _=>-1,[],0⟩
theorem T_zero (E:Nat→Nat→Prop) (n:Nat):TInv E n [] TS.zero:=by
 refine ⟨?_,fun _=>Int.le_refl _,fun _=>Int.le_refl _,fun v hv=>absurd rfl hv,.nil,fun v=>⟨fun h=>(by cases h),fun h=>absurd rfl h.1⟩,fun v hv=>(by have:(0:Int)≤-1:=hv;omega),fun v hv=>absurd rfl hv,fun x hx=>(by cases hx),fun x hx=>(by cases hx),fun y hy=>(by cases hy)⟩
 simp [TS.zero,cntF]
theorem T_end {E:Nat→Nat→Prop} {n:Nat} {s:TS} (h:TInv E n [] s) {v:Nat} (hv:s.fd v≠0):s.pt v=a_n E v:=by
 have hp:0≤s.pt v:=by
  refine Classical.byContradiction fun hn=>?_
  obtain ⟨x,hx,_⟩:=h.tog v ((h.stm v).2 ⟨hv,by omega⟩)
  cases hx
 obtain ⟨_,⟨m,hm,e⟩,_⟩:=h.don v hp
 rw [e,f_K hm]
end Go.Pt
namespace Go.Pt
structure BS where
 s:Nat→Int
 q:List Nat
def bput (d:Int) (b:BS) (w:Nat):BS:=if b.s w < 0 then ⟨updI b.s w d,b.q++[w]⟩ else b
def f_L (row:Nat→List Nat) (b:BS):BS:=
 match b.q with
 | []=>b
 | k::q=>(row k).foldl (bput (b.s k+1)) ⟨b.s,q⟩
def bini (some:List Nat):BS:=⟨fun v=>if v∈some then 0 else -1,some⟩
def bst (row:Nat→List Nat) (some:List Nat):Nat→BS
 | 0=>bini some
 | i+1=>f_L row (bst row some i)
theorem bst_stop {row:Nat→List Nat} {some:List Nat} {i:Nat} (h:(bst row some i).q=[]):∀j,i≤j→bst row some j=bst row some i:=by
 intro j
 induction j with
 | zero=>intro hj;rw [Nat.le_zero.1 hj]
 | succ j ih=>
  intro hj
  rcases Nat.lt_or_eq_of_le hj with hj | hj
  ·have:=ih (by omega)
   show f_L row (bst row some j)=_
   rw [this,f_L,h]
  ·rw [← hj]
def farF (row:Nat→List Nat) (n:Nat) (some:List Nat):Nat→Int:=(bst row some (n+some.length)).s
def cntU (s:Nat→Int) (n:Nat):Nat:=(List.range n).countP fun v=>decide (s v < 0)
theorem cntU_le (s:Nat→Int) (n:Nat):cntU s n≤n:=by
 have:=List.countP_le_length (p:=fun v=>decide (s v < 0)) (l:=List.range n)
 rwa [List.length_range] at this
theorem cntU_upd {s:Nat→Int} {n v:Nat} {x:Int} (h:v < n) (h0:s v < 0) (hx:0≤x):cntU (updI s v x) n+1=cntU s n:=by
 unfold cntU
 induction n with
 | zero=>omega
 | succ n ih=>
  rw [List.range_succ,List.countP_append,List.countP_append]
  by_cases e:v=n
  ·subst e
   have:List.countP (fun u=>decide (updI s v x u < 0)) (List.range v)=List.countP (fun u=>decide (s u < 0)) (List.range v):=by
    apply List.countP_congr
    intro u hu
    have:=List.mem_range.1 hu
    rw [a_A _ _ (by omega)]
   rw [this]
   have:¬x < 0:=by omega
   simp [a_y,h0,this]
  ·have:=ih (by omega)
   have e2:List.countP (fun u=>decide (updI s v x u < 0)) [n]=List.countP (fun u=>decide (s u < 0)) [n]:=by
    simp [a_A s x (show n≠v by omega)]
   rw [e2];omega
structure BInv (row:Nat→List Nat) (n:Nat) (some:List Nat) (i:Nat) (b:BS):Prop where
 lo:∀v,-1≤b.s v
 hi:∀v,b.s v≤i
 z:∀v,b.s v=0↔v∈some
 pre:∀v,0 < b.s v→∃u,v∈row u∧b.s v=b.s u+1
 qq:∀v,0≤b.s v→v∈b.q∨∀w∈row v,0≤b.s w
 qs:∀v∈b.q,0≤b.s v
 lt:∀v,0≤b.s v→v < n
 ms:b.q.length+cntU b.s n+i≤n+some.length
structure BRow (n:Nat) (k:Nat) (d:Int) (b0:BS) (l:List Nat) (b:BS):Prop where
 old:∀v,0≤b0.s v→b.s v=b0.s v
 new:∀v,b0.s v < 0→b.s v=b0.s v∨(b.s v=d∧v∈l∧v < n∧v∈b.q)
 inq:∀v∈b.q,v∈b0.q∨0≤b.s v
 keep:∀v∈b0.q,v∈b.q
 all:∀v∈l,0≤b.s v
 ms:b.q.length+cntU b.s n=b0.q.length+cntU b0.s n
theorem BRow.nil (n k:Nat) (d:Int) (b:BS):BRow n k d b [] b:=⟨fun _ _=>rfl,fun _ _=>.inl rfl,fun _ h=>.inl h,fun _ h=>h,fun _ h=>(by cases h),rfl⟩
theorem BRow.snoc {n k:Nat} {d:Int} {b0 b:BS} {l:List Nat} {w:Nat} (h:BRow n k d b0 l b) (hd:0≤d) (hw:w < n):BRow n k d b0 (l++[w]) (bput d b w):=by
 unfold bput
 split
 ·rename_i hn
  have hw0:b0.s w < 0:=Int.not_le.1 fun hk=>by have:=h.old w hk;omega
  refine ⟨fun v hv=>?_,fun v hv=>?_,fun v hv=>?_,fun v hv=>List.mem_append_left _ (h.keep v hv),fun v hv=>?_,?_⟩
  ·have:v≠w:=fun e=>by subst e;omega
   show updI _ _ _ v=_;rw [a_A _ _ this];exact h.old v hv
  ·show updI _ _ _ v=_∨_
   by_cases e:v=w
   ·subst e
    exact .inr ⟨a_y _ _ _,by simp,hw,by simp⟩
   ·rcases h.new v hv with k1 | ⟨k1,k2,k3,k4⟩
    ·exact .inl (by rw [a_A _ _ e];exact k1)
    ·exact .inr ⟨by show updI _ _ _ v=_;rw [a_A _ _ e];exact k1,List.mem_append_left _ k2,k3,List.mem_append_left _ k4⟩
  ·show _∨0≤updI _ _ _ v
   by_cases e:v=w
   ·subst e;rw [a_y];exact .inr hd
   ·rcases List.mem_append.1 hv with hv | hv
    ·rcases h.inq v hv with k1 | k1
     ·exact .inl k1
     ·exact .inr (by rw [a_A _ _ e];exact k1)
    ·exact absurd (List.mem_singleton.1 hv) e
  ·show 0≤updI _ _ _ v
   by_cases e:v=w
   ·subst e;rw [a_y];exact hd
   ·rw [a_A _ _ e]
    rcases List.mem_append.1 hv with hv | hv
    ·exact h.all v hv
    ·exact absurd (List.mem_singleton.1 hv) e
  ·have:=cntU_upd hw hn hd
   have:=h.ms
   simp only [List.length_append,List.length_singleton]
   omega
 ·rename_i hn
  refine ⟨h.old,fun v hv=>?_,h.inq,h.keep,fun v hv=>?_,h.ms⟩
  ·rcases h.new v hv with k1 | ⟨k1,k2,k3,k4⟩
   ·exact .inl k1
   ·exact .inr ⟨k1,List.mem_append_left _ k2,k3,k4⟩
  ·rcases List.mem_append.1 hv with hv | hv
   ·exact h.all v hv
   ·rw [List.mem_singleton] at hv;subst hv;omega
theorem BRow.fold {n k:Nat} {d:Int} {b0:BS} (hd:0≤d):∀{l:List Nat},(∀w∈l,w < n)→BRow n k d b0 l (l.foldl (bput d) b0):=by
 suffices h:∀(l l':List Nat) (b:BS),BRow n k d b0 l' b→(∀w∈l,w < n)→BRow n k d b0 (l'++l) (l.foldl (bput d) b) from fun {l} hl=>by simpa using h l [] b0 (BRow.nil n k d b0) hl
 intro l
 induction l with
 | nil=>intro l' b h _;simpa using h
 | cons a l ih=>
  intro l' b h hl
  have:=ih (l'++[a]) _ (h.snoc hd (hl a (List.mem_cons_self ..))) fun w hw=>hl w (List.mem_cons_of_mem _ hw)
  simpa using this
theorem B_ini {row:Nat→List Nat} {n:Nat} {some:List Nat} (h:∀v∈some,v < n):BInv row n some 0 (bini some):=by
 have hs:∀v,(bini some).s v=if v∈some then 0 else -1:=fun v=>rfl
 refine ⟨fun v=>?_,fun v=>?_,fun v=>?_,fun v hv=>?_,fun v hv=>?_,fun v hv=>?_,fun v hv=>?_,?_⟩
 ·rw [hs];split<;>omega
 ·rw [hs];split<;>omega
 ·rw [hs];split<;>simp_all
 ·rw [hs] at hv;split at hv<;>omega
 ·rw [hs] at hv;split at hv
  ·exact .inl (by assumption)
  ·omega
 ·have:v∈some:=hv
  rw [hs,if_pos this];exact Int.le_refl _
 ·rw [hs] at hv;split at hv
  ·exact h v (by assumption)
  ·omega
 ·have:=cntU_le (bini some).s n
  show some.length+_+0≤_
  omega
theorem B_step {row:Nat→List Nat} {n:Nat} {some:List Nat} {i:Nat} {b:BS} (hn:∀v,∀w∈row v,w < n) (h:BInv row n some i b) (hq:b.q≠[]):BInv row n some (i+1) (f_L row b):=by
 unfold f_L
 split
 ·rename_i e;exact absurd e hq
 ·rename_i k q e
  have hk:0≤b.s k:=h.qs k (by rw [e];exact List.mem_cons_self ..)
  have hki:=h.hi k
  have r:=BRow.fold (n:=n) (k:=k) (d:=b.s k+1) (b0:=⟨b.s,q⟩) (by omega) (hn k)
  generalize (row k).foldl (bput (b.s k+1)) ⟨b.s,q⟩=c at r ⊢
  have hnew:∀v,0≤c.s v→0≤b.s v∧c.s v=b.s v∨(c.s v=b.s k+1∧v∈row k∧v < n∧v∈c.q):=by
   intro v hv
   by_cases hb:0≤b.s v
   ·exact .inl ⟨hb,r.old v hb⟩
   ·rcases r.new v (by show b.s v < 0;omega) with k1 | k1
    ·have:c.s v=b.s v:=k1
     omega
    ·exact .inr k1
  refine ⟨fun v=>?_,fun v=>?_,fun v=>?_,fun v hv=>?_,fun v hv=>?_,fun v hv=>?_,fun v hv=>?_,?_⟩
  ·by_cases hb:0≤c.s v
   ·omega
   ·by_cases hc:0≤b.s v
    ·have:=r.old v hc
     have:c.s v=b.s v:=this
     omega
    ·rcases r.new v (by show b.s v < 0;omega) with k1 | ⟨k1,_⟩
     ·have:c.s v=b.s v:=k1
      rw [this];exact h.lo v
     ·omega
  ·by_cases hb:0≤c.s v
   ·rcases hnew v hb with ⟨_,k1⟩ | ⟨k1,_⟩
    ·have:=h.hi v;omega
    ·omega
   ·omega
  ·rw [← h.z v]
   constructor
   ·intro hz
    rcases hnew v (by omega) with ⟨_,k1⟩ | ⟨k1,_⟩<;>omega
   ·intro hz
    have:=r.old v (by show 0≤b.s v;omega)
    have:c.s v=b.s v:=this
    omega
  ·rcases hnew v (by omega) with ⟨k0,k1⟩ | ⟨k1,k2,_⟩
   ·obtain ⟨u,u1,u2⟩:=h.pre v (by omega)
    refine ⟨u,u1,?_⟩
    have:c.s u=b.s u:=r.old u (by show 0≤b.s u;omega)
    omega
   ·refine ⟨k,k2,?_⟩
    have:c.s k=b.s k:=r.old k hk
    omega
  ·rcases hnew v hv with ⟨k0,k1⟩ | ⟨k1,k2,k3,k4⟩
   ·by_cases ek:v=k
    ·subst ek
     exact .inr fun w hw=>r.all w hw
    ·rcases h.qq v k0 with k2 | k2
     ·rw [e] at k2
      exact .inl (r.keep v ((List.mem_cons.1 k2).resolve_left ek))
     ·refine .inr fun w hw=>?_
      have:=k2 w hw
      have:c.s w=b.s w:=r.old w this
      omega
   ·exact .inl k4
  ·rcases r.inq v hv with k1 | k1
   ·have k2:=h.qs v (by rw [e];exact List.mem_cons_of_mem _ k1)
    have:c.s v=b.s v:=r.old v k2
    omega
   ·exact k1
  ·rcases hnew v hv with ⟨k0,k1⟩ | ⟨k1,k2,k3,k4⟩
   ·exact h.lt v k0
   ·exact k3
  ·have h1:=r.ms
   have h2:=h.ms
   rw [e,List.length_cons] at h2
   simp only at h1
   omega
theorem B_inv {row:Nat→List Nat} {n:Nat} {some:List Nat} (hn:∀v,∀w∈row v,w < n) (h:∀v∈some,v < n):∀i,(∃j,j≤i∧(bst row some j).q=[]∧BInv row n some j (bst row some j))∨BInv row n some i (bst row some i):=by
 intro i
 induction i with
 | zero=>exact .inr (B_ini h)
 | succ i ih=>
  rcases ih with ⟨j,h1,h2⟩ | h1
  ·exact .inl ⟨j,by omega,h2⟩
  ·by_cases hq:(bst row some i).q=[]
   ·exact .inl ⟨i,by omega,hq,h1⟩
   ·exact .inr (B_step hn h1 hq)
theorem f_M {row:Nat→List Nat} {n:Nat} {some:List Nat} (hn:∀v,∀w∈row v,w < n) (h:∀v∈some,v < n):∃i,i≤n+some.length∧BInv row n some i (bst row some i)∧(bst row some i).q=[]∧farF row n some=(bst row some i).s:=by
 rcases B_inv hn h (n+some.length) with ⟨j,h1,h2,h3⟩ | h1
 ·exact ⟨j,h1,h3,h2,by rw [farF,bst_stop h2 _ h1]⟩
 ·refine ⟨_,Nat.le_refl _,h1,?_,rfl⟩
  have:=h1.ms
  exact List.length_eq_zero_iff.1 (by omega)
theorem far_of {row:Nat→List Nat} {n:Nat} {some:List Nat} {i:Nat} (hi:i≤n+some.length) (hq:(bst row some i).q=[]):farF row n some=(bst row some i).s:=by rw [farF,bst_stop hq _ hi]
theorem d_o {row:Nat→List Nat} {n:Nat} {some:List Nat} (hn:∀v,∀w∈row v,w < n) (h:∀v∈some,v < n) (v:Nat):0≤farF row n some v↔∃u∈some,Rch (fun a b=>b∈row a) u v:=by
 obtain ⟨i,_,b,hq,e⟩:=f_M hn h
 rw [e]
 constructor
 ·have:∀(m:Nat) (v:Nat),(bst row some i).s v=m→∃u∈some,Rch (fun a b=>b∈row a) u v:=by
   intro m
   induction m with
   | zero=>intro v hv;exact ⟨v,(b.z v).1 (by simpa using hv),.refl _⟩
   | succ m ih=>
    intro v hv
    obtain ⟨u,u1,u2⟩:=b.pre v (by omega)
    obtain ⟨x,x1,x2⟩:=ih u (by omega)
    exact ⟨x,x1,x2.snoc u1⟩
  intro hv
  exact this ((bst row some i).s v).toNat v (by omega)
 ·rintro ⟨u,u1,u2⟩
  refine u2.keep (P:=fun v=>0≤(bst row some i).s v) (by have:=(b.z u).2 u1;omega) fun x y hx hxy=>?_
  rcases b.qq x hx with k | k
  ·rw [hq] at k;cases k
  ·exact k y hxy
theorem far_pre {row:Nat→List Nat} {n:Nat} {some:List Nat} (hn:∀v,∀w∈row v,w < n) (h:∀v∈some,v < n) {v:Nat} (hv:0 < farF row n some v):∃u,v∈row u∧farF row n some v=farF row n some u+1:=by
 obtain ⟨i,_,b,hq,e⟩:=f_M hn h
 rw [e] at hv ⊢
 exact b.pre v hv
theorem far_zero {row:Nat→List Nat} {n:Nat} {some:List Nat} (hn:∀v,∀w∈row v,w < n) (h:∀v∈some,v < n) (v:Nat):farF row n some v=0↔v∈some:=by
 obtain ⟨i,_,b,hq,e⟩:=f_M hn h
 rw [e];exact b.z v
theorem far_bd {row:Nat→List Nat} {n:Nat} {some:List Nat} (hn:∀v,∀w∈row v,w < n) (h:∀v∈some,v < n) (v:Nat):-1≤farF row n some v∧farF row n some v≤n+some.length∧(0≤farF row n some v→v < n):=by
 obtain ⟨i,hi,b,hq,e⟩:=f_M hn h
 rw [e]
 have:=b.hi v
 exact ⟨b.lo v,by omega,b.lt v⟩
end Go.Pt
namespace Go.Pt
abbrev aO_ (row:Nat→List Nat) (a b:Nat):Prop:=b∈row a
def b_3 (s:Nat→Int) (best:Int) (v:Nat):Int:=if 0≤s v∧(best < 0∨s v < s best.toNat) then (v:Int) else best
def a_v (s:Nat→Int) (l:List Nat):Int:=l.foldl (b_3 s) (-1)
theorem c_p (s:Nat→Int) (l:List Nat) (v:Nat):a_v s (l++[v])=b_3 s (a_v s l) v:=by simp [a_v]
theorem snocInd {α:Type} {P:List α→Prop} (h0:P []) (h1:∀l a,P l→P (l++[a])) (l:List α):P l:=by
 have:∀l:List α,P l.reverse:=by
  intro l
  induction l with
  | nil=>exact h0
  | cons a l ih=>rw [List.reverse_cons];exact h1 _ _ ih
 have h:=this l.reverse
 rwa [List.reverse_reverse] at h
theorem a_8 (s:Nat→Int) (l:List Nat):(a_v s l=-1∧∀v∈l,s v < 0)∨∃v∈l,a_v s l=(v:Int)∧0≤s v∧∀u∈l,0≤s u→s v≤s u:=by
 induction l using snocInd with
 | h0=>exact .inl ⟨rfl,fun v hv=>by cases hv⟩
 | h1 l a ih=>
  rw [c_p]
  unfold b_3
  rcases ih with ⟨e,h⟩ | ⟨v,hv,e,h,hm⟩
  ·rw [e]
   by_cases ha:0≤s a
   ·rw [if_pos ⟨ha,.inl (by omega)⟩]
    refine .inr ⟨a,by simp,rfl,ha,fun u hu h0=>?_⟩
    rcases List.mem_append.1 hu with hu | hu
    ·have:=h u hu;omega
    ·rw [List.mem_singleton] at hu;subst hu;exact Int.le_refl _
   ·rw [if_neg (fun k=>ha k.1)]
    refine .inl ⟨rfl,fun u hu=>?_⟩
    rcases List.mem_append.1 hu with hu | hu
    ·exact h u hu
    ·rw [List.mem_singleton] at hu;subst hu;omega
  ·rw [e]
   simp only [Int.toNat_natCast]
   by_cases hc:0≤s a∧((v:Int) < 0∨s a < s v)
   ·rw [if_pos hc]
    refine .inr ⟨a,by simp,rfl,hc.1,fun u hu h0=>?_⟩
    rcases List.mem_append.1 hu with hu | hu
    ·have:=hm u hu h0;omega
    ·rw [List.mem_singleton] at hu;subst hu;exact Int.le_refl _
   ·rw [if_neg hc]
    refine .inr ⟨v,List.mem_append_left _ hv,rfl,h,fun u hu h0=>?_⟩
    rcases List.mem_append.1 hu with hu | hu
    ·exact hm u hu h0
    ·rw [List.mem_singleton] at hu;subst hu
     omega
theorem bestF_neg {s:Nat→Int} {l:List Nat} (h:a_v s l < 0):a_v s l=-1∧∀v∈l,s v < 0:=by
 rcases a_8 s l with h1 | ⟨v,_,e,_⟩
 ·exact h1
 ·omega
theorem e_e {s:Nat→Int} {l:List Nat} (h:¬a_v s l < 0):∃v∈l,a_v s l=(v:Int)∧0≤s v:=by
 rcases a_8 s l with ⟨e,_⟩ | ⟨v,h1,h2,h3,_⟩
 ·omega
 ·exact ⟨v,h1,h2,h3⟩
def nxtF (s:Nat→Int) (row:Nat→List Nat) (v:Nat):Nat:=((row v).find? fun w=>decide (s w=s v - 1)).getD 0
def itF (s:Nat→Int) (row:Nat→List Nat) (v:Nat):Nat→Nat
 | 0=>v
 | k+1=>nxtF s row (itF s row v k)
def wayF (s:Nat→Int) (row:Nat→List Nat) (v:Nat):List Nat:=(List.range ((s v).toNat+1)).map (itF s row v)
structure Near (s:Nat→Int) (row:Nat→List Nat):Prop where
 nx:∀v,0 < s v→∃w∈row v,s w=s v - 1
theorem nxtF_spec {s:Nat→Int} {row:Nat→List Nat} (h:Near s row) {v:Nat} (hv:0 < s v):(row v).find? (fun w=>decide (s w=s v - 1))=some (nxtF s row v)∧nxtF s row v∈row v∧s (nxtF s row v)=s v - 1:=by
 obtain ⟨w,h1,h2⟩:=h.nx v hv
 unfold nxtF
 cases e:(row v).find? fun w=>decide (s w=s v - 1) with
 | none=>rw [List.find?_eq_none] at e;exact absurd (by simpa using h2) (e w h1)
 | some x=>
  have k1:=List.mem_of_find?_eq_some e
  have k2:=List.find?_some e
  exact ⟨rfl,k1,by simpa using k2⟩
theorem itF_s {s:Nat→Int} {row:Nat→List Nat} (h:Near s row) {v:Nat}:∀k:Nat,(k:Int)≤s v→s (itF s row v k)=s v - k
 | 0,_=>by simp [itF]
 | k+1,hk=>by
  have ih:=itF_s h (v:=v) k (by omega)
  have:=(nxtF_spec h (v:=itF s row v k) (by omega)).2.2
  simp only [itF]
  omega
theorem itF_arc {s:Nat→Int} {row:Nat→List Nat} (h:Near s row) {v k:Nat} (hk:(k:Int) < s v):itF s row v (k+1)∈row (itF s row v k):=by
 have:=itF_s h (v:=v) k (by omega)
 exact (nxtF_spec h (v:=itF s row v k) (by omega)).2.1
theorem d_N (s:Nat→Int) (row:Nat→List Nat) (v:Nat):(wayF s row v).length=(s v).toNat+1:=by simp [wayF]
def Way (row:Nat→List Nat) (l:List Nat):Prop:=∀i,i+1 < l.length→l.getD (i+1) 0∈row (l.getD i 0)
theorem d_O (s:Nat→Int) (row:Nat→List Nat) (v:Nat) {i:Nat} (h:i < (s v).toNat+1):(wayF s row v).getD i 0=itF s row v i:=by simp [wayF,List.getD,h]
theorem wayF_way {s:Nat→Int} {row:Nat→List Nat} (h:Near s row) (v:Nat):Way row (wayF s row v):=by
 intro i hi
 rw [d_N] at hi
 rw [d_O _ _ _ hi,d_O _ _ _ (by omega)]
 exact itF_arc h (by omega)
theorem wayF_last {s:Nat→Int} {row:Nat→List Nat} (h:Near s row) {v:Nat} (h0:0≤s v):s ((wayF s row v).getD (s v).toNat 0)=0:=by
 rw [d_O _ _ _ (by omega)]
 have:=itF_s h (v:=v) (s v).toNat (by omega)
 omega
def e_J (row:Nat→List Nat) (n:Nat) (w:Nat):List Nat:=(List.range n).flatMap fun v=>((row v).filter fun u=>decide (u=w)).map fun _=>v
theorem c_5 {row:Nat→List Nat} {n w v:Nat}:v∈e_J row n w↔v < n∧w∈row v:=by
 simp only [e_J,List.mem_flatMap,List.mem_range,List.mem_map,List.mem_filter,decide_eq_true_eq]
 constructor
 ·rintro ⟨a,h1,⟨u,⟨h2,rfl⟩,rfl⟩⟩;exact ⟨h1,h2⟩
 ·rintro ⟨h1,h2⟩;exact ⟨v,h1,w,⟨h2,rfl⟩,rfl⟩
structure GrOk (row:Nat→List Nat) (n:Nat):Prop where
 lt:∀v,∀w∈row v,w < n
 out:∀v,n≤v→row v=[]
theorem GrOk.src {row:Nat→List Nat} {n:Nat} (h:GrOk row n) {v w:Nat} (hw:w∈row v):v < n:=by
 refine Nat.lt_of_not_le fun hk=>?_
 rw [h.out v hk] at hw;cases hw
theorem c_L {row:Nat→List Nat} {n:Nat} (h:GrOk row n):GrOk (e_J row n) n:=by
 refine ⟨fun v w hw=>(c_5.1 hw).1,fun v hv=>?_⟩
 rw [List.eq_nil_iff_forall_not_mem]
 intro w hw
 have:=h.lt w v (c_5.1 hw).2
 omega
theorem c_q {row:Nat→List Nat} {n:Nat} (h:GrOk row n) {v w:Nat}:v∈e_J row n w↔w∈row v:=⟨fun k=>(c_5.1 k).2,fun k=>c_5.2 ⟨h.src k,k⟩⟩
def toF (row:Nat→List Nat) (n:Nat) (to:List Nat):Nat→Int:=farF (e_J row n) n to
theorem toF_near {row:Nat→List Nat} {n:Nat} {to:List Nat} (h:GrOk row n) (ht:∀v∈to,v < n):Near (toF row n to) row:=by
 refine ⟨fun v hv=>?_⟩
 obtain ⟨u,h1,h2⟩:=far_pre (c_L h).lt ht hv
 exact ⟨u,(c_q h).1 h1,by unfold toF;omega⟩
theorem toF_iff {row:Nat→List Nat} {n:Nat} {to:List Nat} (h:GrOk row n) (ht:∀v∈to,v < n) (v:Nat):0≤toF row n to v↔∃u∈to,Rch (aO_ row) v u:=by
 unfold toF
 rw [d_o (c_L h).lt ht]
 constructor
 ·rintro ⟨u,h1,h2⟩
  exact ⟨u,h1,h2.rev.mono fun x y k=>(c_q h).1 k⟩
 ·rintro ⟨u,h1,h2⟩
  exact ⟨u,h1,h2.rev.mono fun x y k=>(c_q h).2 k⟩
theorem toF_zero {row:Nat→List Nat} {n:Nat} {to:List Nat} (h:GrOk row n) (ht:∀v∈to,v < n) (v:Nat):toF row n to v=0↔v∈to:=far_zero (c_L h).lt ht v
theorem toF_bd {row:Nat→List Nat} {n:Nat} {to:List Nat} (h:GrOk row n) (ht:∀v∈to,v < n) (v:Nat):-1≤toF row n to v∧toF row n to v≤n+to.length∧(0≤toF row n to v→v < n):=far_bd (c_L h).lt ht v
def b_h (row:Nat→List Nat) (n:Nat) (some to:List Nat):List Nat:=if a_v (toF row n to) some < 0 then [] else wayF (toF row n to) row (a_v (toF row n to) some).toNat
structure LWay (row:Nat→List Nat) (some to:List Nat) (l:List Nat):Prop where
 pos:0 < l.length
 fst:l.getD 0 0∈some
 way:Way row l
 lst:l.getD (l.length - 1) 0∈to
theorem b_M {row:Nat→List Nat} {n:Nat} {some to:List Nat} (h:GrOk row n) (ht:∀v∈to,v < n) (hb:¬a_v (toF row n to) some < 0):LWay row some to (b_h row n some to)∧(b_h row n some to).length≤n+to.length+1:=by
 obtain ⟨v,h1,h2,h3⟩:=e_e hb
 have e:b_h row n some to=wayF (toF row n to) row v:=by rw [b_h,if_neg hb,h2,Int.toNat_natCast]
 rw [e]
 have hn:=toF_near h ht
 refine ⟨⟨by rw [d_N];omega,?_,wayF_way hn v,?_⟩,?_⟩
 ·rw [d_O _ _ _ (by omega)];exact h1
 ·rw [d_N,Nat.add_sub_cancel,← toF_zero h ht]
  exact wayF_last hn h3
 ·rw [d_N]
  have:=toF_bd h ht v
  omega
theorem d_p {row:Nat→List Nat} {n:Nat} {some to:List Nat} (h:GrOk row n) (ht:∀v∈to,v < n) {a b:Nat} (ha:a∈some) (hb:b∈to) (hr:Rch (aO_ row) a b):¬a_v (toF row n to) some < 0:=by
 intro hk
 have:=(bestF_neg hk).2 a ha
 have:=(toF_iff h ht a).2 ⟨b,hb,hr⟩
 omega
theorem Way.rch {row:Nat→List Nat} {l:List Nat} (h:Way row l):∀{i j:Nat},i≤j→j < l.length→Rch (aO_ row) (l.getD i 0) (l.getD j 0):=by
 intro i j hij
 induction j with
 | zero=>intro _;rw [Nat.le_zero.1 hij];exact .refl _
 | succ j ih=>
  intro hj
  rcases Nat.lt_or_eq_of_le hij with hlt | rfl
  ·exact (ih (by omega) (by omega)).snoc (h j hj)
  ·exact .refl _
def FairP (row:Nat→List Nat) (goals:List (List Nat)) (v:Nat):Prop:=
 (∃a b,Con (aO_ row) v a∧Con (aO_ row) v b∧b∈row a)∧∀g∈goals,∃x∈g,Con (aO_ row) v x
open Classical in
noncomputable def a_s (row:Nat→List Nat) (goals:List (List Nat)) (v:Nat):Bool:=decide (FairP row goals v)
theorem c_h {row:Nat→List Nat} {goals:List (List Nat)} {v:Nat}:a_s row goals v=true↔FairP row goals v:=by simp [a_s]
noncomputable def b_S (row:Nat→List Nat) (n:Nat) (some:List Nat) (goals:List (List Nat)):Int:=a_v (farF row n some) ((List.range n).filter (a_s row goals))
theorem meetF_iff {row:Nat→List Nat} {n:Nat} {some:List Nat} {goals:List (List Nat)} (h:GrOk row n) (hs:∀v∈some,v < n):0≤b_S row n some goals↔∃u∈some,∃v,Rch (aO_ row) u v∧FairP row goals v:=by
 unfold b_S
 constructor
 ·intro hk
  obtain ⟨v,h1,h2,h3⟩:=e_e (s:=farF row n some) (l:=(List.range n).filter (a_s row goals)) (by omega)
  obtain ⟨u,u1,u2⟩:=(d_o h.lt hs v).1 h3
  exact ⟨u,u1,v,u2,c_h.1 (List.mem_filter.1 h1).2⟩
 ·rintro ⟨u,u1,v,u2,u3⟩
  refine Int.not_lt.1 fun hk=>?_
  have h0:=(d_o h.lt hs v).2 ⟨u,u1,u2⟩
  have hv:=(far_bd h.lt hs v).2.2 h0
  have:=(bestF_neg hk).2 v (List.mem_filter.2 ⟨List.mem_range.2 hv,c_h.2 u3⟩)
  omega
theorem e_f {row:Nat→List Nat} {n:Nat} {some:List Nat} {goals:List (List Nat)} (h:GrOk row n) (hs:∀v∈some,v < n) (hm:¬b_S row n some goals < 0) :
  ∃m:Nat,b_S row n some goals=m∧m < n∧FairP row goals m∧∃u∈some,Rch (aO_ row) u m:=by
 obtain ⟨v,h1,h2,h3⟩:=e_e hm
 obtain ⟨u,u1,u2⟩:=(d_o h.lt hs v).1 h3
 exact ⟨v,h2,List.mem_range.1 (List.mem_filter.1 h1).1,c_h.1 (List.mem_filter.1 h1).2,u,u1,u2⟩
open Classical in
noncomputable def inF (row:Nat→List Nat) (v:Nat):List Nat:=(row v).filter fun w=>decide (Con (aO_ row) v w)
theorem b_s {row:Nat→List Nat} {v w:Nat}:w∈inF row v↔w∈row v∧Con (aO_ row) v w:=by simp [inF]
theorem e_g {row:Nat→List Nat} {n:Nat} (h:GrOk row n):GrOk (inF row) n:=⟨fun v w hw=>h.lt v w (b_s.1 hw).1,fun v hv=>by rw [inF,h.out v hv];rfl⟩
theorem inF_rch {row:Nat→List Nat} {a b:Nat} (h:Con (aO_ row) a b):Rch (aO_ (inF row)) a b:=by
 obtain ⟨h1,h2⟩:=h
 induction h1 with
 | refl=>exact .refl _
 | @step a c b k t ih=>
  have hc:Con (aO_ row) a c:=⟨.one k,t.trans h2⟩
  exact .step (b_s.2 ⟨k,hc⟩) (ih (h2.trans (.one k)))
theorem inF_con {row:Nat→List Nat} {a b:Nat} (h:Rch (aO_ (inF row)) a b):Con (aO_ row) a b:=by
 induction h with
 | refl=>exact .refl _
 | step k t ih=>exact ((b_s.1 k).2).trans ih
open Classical in
noncomputable def in1F (row:Nat→List Nat) (m:Nat) (v:Nat):List Nat:=if Con (aO_ row) m v then (row v).filter fun w=>decide (Con (aO_ row) m w) else []
end Go.Pt
