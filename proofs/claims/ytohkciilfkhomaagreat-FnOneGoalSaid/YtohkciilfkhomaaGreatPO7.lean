/- Texts laid together: Ma5 Mt0 Mb0 Ps1 Ms0 Ma6 Ma7 Ma8 Lb1c Dr1 Dr2. -/
import Derived.Test.YtohkciilfkhomaaGreatPO6
import Derived.Lib.SlicesCompact
set_option linter.unusedVariables false
set_option linter.unusedSimpArgs false
open Go.Sep.AV renaming any → Q_
open Nat renaming reduceAdd→Y1,reduceLeDiff→Y2,reduceLT→Y3,reduceMul→Y4,reduceSub→Y5
open Int renaming reduceToNat→X1,reduceSub→X2,reduceAdd→X3,reduceNeg→X4
open Array renaming toList→X5
open Ne renaming symm→Y6
open List renaming forall_mem_cons→Y7
namespace Go.Proofs.YtohkciilfkhomaaGreat
open Go Go.Sep Go.Pt
attribute [local irreducible] a_a
abbrev rowE (q:Nat) (xs:List Ed):AV:=.sl q 3 0 xs.length
abbrev cE (xs:List Ed):List AV:=cells (xs.map eE)
theorem szE (xs:List Ed):d_e 3 (xs.map eE):=a_q (f:=eE) (fun _=>rfl) xs
theorem c_n {x:Ed} {H:Heap} {K:k_} (h:K (Es [x]) H):bS_ tab 25 1 [(0,aE x)] H (wkK K):=by
 simp only [bS_,d_z,e_3]
 refine ⟨by omega,?_⟩
 simp only [a_C,zA_,List.replicate_succ,List.replicate_zero,List.flatten_cons,List.flatten_nil,List.append_nil,AV.cells,splice]
 simp only [List.length_cons,List.length_nil,Nat.reduceAdd,Nat.zero_mul,Nat.zero_add,Nat.le_refl,and_self,if_true,List.take_zero,List.nil_append,List.drop_succ_cons,List.drop_zero,List.append_nil]
 intro r hr
 refine ⟨_,_,Wk.trans (Wk.frz (r:=r) (sz:=3) (es:=[eE x]) (v:=.sl r 3 0 1) (v':=.p (.sl [eE x])) (by omega) ?_ (by simp) .here) (.forget ?_),h⟩
 ·rw [Heap.set_same];rfl
 ·rw [Heap.del_set hr];exact Heap.le_refl _
theorem app_edges {q:Nat} {xs ys:List Ed} {G:Heap} {K:k_} (hq:G q=some (cE xs)) (hl:xs.length+ys.length≤1000000)
  (h:∀q',G q'=none→q'≠q→K (rowE q' (xs++ys)) ((G.del q).set q' (cE (xs++ys)))):aP_ tab 25 25 (rowE q xs) (Es ys) G (wkK K):=by
 have:=d_4 (x:=Es ys) (r:=q) (es:=xs.map eE) (fs:=ys.map eE) (H:=G) (K:=K) d_z rfl e_3 d_z rfl (sz:=3) rfl (bz:=24) rfl (.inl rfl) hq (szE xs) (szE ys)
  (by simp only [List.length_map];omega) (by simp only [List.length_map];omega) fun r' hr'=>by
   have hne:r'≠q:=by rintro rfl;rw [hq] at hr';cases hr'
   have:=h r' hr' hne
   simpa only [Go.Sep.own,cE,rowE,List.length_map,List.map_append,List.length_append] using this
 simpa only [Go.Sep.own,List.length_map] using this
theorem app_topE {q:Nat} {xs ys:List Ed} {G:Heap} {K:k_} (hq:G q=none) (hl:xs.length+ys.length≤1000000) (h:∀q',G q'=none→K (rowE q' (xs++ys)) (G.set q' (cE (xs++ys)))) :
  aP_ tab 25 25 (rowE q xs) (Es ys) (G.set q (cE xs)) (wkK K):=
 app_edges (Heap.set_same _ _ _) hl fun q' hq' hne=>by
  rw [Heap.del_set hq]
  rw [Heap.set_none] at hq'
  exact h q' hq'.2
theorem lit0E {G:Heap} {K:k_} (h:∀q,G q=none→K (rowE q []) (G.set q (cE []))):bS_ tab 25 0 [] G (wkK K):=by
 simp only [bS_,d_z,e_3]
 refine ⟨by omega,?_⟩
 simp only [a_C,zA_,List.replicate_zero,List.flatten_nil]
 exact fun r hr=>wkK.keep (h r hr)
theorem CloneE_row (xs:List Ed) (hl:xs.length≤100000) {H:Heap} {K:k_} (h:∀q,H q=none→K (rowE q xs) (H.set q (cE xs))):a_a Tryz.prog 100 [Es xs] H K:=by
 refine a_a.fin ?_
 refine a_a.ghost W100_hb fun q0 hq0=>?_
 refine W100_ok ?_;simp (maxSteps:=1000000) (disch:=first|assumption|apply Y6;assumption) only [W100,vz,vu,vv,eqS,eF_,↓c1_,↓c2_,tabs,reduceCtorEq,X5,↓reduceIte,Y1,Y2,Y3,Y4,Y5,X1,X2,X3,X4]
 have main:bS_ tab 25 0 [] (H.set q0 []) (wkK fun v5 H1=>aP_ tab 25 25 v5 (Es xs) H1 (wkK fun v7 H2=>wkK K v7 H2)):=by
  refine lit0E fun q1 hq1=>?_
  refine app_topE (xs:=[]) (ys:=xs) hq1 (by simp;omega) fun q2 hq2=>?_
  rw [Heap.set_none] at hq2
  rw [List.nil_append]
  refine e_6 ?_ (h q2 hq2.2)
  generalize cE xs=z
  have:=hq2.2
  have:=hq2.1
  (intro y b hy;simp only [Heap.set,Heap.del] at hy ⊢;(repeat' split at hy)<;>(repeat' split)<;>simp_all [cells])
 refine ⟨fun h0=>⟨?_,main⟩,fun _=>main⟩
 have hx:xs=[]:=List.map_eq_nil_iff.1 h0
 subst hx
 exact ⟨_,_,.val (.nilo q0 3 0),h q0 hq0⟩
theorem LE_mk {xs:List Ed} {q:Nat} {G:Heap} (h:G q=some (cE xs)):LE xs (rowE q xs) G [q]:=⟨q,_,[],rfl,h,LL.plain xs,rfl⟩
abbrev zA:AV:=.agg [I 0,.p .nil,.p .nil,.p .nil]
theorem d_F {o:Au} {v:AV} {G:Heap} {D:List Nat} {K:k_} (hl:LAu o v G D) (hD:D.Nodup) (hs:smAu o)
  (hg:a_l o=true→K (.tup [v,B true]) G) (hb:a_l o=false→K (.tup [zA,B false]) G):a_a Tryz.prog 55 [v] G K:=by
 refine a_a.fin ?_
 obtain ⟨x,y,z,D1,D2,D3,rfl,e,h1,h2,h3⟩:=id hl
 obtain ⟨q1,rfl⟩:=LRow.sl h1
 obtain ⟨q2,rfl⟩:=LRow.sl h2
 obtain ⟨q3,rfl⟩:=LRow.sl h3
 refine W55_ok ?_;simp (maxSteps:=1000000) (disch:=first|assumption|apply Y6;assumption) only [W55,vz,vu,vv,eqS,eF_,↓c1_,↓c2_,tabs,reduceCtorEq,X5,↓reduceIte,Y1,Y2,Y3,Y4,Y5,X1,X2,X3,X4]
 intro r hr r2 n2 hr2
 have nn2:r≠r2:=Ne.symm n2
 have hle:=Heap.le_setN (b:=[I 0,.p .nil,.p .nil,.p .nil]) (Heap.le_set (b:=[I o.states,.sl q1 1 0 o.first.length,.sl q2 3 0 o.edges.length,.sl q3 1 0 o.goals.length]) hr) hr2
 (try simp (disch:=first|assumption|apply Y6;assumption) only [vz,vu,vv,eqS,eF_,↓c1_,↓c2_,tabs,reduceCtorEq,X5,↓reduceIte,Y1,Y2,Y3,Y4,Y5,X1,X2,X3,X4])
 obtain ⟨G1,w1,_⟩:=(hl.local (fun y _ b hb=>hle y b hb)).wk hD (fun v=>.tup [v]) (fun h=>.tup (.cons h .nil))
 refine Pu.thaw (a_O o hs) (.bool _) w1 ?_
 have le3:∀b,Heap.le G (((G.set r [I o.states,.sl q1 1 0 o.first.length,.sl q2 3 0 o.edges.length,.sl q3 1 0 o.goals.length]).set r2 b)):=fun b=>Heap.le_setN (Heap.le_set hr) hr2
 cases hgo:a_l o
 ·(try simp (disch:=first|assumption|apply Y6;assumption) only [vz,vu,vv,eqS,eF_,↓c1_,↓c2_,tabs,reduceCtorEq,X5,↓reduceIte,Y1,Y2,Y3,Y4,Y5,X1,X2,X3,X4])
  exact e_6 (le3 _) (hb hgo)
 ·(try simp (disch:=first|assumption|apply Y6;assumption) only [vz,vu,vv,eqS,eF_,↓c1_,↓c2_,tabs,reduceCtorEq,X5,↓reduceIte,Y1,Y2,Y3,Y4,Y5,X1,X2,X3,X4])
  exact e_6 (le3 _) (hg hgo)
theorem l12Made_live {o:Au} {v:AV} {G:Heap} {D:List Nat} {K:k_} (hl:LAu o v G D) (hD:D.Nodup) (hs:smAu o)
  (hg:a_l o=true→K (.tup [v,B true]) G) (hb:a_l o=false→K (.tup [zA,B false]) G):a_a Tryz.prog 59 [v] G K:=by
 refine a_a.fin ?_
 obtain ⟨x,y,z,D1,D2,D3,rfl,e,h1,h2,h3⟩:=id hl
 obtain ⟨q1,rfl⟩:=LRow.sl h1
 obtain ⟨q2,rfl⟩:=LRow.sl h2
 obtain ⟨q3,rfl⟩:=LRow.sl h3
 refine W59_ok ?_;simp (maxSteps:=1000000) (disch:=first|assumption|apply Y6;assumption) only [W59,vz,vu,vv,eqS,eF_,↓c1_,↓c2_,tabs,reduceCtorEq,X5,↓reduceIte,Y1,Y2,Y3,Y4,Y5,X1,X2,X3,X4]
 intro r hr r2 n2 hr2
 have nn2:r≠r2:=Ne.symm n2
 have hle:=Heap.le_setN (b:=[I 0,.p .nil,.p .nil,.p .nil]) (Heap.le_set (b:=[I o.states,.sl q1 1 0 o.first.length,.sl q2 3 0 o.edges.length,.sl q3 1 0 o.goals.length]) hr) hr2
 (try simp (disch:=first|assumption|apply Y6;assumption) only [vz,vu,vv,eqS,eF_,↓c1_,↓c2_,tabs,reduceCtorEq,X5,↓reduceIte,Y1,Y2,Y3,Y4,Y5,X1,X2,X3,X4])
 obtain ⟨G1,w1,_⟩:=(hl.local (fun y _ b hb=>hle y b hb)).wk hD (fun v=>.tup [v]) (fun h=>.tup (.cons h .nil))
 refine Pu.thaw (a_F o hs) (.bool _) w1 ?_
 have le3:∀b,Heap.le G (((G.set r [I o.states,.sl q1 1 0 o.first.length,.sl q2 3 0 o.edges.length,.sl q3 1 0 o.goals.length]).set r2 b)):=fun b=>Heap.le_setN (Heap.le_set hr) hr2
 cases hgo:a_l o
 ·(try simp (disch:=first|assumption|apply Y6;assumption) only [vz,vu,vv,eqS,eF_,↓c1_,↓c2_,tabs,reduceCtorEq,X5,↓reduceIte,Y1,Y2,Y3,Y4,Y5,X1,X2,X3,X4])
  exact e_6 (le3 _) (hb hgo)
 ·(try simp (disch:=first|assumption|apply Y6;assumption) only [vz,vu,vv,eqS,eF_,↓c1_,↓c2_,tabs,reduceCtorEq,X5,↓reduceIte,Y1,Y2,Y3,Y4,Y5,X1,X2,X3,X4])
  exact e_6 (le3 _) (hg hgo)
end Go.Proofs.YtohkciilfkhomaaGreat
namespace Go.Sep
open Go Go.RowKit Go.Proofs.YtohkciilfkhomaaGreat
structure Th where
 D:List Nat
 P:Heap→Prop
 loc:∀{G G':Heap},P G→(∀y∈D,∀b,G y=some b→G' y=some b)→P G'
 has:∀{G:Heap},P G→∀y∈D,G y≠none
def cT_ (r:Nat) (b:List AV):Th:=⟨[r],fun G=>G r=some b,fun h f=>f r (List.mem_singleton.2 rfl) b h,fun h y hy=>by rw [List.mem_singleton.1 hy,h];simp⟩
structure St (H:Heap) (Ts:List Th) (G:Heap):Prop where
 le:Heap.le H G
 nd:(Ts.flatMap Th.D).Nodup
 fr:∀t∈Ts,∀y∈t.D,H y=none
 ok:∀t∈Ts,t.P G
theorem St.nil (H:Heap):St H [] H:=⟨Heap.le_refl _,List.nodup_nil,fun t ht=>(by cases ht),fun t ht=>(by cases ht)⟩
theorem St.get {H G:Heap} {Ts:List Th} {t:Th} (s:St H Ts G) (i:Nat) (h:Ts[i]?=some t):t.P G:=s.ok t (List.mem_of_getElem? h)
theorem St.ndT {H G:Heap} {Ts:List Th} {t:Th} (s:St H Ts G) (i:Nat) (h:Ts[i]?=some t):t.D.Nodup:=by
 obtain ⟨pre,post,e⟩:=List.append_of_mem (List.mem_of_getElem? h)
 have:=s.nd
 rw [e,List.flatMap_append,List.flatMap_cons,List.nodup_append,List.nodup_append] at this
 exact this.2.1.1
theorem St.push {H G G':Heap} {Ts:List Th} (s:St H Ts G) (t:Th) (hn:New G G' t.D) (hp:t.P G'):St H (t::Ts) G':=by
 refine ⟨Heap.le_trans s.le hn.le,?_,?_,?_⟩
 ·rw [List.flatMap_cons,List.nodup_append]
  refine ⟨hn.nd,s.nd,fun a ha b hb e=>?_⟩
  obtain ⟨u,hu,hbu⟩:=List.mem_flatMap.1 hb
  exact u.has (s.ok u hu) b hbu (by rw [← e];exact hn.fr a ha)
 ·intro u hu y hy
  rcases List.mem_cons.1 hu with rfl | hu
  ·cases hh:H y with
   | none=>rfl
   | some b=>rw [← hn.fr y hy,s.le y b hh]
  ·exact s.fr u hu y hy
 ·intro u hu
  rcases List.mem_cons.1 hu with rfl | hu
  ·exact hp
  ·exact u.loc (s.ok u hu) fun y _ b hb=>hn.le y b hb
theorem New.cell {G:Heap} {r:Nat} {b:List AV} (hr:G r=none):New G (G.set r b) [r]:=⟨by simp,by simpa using hr,Heap.le_set hr⟩
theorem St.cell {H G:Heap} {Ts:List Th} (s:St H Ts G) {r:Nat} (hr:G r=none) (b:List AV):St H (cT_ r b::Ts) (G.set r b):=s.push (cT_ r b) (New.cell hr) (Heap.set_same _ _ _)
theorem St.upd {H G G':Heap} {Ts:List Th} {t:Th} (s:St H Ts G) (i:Nat) (h:Ts[i]?=some t) (t':Th) (hD:t'.D=t.D) (hf:∀y,y∉t.D→G' y=G y) (hp:t'.P G'):St H (Ts.set i t') G':=by
 obtain ⟨hi,hti⟩:=List.getElem?_eq_some_iff.1 h
 have e:Ts=Ts.take i++t::Ts.drop (i+1):=by rw [← hti,List.getElem_cons_drop,List.take_append_drop]
 have e':Ts.set i t'=Ts.take i++t'::Ts.drop (i+1):=by rw [List.set_eq_take_append_cons_drop,if_pos hi]
 generalize Ts.take i=pre at e e'
 generalize Ts.drop (i+1)=post at e e'
 rw [e']
 subst e
 have hnd:=s.nd
 rw [List.flatMap_append,List.flatMap_cons] at hnd
 have hdis:∀u∈pre++post,∀y∈u.D,y∉t.D:=by
  intro u hu y hy hyt
  rw [List.nodup_append,List.nodup_append] at hnd
  rcases List.mem_append.1 hu with hu | hu
  ·exact hnd.2.2 y (List.mem_flatMap.2 ⟨u,hu,hy⟩) y (List.mem_append_left _ hyt) rfl
  ·exact hnd.2.1.2.2 y hyt y (List.mem_flatMap.2 ⟨u,hu,hy⟩) rfl
 refine ⟨fun y b hb=>?_,by rw [List.flatMap_append,List.flatMap_cons,hD];exact hnd,fun u hu y hy=>?_,fun u hu=>?_⟩
 ·rw [hf y (fun hy=>by have:=s.fr t (by simp) y hy;rw [this] at hb;cases hb)];exact s.le y b hb
 ·rcases List.mem_append.1 hu with hu | hu
  ·exact s.fr u (List.mem_append_left _ hu) y hy
  ·rcases List.mem_cons.1 hu with rfl | hu
   ·exact s.fr t (by simp) y (hD ▸ hy)
   ·exact s.fr u (by simp [hu]) y hy
 ·have old:∀u∈pre++post,u.P G':=fun u hu=>u.loc (s.ok u (by
   rcases List.mem_append.1 hu with hu | hu
   ·exact List.mem_append_left _ hu
   ·exact List.mem_append_right _ (List.mem_cons_of_mem _ hu))) fun y hy b hb=>by rw [hf y (hdis u hu y hy)];exact hb
  rcases List.mem_append.1 hu with hu | hu
  ·exact old u (List.mem_append_left _ hu)
  ·rcases List.mem_cons.1 hu with rfl | hu
   ·exact hp
   ·exact old u (List.mem_append_right _ hu)
theorem St.drop {H G:Heap} {t:Th} {Ts:List Th} (s:St H (t::Ts) G):St H Ts G:=⟨s.le,(by have:=s.nd;rw [List.flatMap_cons,List.nodup_append] at this;exact this.2.1),fun u hu=>s.fr u (List.mem_cons_of_mem _ hu),fun u hu=>s.ok u (List.mem_cons_of_mem _ hu)⟩
theorem St.perm {H G:Heap} {Ts Us:List Th} (s:St H Ts G) (h:List.Perm Ts Us):St H Us G:=
 ⟨s.le,(h.flatMap_right _).nodup s.nd,fun t ht=>s.fr t (h.mem_iff.2 ht),fun t ht=>s.ok t (h.mem_iff.2 ht)⟩
theorem Th.dis:∀{Ts:List Th} {t u:Th} {i j:Nat},(Ts.flatMap Th.D).Nodup→Ts[i]?=some t→Ts[j]?=some u→i < j→∀y∈t.D,y∉u.D
 | [],_,_,_,_,_,hi,_,_=>by simp at hi
 | a::Ts,t,u,0,j+1,nd,hi,hj,_=>by
  rw [List.flatMap_cons,List.nodup_append] at nd
  simp only [List.getElem?_cons_zero,Option.some.injEq] at hi
  subst hi
  exact fun y hy hu=>nd.2.2 y hy y (List.mem_flatMap.2 ⟨u,List.mem_of_getElem? (by simpa using hj),hu⟩) rfl
 | a::Ts,t,u,i+1,j+1,nd,hi,hj,h=>by
  rw [List.flatMap_cons,List.nodup_append] at nd
  exact Th.dis nd.2.1 (by simpa using hi) (by simpa using hj) (by omega)
theorem St.disjI {H G:Heap} {t u:Th} {Ts:List Th} (s:St H Ts G) (i j:Nat) (hi:Ts[i]?=some t) (hj:Ts[j]?=some u) (hij:i≠j):∀y∈t.D,y∉u.D:=by
 rcases Nat.lt_or_gt_of_ne hij with h | h
 ·exact Th.dis s.nd hi hj h
 ·exact fun y hy hu=>Th.dis s.nd hj hi h y hu hy
theorem perm_pick {α:Type}:∀(Ts:List α) (i:Nat) (hi:i < Ts.length),List.Perm Ts (Ts[i]::Ts.eraseIdx i)
 | a::Ts,0,_=>List.Perm.refl _
 | a::Ts,i+1,hi=>((perm_pick Ts i (by simpa using hi)).cons a).trans (List.Perm.swap _ _ _)
theorem d_K {α:Type}:∀(Ts:List α) (i:Nat) (hi:i < Ts.length) (t:α),List.Perm (Ts.set i t) (t::Ts.eraseIdx i)
 | a::Ts,0,_,_=>List.Perm.refl _
 | a::Ts,i+1,hi,t=>((d_K Ts i (by simpa using hi) t).cons a).trans (List.Perm.swap _ _ _)
theorem sub_flat {α β:Type} {f:α→List β} {l m:List α} (h:List.Sublist l m):List.Sublist (l.flatMap f) (m.flatMap f):=by
 induction h with
 | slnil=>exact List.Sublist.refl _
 | cons a _ ih=>rw [List.flatMap_cons];exact ih.trans (List.sublist_append_right _ _)
 | cons_cons a _ ih=>rw [List.flatMap_cons,List.flatMap_cons];exact List.Sublist.append_left ih _
theorem St.pick {H G:Heap} {Ts:List Th} {t:Th} (s:St H Ts G) (i:Nat) (h:Ts[i]?=some t):St H (t::Ts.eraseIdx i) G:=by
 obtain ⟨hi,rfl⟩:=List.getElem?_eq_some_iff.1 h
 exact s.perm (perm_pick Ts i hi)
theorem St.step {H G G':Heap} {old rest:List Th} (s:St H (old++rest) G) (new:List Th) (hnd:(new.flatMap Th.D).Nodup) (hfr:∀t∈new,∀y∈t.D,(∃u∈old,y∈u.D)∨G y=none)
  (hf:∀y b,G y=some b→(∀u∈old,y∉u.D)→G' y=some b) (hp:∀t∈new,t.P G'):St H (new++rest) G':=by
 have hs:=s.nd
 rw [List.flatMap_append,List.nodup_append] at hs
 have hdis:∀u∈rest,∀y∈u.D,∀t∈old,y∉t.D:=fun u hu y hy t ht hyt=>hs.2.2 y (List.mem_flatMap.2 ⟨t,ht,hyt⟩) y (List.mem_flatMap.2 ⟨u,hu,hy⟩) rfl
 refine ⟨fun y b hb=>?_,?_,fun u hu y hy=>?_,fun u hu=>?_⟩
 ·refine hf y b (s.le y b hb) fun u hu hy=>?_
  rw [s.fr u (List.mem_append_left _ hu) y hy] at hb;cases hb
 ·rw [List.flatMap_append,List.nodup_append]
  refine ⟨hnd,hs.2.1,fun a ha b hb e=>?_⟩
  subst e
  obtain ⟨t,ht,hat⟩:=List.mem_flatMap.1 ha
  obtain ⟨u,hu,hau⟩:=List.mem_flatMap.1 hb
  rcases hfr t ht a hat with ⟨v,hv,hav⟩ | hn
  ·exact hdis u hu a hau v hv hav
  ·exact u.has (s.ok u (List.mem_append_right _ hu)) a hau hn
 ·rcases List.mem_append.1 hu with hu | hu
  ·rcases hfr u hu y hy with ⟨v,hv,hav⟩ | hn
   ·exact s.fr v (List.mem_append_left _ hv) y hav
   ·cases hh:H y with
    | none=>rfl
    | some b=>rw [← hn,s.le y b hh]
  ·exact s.fr u (List.mem_append_right _ hu) y hy
 ·rcases List.mem_append.1 hu with hu | hu
  ·exact hp u hu
  ·exact u.loc (s.ok u (List.mem_append_right _ hu)) fun y hy b hb=>hf y b hb (hdis u hu y hy)
theorem St.repl {H G G':Heap} {Ts:List Th} {t:Th} (s:St H Ts G) (i:Nat) (h:Ts[i]?=some t) (t':Th) (hnd:t'.D.Nodup) (hfr:∀y∈t'.D,y∈t.D∨G y=none)
  (hf:∀y b,G y=some b→y∉t.D→G' y=some b) (hp:t'.P G'):St H (Ts.set i t') G':=by
 obtain ⟨hi,-⟩:=List.getElem?_eq_some_iff.1 h
 have:=St.step (old:=[t]) (s.pick i h) [t'] (by simpa using hnd) (fun u hu y hy=>by
  rw [List.mem_singleton] at hu;subst hu
  rcases hfr y hy with h1 | h1
  ·exact .inl ⟨t,by simp,h1⟩
  ·exact .inr h1) (fun y b hb hy=>hf y b hb (hy t (by simp))) (fun u hu=>by rw [List.mem_singleton] at hu;subst hu;exact hp)
 exact this.perm (d_K Ts i hi t').symm
theorem St.moved {H G:Heap} {Ts:List Th} {q q':Nat} {b c:List AV} (s:St H Ts G) (i:Nat) (h:Ts[i]?=some (cT_ q b)) (hq:G q'=none):St H (Ts.set i (cT_ q' c)) ((G.del q).set q' c):=by
 have hg:G q=some b:=s.get i h
 refine s.repl i h (cT_ q' c) (by simp [cT_]) (fun y hy=>?_) (fun y bb hb hy=>?_) (Heap.set_same _ _ _)
 ·simp only [cT_,List.mem_singleton] at hy;subst hy;exact .inr hq
 ·simp only [cT_,List.mem_singleton] at hy
  rw [Heap.set_other (fun e=>by rw [e,hq] at hb;cases hb),Heap.del_other hy];exact hb
theorem St.put {H G:Heap} {Ts:List Th} {q:Nat} {b:List AV} (s:St H Ts G) (i:Nat) (h:Ts[i]?=some (cT_ q b)) (c:List AV):St H (Ts.set i (cT_ q c)) (G.set q c):=by
 refine s.repl i h (cT_ q c) (by simp [cT_]) (fun y hy=>.inl hy) (fun y bb hb hy=>?_) (Heap.set_same _ _ _)
 simp only [cT_,List.mem_singleton] at hy
 rw [Heap.set_other hy];exact hb
theorem St.sub {H G:Heap} {Ts Us:List Th} (s:St H Ts G) (h:List.Sublist Us Ts):St H Us G:=
 ⟨s.le,List.Nodup.sublist (sub_flat h) s.nd,fun t ht=>s.fr t (h.subset ht),fun t ht=>s.ok t (h.subset ht)⟩
theorem St.erase {H G:Heap} {Ts:List Th} (s:St H Ts G) (i:Nat):St H (Ts.eraseIdx i) G:=s.sub (List.eraseIdx_sublist Ts i)
theorem St.new {H G:Heap} {Ts:List Th} (s:St H Ts G):New H G (Ts.flatMap Th.D):=⟨s.nd,fun y hy=>by
 obtain ⟨t,ht,hyt⟩:=List.mem_flatMap.1 hy
 exact s.fr t ht y hyt,s.le⟩
theorem St.wkNone {H G:Heap} {Ts:List Th} (s:St H Ts G):∀y b,H y=some b→∀t∈Ts,y∉t.D:=fun y b hb t ht hy=>by rw [s.fr t ht y hy] at hb;cases hb
end Go.Sep
namespace Go.Proofs.YtohkciilfkhomaaGreat
open Go Go.Sep Go.Pt
attribute [local irreducible] a_a
def RZ {α:Type} (L:Lay α) (sz z:Nat) (x:AV) (xs:List α) (G:Heap) (D:List Nat):Prop:=(x=.p .nil∧xs=[]∧D=[z]∧G z=some [])∨LRow L sz xs x G D
theorem RZ.local {α:Type} {L:Lay α} {sz z:Nat} (hL:L.Local) {x:AV} {xs:List α} {G G':Heap} {D:List Nat} (h:RZ L sz z x xs G D) (hf:∀y∈D,∀b,G y=some b→G' y=some b):RZ L sz z x xs G' D:=by
 rcases h with ⟨h1,h2,rfl,h3⟩ | h
 ·exact .inl ⟨h1,h2,rfl,hf z (by simp) _ h3⟩
 ·exact .inr (h.local hL hf)
theorem RZ.has {α:Type} {L:Lay α} {sz z:Nat} (hL:L.Has) {x:AV} {xs:List α} {G:Heap} {D:List Nat} (h:RZ L sz z x xs G D):∀y∈D,G y≠none:=by
 rcases h with ⟨h1,h2,rfl,h3⟩ | h
 ·intro y hy;rw [List.mem_singleton.1 hy,h3];simp
 ·exact h.has hL
theorem RZ.row {α:Type} {L:Lay α} {sz z:Nat} {x:AV} {xs:List α} {G:Heap} {D:List Nat} (h:RZ L sz z x xs G D):∃x',AV.wk x x'∧LRow L sz xs x' G D:=by
 rcases h with ⟨rfl,rfl,rfl,h3⟩ | h
 ·exact ⟨.sl z sz 0 0,.nilo _ _ _,z,[],[],rfl,h3,⟨rfl,rfl⟩,rfl⟩
 ·exact ⟨x,.refl _,h⟩
theorem RZ.sl {α:Type} {L:Lay α} {sz z:Nat} {x:AV} {xs:List α} {G:Heap} {D:List Nat} (h:RZ L sz z x xs G D):x=.p .nil∨∃q,x=.sl q sz 0 xs.length:=by
 rcases h with ⟨h1,_⟩ | ⟨q,cs,D',h1,_⟩
 ·exact .inl h1
 ·exact .inr ⟨q,h1⟩
def rzT {α:Type} {L:Lay α} (hL:L.Local) (hh:L.Has) (sz z:Nat) (x:AV) (xs:List α) (D:List Nat):Th:=⟨D,fun G=>RZ L sz z x xs G D,fun h f=>h.local hL f,fun h=>h.has hh⟩
abbrev riT (z:Nat) (x:AV) (xs:List Int) (D:List Nat):Th:=rzT (LPl.local eI) (LPl.has eI) 1 z x xs D
abbrev reT (z:Nat) (x:AV) (xs:List Ed) (D:List Nat):Th:=rzT (LPl.local eE) (LPl.has eE) 3 z x xs D
abbrev rgT (z:Nat) (x:AV) (xs:List (List Int)) (D:List Nat):Th:=rzT LIc.local LIc.has 1 z x xs D
theorem lent {α:Type} {L:Lay α} (hL:L.Local) (hh:L.Has) (sz:Nat) {H G:Heap} {Ts:List Th} {z:Nat} (s:St H Ts G) (i:Nat) (h:Ts[i]?=some (cT_ z [])):St H (Ts.set i (rzT hL hh sz z (.p .nil) [] [z])) G:=
 s.repl i h _ (by simp [rzT]) (fun y hy=>.inl hy) (fun y b hb _=>hb) (.inl ⟨rfl,rfl,rfl,s.get i h⟩)
theorem c_d {H G:Heap} {Ts:List Th} {q:Nat} {l:List Int} (s:St H Ts G) (i:Nat) (h:Ts[i]?=some (cT_ q (cP fI l))):St H (Ts.set i (riT 0 (rowP q l) l [q])) G:=
 s.repl i h _ (by simp [rzT]) (fun y hy=>.inl hy) (fun y b hb _=>hb) (.inr (e_9 (s.get i h)))
theorem f_E {H G:Heap} {Ts:List Th} {q:Nat} {l:List Ed} (s:St H Ts G) (i:Nat) (h:Ts[i]?=some (cT_ q (cE l))):St H (Ts.set i (reT 0 (rowE q l) l [q])) G:=
 s.repl i h _ (by simp [rzT]) (fun y hy=>.inl hy) (fun y b hb _=>hb) (.inr (LE_mk (s.get i h)))
theorem RZ.app {tab:Tab} {t0 t1 e0 e1 sz z:Nat} {d d1 ed:TD} {α:Type} {e:α→List PV} (h1:tab t0=some d) (h2:d.k=.slice e0) (h3:tab e0=some ed) (h4:tab t1=some d1) (h5:d1.k=.slice e1) (h6:ed.size=sz) {bz:Nat} (h7:ed.bytes=bz)
  (hsz:∀a,(e a).length=sz) {H G:Heap} {Ts:List Th} {x y:AV} {xs ys:List α} {D:List Nat} {hL:(LPl e).Local} {hh:(LPl e).Has} (s:St H Ts G) (i:Nat) (hi:Ts[i]?=some (rzT hL hh sz z x xs D)) (hy:y=.p (.sl (ys.map e)))
  (hl:(xs.length+ys.length)*bz≤140737488355328) (hl2:xs.length+ys.length≤9223372036854775807) {K:k_}
  (h:∀q' G',G q'=none→St H (Ts.set i (rzT hL hh sz z (.sl q' sz 0 (xs++ys).length) (xs++ys) [q'])) G'→K (.sl q' sz 0 (xs++ys).length) G'):aP_ tab t0 t1 x y G (wkK K):=by
 subst hy
 have hrz:RZ (LPl e) sz z x xs G D:=s.get i hi
 rcases hrz with ⟨rfl,rfl,rfl,hz⟩ | ⟨q,cs,D',rfl,hq,hll,rfl⟩
 ·refine app_nil h1 h2 h3 h4 h5 h6 h7 (.inl rfl) (.inl rfl) (a_q hsz ys) (by simpa using hl) (by simpa using hl2) fun q' hq'=>?_
  have:=h q' _ hq' (s.repl i hi (rzT hL hh sz z (.sl q' sz 0 ([]++ys).length) ([]++ys) [q']) (by simp [rzT]) (fun y hy=>by
   simp only [rzT,List.mem_singleton] at hy;subst hy;exact .inr hq') (G':=G.set q' (cells (ys.map e))) (fun y b hb _=>Heap.le_set hq' y b hb) (.inr ⟨q',_,[],rfl,Heap.set_same _ _ _,LL.plain _,rfl⟩))
  simpa [Go.Sep.own] using this
 ·have hq0:cs=cells (xs.map e)∧D'=[]:=by
   have key:∀(xs:List α) (cs:List AV) (D:List Nat),LL (LPl e) xs cs G D→cs=cells (xs.map e)∧D=[]:=by
    intro xs
    induction xs with
    | nil=>rintro cs D ⟨rfl,rfl⟩;exact ⟨rfl,rfl⟩
    | cons a xs ih=>
     rintro cs D ⟨c1,c2,D1,D2,rfl,rfl,⟨rfl,rfl⟩,h2⟩
     obtain ⟨rfl,rfl⟩:=ih _ _ h2
     exact ⟨by simp [cells],rfl⟩
   exact key _ _ _ hll
  obtain ⟨rfl,rfl⟩:=hq0
  have:=d_4 (x:=.p (.sl (ys.map e))) (r:=q) (es:=xs.map e) (fs:=ys.map e) (H:=G) (K:=K) h1 h2 h3 h4 h5 h6 h7 (.inl rfl) hq (a_q hsz xs) (a_q hsz ys)
   (by simpa using hl) (by simpa using hl2) fun q' hq'=>by
    have:=h q' ((G.del q).set q' (cells ((xs++ys).map e))) hq' (s.repl i hi (rzT hL hh sz z (.sl q' sz 0 (xs++ys).length) (xs++ys) [q']) (by simp [rzT]) (fun y hy=>by
     simp only [rzT,List.mem_singleton] at hy;subst hy;exact .inr hq') (fun y b hb hy=>by
      simp only [rzT,List.mem_singleton] at hy
      rw [Heap.set_other (fun e=>by rw [e,hq'] at hb;cases hb),Heap.del_other hy];exact hb) (.inr ⟨q',_,[],rfl,Heap.set_same _ _ _,LL.plain _,rfl⟩))
    simpa only [Go.Sep.own,List.length_map,List.map_append,List.length_append] using this
  simpa only [Go.Sep.own,List.length_map] using this
theorem d_j {H G:Heap} {Ts:List Th} {z:Nat} {x:AV} {xs ys:List Ed} {D:List Nat} (s:St H Ts G) (i:Nat) (hi:Ts[i]?=some (reT z x xs D)) (hl:xs.length+ys.length≤1000000) {K:k_}
  (h:∀q' G',G q'=none→St H (Ts.set i (reT z (rowE q' (xs++ys)) (xs++ys) [q'])) G'→K (rowE q' (xs++ys)) G'):aP_ tab 25 25 x (Es ys) G (wkK K):=
 RZ.app (bz:=24) d_z rfl e_3 d_z rfl rfl rfl (fun _=>rfl) s i hi rfl (by omega) (by omega) h
theorem c_I {H G:Heap} {Ts:List Th} {z:Nat} {x:AV} {xs ys:List Int} {D:List Nat} (s:St H Ts G) (i:Nat) (hi:Ts[i]?=some (riT z x xs D)) (hl:xs.length+ys.length≤1000000) {K:k_}
  (h:∀q' G',G q'=none→St H (Ts.set i (riT z (rowP q' (xs++ys)) (xs++ys) [q'])) G'→K (rowP q' (xs++ys)) G'):aP_ tab 24 24 x (Is ys) G (wkK K):=
 RZ.app (bz:=8) a_g rfl a_u a_g rfl rfl rfl (fun _=>rfl) s i hi rfl (by omega) (by omega) h
theorem c_Y {H G:Heap} {Ts:List Th} {z qn ql:Nat} {x:AV} {gs:List (List Int)} {l:List Int} {D:List Nat} (s:St H (cT_ ql [rowP qn l]::cT_ qn (cP fI l)::Ts) G) (i:Nat) (hi:Ts[i]?=some (rgT z x gs D)) (hlen:gs.length≤100000) {K:k_}
  (h:∀q' D' G',G q'=none→St H (Ts.set i (rgT z (.sl q' 1 0 (gs.length+1)) (gs++[l]) D')) G'→K (.sl q' 1 0 (gs.length+1)) G'):aP_ tab 26 26 x (.sl ql 1 0 1) G (wkK K):=by
 have s1:=(s.pick (i+2) hi).perm (Us:=[rgT z x gs D,cT_ ql [rowP qn l],cT_ qn (cP fI l)]++Ts.eraseIdx i) (List.Perm.refl _)
 have hrz:RZ LIc 1 z x gs G D:=s1.get 0 rfl
 have hql:G ql=some [rowP qn l]:=s1.get 1 rfl
 have hqn:G qn=some (cP fI l):=s1.get 2 rfl
 have fin:∀q' D' G',G q'=none→LRow LIc 1 (gs++[l]) (.sl q' 1 0 (gs.length+1)) G' D'→D'.Nodup→(∀y∈D',y∈D∨y=qn∨y=q')→(∀y b,G y=some b→y∉D→y≠ql→y≠qn→G' y=some b)→K (.sl q' 1 0 (gs.length+1)) G':=by
  intro q' D' G' hq' hrow hnd hsub hfr
  refine h q' D' G' hq' ?_
  have s2:=s1.step [rgT z (.sl q' 1 0 (gs.length+1)) (gs++[l]) D'] (by simpa [rzT] using hnd) (fun t ht y hy=>by
   rw [List.mem_singleton] at ht;subst ht
   rcases hsub y hy with h1 | h1 | h1
   ·exact .inl ⟨rgT z x gs D,by simp,h1⟩
   ·exact .inl ⟨cT_ qn (cP fI l),by simp,by rw [h1];simp [cT_]⟩
   ·exact .inr (by rw [h1];exact hq')) (fun y b hb hy=>hfr y b hb (hy (rgT z x gs D) (by simp)) (fun e=>hy (cT_ ql [rowP qn l]) (by simp) (by rw [e];simp [cT_])) (fun e=>hy (cT_ qn (cP fI l)) (by simp) (by rw [e];simp [cT_]))) (fun t ht=>by
   rw [List.mem_singleton] at ht;subst ht;exact .inr hrow)
  obtain ⟨hi',-⟩:=List.getElem?_eq_some_iff.1 hi
  exact s2.perm (d_K Ts i hi' _).symm
 have nqn:∀{q'},G q'=none→q'≠qn:=fun hq' e=>by rw [e,hqn] at hq';cases hq'
 have nql:∀{q'},G q'=none→q'≠ql:=fun hq' e=>by rw [e,hql] at hq';cases hq'
 have dq:qn∉D:=fun hm=>(s1.disjI 0 2 rfl rfl (by decide)) qn hm (by simp [cT_])
 have nnl:qn≠ql:=fun e=>by
  have:=(s1.disjI 1 2 rfl rfl (by decide)) ql (by simp [cT_])
  exact this (by simp [cT_,e])
 have nd:=s1.ndT 0 rfl
 simp only [aP_,c_x,a_g,srcV,hql]
 rcases hrz with ⟨rfl,rfl,rfl,hz⟩ | ⟨q,cs,D',rfl,hq,hll,rfl⟩
 ·simp only [c_s]
  refine ⟨trivial,by simp,by omega,by omega,rfl,fun q' hq'=>wkK.keep ?_⟩
  refine fin q' [q',qn] _ hq' ⟨q',[rowP qn l],[qn],rfl,Heap.set_same _ _ _,⟨[rowP qn l],[],[qn],[],rfl,by simp,⟨_,rfl,e_9 (by rw [Heap.set_other (Ne.symm (nqn hq'))];exact hqn)⟩,⟨rfl,rfl⟩⟩,rfl⟩ (by simp [nqn hq']) (fun y hy=>?_) (fun y b hb _ _ _=>Heap.le_set hq' y b hb)
  simp only [List.mem_cons,List.not_mem_nil,or_false] at hy
  rcases hy with rfl | rfl<;>simp
 ·have hcl:cs.length=gs.length:=by rw [LL.size LIc.size hll,Nat.mul_one]
  simp only [c_s,hq]
  have e1:List.take (gs.length*1) (List.drop 0 cs)=cs:=by rw [List.drop_zero,Nat.mul_one,← hcl,List.take_length]
  have e2:List.take (1*1) (List.drop 0 [rowP qn l])=[rowP qn l]:=rfl
  refine ⟨trivial,by simp,trivial,by omega,by omega,by omega,rfl,fun q' hq'=>wkK.keep ?_⟩
  rw [e1,e2]
  have nq:q'≠q:=fun e=>by rw [e,hq] at hq';cases hq'
  have old:∀y b,G y=some b→y≠q→((G.del q).set q' (cs++[rowP qn l])) y=some b:=fun y b hb hy=>by
   rw [Heap.set_other (fun e=>by rw [e,hq'] at hb;cases hb),Heap.del_other hy];exact hb
  simp only [rzT,List.nodup_cons] at nd
  simp only [List.mem_cons,not_or] at dq
  have hq'D:q'∉D':=fun hm=>LL.has LIc.has hll q' hm hq'
  refine fin q' (q'::(D'++[qn])) _ hq' ⟨q',cs++[rowP qn l],D'++[qn],by simp,Heap.set_same _ _ _,LL.snoc ⟨_,rfl,e_9 (old _ _ hqn dq.1)⟩ (LL.local LIc.local hll fun y hy b hb=>old y b hb (fun e=>nd.1 (e ▸ hy))),rfl⟩ ?_ (fun y hy=>?_) (fun y b hb hy h5 h6=>?_)
  ·rw [List.nodup_cons,List.nodup_append]
   refine ⟨by simp only [List.mem_append,List.mem_singleton,not_or];exact ⟨hq'D,nqn hq'⟩,nd.2,by simp,fun a ha b hb e=>?_⟩
   rw [List.mem_singleton] at hb
   exact dq.2 (by rw [← hb,← e];exact ha)
  ·simp only [List.mem_cons,List.mem_append,List.not_mem_nil,or_false] at hy ⊢
   rcases hy with rfl | hy | rfl
   ·exact .inr (.inr rfl)
   ·exact .inl (.inr hy)
   ·exact .inr (.inl rfl)
  ·rw [List.mem_cons,not_or] at hy
   exact old y b hb hy.1
theorem b_A {H G:Heap} {Ts:List Th} {z1 z2 z3:Nat} {x y w:AV} {l:List Int} {es:List Ed} {gs:List (List Int)} {D1 D2 D3:List Nat} (n:Int) (s:St H Ts G) (i j k:Nat) (hi:Ts[i]?=some (riT z1 x l D1)) (hj:Ts[j]?=some (reT z2 y es D2)) (hk:Ts[k]?=some (rgT z3 w gs D3)) (hij:i≠j) (hik:i≠k) (hjk:j≠k) :
  ∃x' y' w',AV.wk (.agg [I n,x,y,w]) (.agg [I n,x',y',w'])∧LAu ⟨n,l,es,gs⟩ (.agg [I n,x',y',w']) G (D1++(D2++D3))∧New H G (D1++(D2++D3)):=by
 obtain ⟨x',hx,lx⟩:=(s.get i hi:RZ (LPl eI) 1 z1 x l G D1).row
 obtain ⟨y',hy,ly⟩:=(s.get j hj:RZ (LPl eE) 3 z2 y es G D2).row
 obtain ⟨w',hw,lw⟩:=(s.get k hk:RZ LIc 1 z3 w gs G D3).row
 refine ⟨x',y',w',b_9 ⟨.refl _,hx,hy,hw,trivial⟩,⟨x',y',w',D1,D2,D3,rfl,rfl,lx,ly,lw⟩,?_,fun u hu=>?_,s.le⟩
 ·have d12:=s.disjI i j hi hj hij
  have d13:=s.disjI i k hi hk hik
  have d23:=s.disjI j k hj hk hjk
  rw [List.nodup_append,List.nodup_append]
  refine ⟨s.ndT i hi,⟨s.ndT j hj,s.ndT k hk,fun a ha b hb e=>d23 a ha (e ▸ hb)⟩,fun a ha b hb e=>?_⟩
  rcases List.mem_append.1 hb with hb | hb
  ·exact d12 a ha (e ▸ hb)
  ·exact d13 a ha (e ▸ hb)
 ·simp only [List.mem_append] at hu
  rcases hu with hu | hu | hu
  ·exact s.fr _ (List.mem_of_getElem? hi) u hu
  ·exact s.fr _ (List.mem_of_getElem? hj) u hu
  ·exact s.fr _ (List.mem_of_getElem? hk) u hu
def auT (a:Au) (v:AV) (D:List Nat):Th:=⟨D,fun G=>LAu a v G D,fun h f=>h.local f,fun h=>h.has⟩
theorem au_split {H G:Heap} {Ts:List Th} {a:Au} {v:AV} {D:List Nat} (s:St H (auT a v D::Ts) G):∃q1 q2 q3 D1 D2 D3,v=.agg [I a.states,.sl q1 1 0 a.first.length,.sl q2 3 0 a.edges.length,.sl q3 1 0 a.goals.length]∧
  St H (riT 0 (.sl q1 1 0 a.first.length) a.first D1::reT 0 (.sl q2 3 0 a.edges.length) a.edges D2::rgT 0 (.sl q3 1 0 a.goals.length) a.goals D3::Ts) G:=by
 obtain ⟨x,y,z,D1,D2,D3,rfl,hD,h1,h2,h3⟩:=(s.get 0 rfl:LAu a v G D)
 obtain ⟨q1,rfl⟩:=LRow.sl h1
 obtain ⟨q2,rfl⟩:=LRow.sl h2
 obtain ⟨q3,rfl⟩:=LRow.sl h3
 have hnd:=s.ndT 0 rfl
 simp only [auT] at hnd
 refine ⟨q1,q2,q3,D1,D2,D3,rfl,?_⟩
 refine St.step (old:=[auT a _ D]) s [riT 0 _ a.first D1,reT 0 _ a.edges D2,rgT 0 _ a.goals D3] ?_ ?_ (fun y b hb _=>hb) ?_
 ·simp only [rzT,List.flatMap_cons,List.flatMap_nil,List.append_nil];rw [← hD];exact hnd
 ·intro t ht y hy
  refine .inl ⟨_,List.mem_singleton.2 rfl,?_⟩
  show y∈D
  rw [hD]
  simp only [List.mem_cons,List.not_mem_nil,or_false] at ht
  rcases ht with rfl | rfl | rfl<;>simp only [rzT] at hy<;>simp [hy]
 ·intro t ht
  simp only [List.mem_cons,List.not_mem_nil,or_false] at ht
  rcases ht with rfl | rfl | rfl
  ·exact .inr h1
  ·exact .inr h2
  ·exact .inr h3
theorem rg_lit {H G:Heap} {Ts:List Th} {ql qn:Nat} {l:List Int} (s:St H (cT_ ql [rowP qn l]::cT_ qn (cP fI l)::Ts) G):St H (rgT 0 (.sl ql 1 0 1) [l] [ql,qn]::Ts) G:=by
 have hql:G ql=some [rowP qn l]:=s.get 0 rfl
 have hqn:G qn=some (cP fI l):=s.get 1 rfl
 have hne:ql≠qn:=fun e=>s.disjI 0 1 rfl rfl (by decide) ql (by simp [cT_]) (by simp [cT_,e])
 refine St.step (old:=[cT_ ql [rowP qn l],cT_ qn (cP fI l)]) s [rgT 0 (.sl ql 1 0 1) [l] [ql,qn]] (by simp [rzT,hne]) (fun t ht y hy=>?_) (fun y b hb _=>hb) (fun t ht=>?_)
 ·rw [List.mem_singleton] at ht;subst ht
  simp only [rzT,List.mem_cons,List.not_mem_nil,or_false] at hy
  rcases hy with rfl | rfl
  ·exact .inl ⟨cT_ y [rowP qn l],by simp,by simp [cT_]⟩
  ·exact .inl ⟨cT_ y (cP fI l),by simp,by simp [cT_]⟩
 ·rw [List.mem_singleton] at ht;subst ht
  exact .inr ⟨ql,[rowP qn l],[qn],rfl,hql,⟨[rowP qn l],[],[qn],[],rfl,by simp,⟨_,rfl,e_9 hqn⟩,⟨rfl,rfl⟩⟩,rfl⟩
theorem c_e {a b A B:Int} (h1:0≤a∧a≤A) (h2:0≤b∧b≤B):0≤a*b∧a*b≤A*B:=⟨Int.mul_nonneg h1.1 h2.1,Int.mul_le_mul h1.2 h2.2 h2.1 (by omega)⟩
end Go.Proofs.YtohkciilfkhomaaGreat
namespace Go.Pt
def sc (zs:List Int):List Int:=Lib.compact (zs.mergeSort fun x y=>decide (x≤y))
theorem srt_perm (zs:List Int):List.Perm (zs.mergeSort fun x y=>decide (x≤y)) zs:=List.mergeSort_perm zs _
theorem f_a (zs:List Int):(zs.mergeSort fun x y=>decide (x≤y)).Pairwise (·≤·):=by
 have:=List.pairwise_mergeSort (le:=fun x y:Int=>decide (x≤y)) (fun a b c h1 h2=>by simp only [decide_eq_true_eq] at *;omega) (fun a b=>by simp only [Bool.or_eq_true,decide_eq_true_eq];omega) zs
 exact this.imp fun h=>by simpa using h
theorem d_8 (ys:List Int) (j:Nat) (hj:j < ys.length):Lib.keeps ys.toArray j=true↔j=0∨ys[j - 1]'(by omega)≠ys[j]:=by
 unfold Lib.keeps
 by_cases h0:j=0
 ·simp [h0]
 ·have h1:j - 1 < ys.length:=by omega
  simp [h0,hj,h1]
  omega
theorem compact_mem {ys:List Int} (hs:ys.Pairwise (·≤·)) (x:Int):x∈Lib.compact ys↔x∈ys:=by
 unfold Lib.compact Lib.compactUpTo
 simp only [List.mem_map,List.mem_filter,List.mem_range]
 constructor
 ·rintro ⟨j,⟨hj,_⟩,rfl⟩
  simp [hj]
 ·intro hx
  obtain ⟨j,hj,rfl⟩:=List.mem_iff_getElem.1 hx
  have key:∀n j (hj:j < ys.length),j≤n→∃i,∃hi:i < ys.length,Lib.keeps ys.toArray i=true∧ys[i]=ys[j]:=by
   intro n
   induction n with
   | zero=>intro j hj h;exact ⟨j,hj,(d_8 ys j hj).2 (.inl (by omega)),rfl⟩
   | succ n ih=>
    intro j hj h
    by_cases hk:Lib.keeps ys.toArray j=true
    ·exact ⟨j,hj,hk,rfl⟩
    ·rw [d_8 ys j hj] at hk
     have h1:j≠0:=fun e=>hk (.inl e)
     have h2:ys[j - 1]'(by omega)=ys[j]:=by
      by_cases e:ys[j - 1]'(by omega)=ys[j]
      ·exact e
      ·exact absurd (.inr e) hk
     obtain ⟨i,hi,hki,e⟩:=ih (j - 1) (by omega) (by omega)
     exact ⟨i,hi,hki,by rw [e,h2]⟩
  obtain ⟨i,hi,hk,e⟩:=key j j hj (Nat.le_refl _)
  exact ⟨i,⟨hi,hk⟩,by simp [hi,e]⟩
theorem compact_lt {ys:List Int} (hs:ys.Pairwise (·≤·)):(Lib.compact ys).Pairwise (· < ·):=by
 unfold Lib.compact Lib.compactUpTo
 rw [List.pairwise_map]
 have hr:((List.range ys.length).filter (Lib.keeps ys.toArray)).Pairwise (· < ·):=List.Pairwise.filter _ List.pairwise_lt_range
 refine List.Pairwise.imp_of_mem ?_ hr
 intro i j hi hj hij
 rw [List.mem_filter,List.mem_range] at hi hj
 have hle:=List.pairwise_iff_getElem.1 hs
 have h1:=(d_8 ys j hj.1).1 hj.2
 have e1:ys.toArray[i]! = ys[i]'hi.1:=by simp [hi.1]
 have e2:ys.toArray[j]! = ys[j]'hj.1:=by simp [hj.1]
 rw [e1,e2]
 rcases h1 with h1 | h1
 ·omega
 ·have h2:=hle (j - 1) j (by omega) hj.1 (by omega)
  by_cases e:i=j - 1
  ·subst e
   omega
  ·have h3:=hle i (j - 1) hi.1 (by omega) (by omega)
   omega
theorem sc_mem (zs:List Int) (x:Int):x∈sc zs↔x∈zs:=by
 unfold sc
 rw [compact_mem (f_a zs)]
 exact (srt_perm zs).mem_iff
theorem sc_lt (zs:List Int):(sc zs).Pairwise (· < ·):=compact_lt (f_a zs)
theorem rise_ext:∀{xs ys:List Int},xs.Pairwise (· < ·)→ys.Pairwise (· < ·)→(∀x,x∈xs↔x∈ys)→xs=ys
 | [],[],_,_,_=>rfl
 | [],b::ys,_,_,h=>absurd ((h b).2 (by simp)) (by simp)
 | a::xs,[],_,_,h=>absurd ((h a).1 (by simp)) (by simp)
 | a::xs,b::ys,h1,h2,h=>by
  rw [List.pairwise_cons] at h1 h2
  have e:a=b:=by
   rcases List.mem_cons.1 ((h a).1 (by simp)) with e | e
   ·exact e
   ·have k1:=h2.1 a e
    rcases List.mem_cons.1 ((h b).2 (by simp)) with e' | e'
    ·omega
    ·have k2:=h1.1 b e';omega
  subst e
  refine congrArg _ (rise_ext h1.2 h2.2 fun x=>?_)
  constructor
  ·intro hx
   rcases List.mem_cons.1 ((h x).1 (by simp [hx])) with e | e
   ·have:=h1.1 x hx;omega
   ·exact e
  ·intro hx
   rcases List.mem_cons.1 ((h x).2 (by simp [hx])) with e | e
   ·have:=h2.1 x hx;omega
   ·exact e
theorem d_9 (ys:List Int):(Lib.compact ys).length≤ys.length:=by
 unfold Lib.compact Lib.compactUpTo
 rw [List.length_map]
 exact Nat.le_trans (List.length_filter_le _ _) (by simp)
theorem sc_len (zs:List Int):(sc zs).length≤zs.length:=by
 unfold sc
 exact Nat.le_trans (d_9 _) (by rw [List.length_mergeSort];exact Nat.le_refl _)
def put (l:List Int) (n:Int):List Int:=if n∈l then l else l.takeWhile (· < n)++n::l.dropWhile (· < n)
theorem put_mem (l:List Int) (n x:Int):x∈put l n↔x=n∨x∈l:=by
 unfold put
 split
 ·rename_i h
  exact ⟨.inr,fun h'=>by rcases h' with rfl | h';exact h;exact h'⟩
 ·rw [List.mem_append,List.mem_cons]
  have:x∈l↔x∈l.takeWhile (· < n)∨x∈l.dropWhile (· < n):=by
   rw [← List.mem_append,List.takeWhile_append_dropWhile]
  rw [this]
  constructor
  ·rintro (h | h | h)
   ·exact .inr (.inl h)
   ·exact .inl h
   ·exact .inr (.inr h)
  ·rintro (h | h | h)
   ·exact .inr (.inl h)
   ·exact .inl h
   ·exact .inr (.inr h)
theorem f_F {l:List Int} {n:Int} (hs:l.Pairwise (· < ·)):∀x∈l.dropWhile (· < n),n≤x:=by
 induction l with
 | nil=>intro x hx;simp at hx
 | cons a l ih=>
  rw [List.pairwise_cons] at hs
  intro x hx
  rw [List.dropWhile_cons] at hx
  split at hx
  ·exact ih hs.2 x hx
  ·rename_i h
   simp only [decide_eq_true_eq] at h
   rcases List.mem_cons.1 hx with rfl | hx
   ·omega
   ·have:=hs.1 x hx;omega
theorem f_G {l:List Int} {n:Int}:∀x∈l.takeWhile (· < n),x < n:=by
 induction l with
 | nil=>intro x hx;simp at hx
 | cons a l ih=>
  intro x hx
  rw [List.takeWhile_cons] at hx
  split at hx
  ·rename_i h
   rcases List.mem_cons.1 hx with rfl | hx
   ·simpa using h
   ·exact ih x hx
  ·simp at hx
theorem put_lt {l:List Int} (n:Int) (hs:l.Pairwise (· < ·)):(put l n).Pairwise (· < ·):=by
 unfold put
 split
 ·exact hs
 ·rename_i hn
  rw [List.pairwise_append,List.pairwise_cons]
  have h2:=f_F (n:=n) hs
  have h3:∀x∈l.dropWhile (· < n),n < x:=fun x hx=>by
   have:=h2 x hx
   have hm:x∈l:=(List.dropWhile_suffix _).subset hx
   have:x≠n:=fun e=>hn (e ▸ hm)
   omega
  refine ⟨List.Pairwise.sublist (List.takeWhile_prefix _).sublist hs,⟨h3,List.Pairwise.sublist (List.dropWhile_suffix _).sublist hs⟩,fun a ha b hb=>?_⟩
  have h4:=f_G a ha
  rcases List.mem_cons.1 hb with rfl | hb
  ·exact h4
  ·have:=h3 b hb;omega
theorem f_H (l:List Int) (n:Int):(put l n).length≤l.length+1:=by
 unfold put
 split
 ·omega
 ·have:(l.takeWhile (· < n)).length+(l.dropWhile (· < n)).length=l.length:=by rw [← List.length_append,List.takeWhile_append_dropWhile]
  rw [List.length_append,List.length_cons];omega
theorem foldl_put (xs:List Int):∀(l:List Int),l.Pairwise (· < ·)→(xs.foldl put l).Pairwise (· < ·)∧∀x,x∈xs.foldl put l↔x∈l∨x∈xs:=by
 induction xs with
 | nil=>intro l hl;exact ⟨hl,fun x=>by simp⟩
 | cons a xs ih=>
  intro l hl
  obtain ⟨h1,h2⟩:=ih (put l a) (put_lt a hl)
  refine ⟨h1,fun x=>?_⟩
  rw [List.foldl_cons,h2,put_mem,List.mem_cons]
  constructor
  ·rintro ((h | h) | h)
   ·exact .inr (.inl h)
   ·exact .inl h
   ·exact .inr (.inr h)
  ·rintro (h | h | h)
   ·exact .inl (.inr h)
   ·exact .inl (.inl h)
   ·exact .inr h
theorem puts_sc (xs:List Int):xs.foldl put []=sc xs:=by
 have:=foldl_put xs [] List.Pairwise.nil
 exact rise_ext this.1 (sc_lt xs) fun x=>by rw [this.2,sc_mem];simp
end Go.Pt
namespace Go.Proofs.YtohkciilfkhomaaGreat
open Go Go.Sep Go.Pt
attribute [local irreducible] a_a
theorem d_L {l:List Int} {n:Int}:∀{k:Nat},k≤l.length→(∀j,j < k→l.getD j default < n)→(k=l.length∨¬l.getD k default < n)→l.takeWhile (· < n)=l.take k∧l.dropWhile (· < n)=l.drop k:=by
 induction l with
 | nil=>intro k hk _ _;simp
 | cons a l ih=>
  intro k hk h1 h2
  cases k with
  | zero=>
   have:¬a < n:=by
    rcases h2 with h2 | h2
    ·simp at h2
    ·simpa using h2
   simp [this]
  | succ k=>
   have h0:a < n:=by simpa using h1 0 (by omega)
   have:=ih (k:=k) (by simpa using hk) (fun j hj=>by simpa using h1 (j+1) (by omega)) (by
    rcases h2 with h2 | h2
    ·left;simpa using h2
    ·right;simpa using h2)
   simp [h0,this.1,this.2]
theorem c_o (l:List Int) (n:Int) (hs:l.Pairwise (· < ·)) (hl:l.length≤100000):Pu Tryz.prog 93 [Is l,I n] (Is (put l n)):=by
 refine ⟨fun H=>a_a.fin ?_⟩
 refine W93_ok ?_;simp (maxSteps:=1000000) (disch:=first|assumption|apply Y6;assumption) only [W93,vz,vu,vv,eqS,eF_,↓c1_,↓c2_,tabs,reduceCtorEq,X5,↓reduceIte,Y1,Y2,Y3,Y4,Y5,X1,X2,X3,X4]
 refine d_g (0:Nat) (fun i=>I i) (fun _=>H) (fun k=>k≤l.length∧∀j,j < k→l.getD j default < n) (fun k=>l.length - k) ⟨⟨by omega,by intros;omega⟩,.refl _,Heap.le_refl _⟩ ?_
 rintro k ⟨hk,ha⟩
 have ins:((k=l.length∨¬l.getD k default < n)∧n∉l)→J93_1 (wkK fun r H'=>r=Is (put l n)∧H'=H) (Is l) (I n) (I k) H:=by
  rintro ⟨h2,hn⟩
  have ht:=d_L hk ha h2
  (try simp (disch:=first|assumption|apply Y6;assumption) only [vz,vu,vv,eqS,eF_,↓c1_,↓c2_,tabs,reduceCtorEq,X5,↓reduceIte,Y1,Y2,Y3,Y4,Y5,X1,X2,X3,X4,J93_1])
  refine e_I fun q0 hq0=>?_
  (try simp (disch:=first|assumption|apply Y6;assumption) only [vz,vu,vv,eqS,eF_,↓c1_,↓c2_,tabs,reduceCtorEq,X5,↓reduceIte,Y1,Y2,Y3,Y4,Y5,X1,X2,X3,X4,a_z])
  refine ⟨by omega,by omega,by omega,szI l,?_⟩
  have hlt:(l.take k).length=k:=by rw [List.length_take,Nat.min_eq_left hk]
  refine b_R (xs:=[]) (ys:=l.take k) hq0 (by simp only [List.length_nil,hlt];omega) fun q1 hq1=>?_
  rw [List.nil_append]
  refine c_c hq1 (by omega) fun q2 hq2=>?_
  (try simp (disch:=first|assumption|apply Y6;assumption) only [vz,vu,vv,eqS,eF_,↓c1_,↓c2_,tabs,reduceCtorEq,X5,↓reduceIte,Y1,Y2,Y3,Y4,Y5,X1,X2,X3,X4,a_z])
  refine ⟨by omega,by omega,by omega,szI l,?_⟩
  have e1:List.take ((l.length:Int) - k).toNat (l.drop k)=l.drop k:=List.take_of_length_le (by rw [List.length_drop];omega)
  rw [e1]
  have e2:l.take k++[n]++l.drop k=put l n:=by rw [put,if_neg hn,ht.1,ht.2];simp
  refine b_R (xs:=l.take k++[n]) (ys:=l.drop k) hq2 (by simp only [List.length_append,hlt,List.length_drop,List.length_singleton];omega) fun q3 hq3=>?_
  rw [e2]
  exact f_C hq3 (Heap.le_refl _)
 have here:(k=l.length∨¬l.getD k default < n)→J93_2 (wkK fun r H'=>r=Is (put l n)∧H'=H) (Is l) (I n) (I k) H:=by
  intro h2
  have ht:=d_L hk ha h2
  have ge:∀x∈l.drop k,n≤x:=by rw [← ht.2];exact f_F hs
  have lt:∀x∈l.take k,x < n:=by rw [← ht.1];exact f_G
  (try simp (disch:=first|assumption|apply Y6;assumption) only [vz,vu,vv,eqS,eF_,↓c1_,↓c2_,tabs,reduceCtorEq,X5,↓reduceIte,Y1,Y2,Y3,Y4,Y5,X1,X2,X3,X4,J93_2])
  refine ⟨fun h3=>⟨by omega,h3,fun h4=>?_,fun h4=>ins ⟨h2,fun hm=>?_⟩⟩,fun h3=>ins ⟨h2,fun hm=>?_⟩⟩
  ·have hkl:k < l.length:=by omega
   have hm:n∈l:=by rw [← h4];exact a_e (p:=fun x=>x∈l) (fun _ h=>h) hkl
   exact wkK.keep ⟨by rw [put,if_pos hm],rfl⟩
  ·have hkl:k < l.length:=by omega
   rw [← List.take_append_drop k l] at hm
   rcases List.mem_append.1 hm with hm | hm
   ·have:=lt n hm;omega
   ·rw [a_K hkl] at hm ge
    rcases List.mem_cons.1 hm with hm | hm
    ·exact h4 hm.symm
    ·have h5:=ge _ (List.mem_cons_self ..)
     have h6:(l.drop k).Pairwise (· < ·):=List.Pairwise.sublist (List.drop_sublist k l) hs
     rw [a_K hkl,List.pairwise_cons] at h6
     have:=h6.1 n hm
     omega
  ·rw [← List.take_append_drop k l,List.drop_of_length_le (by omega),List.append_nil] at hm
   have:=lt n hm;omega
 (try simp (disch:=first|assumption|apply Y6;assumption) only [vz,vu,vv,eqS,eF_,↓c1_,↓c2_,tabs,reduceCtorEq,X5,↓reduceIte,Y1,Y2,Y3,Y4,Y5,X1,X2,X3,X4,B93_0])
 refine ⟨fun h1=>⟨by omega,h1,fun h2=>⟨k+1,⟨by omega,fun j hj=>?_⟩,by omega,?_⟩,fun h2=>here (.inr h2)⟩,fun h1=>here (.inl (by omega))⟩
 ·rcases Nat.lt_succ_iff_lt_or_eq.1 hj with h | rfl
  ·exact ha j h
  ·exact h2
 ·rw [a_r,i6_ (by omega) (by omega)];simp
end Go.Proofs.YtohkciilfkhomaaGreat
namespace Go.Proofs.YtohkciilfkhomaaGreat
open Go Go.Sep Go.Pt
attribute [local irreducible] a_a
theorem c_f {l:List Int} {n:Int} (h:a_x l n=true):∀i,i < l.length→(i:Int)≤l.getD i default∧l.getD i default < n:=by
 intro i
 induction i with
 | zero=>
  intro hi
  have:=a_N.1 (List.all_eq_true.1 h 0 (List.mem_range.2 hi))
  omega
 | succ i ih=>
  intro hi
  have h1:=ih (by omega)
  have:=a_N.1 (List.all_eq_true.1 h (i+1) (List.mem_range.2 hi))
  simp only [Nat.add_sub_cancel] at this
  omega
theorem rising_sm {l:List Int} {n:Int} (h:a_x l n=true) (hn:n≤10000):smI l∧l.length≤n.toNat:=by
 have hl:l.length≤n.toNat:=by
  by_cases h0:l.length=0
  ·omega
  ·have:=c_f h (l.length - 1) (by omega)
   omega
 refine ⟨⟨by omega,fun x hx=>?_⟩,hl⟩
 obtain ⟨i,hi,rfl⟩:=List.mem_iff_getElem.1 hx
 have:=c_f h i hi
 rw [a_k hi] at this
 omega
structure GoodF (a:Au):Prop where
 st:1≤a.states∧a.states≤96
 fi:smI a.first∧a.first.length≤96
 ed:a.edges.length≤2400
 ei:∀e∈a.edges,edIn a.states e=true
 gl:a.goals.length≤6
 gi:∀g∈a.goals,smI g∧g.length≤96
theorem a_B {a:Au} (h:a_l a=true):GoodF a:=by
 rw [b_J] at h
 simp only [a_1,Bool.and_eq_true,decide_eq_true_eq,List.all_eq_true] at h
 obtain ⟨h1,h2,h3,⟨h4,h5⟩,h6⟩:=h
 have f:=rising_sm h2 (by omega)
 refine ⟨h1,⟨f.1,by omega⟩,h3,fun e he=>?_,h4,fun g hg=>?_⟩
 ·obtain ⟨i,hi,rfl⟩:=List.mem_iff_getElem.1 he
  have:=(c_m.1 (List.all_eq_true.1 h6 i (List.mem_range.2 hi))).1
  rwa [a_k hi] at this
 ·have:=rising_sm (h5 g hg) (by omega)
  exact ⟨this.1,by omega⟩
def c_t:Au:=⟨0,[],[],[]⟩
theorem goalAt_sm {a:Au} (h:GoodF a) (k:Nat):smI (a_o a k)∧(a_o a k).length≤96:=by
 have hs:=h.st
 unfold a_o
 split
 ·have hm:a.goals.getD (k:Int).toNat default∈a.goals:=a_e (p:=fun x=>x∈a.goals) (fun _ h=>h) (by omega)
  exact h.gi _ hm
 ·refine ⟨⟨by rw [a_H];omega,fun x hx=>?_⟩,by rw [a_H];omega⟩
  simp only [below,List.mem_map,List.mem_range] at hx
  obtain ⟨i,hi,rfl⟩:=hx
  omega
end Go.Proofs.YtohkciilfkhomaaGreat
namespace Go.Proofs.YtohkciilfkhomaaGreat
open Go Go.Sep Go.Pt
attribute [local irreducible] a_a
end Go.Proofs.YtohkciilfkhomaaGreat
namespace Go.Proofs.YtohkciilfkhomaaGreat
open Go Go.Sep Go.Pt
attribute [local irreducible] a_a
end Go.Proofs.YtohkciilfkhomaaGreat
namespace Go.Proofs.YtohkciilfkhomaaGreat
open Go Go.Sep
attribute [local irreducible] a_a
abbrev cur (code:List Int) (k:Nat) (seed:Int):List AV:=[.p (.sl (code.map e8)),I k,U seed]
structure CodeC (code:List Int):Prop where
 byte:∀b∈code,0≤b∧b < 256
 len:code.length≤4194304
theorem and255 (x:Int):0≤b_6 .and .u64 x 255∧b_6 .and .u64 x 255 < 256:=by
 have h:(BitVec.ofInt IntKind.u64.bits x &&& BitVec.ofInt IntKind.u64.bits 255).toNat≤255:=by
  rw [BitVec.toNat_and];exact Nat.le_trans Nat.and_le_right (by decide)
 simp only [b_6]
 rw [IntKind.wrap_u64];omega
theorem f_b {code:List Int} (hc:CodeC code) {k:Nat} {seed:Int} (hk:k≤1000000000) {H:Heap} {r:Nat} (hr:H r=some (cur code k seed)) {K:k_}
  (h:∀b seed',0≤b→b < 256→K (I b) (H.set r (cur code (k+1) seed'))):a_a Tryz.prog 106 [.ptr r 0] H K:=by
 have hw:IntKind.i64.wrap (↑k+1)=((k+1:Nat):Int):=i6_ (by omega) (by omega)
 refine W106_ok ?_;simp (maxSteps:=1000000) (disch:=first|assumption|apply Y6;assumption) only [W106,vz,vu,vv,eqS,eF_,↓c1_,↓c2_,tabs,reduceCtorEq,X5,↓reduceIte,Y1,Y2,Y3,Y4,Y5,X1,X2,X3,X4,J106_0,lA_ hr,sA_ hr,hw]
 have hb:∀x:Int,(0≤x∧x < 256)→0≤IntKind.i64.wrap x∧IntKind.i64.wrap x < 256:=fun x hx=>by rw [i6_ (by omega) (by omega)];exact hx
 refine ⟨fun h1=>⟨by omega,h1,fun _=>?_,fun _=>⟨by omega,?_⟩⟩,fun h1=>⟨fun _=>?_,fun _=>⟨by omega,?_⟩⟩⟩
 ·have:=hb _ (a_e (d:=default) hc.byte (i:=k) (by omega))
  exact h _ _ this.1 this.2
 ·have:=hb _ (and255 ((IntKind.u64.wrap (IntKind.u64.wrap (IntKind.u64.wrap (seed*6364136223846793005)+IntKind.u64.wrap (IntKind.i64.wrap (code.getD k default)))+1442695040888963407)).fdiv (2^min 40 IntKind.u64.bits)))
  exact h _ _ this.1 this.2
 ·exact h _ _ (by omega) (by omega)
 ·have:=hb _ (and255 ((IntKind.u64.wrap (IntKind.u64.wrap (IntKind.u64.wrap (seed*6364136223846793005)+IntKind.u64.wrap 0)+1442695040888963407)).fdiv (2^min 40 IntKind.u64.bits)))
  exact h _ _ this.1 this.2
theorem a_j {code:List Int} (hc:CodeC code) {k:Nat} {seed:Int} (n:Int) (hn:n≤65536) (hk:k≤900000000) {H:Heap} {r:Nat} (hr:H r=some (cur code k seed)) {K:k_}
  (h:∀x k' seed',0≤x→(x=0∨x < n)→k≤k'→k'≤k+2→K (I x) (H.set r (cur code k' seed'))):a_a Tryz.prog 69 [.ptr r 0,I n] H K:=by
 have hs:H.set r (cur code k seed)=H:=by
  funext x;by_cases e:x=r
  ·subst e;rw [Heap.set_same,hr]
  ·rw [Heap.set_other e]
 refine W69_ok ?_;simp (maxSteps:=1000000) (disch:=first|assumption|apply Y6;assumption) only [W69,vz,vu,vv,eqS,eF_,↓c1_,↓c2_,tabs,reduceCtorEq,X5,↓reduceIte,Y1,Y2,Y3,Y4,Y5,X1,X2,X3,X4]
 refine ⟨fun h1=>?_,fun h1=>?_⟩
 ·have:=h 0 k seed (by omega) (.inl rfl) (by omega) (by omega)
  rwa [hs] at this
 ·refine f_b hc (by omega) hr fun b s1 hb0 hb1=>?_
  (try simp (disch:=first|assumption|apply Y6;assumption) only [vz,vu,vv,eqS,eF_,↓c1_,↓c2_,tabs,reduceCtorEq,X5,↓reduceIte,Y1,Y2,Y3,Y4,Y5,X1,X2,X3,X4])
  refine ⟨fun h2=>?_,fun h2=>?_⟩
  ·refine f_b hc (by omega) (Heap.set_same _ _ _) fun b2 s2 hb2 hb3=>?_
   (try simp (disch:=first|assumption|apply Y6;assumption) only [vz,vu,vv,eqS,eF_,↓c1_,↓c2_,tabs,reduceCtorEq,X5,↓reduceIte,Y1,Y2,Y3,Y4,Y5,X1,X2,X3,X4])
   rw [i6_ (n:=b*256) (by omega) (by omega),i6_ (by omega) (by omega)]
   exact ⟨by omega,h _ _ _ (Int.tmod_nonneg _ (by omega)) (.inr (Int.tmod_lt_of_pos _ (by omega))) (by omega) (by omega)⟩
  ·exact ⟨by omega,h _ _ _ (Int.tmod_nonneg _ (by omega)) (.inr (Int.tmod_lt_of_pos _ (by omega))) (by omega) (by omega)⟩
theorem c_Z {code:List Int} (hc:CodeC code) {k:Nat} {seed:Int} (n:Int) (hn:n≤65536) (hk:k≤900000000) {H:Heap} {r:Nat} (hr:H r=some (cur code k seed)) {K:k_}
  (h:∀x k' seed',k≤k'→k'≤k+2→K (B x) (H.set r (cur code k' seed'))):a_a Tryz.prog 47 [.ptr r 0,I n] H K:=by
 refine W47_ok ?_;simp (maxSteps:=1000000) (disch:=first|assumption|apply Y6;assumption) only [W47,vz,vu,vv,eqS,eF_,↓c1_,↓c2_,tabs,reduceCtorEq,X5,↓reduceIte,Y1,Y2,Y3,Y4,Y5,X1,X2,X3,X4]
 refine a_j hc n hn hk hr fun x k' s' _ _ h1 h2=>?_
 (try simp (disch:=first|assumption|apply Y6;assumption) only [vz,vu,vv,eqS,eF_,↓c1_,↓c2_,tabs,reduceCtorEq,X5,↓reduceIte,Y1,Y2,Y3,Y4,Y5,X1,X2,X3,X4])
 exact h _ _ _ h1 h2
theorem d_k {code:List Int} (hc:CodeC code) {k:Nat} {seed:Int} (l:List Int) (hl:0 < l.length) (hn:l.length≤65536) (hk:k≤900000000) {H:Heap} {r:Nat} (hr:H r=some (cur code k seed)) {K:k_}
  (h:∀x k' seed',x∈l→k≤k'→k'≤k+2→K (I x) (H.set r (cur code k' seed'))):a_a Tryz.prog 97 [.ptr r 0,Is l] H K:=by
 refine W97_ok ?_;simp (maxSteps:=1000000) (disch:=first|assumption|apply Y6;assumption) only [W97,vz,vu,vv,eqS,eF_,↓c1_,↓c2_,tabs,reduceCtorEq,X5,↓reduceIte,Y1,Y2,Y3,Y4,Y5,X1,X2,X3,X4]
 refine a_j hc _ (by omega) hk hr fun x k' s' h0 hx h1 h2=>?_
 (try simp (disch:=first|assumption|apply Y6;assumption) only [vz,vu,vv,eqS,eF_,↓c1_,↓c2_,tabs,reduceCtorEq,X5,↓reduceIte,Y1,Y2,Y3,Y4,Y5,X1,X2,X3,X4])
 refine ⟨h0,by omega,?_⟩
 exact h _ _ _ (a_e (p:=fun b=>b∈l) (fun b hb=>hb) (by omega)) h1 h2
end Go.Proofs.YtohkciilfkhomaaGreat
namespace Go.Proofs.YtohkciilfkhomaaGreat
open Go Go.Sep Go.Pt
attribute [local irreducible] a_a
theorem Heap.del_put {H:Heap} {r:Nat} {b:List AV} (h:H r=some b):(H.del r).set r b=H:=by
 funext y
 by_cases e:y=r
 ·subst e;rw [Heap.set_same,h]
 ·rw [Heap.set_other e,Heap.del_other e]
theorem St.start {H:Heap} {r:Nat} {b:List AV} (h:H r=some b):St (H.del r) [cT_ r b] H:=by
 have:=(St.nil (H.del r)).cell (r:=r) (Heap.del_same _ _) b
 rwa [Heap.del_put h] at this
theorem set_le {H G:Heap} {Ts:List Th} {r:Nat} {b:List AV} (st:St (H.del r) Ts G) (c:Nat) (hc:Ts[c]?=some (cT_ r b)):Heap.le (H.set r b) G:=by
 intro y v hv
 by_cases e:y=r
 ·subst e;rw [Heap.set_same] at hv;rw [← hv];exact st.get c hc
 ·rw [Heap.set_other e] at hv
  exact st.le y v (by rw [Heap.del_other e];exact hv)
theorem dr_fin {H G:Heap} {Ts:List Th} {z1 z2 z3:Nat} {x y w:AV} {f:List Int} {es:List Ed} {gs:List (List Int)} {D1 D2 D3:List Nat} {m:Int} {r:Nat} {b:List AV} (st:St (H.del r) Ts G) (i j l c:Nat)
  (hi:(Ts[i]?=some (riT z1 x f D1)∧i≠j∧i≠l∧i≠c)∨(x=.p .nil∧f=[])) (hj:Ts[j]?=some (reT z2 y es D2)) (hl:Ts[l]?=some (rzT (LPl.local eL) (LPl.has eL) 1 z3 w gs D3)) (hc:Ts[c]?=some (cT_ r b)) (hjl:j≠l) (hjc:j≠c) (hlc:l≠c)
  {K:k_} (h:K (aAu ⟨m,f,es,gs⟩) (H.set r b)):wkK K (.agg [I m,x,y,w]) G:=by
 obtain ⟨G0,E,w0,f0,e2,e3,er,eH⟩:∃(G0:Heap) (E:List Nat),Wk (.agg [I m,x,y,w]) G (.agg [I m,Is f,y,w]) G0∧(∀v,v∉E→G0 v=G v)∧(∀v∈D2,v∉E)∧(∀v∈D3,v∉E)∧r∉E∧∀v b,(H.del r) v=some b→v∉E:=by
  rcases hi with ⟨hi,h1,h2,h3⟩ | ⟨rfl,rfl⟩
  ·obtain ⟨x',hx,lx⟩:=(st.get i hi:RZ (LPl eI) 1 z1 x f G D1).row
   obtain ⟨G1,w1,f1⟩:=LRow.frzV (e:=eI) (sz:=1) (v:=.agg [I m,x',y,w]) (v':=.agg [I m,Is f,y,w]) (by omega) (fun _=>rfl) (LPl.local eI) (LPl.frz eI) lx (st.ndT i hi) (fun q _ hr=>.agg (.cons (.same _) (.cons hr (.cons (.same _) (.cons (.same _) .nil)))))
   exact ⟨G1,D1,.trans (.val (v':=.agg [I m,x',y,w]) (b_9 ⟨.refl _,hx,.refl _,.refl _,trivial⟩)) w1,f1,fun v hv=>st.disjI j i hj hi (Ne.symm h1) v hv,fun v hv=>st.disjI l i hl hi (Ne.symm h2) v hv,st.disjI c i hc hi (Ne.symm h3) r (by simp [cT_]),fun v b hb=>st.wkNone v b hb _ (List.mem_of_getElem? hi)⟩
  ·exact ⟨G,[],.val (b_9 ⟨.refl _,.nil,.refl _,.refl _,trivial⟩),fun _ _=>rfl,by simp,by simp,by simp,by simp⟩
 obtain ⟨y',hy,ly⟩:=(st.get j hj:RZ (LPl eE) 3 z2 y es G D2).row
 obtain ⟨w',hw,lw⟩:=(st.get l hl:RZ (LPl eL) 1 z3 w gs G D3).row
 have ly0:=LRow.local (LPl.local eE) ly (G':=G0) fun y hy bb hb=>by rw [f0 y (e2 y hy)];exact hb
 have wv:Wk (.agg [I m,Is f,y,w]) G0 (.agg [I m,Is f,y',w']) G0:=.val (b_9 ⟨.refl _,.refl _,hy,hw,trivial⟩)
 obtain ⟨G1,w1,f1⟩:=LRow.frzV (e:=eE) (sz:=3) (v:=.agg [I m,Is f,y',w']) (v':=.agg [I m,Is f,Es es,w']) (by omega) (fun _=>rfl) (LPl.local eE) (LPl.frz eE) ly0 (st.ndT j hj) (fun q _ hr=>.agg (.cons (.same _) (.cons (.same _) (.cons hr (.cons (.same _) .nil)))))
 have lw1:=LRow.local (LPl.local eL) lw (G':=G1) fun y hy bb hb=>by rw [f1 y (fun hm=>st.disjI j l hj hl hjl y hm hy),f0 y (e3 y hy)];exact hb
 obtain ⟨G2,w2,f2⟩:=LRow.frzV (e:=eL) (sz:=1) (v:=.agg [I m,Is f,Es es,w']) (v':=.agg [I m,Is f,Es es,Ls gs]) (by omega) (fun _=>rfl) (LPl.local eL) (LPl.frz eL) lw1 (st.ndT l hl) (fun q _ hr=>.agg (.cons (.same _) (.cons (.same _) (.cons (.same _) (.cons hr .nil)))))
 have hsl:=set_le st c hc
 refine ⟨_,_,.trans w0 (.trans wv (.trans w1 (.trans w2 (.forget (H':=H.set r b) fun v bb hb=>?_)))),h⟩
 have hG:=hsl v bb hb
 have keep:v∉D3∧v∉D2∧v∉E:=by
  by_cases e:v=r
  ·subst e
   exact ⟨st.disjI c l hc hl (Ne.symm hlc) v (by simp [cT_]),st.disjI c j hc hj (Ne.symm hjc) v (by simp [cT_]),er⟩
  ·rw [Heap.set_other e] at hb
   have hb2:(H.del r) v=some bb:=by rw [Heap.del_other e];exact hb
   exact ⟨st.wkNone v bb hb2 _ (List.mem_of_getElem? hl),st.wkNone v bb hb2 _ (List.mem_of_getElem? hj),eH v bb hb2⟩
 rw [f2 v keep.1,f1 v keep.2.1,f0 v keep.2.2]
 exact hG
theorem l1Put_nil (n:Int) {H:Heap} {K:k_} (h:∀q,H q=none→K (rowP q [n]) (H.set q (cP fI [n]))):a_a Tryz.prog 93 [.p .nil,I n] H K:=by
 refine a_a.pre (args':=[Is [],I n]) (H':=H) ?_ (.val (a_W ⟨.nil,.refl _,trivial⟩))
 refine a_a.fin ?_
 refine W93_ok ?_;simp (maxSteps:=1000000) (disch:=first|assumption|apply Y6;assumption) only [W93,vz,vu,vv,eqS,eF_,↓c1_,↓c2_,tabs,reduceCtorEq,X5,↓reduceIte,Y1,Y2,Y3,Y4,Y5,X1,X2,X3,X4]
 refine d_g () (fun _=>I 0) (fun _=>H) (fun _=>True) (fun _=>0) ⟨trivial,.refl _,Heap.le_refl _⟩ ?_
 rintro ⟨⟩ -
 have ins:J93_1 (wkK K) (Is []) (I n) (I 0) H:=by
  (try simp (disch:=first|assumption|apply Y6;assumption) only [vz,vu,vv,eqS,eF_,↓c1_,↓c2_,tabs,reduceCtorEq,X5,↓reduceIte,Y1,Y2,Y3,Y4,Y5,X1,X2,X3,X4,J93_1])
  refine e_I fun q0 hq0=>?_
  (try simp (disch:=first|assumption|apply Y6;assumption) only [vz,vu,vv,eqS,eF_,↓c1_,↓c2_,tabs,reduceCtorEq,X5,↓reduceIte,Y1,Y2,Y3,Y4,Y5,X1,X2,X3,X4,a_z])
  refine ⟨by omega,by omega,by omega,by simp,?_⟩
  refine b_R (xs:=[]) (ys:=[]) hq0 (by simp) fun q1 hq1=>?_
  refine c_c (xs:=[]) hq1 (by simp) fun q2 hq2=>?_
  (try simp (disch:=first|assumption|apply Y6;assumption) only [vz,vu,vv,eqS,eF_,↓c1_,↓c2_,tabs,reduceCtorEq,X5,↓reduceIte,Y1,Y2,Y3,Y4,Y5,X1,X2,X3,X4,a_z])
  refine ⟨by omega,by omega,by omega,by simp,?_⟩
  refine b_R (xs:=[n]) (ys:=[]) hq2 (by simp) fun q3 hq3=>?_
  exact wkK.keep (h q3 hq3)
 (try simp (disch:=first|assumption|apply Y6;assumption) only [vz,vu,vv,eqS,eF_,↓c1_,↓c2_,tabs,reduceCtorEq,X5,↓reduceIte,Y1,Y2,Y3,Y4,Y5,X1,X2,X3,X4,B93_0,J93_2])
 exact ⟨fun h1=>absurd h1 (by omega),fun _=>⟨fun h1=>absurd h1 (by omega),fun _=>ins⟩⟩
abbrev dTs (q5 q4:Nat) (m:Int) (x y w:AV) (z1 z2 z3:Nat) (f:List Int) (es:List Ed) (gs:List (List Int)) (D1 D2 D3:List Nat) (r:Nat) (c:List AV):List Th:=[cT_ q5 [I m,x,y,w],cT_ q4 [I 0,.p .nil,.p .nil,.p .nil],riT z1 x f D1,reT z2 y es D2,rzT (LPl.local eL) (LPl.has eL) 1 z3 w gs D3,cT_ r c]
theorem c_0 {q4:Nat} {m:Int} {x y w:AV} {G:Heap} (hx:x=.p .nil∨∃q n,x=.sl q 1 0 n) (hy:y=.p .nil∨∃q n,y=.sl q 3 0 n) (hw:w=.p .nil∨∃q n,w=.sl q 1 0 n) (hG:G q4=some [I 0,.p .nil,.p .nil,.p .nil]) {K:k_} (h:K (.agg [I m,x,y,w]) (G.set q4 [I m,x,y,w])) :
  sV_ tab 28 (.ptr q4 0) (.agg [I m,x,y,w]) G fun H=>lV_ tab 28 (.ptr q4 0) H fun r0=>K r0 H:=by
 have hs:(G.set q4 [I m,x,y,w]) q4=some [I m,x,y,w]:=Heap.set_same _ _ _
 rcases hx with rfl | ⟨q1,n1,rfl⟩<;>rcases hy with rfl | ⟨q2,n2,rfl⟩<;>rcases hw with rfl | ⟨q3,n3,rfl⟩<;>((try simp (disch:=first|assumption|apply Y6;assumption) only [vz,vu,vv,eqS,eF_,↓c1_,↓c2_,tabs,reduceCtorEq,X5,↓reduceIte,Y1,Y2,Y3,Y4,Y5,X1,X2,X3,X4,sA_ hG,lA_ hs]);exact h)
theorem nils_val {H G:Heap} {Ts:List Th} {q N:Nat} (s:St H Ts G) (i:Nat) (hi:Ts[i]?=some (cT_ q (zA_ N [.p .nil]))) (v:AV):∃G',Wk v G v G'∧St H (Ts.set i (rzT (LPl.local eL) (LPl.has eL) 1 0 (.sl q 1 0 N) (List.replicate N []) [q])) G':=by
 have hz:zA_ N [AV.p .nil]=List.replicate N (.p .nil):=by
  induction N with
  | zero=>rfl
  | succ N ih=>simp [zA_,List.replicate_succ] at *
 have hc:cells ((List.replicate N ([]:List Int)).map eL)=List.replicate N (.p (.sl [])):=by
  clear hi hz
  induction N with
  | zero=>rfl
  | succ N ih=>simp only [List.replicate_succ,List.map_cons,cells,List.flatten_cons,List.map_append] at ih ⊢;rw [ih];rfl
 have hG:=s.get i hi
 refine ⟨G.set q (cells ((List.replicate N ([]:List Int)).map eL)),.cell (by exact hG) (by rw [hz,hc];simp) fun j a a' ha ha'=>?_,?_⟩
 ·rw [hz] at ha
  rw [hc] at ha'
  rw [List.eq_of_mem_replicate (List.mem_of_getElem? ha),List.eq_of_mem_replicate (List.mem_of_getElem? ha')]
  exact .nil
 ·refine s.repl i hi _ (by simp [rzT]) (fun y hy=>.inl hy) (fun y b hb hy=>?_) (.inr ⟨q,_,[],by rw [List.length_replicate],Heap.set_same _ _ _,LL.plain _,rfl⟩)
  have hy:y≠q:=by simpa [cT_] using hy
  rw [Heap.set_other hy];exact hb
theorem put_len1 (a b:Int):(put [a] b).length≤2:=by
 unfold put
 split
 ·simp
 ·by_cases h:a < b<;>simp [h]
theorem put_pw1 (a b:Int):(put [a] b).Pairwise (· < ·):=by
 unfold put
 split
 ·simp
 ·rename_i h
  simp at h
  by_cases h2:a < b
  ·simp [h2]
  ·simp [h2];omega
theorem auto_4 {code:List Int} (hc:CodeC code) {H G:Heap} {r q5 q4:Nat} {k0:Nat} {seed:Int} {m:Int} (hm:1≤m∧m≤100) {x y w:AV} {z1 z2 z3:Nat} {f:List Int} {es:List Ed} {gs0:List (List Int)} {D1 D2 D3:List Nat} (hf:f.length≤1000) (he:es.length≤10000) (n0:Nat) (hn0:n0≤4) (hg:gs0=[])
  (st:St (H.del r) (dTs q5 q4 m x y w z1 z2 z3 f es gs0 D1 D2 D3 r (cur code k0 seed)) G) (hk:k0≤600000000) {K:k_}
  (h:∀f es gs k' seed',f.length≤2000→es.length≤20000→gs.length≤10→(∀g∈gs,g.length≤10)→k0≤k'→k'≤k0+50→K (aAu ⟨m,f,es,gs⟩) (H.set r (cur code k' seed'))) :
  L45_4 (wkK K) (.ptr r 0) (.ptr q4 0) (.ptr q5 0) (I n0) G:=by
 subst hg
 refine L45_4_rule (n0,w,([]:List (List Int)),D3,k0,seed,G) (fun s=>I s.1) (fun s=>s.2.2.2.2.2.2)
  (fun s=>s.1≤n0∧s.2.2.1.length+s.1≤n0∧(∀g∈s.2.2.1,g.length≤2∧g.Pairwise (· < ·))∧k0≤s.2.2.2.2.1∧s.2.2.2.2.1+8*s.1≤k0+8*n0∧St (H.del r) (dTs q5 q4 m x y s.2.1 z1 z2 z3 f es s.2.2.1 D1 D2 s.2.2.2.1 r (cur code s.2.2.2.2.1 s.2.2.2.2.2.1)) s.2.2.2.2.2.2) (fun s=>s.1)
  ⟨⟨by simp,by simp,by simp,by simp,by simp,st⟩,.refl _,Heap.le_refl _⟩ ?_
 clear st G seed w D3
 rintro ⟨n,w,gs,D3,k,seed,G⟩ ⟨hn,hgl,hgg,hk1,hk2,st⟩
 dsimp only at hn hgl hgg hk1 hk2 st
 have e5:0 < n→IntKind.i64.wrap ((n:Int) - 1)=((n - 1:Nat):Int):=fun h=>by rw [i6_ (by omega) (by omega)];omega
 (try simp (disch:=first|assumption|apply Y6;assumption) only [vz,vu,vv,eqS,eF_,↓c1_,↓c2_,tabs,reduceCtorEq,X5,↓reduceIte,Y1,Y2,Y3,Y4,Y5,X1,X2,X3,X4,B45_4])
 refine ⟨fun hpos=>?_,fun hpos=>?_⟩
 ·have hn1:0 < n:=by omega
  have e5':=e5 hn1
  (try simp (disch:=first|assumption|apply Y6;assumption) only [vz,vu,vv,eqS,eF_,↓c1_,↓c2_,tabs,reduceCtorEq,X5,↓reduceIte,Y1,Y2,Y3,Y4,Y5,X1,X2,X3,X4,lA_ (st.get 0 rfl)])
  refine a_j hc m (by omega) (k:=k) (by omega) (st.get 5 rfl) fun x1 k1 s1 hx0 hx1 hk3 hk4=>?_
  replace st:=st.put 5 rfl (cur code k1 s1)
  generalize G.set r (cur code k1 s1)=G1 at st ⊢
  have hp1:=c_o [] x1 List.Pairwise.nil (by simp)
  refine a_a.pre (args':=[Is [],I x1]) (H':=G1) ?_ (.val (a_W ⟨.nil,.refl _,trivial⟩))
  refine Pu.use hp1 ?_
  have ep:put [] x1=[x1]:=rfl
  rw [ep]
  have nx:∀(g:List Int) (k2:Nat) (s2:Int) (G2:Heap),g.length≤2→g.Pairwise (· < ·)→k≤k2→k2≤k+8→St (H.del r) (dTs q5 q4 m x y w z1 z2 z3 f es gs D1 D2 D3 r (cur code k2 s2)) G2→G.le G→J45_5 (wkK K) (fun w12 H'=>∃s':Nat×AV×List (List Int)×List Nat×Nat×Int×Heap,(s'.1≤n0∧s'.2.2.1.length+s'.1≤n0∧(∀g∈s'.2.2.1,g.length≤2∧g.Pairwise (· < ·))∧k0≤s'.2.2.2.2.1∧s'.2.2.2.2.1+8*s'.1≤k0+8*n0∧St (H.del r) (dTs q5 q4 m x y s'.2.1 z1 z2 z3 f es s'.2.2.1 D1 D2 s'.2.2.2.1 r (cur code s'.2.2.2.2.1 s'.2.2.2.2.2.1)) s'.2.2.2.2.2.2)∧s'.1 < n∧w12.wk (I s'.1)∧Heap.le s'.2.2.2.2.2.2 H') (.ptr r 0) (.ptr q4 0) (.ptr q5 0) (I n) (Is g) G2:=by
   intro g k2 s2 G2 hg1 hg2 hk5 hk6 st _
   (try simp (disch:=first|assumption|apply Y6;assumption) only [vz,vu,vv,eqS,eF_,↓c1_,↓c2_,tabs,reduceCtorEq,X5,↓reduceIte,Y1,Y2,Y3,Y4,Y5,X1,X2,X3,X4,J45_5,lA_ (st.get 0 rfl)])
   refine lit1 c_x rfl a_g ⟨rfl,rfl⟩ ?_
   (try simp (disch:=first|assumption|apply Y6;assumption) only [vz,vu,vv,eqS,eF_,↓c1_,↓c2_,tabs,reduceCtorEq,X5,↓reduceIte,Y1,Y2,Y3,Y4,Y5,X1,X2,X3,X4,lA_ (st.get 0 rfl)])
   refine RZ.app (bz:=24) (e:=eL) (ys:=[g]) c_x rfl a_g c_x rfl rfl rfl (fun _=>rfl) st 4 rfl rfl (by simp only [List.length_cons,List.length_nil];omega) (by simp only [List.length_cons,List.length_nil];omega) fun q' G' hq' st=>?_
   obtain ⟨gs',hgs⟩:∃gs',gs++[g]=gs':=⟨_,rfl⟩
   have hgl':gs'.length=gs.length+1:=by rw [← hgs];simp
   have hgg':∀g∈gs',g.length≤2∧g.Pairwise (· < ·):=by
    intro g' hg'
    rw [← hgs] at hg'
    rcases List.mem_append.1 hg' with h | h
    ·exact hgg _ h
    ·rw [List.mem_singleton.1 h];exact ⟨hg1,hg2⟩
   rw [hgs] at st ⊢
   (try simp (disch:=first|assumption|apply Y6;assumption) only [vz,vu,vv,eqS,eF_,↓c1_,↓c2_,tabs,reduceCtorEq,X5,↓reduceIte,Y1,Y2,Y3,Y4,Y5,X1,X2,X3,X4,sA_ (st.get 0 rfl),e5'])
   replace st:=st.put 0 rfl [I m,x,y,.sl q' 1 0 gs'.length]
   exact ⟨(n - 1,_,gs',[q'],k2,s2,_),⟨by simp only;omega,by simp only;omega,hgg',by simp only;omega,by simp only;omega,st⟩,by simp only;omega,.refl _,Heap.le_refl _⟩
  (try simp (disch:=first|assumption|apply Y6;assumption) only [vz,vu,vv,eqS,eF_,↓c1_,↓c2_,tabs,reduceCtorEq,X5,↓reduceIte,Y1,Y2,Y3,Y4,Y5,X1,X2,X3,X4])
  refine c_Z hc 2 (by omega) (k:=k1) (by omega) (st.get 5 rfl) fun b k2 s2 hk5 hk6=>?_
  replace st:=st.put 5 rfl (cur code k2 s2)
  generalize G1.set r (cur code k2 s2)=G2 at st ⊢
  (try simp (disch:=first|assumption|apply Y6;assumption) only [vz,vu,vv,eqS,eF_,↓c1_,↓c2_,tabs,reduceCtorEq,X5,↓reduceIte,Y1,Y2,Y3,Y4,Y5,X1,X2,X3,X4])
  refine ⟨fun hb=>?_,fun hb=>?_⟩
  ·(try simp (disch:=first|assumption|apply Y6;assumption) only [vz,vu,vv,eqS,eF_,↓c1_,↓c2_,tabs,reduceCtorEq,X5,↓reduceIte,Y1,Y2,Y3,Y4,Y5,X1,X2,X3,X4,lA_ (st.get 0 rfl)])
   refine a_j hc m (by omega) (k:=k2) (by clear nx;omega) (st.get 5 rfl) fun x2 k3 s3 hy0 hy1 hk7 hk8=>?_
   replace st:=st.put 5 rfl (cur code k3 s3)
   generalize G2.set r (cur code k3 s3)=G3 at st ⊢
   refine Pu.use (c_o [x1] x2 (by simp) (by simp)) ?_
   (try simp (disch:=first|assumption|apply Y6;assumption) only [vz,vu,vv,eqS,eF_,↓c1_,↓c2_,tabs,reduceCtorEq,X5,↓reduceIte,Y1,Y2,Y3,Y4,Y5,X1,X2,X3,X4])
   exact nx _ k3 s3 G3 (put_len1 x1 x2) (put_pw1 x1 x2) (by clear nx;omega) (by clear nx;omega) st (Heap.le_refl _)
  ·exact nx _ k2 s2 G2 (by simp) (by simp) (by clear nx;omega) (by clear nx;omega) st (Heap.le_refl _)
 ·have:n=0:=by omega
  subst this
  have hx:=RZ.sl (st.get 2 rfl:RZ (LPl eI) 1 z1 x f G D1)
  have hy:=RZ.sl (st.get 3 rfl:RZ (LPl eE) 3 z2 y es G D2)
  have hw:=RZ.sl (st.get 4 rfl:RZ (LPl eL) 1 z3 w gs G D3)
  have vx:x=.p .nil∨∃q n,x=.sl q 1 0 n:=by rcases hx with h | ⟨q,h⟩<;>simp [h]
  have vy:y=.p .nil∨∃q n,y=.sl q 3 0 n:=by rcases hy with h | ⟨q,h⟩<;>simp [h]
  have vw:w=.p .nil∨∃q n,w=.sl q 1 0 n:=by rcases hw with h | ⟨q,h⟩<;>simp [h]
  have hg10:∀g∈gs,g.length≤10:=fun g hg=>by have:=(hgg g hg).1;omega
  refine a_j hc 40 (by omega) (k:=k) (by omega) (st.get 5 rfl) fun x1 k1 s1 hx0 hx1 hk3 hk4=>?_
  replace st:=st.put 5 rfl (cur code k1 s1)
  generalize G.set r (cur code k1 s1)=G1 at st ⊢
  (try simp (disch:=first|assumption|apply Y6;assumption) only [vz,vu,vv,eqS,eF_,↓c1_,↓c2_,tabs,reduceCtorEq,X5,↓reduceIte,Y1,Y2,Y3,Y4,Y5,X1,X2,X3,X4,lA_ (st.get 0 rfl)])
  refine ⟨fun h1=>?_,fun h1=>⟨fun h2=>?_,fun h2=>⟨fun h3=>?_,fun h3=>⟨fun h4=>?_,fun h4=>?_⟩⟩⟩⟩
  ·refine lit1 a_g rfl a_u ⟨rfl,rfl⟩ ?_
   refine c_I (ys:=[m]) st 2 rfl (by simp only [List.length_cons,List.length_nil];omega) fun q' G' hq' st=>?_
   obtain ⟨f',hf'⟩:∃f',f++[m]=f':=⟨_,rfl⟩
   have hfl:f'.length=f.length+1:=by rw [← hf'];simp
   rw [hf'] at st ⊢
   (try simp (disch:=first|assumption|apply Y6;assumption) only [vz,vu,vv,eqS,eF_,↓c1_,↓c2_,tabs,reduceCtorEq,X5,↓reduceIte,Y1,Y2,Y3,Y4,Y5,X1,X2,X3,X4,sA_ (st.get 0 rfl)])
   replace st:=st.put 0 rfl [I m,rowP q' f',y,w]
   generalize G'.set q5 [I m,rowP q' f',y,w]=G2 at st ⊢
   (try simp (disch:=first|assumption|apply Y6;assumption) only [vz,vu,vv,eqS,eF_,↓c1_,↓c2_,tabs,reduceCtorEq,X5,↓reduceIte,Y1,Y2,Y3,Y4,Y5,X1,X2,X3,X4,lA_ (st.get 0 rfl)])
   refine c_0 (.inr ⟨_,_,rfl⟩) vy vw (st.get 1 rfl) ?_
   replace st:=st.put 1 rfl [I m,rowP q' f',y,w]
   exact dr_fin st 2 3 4 5 (.inl ⟨rfl,by decide,by decide,by decide⟩) rfl rfl rfl (by decide) (by decide) (by decide) (h f' es gs k1 s1 (by omega) (by omega) (by omega) hg10 (by omega) (by omega))
  ·refine c_n (x:=⟨0,0,0⟩) ?_
   refine d_j (ys:=[⟨0,0,0⟩]) st 3 rfl (by simp only [List.length_cons,List.length_nil];omega) fun q' G' hq' st=>?_
   obtain ⟨f',hf'⟩:∃f',es++[⟨0,0,0⟩]=f':=⟨_,rfl⟩
   have hfl:f'.length=es.length+1:=by rw [← hf'];simp
   rw [hf'] at st ⊢
   (try simp (disch:=first|assumption|apply Y6;assumption) only [vz,vu,vv,eqS,eF_,↓c1_,↓c2_,tabs,reduceCtorEq,X5,↓reduceIte,Y1,Y2,Y3,Y4,Y5,X1,X2,X3,X4,sA_ (st.get 0 rfl)])
   replace st:=st.put 0 rfl [I m,x,rowE q' f',w]
   generalize G'.set q5 [I m,x,rowE q' f',w]=G2 at st ⊢
   (try simp (disch:=first|assumption|apply Y6;assumption) only [vz,vu,vv,eqS,eF_,↓c1_,↓c2_,tabs,reduceCtorEq,X5,↓reduceIte,Y1,Y2,Y3,Y4,Y5,X1,X2,X3,X4,lA_ (st.get 0 rfl)])
   refine c_0 vx (.inr ⟨_,_,rfl⟩) vw (st.get 1 rfl) ?_
   replace st:=st.put 1 rfl [I m,x,rowE q' f',w]
   exact dr_fin st 2 3 4 5 (.inl ⟨rfl,by decide,by decide,by decide⟩) rfl rfl rfl (by decide) (by decide) (by decide) (h f f' gs k1 s1 (by omega) (by omega) (by omega) hg10 (by omega) (by omega))
  ·refine a_j hc 2 (by omega) (k:=k1) (by omega) (st.get 5 rfl) fun x2 k2 s2 hy0 hy1 hk5 hk6=>?_
   replace st:=st.put 5 rfl (cur code k2 s2)
   generalize G1.set r (cur code k2 s2)=G2 at st ⊢
   (try simp (disch:=first|assumption|apply Y6;assumption) only [vz,vu,vv,eqS,eF_,↓c1_,↓c2_,tabs,reduceCtorEq,X5,↓reduceIte,Y1,Y2,Y3,Y4,Y5,X1,X2,X3,X4,i6_ (show -9223372036854775808≤6+x2 by omega) (show 6+x2≤9223372036854775807 by omega),mS_])
   refine ⟨by omega,by omega,by omega,by omega,fun q hq=>?_⟩
   replace st:=st.cell hq (zA_ (6+x2).toNat [.p .nil])
   generalize G2.set q (zA_ (6+x2).toNat [.p .nil])=G3 at st ⊢
   obtain ⟨N,hN⟩:∃N,(6+x2).toNat=N:=⟨_,rfl⟩
   rw [hN] at st ⊢
   (try simp (disch:=first|assumption|apply Y6;assumption) only [vz,vu,vv,eqS,eF_,↓c1_,↓c2_,tabs,reduceCtorEq,X5,↓reduceIte,Y1,Y2,Y3,Y4,Y5,X1,X2,X3,X4,sA_ (st.get 1 rfl)])
   replace st:=st.put 1 rfl [I m,x,y,.sl q 1 0 N]
   generalize G3.set q5 [I m,x,y,.sl q 1 0 N]=G4 at st ⊢
   (try simp (disch:=first|assumption|apply Y6;assumption) only [vz,vu,vv,eqS,eF_,↓c1_,↓c2_,tabs,reduceCtorEq,X5,↓reduceIte,Y1,Y2,Y3,Y4,Y5,X1,X2,X3,X4,lA_ (st.get 1 rfl)])
   refine c_0 vx vy (.inr ⟨_,_,rfl⟩) (st.get 2 rfl) ?_
   replace st:=st.put 2 rfl [I m,x,y,.sl q 1 0 N]
   obtain ⟨G5,w1,st⟩:=nils_val st 0 rfl (.agg [I m,x,y,.sl q 1 0 N])
   obtain ⟨v',H',w2,hk⟩:=dr_fin st 3 4 0 6 (.inl ⟨rfl,by decide,by decide,by decide⟩) rfl rfl rfl (by decide) (by decide) (by decide) (h f es (List.replicate N []) k2 s2 (by omega) (by omega) (by rw [List.length_replicate];omega) (fun g hg=>by rw [List.eq_of_mem_replicate hg];simp) (by omega) (by omega))
   exact ⟨v',H',.trans w1 w2,hk⟩
  ·(try simp (disch:=first|assumption|apply Y6;assumption) only [vz,vu,vv,eqS,eF_,↓c1_,↓c2_,tabs,reduceCtorEq,X5,↓reduceIte,Y1,Y2,Y3,Y4,Y5,X1,X2,X3,X4,sA_ (st.get 0 rfl)])
   replace st:=st.put 0 rfl [I m,.p .nil,y,w]
   generalize G1.set q5 [I m,.p .nil,y,w]=G2 at st ⊢
   (try simp (disch:=first|assumption|apply Y6;assumption) only [vz,vu,vv,eqS,eF_,↓c1_,↓c2_,tabs,reduceCtorEq,X5,↓reduceIte,Y1,Y2,Y3,Y4,Y5,X1,X2,X3,X4,lA_ (st.get 0 rfl)])
   refine c_0 (.inl rfl) vy vw (st.get 1 rfl) ?_
   replace st:=st.put 1 rfl [I m,.p .nil,y,w]
   exact dr_fin (z1:=0) (D1:=[]) st 2 3 4 5 (.inr ⟨rfl,rfl⟩) rfl rfl rfl (by decide) (by decide) (by decide) (h [] es gs k1 s1 (by simp) (by omega) (by omega) hg10 (by omega) (by omega))
  ·refine c_0 vx vy vw (st.get 1 rfl) ?_
   replace st:=st.put 1 rfl [I m,x,y,w]
   exact dr_fin st 2 3 4 5 (.inl ⟨rfl,by decide,by decide,by decide⟩) rfl rfl rfl (by decide) (by decide) (by decide) (h f es gs k1 s1 (by omega) (by omega) (by omega) hg10 (by omega) (by omega))
theorem f_H (l:List Int) (n:Int):(put l n).length≤l.length+1:=by
 unfold put
 split
 ·omega
 ·rw [List.length_append,List.length_cons]
  have e:=congrArg List.length (List.takeWhile_append_dropWhile (p:=(· < n)) (l:=l))
  rw [List.length_append] at e
  omega
theorem put_pw {l:List Int} (n:Int) (h:l.Pairwise (· < ·)):(put l n).Pairwise (· < ·):=by
 unfold put
 split
 ·exact h
 ·rename_i hn
  have h2:=h
  rw [← List.takeWhile_append_dropWhile (p:=(· < n)) (l:=l)] at h2
  rw [List.pairwise_append] at h2 ⊢
  refine ⟨h2.1,List.pairwise_cons.2 ⟨fun y hy=>?_,h2.2.1⟩,fun a ha b hb=>?_⟩
  ·have:=f_F h y hy
   have:y≠n:=fun e=>hn (by rw [← e];exact List.Sublist.mem hy (List.dropWhile_sublist _))
   omega
  ·rcases List.mem_cons.1 hb with rfl | hb
   ·exact f_G a ha
   ·exact h2.2.2 a ha b hb
theorem auto_0 {code:List Int} (hc:CodeC code) {H G:Heap} {r q5 q4:Nat} {k0:Nat} {seed:Int} {m:Int} (hm:1≤m∧m≤100) {x y w:AV} {z1 z2 z3:Nat} {f:List Int} {D1 D2 D3:List Nat} (hf:f.length≤1000)
  (st:St (H.del r) (dTs q5 q4 m x y w z1 z2 z3 f [] [] D1 D2 D3 r (cur code k0 seed)) G) (hk:k0≤500000000) {K:k_}
  (h:∀f es gs k' seed',f.length≤2000→es.length≤20000→gs.length≤10→(∀g∈gs,g.length≤10)→k0≤k'→k'≤k0+10000→K (aAu ⟨m,f,es,gs⟩) (H.set r (cur code k' seed'))) :
  L45_0 (wkK K) (.ptr r 0) (.ptr q4 0) (.ptr q5 0) (I 0) G:=by
 refine L45_0_rule ((0:Nat),y,([]:List Ed),D2,k0,seed,G) (fun s=>I s.1) (fun s=>s.2.2.2.2.2.2)
  (fun s=>(s.1:Int)≤m∧s.2.2.1.length≤16*s.1∧k0≤s.2.2.2.2.1∧s.2.2.2.2.1≤k0+64*s.1∧St (H.del r) (dTs q5 q4 m x s.2.1 w z1 z2 z3 f s.2.2.1 [] D1 s.2.2.2.1 D3 r (cur code s.2.2.2.2.1 s.2.2.2.2.2.1)) s.2.2.2.2.2.2) (fun s=>m.toNat - s.1)
  ⟨⟨by simp only;omega,by simp,by simp,by simp,st⟩,.refl _,Heap.le_refl _⟩ ?_
 clear st G seed y D2
 rintro ⟨i,y,es,D2,k,seed,G⟩ ⟨hi,hel,hk1,hk2,st⟩
 dsimp only at hi hel hk1 hk2 st
 have e5:IntKind.i64.wrap ((i:Int)+1)=((i+1:Nat):Int):=by rw [i6_ (by omega) (by omega)];simp
 (try simp (disch:=first|assumption|apply Y6;assumption) only [vz,vu,vv,eqS,eF_,↓c1_,↓c2_,tabs,reduceCtorEq,X5,↓reduceIte,Y1,Y2,Y3,Y4,Y5,X1,X2,X3,X4,B45_0,lA_ (st.get 0 rfl)])
 refine ⟨fun h1=>?_,fun h1=>?_⟩
 ·refine L45_1_rule ((0:Nat),y,es,D2,k,seed,G) (fun s=>I s.1) (fun s=>s.2.2.2.2.2.2)
   (fun s=>s.1≤8∧s.2.2.1.length≤16*i+2*s.1∧k0≤s.2.2.2.2.1∧s.2.2.2.2.1≤k0+64*i+8*s.1∧St (H.del r) (dTs q5 q4 m x s.2.1 w z1 z2 z3 f s.2.2.1 [] D1 s.2.2.2.1 D3 r (cur code s.2.2.2.2.1 s.2.2.2.2.2.1)) s.2.2.2.2.2.2) (fun s=>8 - s.1)
   ⟨⟨by simp,by simp only;omega,by simp only;omega,by simp only;omega,st⟩,.refl _,Heap.le_refl _⟩ ?_
  clear st G seed y D2 hel hk1 hk2 es k
  rintro ⟨c,y,es,D2,k,seed,G⟩ ⟨hc8,hel,hk1,hk2,st⟩
  dsimp only at hc8 hel hk1 hk2 st
  have e6:IntKind.i64.wrap ((c:Int)+1)=((c+1:Nat):Int):=by rw [i6_ (by omega) (by omega)];simp
  (try simp (disch:=first|assumption|apply Y6;assumption) only [vz,vu,vv,eqS,eF_,↓c1_,↓c2_,tabs,reduceCtorEq,X5,↓reduceIte,Y1,Y2,Y3,Y4,Y5,X1,X2,X3,X4,B45_1,lA_ (st.get 0 rfl)])
  refine ⟨fun h2=>?_,fun h2=>?_⟩
  ·refine a_j hc 3 (by omega) (k:=k) (by omega) (st.get 5 rfl) fun n0 k1 s1 hx0 hx1 hk3 hk4=>?_
   replace st:=st.put 5 rfl (cur code k1 s1)
   generalize G.set r (cur code k1 s1)=G1 at st ⊢
   obtain ⟨n0,rfl⟩:∃n:Nat,n0=(n:Int):=⟨n0.toNat,by omega⟩
   refine L45_2_rule (n0,([]:List Int),k1,s1,G1) (fun s=>Is s.2.1) (fun s=>I s.1) (fun s=>s.2.2.2.2)
    (fun s=>s.1≤n0∧s.2.1.length+s.1≤n0∧s.2.1.Pairwise (· < ·)∧k1≤s.2.2.1∧s.2.2.1+2*s.1≤k1+2*n0∧St (H.del r) (dTs q5 q4 m x y w z1 z2 z3 f es [] D1 D2 D3 r (cur code s.2.2.1 s.2.2.2.1)) s.2.2.2.2) (fun s=>s.1)
    ⟨⟨by simp,by simp,by simp,by simp,by simp,st⟩,.nil,.refl _,Heap.le_refl _⟩ ?_
   clear st G1 s1
   rintro ⟨n,t,k2,s2,G1⟩ ⟨hn,htl,htp,hk5,hk6,st⟩
   dsimp only at hn htl htp hk5 hk6 st
   have e7:0 < n→IntKind.i64.wrap ((n:Int) - 1)=((n - 1:Nat):Int):=fun h=>by rw [i6_ (by omega) (by omega)];omega
   (try simp (disch:=first|assumption|apply Y6;assumption) only [vz,vu,vv,eqS,eF_,↓c1_,↓c2_,tabs,reduceCtorEq,X5,↓reduceIte,Y1,Y2,Y3,Y4,Y5,X1,X2,X3,X4,B45_2,lA_ (st.get 0 rfl)])
   refine ⟨fun h3=>?_,fun h3=>?_⟩
   ·have hn1:0 < n:=by omega
    have e7':=e7 hn1
    refine a_j hc m (by omega) (k:=k2) (by omega) (st.get 5 rfl) fun x1 k3 s3 hy0 hy1 hk7 hk8=>?_
    replace st:=st.put 5 rfl (cur code k3 s3)
    generalize G1.set r (cur code k3 s3)=G2 at st ⊢
    refine Pu.use (c_o t x1 htp (by omega)) ?_
    have pl:=f_H t x1
    have pp:=put_pw x1 htp
    generalize put t x1=t' at pl pp ⊢
    (try simp (disch:=first|assumption|apply Y6;assumption) only [vz,vu,vv,eqS,eF_,↓c1_,↓c2_,tabs,reduceCtorEq,X5,↓reduceIte,Y1,Y2,Y3,Y4,Y5,X1,X2,X3,X4,e7'])
    exact ⟨(n - 1,t',k3,s3,G2),⟨by simp only;omega,by simp only;omega,pp,by simp only;omega,by simp only;omega,st⟩,by simp only;omega,.refl _,.refl _,Heap.le_refl _⟩
   ·have:n=0:=by omega
    subst this
    refine L45_3_rule ((0:Nat),y,es,D2,G1) (fun s=>I s.1) (fun s=>s.2.2.2.2)
     (fun s=>s.1≤t.length∧s.2.2.1.length≤16*i+2*c+s.1∧St (H.del r) (dTs q5 q4 m x s.2.1 w z1 z2 z3 f s.2.2.1 [] D1 s.2.2.2.1 D3 r (cur code k2 s2)) s.2.2.2.2) (fun s=>t.length - s.1)
     ⟨⟨by simp,by simp only;omega,st⟩,.refl _,Heap.le_refl _⟩ ?_
    clear st G1 y D2 hel es
    rintro ⟨j,y,es,D2,G⟩ ⟨hj,hel,st⟩
    dsimp only at hj hel st
    have e8:IntKind.i64.wrap ((j:Int)+1)=((j+1:Nat):Int):=by rw [i6_ (by omega) (by omega)];simp
    (try simp (disch:=first|assumption|apply Y6;assumption) only [vz,vu,vv,eqS,eF_,↓c1_,↓c2_,tabs,reduceCtorEq,X5,↓reduceIte,Y1,Y2,Y3,Y4,Y5,X1,X2,X3,X4,B45_3,lA_ (st.get 0 rfl)])
    refine ⟨fun h4=>⟨by omega,h4,?_⟩,fun h4=>?_⟩
    ·generalize t.getD j default=u
     refine c_n (x:=⟨i,c,u⟩) ?_
     (try simp (disch:=first|assumption|apply Y6;assumption) only [vz,vu,vv,eqS,eF_,↓c1_,↓c2_,tabs,reduceCtorEq,X5,↓reduceIte,Y1,Y2,Y3,Y4,Y5,X1,X2,X3,X4,lA_ (st.get 0 rfl)])
     refine d_j (ys:=[⟨i,c,u⟩]) st 3 rfl (by simp only [List.length_cons,List.length_nil];omega) fun q' G' hq' st=>?_
     obtain ⟨es',hes⟩:∃es',es++[⟨i,c,u⟩]=es':=⟨_,rfl⟩
     have hl':es'.length=es.length+1:=by rw [← hes];simp
     rw [hes] at st ⊢
     (try simp (disch:=first|assumption|apply Y6;assumption) only [vz,vu,vv,eqS,eF_,↓c1_,↓c2_,tabs,reduceCtorEq,X5,↓reduceIte,Y1,Y2,Y3,Y4,Y5,X1,X2,X3,X4,sA_ (st.get 0 rfl),e8])
     replace st:=st.put 0 rfl [I m,x,rowE q' es',w]
     exact ⟨(j+1,_,es',[q'],_),⟨by simp only;omega,by simp only;omega,st⟩,by simp only;omega,.refl _,Heap.le_refl _⟩
    ·(try simp (disch:=first|assumption|apply Y6;assumption) only [vz,vu,vv,eqS,eF_,↓c1_,↓c2_,tabs,reduceCtorEq,X5,↓reduceIte,Y1,Y2,Y3,Y4,Y5,X1,X2,X3,X4,e6])
     exact ⟨(c+1,y,es,D2,k2,s2,G),⟨by simp only;omega,by simp only;omega,by simp only;omega,by simp only;omega,st⟩,by simp only;omega,.refl _,Heap.le_refl _⟩
  ·have:c=8:=by omega
   subst this
   (try simp (disch:=first|assumption|apply Y6;assumption) only [vz,vu,vv,eqS,eF_,↓c1_,↓c2_,tabs,reduceCtorEq,X5,↓reduceIte,Y1,Y2,Y3,Y4,Y5,X1,X2,X3,X4,e5])
   exact ⟨(i+1,y,es,D2,k,seed,G),⟨by simp only;omega,by simp only;omega,by simp only;omega,by simp only;omega,st⟩,by simp only;omega,.refl _,Heap.le_refl _⟩
 ·have hi100:i≤100:=by omega
  refine a_j hc 4 (by omega) (k:=k) (by omega) (st.get 5 rfl) fun n0 k1 s1 hx0 hx1 hk3 hk4=>?_
  replace st:=st.put 5 rfl (cur code k1 s1)
  generalize G.set r (cur code k1 s1)=G1 at st ⊢
  obtain ⟨n0,rfl⟩:∃n:Nat,n0=(n:Int):=⟨n0.toNat,by omega⟩
  exact auto_4 hc hm hf (by omega) n0 (by omega) rfl st (by omega) fun f es gs k' s' a1 a2 a3 a4 a5 a6=>h f es gs k' s' a1 a2 a3 a4 (by omega) (by omega)
theorem auto_spec {code:List Int} (hc:CodeC code) {H:Heap} {r:Nat} {k0:Nat} {seed:Int} (hr:H r=some (cur code k0 seed)) (hk:k0≤400000000) (most:Int) (hm:1≤most∧most≤99) {K:k_}
  (h:∀a k' seed',smAu a→1≤a.states∧a.states≤100→k0≤k'→k'≤k0+20000→K (aAu a) (H.set r (cur code k' seed'))):a_a Tryz.prog 45 [.ptr r 0,I most] H K:=by
 refine a_a.fin ?_
 refine a_a.ghost W45_hb fun z2 hz2=>?_
 refine a_a.ghost W45_hb fun z3 hz3=>?_
 have st:=lent (LPl.local eL) (LPl.has eL) 1 (lent (LPl.local eE) (LPl.has eE) 3 (((St.start hr).cell hz2 []).cell hz3 []) 1 rfl) 0 rfl
 generalize (H.set z2 []).set z3 []=G0 at st ⊢
 clear hz2 hz3
 refine W45_ok ?_;simp (maxSteps:=1000000) (disch:=first|assumption|apply Y6;assumption) only [W45,vz,vu,vv,eqS,eF_,↓c1_,↓c2_,tabs,reduceCtorEq,X5,↓reduceIte,Y1,Y2,Y3,Y4,Y5,X1,X2,X3,X4]
 intro q4 hq4
 replace st:=st.cell hq4 [I 0,.p .nil,.p .nil,.p .nil]
 refine a_j hc most (by omega) (k:=k0) (by omega) (st.get 3 rfl) fun x1 k1 s1 hx0 hx1 hk1 hk2=>?_
 replace st:=st.put 3 rfl (cur code k1 s1)
 have ec:∀H:Heap,H.set q4 [AV.p (PV.int IntKind.i64 0),AV.p PV.nil,AV.p PV.nil,AV.p PV.nil]=H.set q4 [I 0,.p .nil,.p .nil,.p .nil]:=fun _=>rfl
 rw [ec]
 generalize (G0.set q4 [I 0,.p .nil,.p .nil,.p .nil]).set r (cur code k1 s1)=G at st ⊢
 clear ec hq4
 (try simp (disch:=first|assumption|apply Y6;assumption) only [vz,vu,vv,eqS,eF_,↓c1_,↓c2_,tabs,reduceCtorEq,X5,↓reduceIte,Y1,Y2,Y3,Y4,Y5,X1,X2,X3,X4,i6_ (show -9223372036854775808≤1+x1 by omega) (show 1+x1≤9223372036854775807 by omega)])
 intro q5 hq5
 replace st:=st.cell hq5 [I (1+x1),.p .nil,.p .nil,.p .nil]
 generalize G.set q5 [I (1+x1),.p .nil,.p .nil,.p .nil]=G1 at st ⊢
 clear hq5
 refine a_j hc (1+x1) (by omega) (k:=k1) (by omega) (st.get 4 rfl) fun x2 k2 s2 hy0 hy1 hk3 hk4=>?_
 replace st:=st.put 4 rfl (cur code k2 s2)
 generalize G1.set r (cur code k2 s2)=G2 at st ⊢
 refine l1Put_nil x2 fun q hq=>?_
 replace st:=c_d (st.cell hq (cP fI [x2])) 0 rfl
 generalize G2.set q (cP fI [x2])=G3 at st ⊢
 (try simp (disch:=first|assumption|apply Y6;assumption) only [vz,vu,vv,eqS,eF_,↓c1_,↓c2_,tabs,reduceCtorEq,X5,↓reduceIte,Y1,Y2,Y3,Y4,Y5,X1,X2,X3,X4,sA_ (st.get 1 rfl)])
 replace st:=st.put 1 rfl [I (1+x1),rowP q [x2],.p .nil,.p .nil]
 generalize G3.set q5 [I (1+x1),rowP q [x2],.p .nil,.p .nil]=G4 at st ⊢
 have st1:=st.pick 5 rfl
 have st2:=st1.pick 4 rfl
 have st3:=st2.pick 5 rfl
 have st4:=st3.pick 3 rfl
 have st5:=st4.pick 5 rfl
 have st6:=st5.pick 5 rfl
 refine auto_0 hc ⟨by omega,by omega⟩ (by simp) st6 (by omega) fun f es gs k' s' a1 a2 a3 a4 a5 a6=>h _ k' s' ⟨by simp only;omega,by simp only;omega,by simp only;omega,fun g hg=>by have:=a4 g hg;omega⟩ ⟨by simp only;omega,by simp only;omega⟩ (by omega) (by omega)
end Go.Proofs.YtohkciilfkhomaaGreat
namespace Go.Proofs.YtohkciilfkhomaaGreat
open Go Go.Sep
attribute [local irreducible] a_a
theorem b_w {code:List Int} (hc:CodeC code) {k:Nat} {seed:Int} (n:Int) (hn:n≤1000) (hk:k≤800000000) {H:Heap} {r:Nat} (hr:H r=some (cur code k seed)) {K:k_}
  (h:∀(xs:List Int) q k' seed',(xs.length=n∨xs.length=0∧n≤0)→(∀x∈xs,0≤x∧x < 8)→k≤k'→k'≤k+2*xs.length→H q=none→K (own q 1 (xs.map eI)) ((H.set r (cur code k' seed')).set q (cells (xs.map eI)))) :
  a_a Tryz.prog 96 [.ptr r 0,I n] H K:=by
 refine a_a.ghost W96_hb fun q0 hq0=>?_
 have hq0r:q0≠r:=by rintro rfl;rw [hr] at hq0;cases hq0
 refine W96_ok ?_;simp (maxSteps:=1000000) (disch:=first|assumption|apply Y6;assumption) only [W96,vz,vu,vv,eqS,eF_,↓c1_,↓c2_,tabs,reduceCtorEq,X5,↓reduceIte,Y1,Y2,Y3,Y4,Y5,X1,X2,X3,X4]
 refine L96_0_rule (([]:List Int),q0,k,seed) (fun s=>I (n - s.1.length)) (fun s=>own s.2.1 1 (s.1.map eI)) (fun s=>(H.set r (cur code s.2.2.1 s.2.2.2)).set s.2.1 (cells (s.1.map eI)))
  (fun s=>H s.2.1=none∧(s.1=[]∨s.1.length≤n)∧(∀x∈s.1,0≤x∧x < 8)∧k≤s.2.2.1∧s.2.2.1≤k+2*s.1.length) (fun s=>(n - s.1.length).toNat) ⟨⟨hq0,.inl rfl,by simp,by simp,by simp⟩,?_,.nilo _ _ _,?_⟩ ?_
 ·simp;exact .refl _
 ·(intro y b hy;simp only [Heap.set,Heap.del] at hy ⊢;(repeat' split at hy)<;>(repeat' split)<;>simp_all [cells])
 ·rintro ⟨xs,q,k',s'⟩ ⟨hq,h1,h2,h3,h4⟩
  dsimp only at hq h1 h2 h3 h4
  have hqr:q≠r:=by rintro rfl;rw [hr] at hq;cases hq
  (try simp (disch:=first|assumption|apply Y6;assumption) only [vz,vu,vv,eqS,eF_,↓c1_,↓c2_,tabs,reduceCtorEq,X5,↓reduceIte,Y1,Y2,Y3,Y4,Y5,X1,X2,X3,X4,B96_0])
  refine ⟨fun h5=>?_,fun h5=>?_⟩
  ·have hx:xs.length < n:=by omega
   refine a_j hc 8 (by omega) (k:=k') (by omega) (r:=r) (by rw [Heap.set_other hqr.symm,Heap.set_same]) fun x k2 s2 hx0 hx1 hk2 hk3=>?_
   refine push_own (es:=xs.map eI) (cs:=eI x) a_g rfl a_u rfl rfl rfl rfl (by omega) (by omega) rfl (by rw [Heap.set_other hqr,Heap.set_same]) (a_q (f:=eI) (fun _=>rfl) _) (by simp;omega) (by simp;omega) fun q' hq'=>?_
   simp only [Heap.set_none] at hq'
   obtain ⟨q1,q2,q3⟩:=hq'
   (try simp (disch:=first|assumption|apply Y6;assumption) only [vz,vu,vv,eqS,eF_,↓c1_,↓c2_,tabs,reduceCtorEq,X5,↓reduceIte,Y1,Y2,Y3,Y4,Y5,X1,X2,X3,X4])
   refine ⟨(xs++[x],q',k2,s2),⟨q3.2,.inr ?_,?_,?_,?_⟩,?_,?_,?_,?_⟩
   ·simp;omega
   ·simp only [List.mem_append,List.mem_singleton];rintro y (hy | rfl)
    ·exact h2 y hy
    ·omega
   ·simp only;omega
   ·simp;omega
   ·simp;omega
   ·rw [a_r,i6_ (by omega) (by omega)];simp;omega
   ·simp [AV.wk.refl]
   ·simp only [List.map_append,List.map_cons,List.map_nil];(intro y b hy;simp only [Heap.set,Heap.del] at hy ⊢;(repeat' split at hy)<;>(repeat' split)<;>simp_all [cells])
  ·have hl:(xs.length:Int)=n∨xs.length=0∧n≤0:=by
    rcases h1 with rfl | h1
    ·right;simp at h5 ⊢;omega
    ·left;omega
   have:=h xs q k' s' hl h2 h3 h4 hq
   exact this
theorem wk_lit {q:Nat} {H:Heap} {K:k_} (xs:List Int) {n:Nat} (hn:n=xs.length) (hq:H q=none) (h:K (Is xs) H):wkK K (.sl q 1 0 n) (H.set q (xs.map fun n=>I n)):=by
 subst hn
 refine ⟨Is xs,H,?_,h⟩
 have:=Wk.own_le (q:=q) (sz:=1) (es:=xs.map eI) (H:=H) (H':=H.set q (xs.map fun n=>I n)) (by omega) (szI _) hq (by rw [d_h];exact Heap.le_refl _)
 simpa only [own,List.length_map] using this
structure LG (H G:Heap) (r r2 r3 q1 q2:Nat) (code:List Int) (k:Nat) (seed:Int) (s l:List Int):Prop where
 cr:G r=some (cur code k seed)
 c2:G r2=some [.p .nil,.p .nil]
 c3:G r3=some [own q1 1 (s.map eI),own q2 1 (l.map eI)]
 d1:G q1=some (cells (s.map eI))
 d2:G q2=some (cells (l.map eI))
 ne:q1≠q2∧q1≠r∧q2≠r∧r2≠r∧r3≠r∧r2≠r3∧q1≠r2∧q1≠r3∧q2≠r2∧q2≠r3
 nn:H q1=none∧H q2=none∧H r2=none∧H r3=none
 le:∀y b,y≠r→H y=some b→G y=some b
theorem LG.fin {H G:Heap} {r r2 r3 q1 q2:Nat} {code:List Int} {k:Nat} {seed:Int} {s l:List Int} (g:LG H G r r2 r3 q1 q2 code k seed s l) {K:k_} (h:K (.agg [Is s,Is l]) (H.set r (cur code k seed))) {b:List AV} :
  wkK K (.agg [own q1 1 (s.map eI),own q2 1 (l.map eI)]) (G.set r2 b):=by
 obtain ⟨n1,n2,n3,n4,n5,n6,n7,n8,n9,n10⟩:=g.ne
 obtain ⟨m1,m2,m3,m4⟩:=g.nn
 refine ⟨_,_,.trans (Wk.frz (r:=q1) (sz:=1) (es:=s.map eI) (v':=.agg [Is s,own q2 1 (l.map eI)]) (by omega) (by rw [Heap.set_other n7];exact g.d1) (szI s) (.agg (.cons .here (.cons (.same _) .nil))))
  (.trans (Wk.frz (r:=q2) (sz:=1) (es:=l.map eI) (v':=.agg [Is s,Is l]) (by omega) (by rw [Heap.del_other n1.symm,Heap.set_other n9];exact g.d2) (szI l) (.agg (.cons (.same _) (.cons .here .nil)))) (.forget ?_)),h⟩
 intro y b' hy
 by_cases e:y=r
 ·subst e
  rw [Heap.set_same] at hy
  rw [Heap.del_other n3.symm,Heap.del_other n2.symm,Heap.set_other n4.symm,g.cr,hy]
 ·rw [Heap.set_other e] at hy
  have y1:y≠q1:=fun e=>by rw [e,m1] at hy;cases hy
  have y2:y≠q2:=fun e=>by rw [e,m2] at hy;cases hy
  have y3:y≠r2:=fun e=>by rw [e,m3] at hy;cases hy
  rw [Heap.del_other y2,Heap.del_other y1,Heap.set_other y3]
  exact g.le y b' e hy
theorem LG.cur {H G:Heap} {r r2 r3 q1 q2:Nat} {code:List Int} {k:Nat} {seed:Int} {s l:List Int} (g:LG H G r r2 r3 q1 q2 code k seed s l) (k1:Nat) (s1:Int):LG H (G.set r (Proofs.YtohkciilfkhomaaGreat.cur code k1 s1)) r r2 r3 q1 q2 code k1 s1 s l:=by
 obtain ⟨n1,n2,n3,n4,n5,n6,n7,n8,n9,n10⟩:=g.ne
 exact ⟨Heap.set_same _ _ _,by rw [Heap.set_other n4];exact g.c2,by rw [Heap.set_other n5];exact g.c3,by rw [Heap.set_other n2];exact g.d1,by rw [Heap.set_other n3];exact g.d2,g.ne,g.nn,
   fun y b e hy=>by rw [Heap.set_other e];exact g.le y b e hy⟩
theorem LG.fresh {H G:Heap} {r r2 r3 q1 q2:Nat} {code:List Int} {k:Nat} {seed:Int} {s l:List Int} (g:LG H G r r2 r3 q1 q2 code k seed s l) {q:Nat} (hq:G q=none):q≠r∧q≠r2∧q≠r3∧q≠q1∧q≠q2∧H q=none:=by
 have h1:q≠r:=fun e=>by rw [e,g.cr] at hq;cases hq
 refine ⟨h1,(fun e=>by rw [e,g.c2] at hq;cases hq),(fun e=>by rw [e,g.c3] at hq;cases hq),(fun e=>by rw [e,g.d1] at hq;cases hq),(fun e=>by rw [e,g.d2] at hq;cases hq),?_⟩
 cases hh:H q with
 | none=>rfl
 | some b=>rw [g.le q b h1 hh] at hq;cases hq
theorem LG.newLoop {H G:Heap} {r r2 r3 q1 q2:Nat} {code:List Int} {k:Nat} {seed:Int} {s l:List Int} (g:LG H G r r2 r3 q1 q2 code k seed s l) {G':Heap} (hG:∀y,y≠q2→G' y=G y) {q:Nat} (hq:G q=none) (ys:List Int) :
  LG H ((G'.set q (cells (ys.map eI))).set r3 [own q1 1 (s.map eI),own q 1 (ys.map eI)]) r r2 r3 q1 q code k seed s ys:=by
 obtain ⟨n1,n2,n3,n4,n5,n6,n7,n8,n9,n10⟩:=g.ne
 obtain ⟨m1,m2,m3,m4⟩:=g.nn
 obtain ⟨f1,f2,f3,f4,f5,f6⟩:=g.fresh hq
 refine ⟨?_,?_,Heap.set_same _ _ _,?_,?_,⟨f4.symm,n2,f1,n4,n5,n6,n7,n8,f2,f3⟩,⟨m1,f6,m3,m4⟩,fun y b e hy=>?_⟩
 ·rw [Heap.set_other n5.symm,Heap.set_other f1.symm,hG _ n3.symm];exact g.cr
 ·rw [Heap.set_other n6,Heap.set_other f2.symm,hG _ n9.symm];exact g.c2
 ·rw [Heap.set_other n8,Heap.set_other f4.symm,hG _ n1];exact g.d1
 ·rw [Heap.set_other f3,Heap.set_same]
 ·rw [Heap.set_other (fun e=>by rw [e,m4] at hy;cases hy),Heap.set_other (fun e=>by rw [e,f6] at hy;cases hy),hG _ (fun e=>by rw [e,m2] at hy;cases hy)];exact g.le y b e hy
theorem LG.newStem {H G:Heap} {r r2 r3 q1 q2:Nat} {code:List Int} {k:Nat} {seed:Int} {s l:List Int} (g:LG H G r r2 r3 q1 q2 code k seed s l) {G':Heap} (hG:∀y,y≠q1→G' y=G y) {q:Nat} (hq:G q=none) (ys:List Int) :
  LG H ((G'.set q (cells (ys.map eI))).set r3 [own q 1 (ys.map eI),own q2 1 (l.map eI)]) r r2 r3 q q2 code k seed ys l:=by
 obtain ⟨n1,n2,n3,n4,n5,n6,n7,n8,n9,n10⟩:=g.ne
 obtain ⟨m1,m2,m3,m4⟩:=g.nn
 obtain ⟨f1,f2,f3,f4,f5,f6⟩:=g.fresh hq
 refine ⟨?_,?_,Heap.set_same _ _ _,?_,?_,⟨f5,f1,n3,n4,n5,n6,f2,f3,n9,n10⟩,⟨f6,m2,m3,m4⟩,fun y b e hy=>?_⟩
 ·rw [Heap.set_other n5.symm,Heap.set_other f1.symm,hG _ n2.symm];exact g.cr
 ·rw [Heap.set_other n6,Heap.set_other f2.symm,hG _ n7.symm];exact g.c2
 ·rw [Heap.set_other f3,Heap.set_same]
 ·rw [Heap.set_other n10,Heap.set_other f5.symm,hG _ n1.symm];exact g.d2
 ·rw [Heap.set_other (fun e=>by rw [e,m4] at hy;cases hy),Heap.set_other (fun e=>by rw [e,f6] at hy;cases hy),hG _ (fun e=>by rw [e,m1] at hy;cases hy)];exact g.le y b e hy
theorem LG.put {H G:Heap} {r r2 r3 q1 q2:Nat} {code:List Int} {k:Nat} {seed:Int} {s l:List Int} (g:LG H G r r2 r3 q1 q2 code k seed s l) {ys:List Int} (hl:ys.length=l.length) :
  LG H (G.set q2 (cells (ys.map eI))) r r2 r3 q1 q2 code k seed s ys:=by
 obtain ⟨n1,n2,n3,n4,n5,n6,n7,n8,n9,n10⟩:=g.ne
 obtain ⟨m1,m2,m3,m4⟩:=g.nn
 refine ⟨?_,?_,?_,?_,Heap.set_same _ _ _,g.ne,g.nn,fun y b e hy=>?_⟩
 ·rw [Heap.set_other n3.symm];exact g.cr
 ·rw [Heap.set_other n9.symm];exact g.c2
 ·rw [Heap.set_other n10.symm,g.c3];simp only [own,List.length_map,hl]
 ·rw [Heap.set_other n1];exact g.d1
 ·rw [Heap.set_other (fun e=>by rw [e,m2] at hy;cases hy)];exact g.le y b e hy
theorem lasso_J0 {code:List Int} (hc:CodeC code) {H G:Heap} {r r2 r3 q1 q2:Nat} {k:Nat} {seed:Int} {s l:List Int} (g:LG H G r r2 r3 q1 q2 code k seed s l) (hk:k≤700000000) (hs:s.length≤64) (hl:l.length≤64) (hl1:1≤l.length) {K:k_}
  (h:∀s l k' seed',s.length≤64→l.length≤64→k≤k'→k'≤k+100→K (.agg [Is s,Is l]) (H.set r (cur code k' seed'))):J46_0 (wkK K) (.ptr r 0) (.ptr r2 0) (.ptr r3 0) G:=by
 obtain ⟨n1,n2,n3,n4,n5,n6,n7,n8,n9,n10⟩:=g.ne
 unfold J46_0
 refine a_j hc 40 (by omega) (by omega) g.cr fun x k1 s1 hx0 hx1 hk1 hk2=>?_
 have g1:=g.cur k1 s1
 generalize hG1:G.set r (cur code k1 s1)=G1 at g1
 have len25:∀(n:Int) (ys:List Int),n≤25→(ys.length=n∨ys.length=0∧n≤0)→ys.length≤25:=by intro n ys h1 h2;omega
 (try simp (disch:=first|assumption|apply Y6;assumption) only [vz,vu,vv,eqS,eF_,↓c1_,↓c2_,tabs,reduceCtorEq,X5,↓reduceIte,Y1,Y2,Y3,Y4,Y5,X1,X2,X3,X4])
 refine ⟨fun hx=>?_,fun hx=>⟨fun hx=>?_,fun hx=>⟨fun hx=>?_,fun hx=>?_⟩⟩⟩
 ·(try simp (disch:=first|assumption|apply Y6;assumption) only [vz,vu,vv,eqS,eF_,↓c1_,↓c2_,tabs,reduceCtorEq,X5,↓reduceIte,Y1,Y2,Y3,Y4,Y5,X1,X2,X3,X4,bS_,zA_,List.replicate_succ,List.replicate_zero,List.flatten_cons,List.flatten_nil])
  intro q hq
  refine wk_lit [0,24,25] rfl hq ?_
  refine d_k hc [0,24,25] (by simp) (by simp) (by omega) g1.cr fun n k2 s2 hn hk3 hk4=>?_
  have hn':n≤25:=by simp at hn;omega
  have g2:=g1.cur k2 s2
  generalize G1.set r (cur code k2 s2)=G2 at g2
  refine b_w hc n (by omega) (by omega) g2.cr fun ys q3 k3 s3 hlen _ hk5 hk6 hq3=>?_
  have hy:=len25 n ys hn' hlen
  have g3:=g2.cur k3 s3
  have hq3':(G2.set r (cur code k3 s3)) q3=none:=by rw [Heap.set_other (g2.fresh hq3).1];exact hq3
  have f3:=g3.fresh hq3'
  generalize G2.set r (cur code k3 s3)=G3 at g3 hq3'
  have g4:=g3.newLoop (fun _ _=>rfl) hq3' ys
  have c3':(G3.set q3 (cells (ys.map eI))) r3=some [own q1 1 (s.map eI),own q2 1 (l.map eI)]:=by rw [Heap.set_other f3.2.2.1.symm];exact g3.c3
  have c2':(G3.set q3 (cells (ys.map eI))) r2=some [.p .nil,.p .nil]:=by rw [Heap.set_other f3.2.1.symm];exact g3.c2
  generalize G3.set q3 (cells (ys.map eI))=G4 at g4 c3' c2'
  (try simp (disch:=first|assumption|apply Y6;assumption) only [vz,vu,vv,eqS,eF_,↓c1_,↓c2_,tabs,reduceCtorEq,X5,↓reduceIte,Y1,Y2,Y3,Y4,Y5,X1,X2,X3,X4,sA_ c3',sA_ c2'])
  rw [Heap.set_comm n6]
  have:=g4.fin (b:=[own q1 1 (s.map eI),own q3 1 (ys.map eI)]) (h s ys k3 s3 hs (by omega) (by omega) (by omega))
  simpa only [own,List.length_map] using this
 ·(try simp (disch:=first|assumption|apply Y6;assumption) only [vz,vu,vv,eqS,eF_,↓c1_,↓c2_,tabs,reduceCtorEq,X5,↓reduceIte,Y1,Y2,Y3,Y4,Y5,X1,X2,X3,X4,bS_,zA_,List.replicate_succ,List.replicate_zero,List.flatten_cons,List.flatten_nil])
  intro q hq
  refine wk_lit [24,25] rfl hq ?_
  refine d_k hc [24,25] (by simp) (by simp) (by omega) g1.cr fun n k2 s2 hn hk3 hk4=>?_
  have hn':n≤25:=by simp at hn;omega
  have g2:=g1.cur k2 s2
  generalize G1.set r (cur code k2 s2)=G2 at g2
  refine b_w hc n (by omega) (by omega) g2.cr fun ys q3 k3 s3 hlen _ hk5 hk6 hq3=>?_
  have hy:=len25 n ys hn' hlen
  have g3:=g2.cur k3 s3
  have hq3':(G2.set r (cur code k3 s3)) q3=none:=by rw [Heap.set_other (g2.fresh hq3).1];exact hq3
  have f3:=g3.fresh hq3'
  generalize G2.set r (cur code k3 s3)=G3 at g3 hq3'
  have g4:=g3.newStem (fun _ _=>rfl) hq3' ys
  have c3':(G3.set q3 (cells (ys.map eI))) r3=some [own q1 1 (s.map eI),own q2 1 (l.map eI)]:=by rw [Heap.set_other f3.2.2.1.symm];exact g3.c3
  have c2':(G3.set q3 (cells (ys.map eI))) r2=some [.p .nil,.p .nil]:=by rw [Heap.set_other f3.2.1.symm];exact g3.c2
  generalize G3.set q3 (cells (ys.map eI))=G4 at g4 c3' c2'
  (try simp (disch:=first|assumption|apply Y6;assumption) only [vz,vu,vv,eqS,eF_,↓c1_,↓c2_,tabs,reduceCtorEq,X5,↓reduceIte,Y1,Y2,Y3,Y4,Y5,X1,X2,X3,X4,sA_ c3',sA_ c2'])
  rw [Heap.set_comm n6]
  have:=g4.fin (b:=[own q3 1 (ys.map eI),own q2 1 (l.map eI)]) (h ys l k3 s3 (by omega) hl (by omega) (by omega))
  simpa only [own,List.length_map] using this
 ·(try simp (disch:=first|assumption|apply Y6;assumption) only [vz,vu,vv,eqS,eF_,↓c1_,↓c2_,tabs,reduceCtorEq,X5,↓reduceIte,Y1,Y2,Y3,Y4,Y5,X1,X2,X3,X4,bS_,zA_,List.replicate_succ,List.replicate_zero,List.flatten_cons,List.flatten_nil,lA_ g1.c3])
  intro q hq
  refine wk_lit [-1,7,8] rfl hq ?_
  (try simp (disch:=first|assumption|apply Y6;assumption) only [vz,vu,vv,eqS,eF_,↓c1_,↓c2_,tabs,reduceCtorEq,X5,↓reduceIte,Y1,Y2,Y3,Y4,Y5,X1,X2,X3,X4,lA_ g1.c3])
  refine d_k hc [-1,7,8] (by simp) (by simp) (by omega) g1.cr fun n k2 s2 hn hk3 hk4=>?_
  have g2:=g1.cur k2 s2
  generalize G1.set r (cur code k2 s2)=G2 at g2
  (try simp (disch:=first|assumption|apply Y6;assumption) only [vz,vu,vv,eqS,eF_,↓c1_,↓c2_,tabs,reduceCtorEq,X5,↓reduceIte,Y1,Y2,Y3,Y4,Y5,X1,X2,X3,X4,lA_ g2.c3,sA_ g2.d2,sA_ g2.c2])
  refine ⟨by omega,by omega,by rw [d_h,List.length_map];omega,?_⟩
  have e1:AV.p (PV.int IntKind.i64 n)::List.drop 1 (cells (l.map eI))=cells (((n::l.drop 1)).map eI):=by
   rw [d_h,d_h,List.map_cons,List.map_drop]
  rw [e1]
  have g4:=g2.put (ys:=n::l.drop 1) (by simp;omega)
  rw [Heap.set_comm n9.symm]
  have:=g4.fin (b:=[own q1 1 (s.map eI),own q2 1 ((n::l.drop 1).map eI)]) (h s (n::l.drop 1) k2 s2 hs (by simp;omega) (by omega) (by omega))
  have e2:(n::l.drop 1).length=l.length:=by simp;omega
  simp only [own,List.length_map,e2] at this ⊢
  exact this
 ·(try simp (disch:=first|assumption|apply Y6;assumption) only [vz,vu,vv,eqS,eF_,↓c1_,↓c2_,tabs,reduceCtorEq,X5,↓reduceIte,Y1,Y2,Y3,Y4,Y5,X1,X2,X3,X4,lA_ g1.c3,sA_ g1.c2])
  exact g1.fin (h s l k1 s1 hs hl (by omega) (by omega))
theorem app_rows {tab:Tab} {t e:Nat} {d ed:TD} {q q':Nat} {xs ys:List Int} {H:Heap} {K:k_} (h1:tab t=some d) (h2:d.k=.slice e) (h3:tab e=some ed) (h6:ed.size=1) (h7:ed.bytes≤16)
  (hx:H q=some (cells (xs.map eI))) (hy:H q'=some (cells (ys.map eI))) (hl:xs.length+ys.length≤1000000000)
  (h:∀r',H r'=none→K (own r' 1 ((xs++ys).map eI)) ((H.del q).set r' (cells ((xs++ys).map eI)))):aP_ tab t t (own q 1 (xs.map eI)) (own q' 1 (ys.map eI)) H (wkK K):=by
 simp only [aP_,h1,h2,h3,srcV,c_s,hx,hy,h6,own,List.length_map,Nat.mul_one,Nat.zero_add,List.drop_zero]
 have l1:(cells (xs.map eI)).length=xs.length:=by rw [d_h,List.length_map]
 have l2:(cells (ys.map eI)).length=ys.length:=by rw [d_h,List.length_map]
 refine ⟨trivial,by omega,trivial,by omega,?_,by omega,?_,fun r' hr'=>wkK.keep ?_⟩
 ·exact Nat.le_trans (Nat.mul_le_mul hl h7) (by omega)
 ·rw [List.take_of_length_le (by omega)];exact b_E _
 ·have:=h r' hr'
  rw [List.take_of_length_le (by omega),List.take_of_length_le (by omega),← cells_app,← List.map_append]
  simpa only [own,List.length_map,List.length_append] using this
theorem lasso_J1 {code:List Int} (hc:CodeC code) {H G:Heap} {r r2 r3 q1 q2:Nat} {k:Nat} {seed:Int} {s l:List Int} (g:LG H G r r2 r3 q1 q2 code k seed s l) (hk:k≤600000000) (hs:s.length+l.length≤64) (hl1:1≤l.length) {K:k_}
  (h:∀s l k' seed',s.length≤64→l.length≤64→k≤k'→k'≤k+102→K (.agg [Is s,Is l]) (H.set r (cur code k' seed'))):J46_1 (wkK K) (.ptr r 0) (.ptr r2 0) (.ptr r3 0) G:=by
 unfold J46_1
 refine c_Z hc 4 (by omega) (by omega) g.cr fun x k1 s1 hk1 hk2=>?_
 have g1:=g.cur k1 s1
 generalize G.set r (cur code k1 s1)=G1 at g1
 (try simp (disch:=first|assumption|apply Y6;assumption) only [vz,vu,vv,eqS,eF_,↓c1_,↓c2_,tabs,reduceCtorEq,X5,↓reduceIte,Y1,Y2,Y3,Y4,Y5,X1,X2,X3,X4])
 refine ⟨fun hx=>?_,fun hx=>?_⟩
 ·(try simp (disch:=first|assumption|apply Y6;assumption) only [vz,vu,vv,eqS,eF_,↓c1_,↓c2_,tabs,reduceCtorEq,X5,↓reduceIte,Y1,Y2,Y3,Y4,Y5,X1,X2,X3,X4,lA_ g1.c3])
  refine app_rows a_g rfl a_u rfl (by decide) g1.d1 g1.d2 (by omega) fun q hq=>?_
  have f:=g1.fresh hq
  have n:=g1.ne
  have g2:=g1.newStem (G':=G1.del q1) (fun y hy=>Heap.del_other hy) hq (s++l)
  have c3':((G1.del q1).set q (cells ((s++l).map eI))) r3=some [own q1 1 (s.map eI),own q2 1 (l.map eI)]:=by rw [Heap.set_other f.2.2.1.symm,Heap.del_other n.2.2.2.2.2.2.2.1.symm];exact g1.c3
  (try simp (disch:=first|assumption|apply Y6;assumption) only [vz,vu,vv,eqS,eF_,↓c1_,↓c2_,tabs,reduceCtorEq,X5,↓reduceIte,Y1,Y2,Y3,Y4,Y5,X1,X2,X3,X4,sA_ c3'])
  have:=lasso_J0 hc g2 (by omega) (by simp;omega) (by omega) hl1 fun s l k' s' a b c d=>h s l k' s' a b (by omega) (by omega)
  simpa only [own,List.length_map,List.length_append] using this
 ·exact lasso_J0 hc g1 (by omega) (by omega) (by omega) hl1 fun s l k' s' a b c d=>h s l k' s' a b (by omega) (by omega)
theorem lasso_spec {code:List Int} (hc:CodeC code) {H:Heap} {r k:Nat} {seed:Int} (hr:H r=some (cur code k seed)) (hk:k≤500000000) {K:k_}
  (h:∀s l k' seed',s.length≤64→l.length≤64→k≤k'→k'≤k+300→K (.agg [Is s,Is l]) (H.set r (cur code k' seed'))):a_a Tryz.prog 46 [.ptr r 0] H K:=by
 refine a_a.fin ?_
 refine W46_ok ?_;simp (maxSteps:=1000000) (disch:=first|assumption|apply Y6;assumption) only [W46,vz,vu,vv,eqS,eF_,↓c1_,↓c2_,tabs,reduceCtorEq,X5,↓reduceIte,Y1,Y2,Y3,Y4,Y5,X1,X2,X3,X4]
 intro r2 hr2
 have n4:r2≠r:=by rintro rfl;rw [hr] at hr2;cases hr2
 refine a_j hc 6 (by omega) (k:=k) (by omega) (by rw [Heap.set_other n4.symm];exact hr) fun x1 k1 s1 hx0 hx1 hk1 hk2=>?_
 refine b_w hc x1 (by omega) (k:=k1) (by omega) (Heap.set_same _ _ _) fun s q1 k2 s2 hl1 _ hk3 hk4 hq1=>?_
 simp only [Heap.set_none] at hq1
 obtain ⟨e1,e2,e3⟩:=hq1
 refine a_j hc 5 (by omega) (k:=k2) (by omega) (by rw [Heap.set_other e1.symm];exact Heap.set_same _ _ _) fun x2 k3 s3 hx2 hx3 hk5 hk6=>?_
 (try simp (disch:=first|assumption|apply Y6;assumption) only [vz,vu,vv,eqS,eF_,↓c1_,↓c2_,tabs,reduceCtorEq,X5,↓reduceIte,Y1,Y2,Y3,Y4,Y5,X1,X2,X3,X4,i6_ (show -9223372036854775808≤1+x2 by omega) (show 1+x2≤9223372036854775807 by omega)])
 refine b_w hc (1+x2) (by omega) (k:=k3) (seed:=s3) (by omega) (by rw [Heap.set_other e1.symm,Heap.set_same]) fun l q2 k4 s4 hl2 _ hk7 hk8 hq2=>?_
 simp only [Heap.set_none] at hq2
 obtain ⟨f1,f2,f3,f4⟩:=hq2
 (try simp (disch:=first|assumption|apply Y6;assumption) only [vz,vu,vv,eqS,eF_,↓c1_,↓c2_,tabs,reduceCtorEq,X5,↓reduceIte,Y1,Y2,Y3,Y4,Y5,X1,X2,X3,X4])
 intro r3 d1 d2 d3 d4 d5
 generalize hG:(((((H.set r2 [AV.p PV.nil,AV.p PV.nil]).set r (cur code k4 s4)).set q1 (cells (List.map eI s))).set q2 (cells (List.map eI l))).set r3 [AV.sl q1 1 0 s.length,AV.sl q2 1 0 l.length])=G
 have g:LG H G r r2 r3 q1 q2 code k4 s4 s l:=by
  subst hG
  refine ⟨?_,?_,?_,?_,?_,⟨f1.symm,e1,f2,n4,d3,Ne.symm d4,e2,Ne.symm d2,f3,Ne.symm d1⟩,⟨e3,f4,hr2,d5⟩,fun y b hy hyb=>?_⟩
  ·simp [Heap.set,Ne.symm d3,f2.symm,e1.symm]
  ·simp [Heap.set,Ne.symm d4,f3.symm,e2.symm,n4]
  ·simp [Heap.set,own]
  ·simp [Heap.set,Ne.symm d2,f1.symm]
  ·simp [Heap.set,Ne.symm d1]
  ·have y1:y≠r2:=fun e=>by rw [e,hr2] at hyb;cases hyb
   have y2:y≠q1:=fun e=>by rw [e,e3] at hyb;cases hyb
   have y3:y≠q2:=fun e=>by rw [e,f4] at hyb;cases hyb
   have y4:y≠r3:=fun e=>by rw [e,d5] at hyb;cases hyb
   simp [Heap.set,hy,y1,y2,y3,y4,hyb]
 clear hG
 have len1:s.length≤6:=by omega
 have len2:1≤l.length∧l.length≤6:=by omega
 have hk4':k4≤k+50:=by omega
 have hkk:k≤k4:=by omega
 refine c_Z hc 4 (by omega) (k:=k4) (by omega) g.cr fun x k5 s5 hk9 hk10=>?_
 have g1:=g.cur k5 s5
 generalize G.set r (cur code k5 s5)=G1 at g1
 (try simp (disch:=first|assumption|apply Y6;assumption) only [vz,vu,vv,eqS,eF_,↓c1_,↓c2_,tabs,reduceCtorEq,X5,↓reduceIte,Y1,Y2,Y3,Y4,Y5,X1,X2,X3,X4])
 refine ⟨fun hx=>?_,fun hx=>?_⟩
 ·(try simp (disch:=first|assumption|apply Y6;assumption) only [vz,vu,vv,eqS,eF_,↓c1_,↓c2_,tabs,reduceCtorEq,X5,↓reduceIte,Y1,Y2,Y3,Y4,Y5,X1,X2,X3,X4,lA_ g1.c3])
  refine app_rows a_g rfl a_u rfl (by decide) g1.d2 g1.d2 (by omega) fun q hq=>?_
  have f:=g1.fresh hq
  have n:=g1.ne
  have g2:=g1.newLoop (G':=G1.del q2) (fun y hy=>Heap.del_other hy) hq (l++l)
  have c3':((G1.del q2).set q (cells ((l++l).map eI))) r3=some [own q1 1 (s.map eI),own q2 1 (l.map eI)]:=by rw [Heap.set_other f.2.2.1.symm,Heap.del_other n.2.2.2.2.2.2.2.2.2.symm];exact g1.c3
  (try simp (disch:=first|assumption|apply Y6;assumption) only [vz,vu,vv,eqS,eF_,↓c1_,↓c2_,tabs,reduceCtorEq,X5,↓reduceIte,Y1,Y2,Y3,Y4,Y5,X1,X2,X3,X4,sA_ c3'])
  have:=lasso_J1 hc g2 (by omega) (by simp;omega) (by simp;omega) fun s l k' s' a b c d=>h s l k' s' a b (by omega) (by omega)
  simpa only [own,List.length_map,List.length_append] using this
 ·exact lasso_J1 hc g1 (by omega) (by omega) (by omega) fun s l k' s' a b c d=>h s l k' s' a b (by omega) (by omega)
end Go.Proofs.YtohkciilfkhomaaGreat
