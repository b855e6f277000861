/- Texts laid together: Mt0 Lb2 Lt3 Lt4 Ma2 Ma3 Ma4 Mg0 Pf1 Mf0 Lr3 Lf1 Ql1 Lr7 Tv0 Ss1 Lay Ps1 Ss2 Ma5 Mb0. -/
import Derived.Test.YtjdhigcefkihiaaPa4
import Derived.Sort.Grow
import Derived.Shelf.SlGeneric
import Derived.Shelf.SlLaysNS
import Derived.Test.YtjdhigcefkihiaaProg
import Derived.Lib.SlicesCompact
import Derived.Shelf.SortG.Plain
import Derived.Shelf.SortG.SortNone
import Derived.Shelf.SlicesG.CompactI
set_option linter.unusedVariables false
set_option linter.unusedSimpArgs false
open Nat renaming reduceAdd→ν1,reduceLeDiff→ν2,reduceLT→ν3,reduceMul→ν4,reduceSub→ν5
open Int renaming reduceToNat→ι1,reduceSub→ι2,reduceAdd→ι3,reduceNeg→ι4
open Array renaming toList→ι5
open Ne renaming symm→ν6
open List renaming forall_mem_cons→ν7
namespace Go.Sep
open Go Go.RowKit Go.Proofs.Ytjdhigcefkihiaa
structure Th where
  D:List Nat
  P:Heap→Prop
  loc:∀{G G':Heap},P G→(∀y∈D,∀b,G y=some b→G' y=some b)→P G'
  has:∀{G:Heap},P G→∀y∈D,G y≠none
def cellT (r:Nat) (b:List AV):Th:=⟨[r],fun G=>G r=some b,fun h f=>f r (List.mem_singleton.2 rfl) b h,fun h y hy=>by rw [List.mem_singleton.1 hy,h];simp⟩
structure St (H:Heap) (Ts:List Th) (G:Heap):Prop where
  le:Heap.le H G
  nd:(Ts.flatMap Th.D).Nodup
  fr:∀t∈Ts,∀y∈t.D,H y=none
  ok:∀t∈Ts,t.P G
theorem St.nil (H:Heap):St H [] H:=⟨Heap.le_refl _,List.nodup_nil,fun t ht=>(by cases ht),fun t ht=>(by cases ht)⟩
theorem St.get {H G:Heap} {Ts:List Th} {t:Th} (s:St H Ts G) (i:Nat) (h:Ts[i]?=some t):t.P G:=s.ok t (List.mem_of_getElem? h)
theorem St.ndT {H G:Heap} {Ts:List Th} {t:Th} (s:St H Ts G) (i:Nat) (h:Ts[i]?=some t):t.D.Nodup:=by
  obtain ⟨pre,post,e⟩:=List.append_of_mem (List.mem_of_getElem? h)
  have:=s.nd
  rw [e,List.flatMap_append,List.flatMap_cons,List.nodup_append,List.nodup_append] at this
  exact this.2.1.1
theorem St.push {H G G':Heap} {Ts:List Th} (s:St H Ts G) (t:Th) (hn:New G G' t.D) (hp:t.P G'):St H (t::Ts) G':=by
  refine ⟨Heap.le_trans s.le hn.le,?_,?_,?_⟩
  · rw [List.flatMap_cons,List.nodup_append]
    refine ⟨hn.nd,s.nd,fun a ha b hb e=>?_⟩
    obtain ⟨u,hu,hbu⟩:=List.mem_flatMap.1 hb
    exact u.has (s.ok u hu) b hbu (by rw [← e];exact hn.fr a ha)
  · intro u hu y hy
    rcases List.mem_cons.1 hu with rfl | hu
    · cases hh:H y with
      | none=>rfl
      | some b=>rw [← hn.fr y hy,s.le y b hh]
    · exact s.fr u hu y hy
  · intro u hu
    rcases List.mem_cons.1 hu with rfl | hu
    · exact hp
    · exact u.loc (s.ok u hu) fun y _ b hb=>hn.le y b hb
theorem New.cell {G:Heap} {r:Nat} {b:List AV} (hr:G r=none):New G (G.set r b) [r]:=⟨by simp,by simpa using hr,Heap.le_set hr⟩
theorem St.cell {H G:Heap} {Ts:List Th} (s:St H Ts G) {r:Nat} (hr:G r=none) (b:List AV):St H (cellT r b::Ts) (G.set r b):=s.push (cellT r b) (New.cell hr) (Heap.set_same _ _ _)
theorem St.upd {H G G':Heap} {Ts:List Th} {t:Th} (s:St H Ts G) (i:Nat) (h:Ts[i]?=some t) (t':Th) (hD:t'.D=t.D) (hf:∀y,y∉t.D→G' y=G y) (hp:t'.P G'):St H (Ts.set i t') G':=by
  obtain ⟨hi,hti⟩:=List.getElem?_eq_some_iff.1 h
  have e:Ts=Ts.take i++t::Ts.drop (i+1):=by rw [← hti,List.getElem_cons_drop,List.take_append_drop]
  have e':Ts.set i t'=Ts.take i++t'::Ts.drop (i+1):=by rw [List.set_eq_take_append_cons_drop,if_pos hi]
  generalize Ts.take i=pre at e e'
  generalize Ts.drop (i+1)=post at e e'
  rw [e']
  subst e
  have hnd:=s.nd
  rw [List.flatMap_append,List.flatMap_cons] at hnd
  have hdis:∀u∈pre++post,∀y∈u.D,y∉t.D:=by
    intro u hu y hy hyt
    rw [List.nodup_append,List.nodup_append] at hnd
    rcases List.mem_append.1 hu with hu | hu
    · exact hnd.2.2 y (List.mem_flatMap.2 ⟨u,hu,hy⟩) y (List.mem_append_left _ hyt) rfl
    · exact hnd.2.1.2.2 y hyt y (List.mem_flatMap.2 ⟨u,hu,hy⟩) rfl
  refine ⟨fun y b hb=>?_,by rw [List.flatMap_append,List.flatMap_cons,hD];exact hnd,fun u hu y hy=>?_,fun u hu=>?_⟩
  · rw [hf y (fun hy=>by have:=s.fr t (by simp) y hy;rw [this] at hb;cases hb)];exact s.le y b hb
  · rcases List.mem_append.1 hu with hu | hu
    · exact s.fr u (List.mem_append_left _ hu) y hy
    · rcases List.mem_cons.1 hu with rfl | hu
      · exact s.fr t (by simp) y (hD ▸ hy)
      · exact s.fr u (by simp [hu]) y hy
  · have old:∀u∈pre++post,u.P G':=fun u hu=>u.loc (s.ok u (by
      rcases List.mem_append.1 hu with hu | hu
      · exact List.mem_append_left _ hu
      · exact List.mem_append_right _ (List.mem_cons_of_mem _ hu))) fun y hy b hb=>by rw [hf y (hdis u hu y hy)];exact hb
    rcases List.mem_append.1 hu with hu | hu
    · exact old u (List.mem_append_left _ hu)
    · rcases List.mem_cons.1 hu with rfl | hu
      · exact hp
      · exact old u (List.mem_append_right _ hu)
theorem St.drop {H G:Heap} {t:Th} {Ts:List Th} (s:St H (t::Ts) G):St H Ts G:=⟨s.le,(by have:=s.nd;rw [List.flatMap_cons,List.nodup_append] at this;exact this.2.1),fun u hu=>s.fr u (List.mem_cons_of_mem _ hu),fun u hu=>s.ok u (List.mem_cons_of_mem _ hu)⟩
theorem St.perm {H G:Heap} {Ts Us:List Th} (s:St H Ts G) (h:List.Perm Ts Us):St H Us G:=
  ⟨s.le,(h.flatMap_right _).nodup s.nd,fun t ht=>s.fr t (h.mem_iff.2 ht),fun t ht=>s.ok t (h.mem_iff.2 ht)⟩
theorem St.disj {H G:Heap} {t u:Th} {Ts:List Th} (s:St H (t::u::Ts) G):∀y∈t.D,y∉u.D:=by
  have:=s.nd
  rw [List.flatMap_cons,List.flatMap_cons,List.nodup_append] at this
  exact fun y hy hu=>this.2.2 y hy y (List.mem_append_left _ hu) rfl
theorem Th.dis:∀{Ts:List Th} {t u:Th} {i j:Nat},(Ts.flatMap Th.D).Nodup→Ts[i]?=some t→Ts[j]?=some u→i < j→∀y∈t.D,y∉u.D
  | [],_,_,_,_,_,hi,_,_=>by simp at hi
  | a::Ts,t,u,0,j+1,nd,hi,hj,_=>by
    rw [List.flatMap_cons,List.nodup_append] at nd
    simp only [List.getElem?_cons_zero,Option.some.injEq] at hi
    subst hi
    exact fun y hy hu=>nd.2.2 y hy y (List.mem_flatMap.2 ⟨u,List.mem_of_getElem? (by simpa using hj),hu⟩) rfl
  | a::Ts,t,u,i+1,j+1,nd,hi,hj,h=>by
    rw [List.flatMap_cons,List.nodup_append] at nd
    exact Th.dis nd.2.1 (by simpa using hi) (by simpa using hj) (by omega)
theorem St.disjI {H G:Heap} {t u:Th} {Ts:List Th} (s:St H Ts G) (i j:Nat) (hi:Ts[i]?=some t) (hj:Ts[j]?=some u) (hij:i≠j):∀y∈t.D,y∉u.D:=by
  rcases Nat.lt_or_gt_of_ne hij with h | h
  · exact Th.dis s.nd hi hj h
  · exact fun y hy hu=>Th.dis s.nd hj hi h y hu hy
theorem St.fresh {H G:Heap} {Ts:List Th} {t:Th} (s:St H Ts G) (i:Nat) (h:Ts[i]?=some t) {q:Nat} (hq:G q=none):q∉t.D:=fun hm=>t.has (s.get i h) q hm hq
theorem perm_pick {α:Type}:∀(Ts:List α) (i:Nat) (hi:i < Ts.length),List.Perm Ts (Ts[i]::Ts.eraseIdx i)
  | a::Ts,0,_=>List.Perm.refl _
  | a::Ts,i+1,hi=>((perm_pick Ts i (by simpa using hi)).cons a).trans (List.Perm.swap _ _ _)
theorem perm_set {α:Type}:∀(Ts:List α) (i:Nat) (hi:i < Ts.length) (t:α),List.Perm (Ts.set i t) (t::Ts.eraseIdx i)
  | a::Ts,0,_,_=>List.Perm.refl _
  | a::Ts,i+1,hi,t=>((perm_set Ts i (by simpa using hi) t).cons a).trans (List.Perm.swap _ _ _)
theorem sub_flat {α β:Type} {f:α→List β} {l m:List α} (h:List.Sublist l m):List.Sublist (l.flatMap f) (m.flatMap f):=by
  induction h with
  | slnil=>exact List.Sublist.refl _
  | cons a _ ih=>rw [List.flatMap_cons];exact ih.trans (List.sublist_append_right _ _)
  | cons_cons a _ ih=>rw [List.flatMap_cons,List.flatMap_cons];exact List.Sublist.append_left ih _
theorem St.pick {H G:Heap} {Ts:List Th} {t:Th} (s:St H Ts G) (i:Nat) (h:Ts[i]?=some t):St H (t::Ts.eraseIdx i) G:=by
  obtain ⟨hi,rfl⟩:=List.getElem?_eq_some_iff.1 h
  exact s.perm (perm_pick Ts i hi)
theorem St.step {H G G':Heap} {old rest:List Th} (s:St H (old++rest) G) (new:List Th) (hnd:(new.flatMap Th.D).Nodup) (hfr:∀t∈new,∀y∈t.D,(∃u∈old,y∈u.D)∨G y=none)
    (hf:∀y b,G y=some b→(∀u∈old,y∉u.D)→G' y=some b) (hp:∀t∈new,t.P G'):St H (new++rest) G':=by
  have hs:=s.nd
  rw [List.flatMap_append,List.nodup_append] at hs
  have hdis:∀u∈rest,∀y∈u.D,∀t∈old,y∉t.D:=fun u hu y hy t ht hyt=>hs.2.2 y (List.mem_flatMap.2 ⟨t,ht,hyt⟩) y (List.mem_flatMap.2 ⟨u,hu,hy⟩) rfl
  refine ⟨fun y b hb=>?_,?_,fun u hu y hy=>?_,fun u hu=>?_⟩
  · refine hf y b (s.le y b hb) fun u hu hy=>?_
    rw [s.fr u (List.mem_append_left _ hu) y hy] at hb;cases hb
  · rw [List.flatMap_append,List.nodup_append]
    refine ⟨hnd,hs.2.1,fun a ha b hb e=>?_⟩
    subst e
    obtain ⟨t,ht,hat⟩:=List.mem_flatMap.1 ha
    obtain ⟨u,hu,hau⟩:=List.mem_flatMap.1 hb
    rcases hfr t ht a hat with ⟨v,hv,hav⟩ | hn
    · exact hdis u hu a hau v hv hav
    · exact u.has (s.ok u (List.mem_append_right _ hu)) a hau hn
  · rcases List.mem_append.1 hu with hu | hu
    · rcases hfr u hu y hy with ⟨v,hv,hav⟩ | hn
      · exact s.fr v (List.mem_append_left _ hv) y hav
      · cases hh:H y with
        | none=>rfl
        | some b=>rw [← hn,s.le y b hh]
    · exact s.fr u (List.mem_append_right _ hu) y hy
  · rcases List.mem_append.1 hu with hu | hu
    · exact hp u hu
    · exact u.loc (s.ok u (List.mem_append_right _ hu)) fun y hy b hb=>hf y b hb (hdis u hu y hy)
theorem St.repl {H G G':Heap} {Ts:List Th} {t:Th} (s:St H Ts G) (i:Nat) (h:Ts[i]?=some t) (t':Th) (hnd:t'.D.Nodup) (hfr:∀y∈t'.D,y∈t.D∨G y=none)
    (hf:∀y b,G y=some b→y∉t.D→G' y=some b) (hp:t'.P G'):St H (Ts.set i t') G':=by
  obtain ⟨hi,-⟩:=List.getElem?_eq_some_iff.1 h
  have:=St.step (old:=[t]) (s.pick i h) [t'] (by simpa using hnd) (fun u hu y hy=>by
    rw [List.mem_singleton] at hu;subst hu
    rcases hfr y hy with h1 | h1
    · exact .inl ⟨t,by simp,h1⟩
    · exact .inr h1) (fun y b hb hy=>hf y b hb (hy t (by simp))) (fun u hu=>by rw [List.mem_singleton] at hu;subst hu;exact hp)
  exact this.perm (perm_set Ts i hi t').symm
theorem St.moved {H G:Heap} {Ts:List Th} {q q':Nat} {b c:List AV} (s:St H Ts G) (i:Nat) (h:Ts[i]?=some (cellT q b)) (hq:G q'=none):St H (Ts.set i (cellT q' c)) ((G.del q).set q' c):=by
  have hg:G q=some b:=s.get i h
  refine s.repl i h (cellT q' c) (by simp [cellT]) (fun y hy=>?_) (fun y bb hb hy=>?_) (Heap.set_same _ _ _)
  · simp only [cellT,List.mem_singleton] at hy;subst hy;exact .inr hq
  · simp only [cellT,List.mem_singleton] at hy
    rw [Heap.set_other (fun e=>by rw [e,hq] at hb;cases hb),Heap.del_other hy];exact hb
theorem St.put {H G:Heap} {Ts:List Th} {q:Nat} {b:List AV} (s:St H Ts G) (i:Nat) (h:Ts[i]?=some (cellT q b)) (c:List AV):St H (Ts.set i (cellT q c)) (G.set q c):=by
  refine s.repl i h (cellT q c) (by simp [cellT]) (fun y hy=>.inl hy) (fun y bb hb hy=>?_) (Heap.set_same _ _ _)
  simp only [cellT,List.mem_singleton] at hy
  rw [Heap.set_other hy];exact hb
theorem St.sub {H G:Heap} {Ts Us:List Th} (s:St H Ts G) (h:List.Sublist Us Ts):St H Us G:=
  ⟨s.le,List.Nodup.sublist (sub_flat h) s.nd,fun t ht=>s.fr t (h.subset ht),fun t ht=>s.ok t (h.subset ht)⟩
theorem St.new {H G:Heap} {Ts:List Th} (s:St H Ts G):New H G (Ts.flatMap Th.D):=⟨s.nd,fun y hy=>by
  obtain ⟨t,ht,hyt⟩:=List.mem_flatMap.1 hy
  exact s.fr t ht y hyt,s.le⟩
theorem St.wkNone {H G:Heap} {Ts:List Th} (s:St H Ts G):∀y b,H y=some b→∀t∈Ts,y∉t.D:=fun y b hb t ht hy=>by rw [s.fr t ht y hy] at hb;cases hb
end Go.Sep
namespace Go.Proofs.Ytjdhigcefkihiaa
open Go Go.Sep
attribute [local irreducible] CallT
abbrev fI (n:Int):PV:=.int .i64 n
abbrev rowP {α:Type} (q:Nat) (xs:List α):AV:=.sl q 1 0 xs.length
abbrev cP {α:Type} (f:α→PV) (xs:List α):List AV:=xs.map fun x=>AV.p (f x)
abbrev vP {α:Type} (f:α→PV) (xs:List α):AV:=.p (.sl (xs.map fun x=>[f x]))
theorem cells_P {α:Type} (f:α→PV) (xs:List α):cells (xs.map fun x=>[f x])=cP f xs:=by
  induction xs with
  | nil=>rfl
  | cons x xs ih=>simp only [cells,List.map_cons,List.flatten_cons,List.map_append] at ih ⊢;rw [ih];rfl
theorem flat_P {α:Type} (f:α→PV) (xs:List α):(xs.map fun x=>[f x]).flatten.map AV.p=cP f xs:=cells_P f xs
theorem szP {α:Type} (f:α→PV) (xs:List α):Sized 1 (xs.map fun x=>[f x]):=sizedMap (f:=fun x=>[f x]) (fun _=>rfl) xs
theorem cP_cell {α:Type} (f:α→PV) (xs:List α):(cP f xs).all AV.isCell=true:=by
  rw [← cells_P];exact cells_cell _
theorem read_row {α:Type} {f:α→PV} {xs:List α} {k:Nat} (d:α) (h:k < xs.length):((((cP f xs).drop k).take 1).headD .any)=.p (f (xs.getD k d)):=by
  rw [List.drop_eq_getElem_cons (by simpa using h)]
  simp [List.getD,h]
def Base {α:Type} (f:α→PV) (x:AV) (xs:List α) (G:Heap):Prop:=(x=.p .nil∧xs=[])∨∃q,x=rowP q xs∧G q=some (cP f xs)
theorem app_row {α:Type} {f:α→PV} {tab:Tab} {t e:Nat} {d ed:TD} {q:Nat} {xs ys:List α} {G:Heap} {K:AV→Heap→Prop} (h1:tab t=some d) (h2:d.k=.slice e) (h3:tab e=some ed) (h6:ed.size=1) (h7:ed.bytes≤64)
    (hq:G q=some (cP f xs)) (hl:xs.length+ys.length≤1000000000)
    (h:∀q',G q'=none→K (rowP q' (xs++ys)) ((G.del q).set q' (cP f (xs++ys)))):appendV tab t t (rowP q xs) (vP f ys) G (wkK K):=by
  have:=app_own (x:=vP f ys) (r:=q) (es:=xs.map fun x=>[f x]) (fs:=ys.map fun x=>[f x]) (H:=G) (K:=K) h1 h2 h3 h1 h2 h6 (bz:=ed.bytes) rfl (.inl rfl) (by rw [cells_P];exact hq) (szP f xs) (szP f ys)
    (by simp only [List.length_map];exact Nat.le_trans (Nat.mul_le_mul hl h7) (by omega)) (by simp only [List.length_map];omega) fun r' hr'=>by
      have:=h r' hr'
      rw [← List.map_append,cells_P]
      simpa only [own,List.length_map] using this
  simpa only [own,List.length_map] using this
theorem app_base {α:Type} {f:α→PV} {tab:Tab} {t e:Nat} {d ed:TD} {x:AV} {xs ys:List α} {G:Heap} {K:AV→Heap→Prop} (h1:tab t=some d) (h2:d.k=.slice e) (h3:tab e=some ed) (h6:ed.size=1) (h7:ed.bytes≤64)
    (hb:Base f x xs G) (hl:xs.length+ys.length≤1000000000)
    (h:∀q' G1,G q'=none→G1 q'=some (cP f (xs++ys))→(∀y,y≠q'→(∀q,x=rowP q xs→y≠q)→G1 y=G y)→K (rowP q' (xs++ys)) G1):appendV tab t t x (vP f ys) G (wkK K):=by
  rcases hb with ⟨rfl,rfl⟩ | ⟨q,rfl,hq⟩
  · simp only [appendV,h1,h2,h3,h6,srcV,baseV]
    refine ⟨szP f ys,?_,?_,?_,fun r' hr'=>wkK.keep ?_⟩
    · have hl2:0+(ys.map fun x=>[f x]).length≤1000000000:=by simpa using hl
      exact Nat.le_trans (Nat.mul_le_mul hl2 h7) (by omega)
    · simp only [List.length_map];simp at hl;omega
    · exact cells_cell _
    · have:=h r' (G.set r' (cP f ys)) hr' (by rw [Heap.set_same];rfl) (fun y hy _=>Heap.set_other hy)
      rw [flat_P]
      simpa using this
  · refine app_row h1 h2 h3 h6 h7 hq hl fun q' hq'=>?_
    have hne:q'≠q:=by rintro rfl;rw [hq] at hq';cases hq'
    refine h q' _ hq' (Heap.set_same _ _ _) fun y hy hy2=>?_
    rw [Heap.set_other hy,Heap.del_other (hy2 q rfl)]
structure Own1 {α:Type} (f:α→PV) (H0 G:Heap) (r:Nat) (pre:List AV) (x:AV) (xs:List α):Prop where
  hr:G r=some (pre++[x])
  base:(x=.p .nil∧xs=[])∨∃q,x=rowP q xs∧G q=some (cP f xs)∧H0 q=none∧q≠r
  le:Heap.le H0 G
  nr:H0 r=none
theorem Own1.alloc {α:Type} {f:α→PV} {H0 G:Heap} {r:Nat} {pre:List AV} {x:AV} {xs:List α} (o:Own1 f H0 G r pre x xs) {q:Nat} (hq:G q=none) (b:List AV):Own1 f H0 (G.set q b) r pre x xs:=by
  have ne:∀{y c},G y=some c→y≠q:=fun h e=>by rw [e,hq] at h;cases h
  refine ⟨by rw [Heap.set_other (ne o.hr)];exact o.hr,?_,Heap.le_setN o.le ?_,o.nr⟩
  · rcases o.base with h | ⟨q1,h1,h2,h3,h4⟩
    · exact .inl h
    · exact .inr ⟨q1,h1,by rw [Heap.set_other (ne h2)];exact h2,h3,h4⟩
  · cases hh:H0 q with
    | none=>rfl
    | some c=>rw [o.le q c hh] at hq;cases hq
theorem Own1.app {α:Type} {f:α→PV} {H0 G:Heap} {r:Nat} {pre:List AV} {x:AV} {xs:List α} (o:Own1 f H0 G r pre x xs) {tab:Tab} {t e:Nat} {d ed:TD} {ys:List α} {K:AV→Heap→Prop} (h1:tab t=some d) (h2:d.k=.slice e) (h3:tab e=some ed) (h6:ed.size=1) (h7:ed.bytes≤64)
    (hl:xs.length+ys.length≤1000000000)
    (h:∀q' m G1,G1 r=some (pre++[x])→Own1 f H0 (G1.set r (pre++[.sl q' 1 0 m])) r pre (.sl q' 1 0 m) (xs++ys)→(∀y b,y≠r→H0 y=some b→G1 y=some b)→K (.sl q' 1 0 m) G1):appendV tab t t x (vP f ys) G (wkK K):=by
  refine app_base (f:=f) h1 h2 h3 h6 h7 (xs:=xs) ?_ hl fun q' G1 hq' hG1 hfr=>?_
  · rcases o.base with h | ⟨q1,h1,h2,h3,h4⟩
    · exact .inl h
    · exact .inr ⟨q1,h1,h2⟩
  · have hrq:r≠q':=fun e=>by rw [← e,o.hr] at hq';cases hq'
    have hxr:∀q,x=rowP q xs→H0 q=none∧q≠r:=by
      intro q hx
      rcases o.base with ⟨h,_⟩ | ⟨q1,h1,h2,h3,h4⟩
      · rw [h] at hx;cases hx
      · rw [h1] at hx;cases hx;exact ⟨h3,h4⟩
    have hle1:∀y b,H0 y=some b→G1 y=some b:=by
      intro y b hy
      rw [hfr y (fun e=>by rw [← e,o.le y b hy] at hq';cases hq') (fun q hx e=>by rw [e,(hxr q hx).1] at hy;cases hy)]
      exact o.le y b hy
    have hnq:H0 q'=none:=by
      cases hh:H0 q' with
      | none=>rfl
      | some c=>rw [o.le q' c hh] at hq';cases hq'
    refine h q' _ G1 ?_ ⟨Heap.set_same _ _ _,.inr ⟨q',rfl,by rw [Heap.set_other hrq.symm];exact hG1,hnq,hrq.symm⟩,?_,o.nr⟩ fun y b _ hy=>hle1 y b hy
    · rw [hfr r hrq (fun q hx e=>(hxr q hx).2 e.symm)];exact o.hr
    · refine Heap.le_setN (fun y b hy=>hle1 y b hy) o.nr
theorem Own1.wk {α:Type} {f:α→PV} {H0 G:Heap} {r:Nat} {pre:List AV} {x:AV} {xs:List α} (o:Own1 f H0 G r pre x xs) {v v':AV}
    (hn:x=.p .nil→xs=[]→AV.wk v v') (hf:∀q,x=rowP q xs→FrzR q 1 (xs.map fun x=>[f x]) v v') (hp:∀q,q≠r→FrzL q 1 (xs.map fun x=>[f x]) (pre++[rowP q xs]) (pre++[vP f xs])) :
    ∃G',Wk v G v' G'∧G' r=some (pre++[vP f xs])∧Heap.le H0 G':=by
  rcases o.base with ⟨rfl,rfl⟩ | ⟨q,rfl,hq,hq0,hqr⟩
  · refine ⟨G.set r (pre++[vP f []]),.trans (.val (hn rfl rfl)) (.cell o.hr (by simp) fun i a a' ha ha'=>?_),Heap.set_same _ _ _,Heap.le_setN o.le o.nr⟩
    by_cases hi:i < pre.length
    · rw [List.getElem?_append_left hi] at ha ha'
      rw [ha] at ha';cases ha';exact .refl _
    · rw [List.getElem?_append_right (by omega)] at ha ha'
      cases hj:i - pre.length with
      | zero=>
        rw [hj] at ha ha'
        simp at ha ha'
        subst ha;subst ha';exact .nil
      | succ j=>rw [hj] at ha;simp at ha
  · refine ⟨(G.del q).set r (pre++[vP f xs]),Wk.frzAt (r:=q) (s:=r) (sz:=1) (es:=xs.map fun x=>[f x]) (by omega) (by rw [flat_P];exact hq) (szP f xs) o.hr hqr.symm (hp q hqr) (hf q rfl) (by simp),Heap.set_same _ _ _,?_⟩
    exact Heap.le_setN (Heap.le_del o.le hq0) o.nr
theorem FrzL.refl {r sz:Nat} {es:List (List PV)}:∀vs,FrzL r sz es vs vs
  | []=>.nil
  | v::vs=>.cons (.same v) (FrzL.refl vs)
theorem FrzL.app {r sz:Nat} {es:List (List PV)}:∀{vs ws ws':List AV},FrzL r sz es ws ws'→FrzL r sz es (vs++ws) (vs++ws')
  | [],_,_,h=>h
  | v::vs,_,_,h=>.cons (.same v) (FrzL.app (vs:=vs) h)
theorem frz_row {α:Type} {f:α→PV} {q:Nat} {xs:List α}:FrzR q 1 (xs.map fun x=>[f x]) (rowP q xs) (vP f xs):=by
  have:FrzR q 1 (xs.map fun x=>[f x]) (.sl q 1 0 (xs.map fun x=>[f x]).length) (.p (.sl (xs.map fun x=>[f x]))):=.here
  rwa [List.length_map] at this
end Go.Proofs.Ytjdhigcefkihiaa
namespace Go.Proofs.Ytjdhigcefkihiaa
open Go Go.Sep Go.Pt
attribute [local irreducible] CallT
def LPg (p:Pg) (v:AV) (G:Heap) (D:List Nat):Prop:=∃x y D1 D2,v=.agg [I p.wide,I p.vars,x,y]∧D=D1++D2∧LN p.start x G D1∧LRow LCm 2 p.cmds y G D2
theorem LPg.local {p:Pg} {v:AV} {G G':Heap} {D:List Nat} (h:LPg p v G D) (hf:∀y∈D,∀b,G y=some b→G' y=some b):LPg p v G' D:=by
  obtain ⟨x,y,D1,D2,e,rfl,h1,h2⟩:=h
  exact ⟨x,y,D1,D2,e,rfl,LRow.local (LPl.local eN) h1 (fun z hz=>hf z (List.mem_append_left _ hz)),LRow.local LCm.local h2 (fun z hz=>hf z (List.mem_append_right _ hz))⟩
theorem LPg.has {p:Pg} {v:AV} {G:Heap} {D:List Nat} (h:LPg p v G D):∀y∈D,G y≠none:=by
  obtain ⟨x,y,D1,D2,e,rfl,h1,h2⟩:=h
  intro z hz
  rcases List.mem_append.1 hz with hz | hz
  · exact LRow.has (LPl.has eN) h1 z hz
  · exact LRow.has LCm.has h2 z hz
theorem LPg.wk {p:Pg} {v:AV} {G:Heap} {D:List Nat} (h:LPg p v G D) (hD:D.Nodup) (C:AV→AV) (hC:∀{q sz es a a'},FrzR q sz es a a'→FrzR q sz es (C a) (C a')):∃G',Wk (C v) G (C (aPg p)) G'∧∀y,y∉D→G' y=G y:=by
  obtain ⟨x,y,D1,D2,rfl,rfl,h1,h2⟩:=h
  rw [List.nodup_append] at hD
  obtain ⟨G1,w1,f1⟩:=LRow.frzV (e:=eN) (sz:=2) (v:=C (.agg [I p.wide,I p.vars,x,y])) (v':=C (.agg [I p.wide,I p.vars,Ns p.start,y])) (by omega) (fun _=>rfl) (LPl.local eN) (LPl.frz eN) h1 hD.1
    (fun q _ hr=>hC (.agg (.cons (.same _) (.cons (.same _) (.cons hr (.cons (.same _) .nil))))))
  have h2':=LRow.local LCm.local h2 (G':=G1) fun z hz b hb=>by rw [f1 z (fun hz1=>hD.2.2 z hz1 z hz rfl)];exact hb
  obtain ⟨G2,w2,f2⟩:=LRow.frzV (e:=eCm) (sz:=2) (v:=C (.agg [I p.wide,I p.vars,Ns p.start,y])) (v':=C (aPg p)) (by omega) (fun _=>rfl) LCm.local LCm.frz h2' hD.2.1
    (fun q _ hr=>hC (.agg (.cons (.same _) (.cons (.same _) (.cons (.same _) (.cons hr .nil))))))
  refine ⟨G2,.trans w1 w2,fun z hz=>?_⟩
  rw [List.mem_append,not_or] at hz
  rw [f2 z hz.2,f1 z hz.1]
def LSt (of:List Int) (v:AV) (G:Heap) (D:List Nat):Prop:=∃x,v=.agg [x]∧LI of x G D
theorem LI_row {xs:List Int} {x:AV} {G:Heap} {D:List Nat} (h:LI xs x G D):∃q,x=rowP q xs∧G q=some (cells (xs.map eI))∧D=[q]:=by
  obtain ⟨q,cs,D',e1,e2,e3,e4⟩:=h
  have key:∀(xs:List Int) cs D',LL (LPl eI) xs cs G D'→cs=cells (xs.map eI)∧D'=[]:=by
    intro xs
    induction xs with
    | nil=>intro cs D' h;exact h
    | cons a bs ih=>
      rintro cs D' ⟨c1,c2,D1,D2,rfl,rfl,⟨rfl,rfl⟩,h2⟩
      obtain ⟨rfl,rfl⟩:=ih _ _ h2
      exact ⟨by simp [cells],rfl⟩
  obtain ⟨rfl,rfl⟩:=key _ _ _ e3
  exact ⟨q,e1,e2,e4⟩
theorem LI_mk {xs:List Int} {q:Nat} {G:Heap} (h:G q=some (cells (xs.map eI))):LI xs (rowP q xs) G [q]:=⟨q,_,[],rfl,h,LL.plain xs,rfl⟩
theorem LSt.local {of:List Int} {v:AV} {G G':Heap} {D:List Nat} (h:LSt of v G D) (hf:∀y∈D,∀b,G y=some b→G' y=some b):LSt of v G' D:=by
  obtain ⟨x,e,h⟩:=h;exact ⟨x,e,LRow.local (LPl.local eI) h hf⟩
theorem LSt.has {of:List Int} {v:AV} {G:Heap} {D:List Nat} (h:LSt of v G D):∀y∈D,G y≠none:=by
  obtain ⟨x,e,h⟩:=h;exact LRow.has (LPl.has eI) h
theorem LSt.wk {of:List Int} {v:AV} {G:Heap} {D:List Nat} (h:LSt of v G D) (hD:D.Nodup) (C:AV→AV) (hC:∀{q sz es a a'},FrzR q sz es a a'→FrzR q sz es (C a) (C a')):∃G',Wk (C v) G (C (aS of)) G'∧∀y,y∉D→G' y=G y:=by
  obtain ⟨x,rfl,h⟩:=h
  exact LRow.frzV (e:=eI) (sz:=1) (v:=C (.agg [x])) (v':=C (aS of)) (by omega) (fun _=>rfl) (LPl.local eI) (LPl.frz eI) h hD (fun q _ hr=>hC (.agg (.cons hr .nil)))
def marked (k:Int) (n:Nat):List Int:=(List.range n).map fun (j:Nat)=>k+(j:Int)
theorem marked_len (k:Int) (n:Nat):(marked k n).length=n:=by simp [marked]
theorem markIntS_live (xs:List Int) (hl:xs.length≤1048576) {k:Int} (h0:0≤k) (h1:k≤1000000000) {q:Nat} {G:Heap} (hG:G q=some (cells (xs.map eI))) {K:AV→Heap→Prop}
    (h:K (I (k+xs.length)) (G.set q (cells ((marked k xs.length).map eI)))):CallT Try.prog 19 [rowP q xs,I k] G K:=by
  refine W19_ok ?_;simp (maxSteps:=1000000) (disch:=first | assumption | (apply ν6;assumption)) only [W19,vz,vu,vv,eqS,eF_,↓c1_,↓c2_,tabs,reduceCtorEq,ι5,↓reduceIte,ν1,ν2,ν3,ν4,ν5,ι1,ι2,ι3,ι4]
  refine L19_0_rule (0:Nat) (fun i=>I (k+i)) (fun i=>I i) (fun i=>G.set q (cells ((marked k i++xs.drop i).map eI))) (fun i=>i≤xs.length) (fun i=>xs.length - i) ⟨by omega,?_,.refl _,?_⟩ ?_
  · rw [wk_int];simp
  · intro y b hy
    by_cases e:y=q
    · subst e;rw [Heap.set_same] at hy;rw [hG];simpa [marked] using hy
    · rw [Heap.set_other e] at hy;exact hy
  intro i hi
  have hcl:(cells ((marked k i++xs.drop i).map eI)).length=xs.length:=by
    rw [cells_I,List.length_map,List.length_append,marked_len,List.length_drop];omega
  (try simp (maxSteps:=1000000) (disch:=first | assumption | (apply ν6;assumption)) only [vz,vu,vv,eqS,eF_,↓c1_,↓c2_,tabs,reduceCtorEq,ι5,↓reduceIte,ν1,ν2,ν3,ν4,ν5,ι1,ι2,ι3,ι4,B19_0,hcl])
  refine ⟨fun h5=>?_,fun h5=>?_⟩
  · have hlt:i < xs.length:=by omega
    refine ⟨by omega,h5,by omega,i+1,by omega,by omega,?_,?_,?_⟩
    · rw [wk_int,i64_id (by omega) (by omega)];omega
    · rw [wk_int,i64_id (by omega) (by omega)];simp
    · have e1:xs.drop i=xs.getD i 0::xs.drop (i+1):=by rw [List.drop_eq_getElem_cons hlt];simp [List.getD,hlt]
      have e2:marked k (i+1)=marked k i++[k+i]:=by simp [marked,List.range_succ]
      have e3:cells ((marked k i++xs.drop i).map eI)=cells ((marked k i).map eI)++([I (xs.getD i 0)]++cells ((xs.drop (i+1)).map eI)):=by rw [e1,List.map_append,cells_app];rfl
      have e4:cells ((marked k (i+1)++xs.drop (i+1)).map eI)=cells ((marked k i).map eI)++([I (k+i)]++cells ((xs.drop (i+1)).map eI)):=by rw [e2,List.append_assoc,List.map_append,cells_app];rfl
      have e5:=splice_at (pre:=cells ((marked k i).map eI)) (c:=[I (xs.getD i 0)]) (c':=[I (k+i)]) (post:=cells ((xs.drop (i+1)).map eI)) (off:=i*1) (n:=1) (by rw [cells_I,List.length_map,marked_len,Nat.mul_one]) rfl rfl
      rw [← e3,← e4] at e5
      rw [← e5];exact Heap.le_refl _
  · have:i=xs.length:=by omega
    subst this
    simpa using h
theorem heldIntS_spec (n:Nat) (hl:n≤1048576) {k:Int} (h0:0≤k) (h1:k≤1000000000):Pu Try.prog 20 [Is (marked k n),I k] (I (k+n)):=by
  refine Pu.of fun H=>?_
  have hml:=marked_len k n
  refine W20_ok ?_;simp (maxSteps:=1000000) (disch:=first | assumption | (apply ν6;assumption)) only [W20,vz,vu,vv,eqS,eF_,↓c1_,↓c2_,tabs,reduceCtorEq,ι5,↓reduceIte,ν1,ν2,ν3,ν4,ν5,ι1,ι2,ι3,ι4]
  refine L20_0_rule (0:Nat) (fun i=>I (k+i)) (fun i=>I i) (fun _=>H) (fun i=>i≤n) (fun i=>n - i) ⟨by omega,?_,.refl _,Heap.le_refl _⟩ ?_
  · rw [wk_int];simp
  intro i hi
  (try simp (maxSteps:=1000000) (disch:=first | assumption | (apply ν6;assumption)) only [vz,vu,vv,eqS,eF_,↓c1_,↓c2_,tabs,reduceCtorEq,ι5,↓reduceIte,ν1,ν2,ν3,ν4,ν5,ι1,ι2,ι3,ι4,B20_0,hml])
  refine ⟨fun h5=>?_,fun h5=>?_⟩
  · have hlt:i < n:=by omega
    have e:(marked k n).getD i default=k+i:=by simp [marked,List.getD,hlt]
    rw [e]
    refine ⟨by omega,h5,fun h6=>absurd rfl h6,fun _=>⟨i+1,by omega,by omega,?_,?_⟩⟩
    · rw [wk_int,i64_id (by omega) (by omega)];omega
    · rw [wk_int,i64_id (by omega) (by omega)];simp
  · have:i=n:=by omega
    subst this;rfl
end Go.Proofs.Ytjdhigcefkihiaa
namespace Go.Proofs.Ytjdhigcefkihiaa
open Go Go.Sep Go.Pt
attribute [local irreducible] CallT
theorem drop_cons {α:Type} [Inhabited α] {xs:List α} {i:Nat} (h:i < xs.length):xs.drop i=xs.getD i default::xs.drop (i+1):=by
  rw [List.drop_eq_getElem_cons h];simp [List.getD,h]
structure Half {α:Type} (L:Lay α) (G0:Heap) (q:Nat) (D:List Nat) (xs:List α) (i:Nat) (G:Heap) (done:List α):Prop where
  ex:∃cd cr Dd Dr,G q=some (cd++cr)∧LL L done cd G Dd∧LL L (xs.drop i) cr G Dr∧D=Dd++Dr
  len:done.length=i
  fr:∀y,y∉q::D→G y=G0 y
end Go.Proofs.Ytjdhigcefkihiaa
namespace Go.Proofs.Ytjdhigcefkihiaa
open Go Go.Sep Go.Pt
attribute [local irreducible] CallT
abbrev LE:List Ed→AV→Heap→List Nat→Prop:=LRow (LPl eE) 3
def LIc:Lay (List Int):=fun l cs G D=>∃x,cs=[x]∧LI l x G D
abbrev LII:List (List Int)→AV→Heap→List Nat→Prop:=LRow LIc 1
theorem LIc.local:Lay.Local LIc:=by
  rintro c cs G G' D ⟨x,e,h⟩ hf
  exact ⟨x,e,LRow.local (LPl.local eI) h hf⟩
theorem LIc.size:Lay.Size LIc 1:=by
  rintro c cs G D ⟨x,rfl,h⟩;rfl
theorem LIc.has:Lay.Has LIc:=by
  rintro c cs G D ⟨x,e,h⟩
  exact LRow.has (LPl.has eI) h
theorem LIc.frz:Lay.Frz LIc eL:=by
  rintro c cs G D v s pre post ⟨x,rfl,h⟩ hD hs hG
  obtain ⟨G',w,k,f⟩:=LRow.frzIn (e:=eI) (sz:=1) (pre:=pre) (post:=post) (v:=v) (by omega) (fun _=>rfl) (LPl.local eI) (LPl.frz eI) h hD hs (by rw [hG])
  exact ⟨G',w,by rw [k];rfl,f⟩
def LAu (a:Au) (v:AV) (G:Heap) (D:List Nat):Prop:=∃x y z D1 D2 D3,v=.agg [I a.states,x,y,z]∧D=D1++(D2++D3)∧LI a.first x G D1∧LE a.edges y G D2∧LII a.goals z G D3
theorem LAu.local {a:Au} {v:AV} {G G':Heap} {D:List Nat} (h:LAu a v G D) (hf:∀y∈D,∀b,G y=some b→G' y=some b):LAu a v G' D:=by
  obtain ⟨x,y,z,D1,D2,D3,e,rfl,h1,h2,h3⟩:=h
  exact ⟨x,y,z,D1,D2,D3,e,rfl,LRow.local (LPl.local eI) h1 (fun u hu=>hf u (by simp [hu])),LRow.local (LPl.local eE) h2 (fun u hu=>hf u (by simp [hu])),LRow.local LIc.local h3 (fun u hu=>hf u (by simp [hu]))⟩
theorem LAu.has {a:Au} {v:AV} {G:Heap} {D:List Nat} (h:LAu a v G D):∀y∈D,G y≠none:=by
  obtain ⟨x,y,z,D1,D2,D3,e,rfl,h1,h2,h3⟩:=h
  intro u hu
  simp only [List.mem_append] at hu
  rcases hu with hu | hu | hu
  · exact LRow.has (LPl.has eI) h1 u hu
  · exact LRow.has (LPl.has eE) h2 u hu
  · exact LRow.has LIc.has h3 u hu
theorem nd3' {A B C:List Nat} (h:(A++(B++C)).Nodup):A.Nodup∧B.Nodup∧C.Nodup∧(∀y∈A,y∉B)∧(∀y∈A,y∉C)∧(∀y∈B,y∉C):=by
  rw [List.nodup_append,List.nodup_append] at h
  obtain ⟨h1,⟨h2,h3,h4⟩,h5⟩:=h
  exact ⟨h1,h2,h3,fun y hy hb=>h5 y hy y (List.mem_append_left _ hb) rfl,fun y hy hb=>h5 y hy y (List.mem_append_right _ hb) rfl,fun y hy hb=>h4 y hy y hb rfl⟩
theorem LAu.wk {a:Au} {v:AV} {G:Heap} {D:List Nat} (h:LAu a v G D) (hD:D.Nodup) (C:AV→AV) (hC:∀{q sz es a a'},FrzR q sz es a a'→FrzR q sz es (C a) (C a')):∃G',Wk (C v) G (C (aAu a)) G'∧∀y,y∉D→G' y=G y:=by
  obtain ⟨x,y,z,D1,D2,D3,rfl,rfl,h1,h2,h3⟩:=h
  obtain ⟨n1,n2,n3,d12,d13,d23⟩:=nd3' hD
  obtain ⟨G1,w1,f1⟩:=LRow.frzV (e:=eI) (sz:=1) (v:=C (.agg [I a.states,x,y,z])) (v':=C (.agg [I a.states,Is a.first,y,z])) (by omega) (fun _=>rfl) (LPl.local eI) (LPl.frz eI) h1 n1
    (fun q _ hr=>hC (.agg (.cons (.same _) (.cons hr (.cons (.same _) (.cons (.same _) .nil))))))
  have h2':=LRow.local (LPl.local eE) h2 (G':=G1) fun u hu b hb=>by rw [f1 u (fun h=>d12 u h hu)];exact hb
  obtain ⟨G2,w2,f2⟩:=LRow.frzV (e:=eE) (sz:=3) (v:=C (.agg [I a.states,Is a.first,y,z])) (v':=C (.agg [I a.states,Is a.first,Es a.edges,z])) (by omega) (fun _=>rfl) (LPl.local eE) (LPl.frz eE) h2' n2
    (fun q _ hr=>hC (.agg (.cons (.same _) (.cons (.same _) (.cons hr (.cons (.same _) .nil))))))
  have h3':=LRow.local LIc.local h3 (G':=G2) fun u hu b hb=>by rw [f2 u (fun h=>d23 u h hu),f1 u (fun h=>d13 u h hu)];exact hb
  obtain ⟨G3,w3,f3⟩:=LRow.frzV (e:=eL) (sz:=1) (v:=C (.agg [I a.states,Is a.first,Es a.edges,z])) (v':=C (aAu a)) (by omega) (fun _=>rfl) LIc.local LIc.frz h3' n3
    (fun q _ hr=>hC (.agg (.cons (.same _) (.cons (.same _) (.cons (.same _) (.cons hr .nil))))))
  refine ⟨G3,.trans w1 (.trans w2 w3),fun u hu=>?_⟩
  simp only [List.mem_append,not_or] at hu
  rw [f3 u hu.2.2,f2 u hu.2.1,f1 u hu.1]
end Go.Proofs.Ytjdhigcefkihiaa
namespace Go.Proofs.Ytjdhigcefkihiaa
open Go Go.Sep Go.Pt
attribute [local irreducible] CallT
end Go.Proofs.Ytjdhigcefkihiaa
namespace Go.Proofs.Ytjdhigcefkihiaa
open Go Go.Sep Go.Pt
attribute [local irreducible] CallT
theorem cI_len (xs:List Int):(cP fI xs).length=xs.length:=by simp [cP]
theorem cI_app (xs ys:List Int):cP fI (xs++ys)=cP fI xs++cP fI ys:=by simp [cP]
theorem app_intsX {q:Nat} {xs ys:List Int} {ex:List AV} {G:Heap} {K:AV→Heap→Prop} (hq:G q=some (cP fI xs++ex)) (hl:xs.length+ys.length≤1000000000)
    (h:∀q',G q'=none→q'≠q→K (rowP q' (xs++ys)) ((G.del q).set q' (cP fI (xs++ys)))):appendV tab 23 23 (rowP q xs) (Is ys) G (wkK K):=by
  have hlen:=cI_len xs
  simp only [appendV,tab_23,tab_3,srcV,baseV,hq]
  have e2:List.map AV.p (List.map eI ys).flatten=cP fI ys:=flat_P fI ys
  refine ⟨szI ys,trivial,by rw [List.length_append,hlen];omega,by simp only [List.length_map];omega,by simp only [List.length_map];omega,cells_cell _,fun q' hq'=>wkK.keep ?_⟩
  have hne:q'≠q:=fun e=>by rw [e,hq] at hq';cases hq'
  have:=h q' hq' hne
  have e:List.take (xs.length*1) (List.drop 0 (cP fI xs++ex))=cP fI xs:=by rw [List.drop_zero,Nat.mul_one,← hlen,List.take_left]
  rw [e,e2,List.length_map]
  rw [cI_app] at this
  simpa only [rowP,List.length_append] using this
theorem app_topI {q:Nat} {xs ys:List Int} {G:Heap} {K:AV→Heap→Prop} (hq:G q=none) (hl:xs.length+ys.length≤1000000) (h:∀q',G q'=none→K (rowP q' (xs++ys)) (G.set q' (cP fI (xs++ys)))) :
    appendV tab 23 23 (rowP q xs) (Is ys) (G.set q (cP fI xs)) (wkK K):=
  app_intsX (ex:=[]) (by rw [Heap.set_same,List.append_nil]) (by omega) fun q' hq' hne=>by
    rw [Heap.del_set hq]
    rw [Heap.set_none] at hq'
    exact h q' hq'.2
theorem push_topI {q:Nat} {xs:List Int} {b:Int} {G:Heap} {K:AV→Heap→Prop} (hq:G q=none) (hl:xs.length≤100000) (h:∀q',G q'=none→K (rowP q' (xs++[b])) (G.set q' (cP fI (xs++[b])))) :
    buildSliceV tab 23 1 [(0,I b)] (G.set q (cP fI xs)) (wkK fun v H1=>appendV tab 23 23 (rowP q xs) v H1 (wkK K)):=by
  refine lit1 tab_23 rfl tab_3 ⟨rfl,rfl⟩ ?_
  exact app_topI (ys:=[b]) hq (by simp;omega) h
theorem lit0I {G:Heap} {K:AV→Heap→Prop} (h:∀q,G q=none→K (rowP q ([]:List Int)) (G.set q (cP fI []))):buildSliceV tab 23 0 [] G (wkK K):=by
  simp only [buildSliceV,tab_23,tab_3]
  refine ⟨by omega,?_⟩
  simp only [fillV,zerosA,List.replicate_zero,List.flatten_nil]
  exact fun r hr=>wkK.keep (h r hr)
def below (n:Nat):List Int:=(List.range n).map fun (i:Nat)=>(i:Int)
def smI (l:List Int):Prop:=l.length≤10000∧∀x∈l,0≤x∧x≤100000
theorem fin_int {q:Nat} {xs:List Int} {H G:Heap} (hq:H q=none) (hG:Heap.le (H.set q (cP fI xs)) G):wkK (fun r H'=>r=Is xs∧H'=H) (rowP q xs) G:=by
  have:=fin_own (sz:=1) (es:=xs.map eI) (q:=q) (H:=H) (H':=G) (K:=fun r H'=>r=Is xs∧H'=H) (by omega) (szI _) hq (by
    have e:cells (xs.map eI)=cP fI xs:=cells_P fI xs
    rw [e];exact hG) ⟨rfl,rfl⟩
  simpa only [Go.Sep.own,List.length_map] using this
theorem l1Own_row (l:List Int) (hl:l.length≤100000) {H:Heap} {K:AV→Heap→Prop} (h:∀q,H q=none→K (rowP q l) (H.set q (cP fI l))):CallT Try.prog 57 [Is l] H K:=by
  refine CallT.fin ?_
  refine W57_ok ?_;simp (maxSteps:=1000000) (disch:=first | assumption | (apply ν6;assumption)) only [W57,vz,vu,vv,eqS,eF_,↓c1_,↓c2_,tabs,reduceCtorEq,ι5,↓reduceIte,ν1,ν2,ν3,ν4,ν5,ι1,ι2,ι3,ι4]
  refine lit0I fun q0 hq0=>?_
  refine app_topI (xs:=[]) (ys:=l) hq0 (by simp;omega) fun q hq=>?_
  rw [List.nil_append]
  exact wkK.keep (h q hq)
theorem LI_mk' {xs:List Int} {q:Nat} {G:Heap} (h:G q=some (cP fI xs)):LI xs (rowP q xs) G [q]:=LI_mk (by
  have e:cells (xs.map eI)=cP fI xs:=cells_P fI xs
  rw [e];exact h)
theorem lit_live1 {G:Heap} {K:AV→Heap→Prop} {q n:Nat} (h:∀ql,G ql=none→K (.sl ql 1 0 1) (G.set ql [.sl q 1 0 n])):buildSliceV tab 110 1 [(0,.sl q 1 0 n)] G (wkK K):=by
  simp only [buildSliceV,tab_110,tab_23]
  refine ⟨by omega,?_⟩
  simp only [fillV,zerosA,List.replicate_succ,List.replicate_zero,List.flatten_cons,List.flatten_nil,List.append_nil,AV.cells,splice]
  simp only [List.length_cons,List.length_nil,Nat.reduceAdd,Nat.zero_mul,Nat.zero_add,Nat.le_refl,and_self,if_true,List.take_zero,List.nil_append,List.drop_succ_cons,List.drop_zero,List.append_nil]
  exact fun r hr=>wkK.keep (h r hr)
theorem CloneI_row (xs:List Int) (hl:xs.length≤100000) {H:Heap} {K:AV→Heap→Prop} (h:∀q,H q=none→K (rowP q xs) (H.set q (cP fI xs))):CallT Try.prog 65 [Is xs] H K:=by
  refine CallT.fin ?_
  refine CallT.ghost W65_hb fun q0 hq0=>?_
  refine W65_ok ?_;simp (maxSteps:=1000000) (disch:=first | assumption | (apply ν6;assumption)) only [W65,vz,vu,vv,eqS,eF_,↓c1_,↓c2_,tabs,reduceCtorEq,ι5,↓reduceIte,ν1,ν2,ν3,ν4,ν5,ι1,ι2,ι3,ι4]
  have main:buildSliceV tab 23 0 [] (H.set q0 []) (wkK fun v5 H1=>appendV tab 23 23 v5 (Is xs) H1 (wkK fun v7 H2=>wkK K v7 H2)):=by
    refine lit0I fun q1 hq1=>?_
    refine app_topI (xs:=[]) (ys:=xs) hq1 (by simp;omega) fun q2 hq2=>?_
    rw [Heap.set_none] at hq2
    rw [List.nil_append]
    refine fin_le ?_ (h q2 hq2.2)
    generalize cP fI xs=z
    have:=hq2.2
    have:=hq2.1
    (intro y b hy;simp only [Heap.set,Heap.del] at hy ⊢;(repeat' split at hy)<;>(repeat' split)<;>simp_all [cells])
  refine ⟨fun h0=>⟨?_,main⟩,fun _=>main⟩
  have hx:xs=[]:=List.map_eq_nil_iff.1 h0
  subst hx
  exact ⟨_,_,.val (.nilo q0 1 0),h q0 hq0⟩
end Go.Proofs.Ytjdhigcefkihiaa
namespace Go.Sep
open Go Go.RowKit
inductive FinK (K:AV→Heap→Prop):AV→Heap→Prop where
  | done {v:AV} {H:Heap} (h:K v H):FinK K v H
  | wk {v v':AV} {H H':Heap} (h:Wk v H v' H') (k:FinK K v' H'):FinK K v H
  | ghost {v:AV} {H:Heap} (k:∀z,H z=none→FinK K v (H.set z [])):FinK K v H
theorem UpV.finish {B0:Nat} {w0:World} {F:Heap} {K:AV→Heap→Prop} {v:AV} {H:Heap} (h:FinK K v H):∀{Z:Fro} {φ:Pm} {x:Value} {w:World},Disj H F→Sim Z φ B0 w0 (H.or F) w→Cv Z φ v x→UpV B0 w0 F Z φ K x w:=by
  induction h with
  | done h=>exact fun hd hs hc=>⟨_,_,_,_,h,Fro.le_refl _,Pm.le_refl _,hd,hs,hc⟩
  | wk h k ih=>
    intro Z φ x w hd hs hc
    obtain ⟨Z',φ',h1,h2,h3,h4,h5⟩:=UpV.wk h hd hs hc
    obtain ⟨v',H',Z2,φ2,a,b,c,d,e,f⟩:=ih h3 h4 h5
    exact ⟨v',H',Z2,φ2,a,Fro.le_trans h1 b,Pm.le_trans h2 c,d,e,f⟩
  | ghost k ih=>
    intro Z φ x w hd hs hc
    obtain ⟨r,φ',h1,h2,h3,h4⟩:=Rel.ghost hd hs
    obtain ⟨v',H',Z2,φ2,a,b,c,d,e,f⟩:=ih r h1 h3 h4 (hc.mono (Fro.le_refl _) h2)
    exact ⟨v',H',Z2,φ2,a,b,Pm.le_trans h2 c,d,e,f⟩
theorem CallT.finish {P:Program} {f:Nat} {args:List AV} {H:Heap} {K:AV→Heap→Prop} (h:CallT P f args H (FinK K)):CallT P f args H K:=by
  refine ⟨h.1,fun B0 w0 F Z φ w xs hd hs ha=>(h.2 B0 w0 F Z φ w xs hd hs ha).mono ?_⟩
  rintro e w' ⟨x,rfl,v,H',Z',φ',hk,b,c,d,e,f⟩
  obtain ⟨v',H2,Z2,φ2,a,b2,c2,d2,e2,f2⟩:=UpV.finish hk d e f
  exact ⟨x,rfl,v',H2,Z2,φ2,a,Fro.le_trans b b2,Pm.le_trans c c2,d2,e2,f2⟩
def RN {α:Type} (L:Lay α) (sz:Nat) (x:AV) (xs:List α) (G:Heap) (D:List Nat):Prop:=(x=.p .nil∧xs=[]∧D=[])∨LRow L sz xs x G D
theorem RN.local {α:Type} {L:Lay α} {sz:Nat} (hL:L.Local) {x:AV} {xs:List α} {G G':Heap} {D:List Nat} (h:RN L sz x xs G D) (hf:∀y∈D,∀b,G y=some b→G' y=some b):RN L sz x xs G' D:=by
  rcases h with h | h
  · exact .inl h
  · exact .inr (h.local hL hf)
theorem RN.has {α:Type} {L:Lay α} {sz:Nat} (hL:L.Has) {x:AV} {xs:List α} {G:Heap} {D:List Nat} (h:RN L sz x xs G D):∀y∈D,G y≠none:=by
  rcases h with ⟨h1,h2,rfl⟩ | h
  · intro y hy;cases hy
  · exact h.has hL
theorem RN.sl {α:Type} {L:Lay α} {sz:Nat} {x:AV} {xs:List α} {G:Heap} {D:List Nat} (h:RN L sz x xs G D):x=.p .nil∨∃q,x=.sl q sz 0 xs.length:=by
  rcases h with ⟨h1,_⟩ | ⟨q,cs,D',h1,_⟩
  · exact .inl h1
  · exact .inr ⟨q,h1⟩
def rnT {α:Type} {L:Lay α} (hL:L.Local) (hh:L.Has) (sz:Nat) (x:AV) (xs:List α) (D:List Nat):Th:=⟨D,fun G=>RN L sz x xs G D,fun h f=>h.local hL f,fun h=>h.has hh⟩
theorem LL.plain' {α:Type} {e:α→List PV} {G:Heap}:∀{xs:List α} {cs:List AV} {D:List Nat},LL (LPl e) xs cs G D→cs=cells (xs.map e)∧D=[]
  | [],_,_,⟨h1,h2⟩=>⟨h1,h2⟩
  | a::xs,_,_,⟨c1,c2,D1,D2,e1,e2,h1,h2⟩=>by
    obtain ⟨f1,f2⟩:=LL.plain' h2
    rw [e1,e2,h1.1,h1.2,f1,f2]
    exact ⟨by simp [cells],rfl⟩
theorem RN.app {tab:Tab} {t0 t1 e0 e1 sz:Nat} {d d1 ed:TD} {α:Type} {e:α→List PV} (h1:tab t0=some d) (h2:d.k=.slice e0) (h3:tab e0=some ed) (h4:tab t1=some d1) (h5:d1.k=.slice e1) (h6:ed.size=sz) {bz:Nat} (h7:ed.bytes=bz)
    (hsz:∀a,(e a).length=sz) {H G:Heap} {Ts:List Th} {x y:AV} {xs ys:List α} {D:List Nat} {hL:(LPl e).Local} {hh:(LPl e).Has} (s:St H Ts G) (i:Nat) (hi:Ts[i]?=some (rnT hL hh sz x xs D)) (hy:y=.p (.sl (ys.map e)))
    (hl:(xs.length+ys.length)*bz≤140737488355328) (hl2:xs.length+ys.length≤9223372036854775807) {K:AV→Heap→Prop}
    (h:∀q' G',G q'=none→St H (Ts.set i (rnT hL hh sz (.sl q' sz 0 (xs++ys).length) (xs++ys) [q'])) G'→K (.sl q' sz 0 (xs++ys).length) G'):appendV tab t0 t1 x y G (wkK K):=by
  subst hy
  have hrz:RN (LPl e) sz x xs G D:=s.get i hi
  rcases hrz with ⟨rfl,rfl,rfl⟩ | ⟨q,cs,D',rfl,hq,hll,rfl⟩
  · refine app_nil h1 h2 h3 h4 h5 h6 h7 (.inl rfl) (.inl rfl) (sizedMap hsz ys) (by simpa using hl) (by simpa using hl2) fun q' hq'=>?_
    have:=h q' _ hq' (s.repl i hi (rnT hL hh sz (.sl q' sz 0 ([]++ys).length) ([]++ys) [q']) (by simp [rnT]) (fun y hy=>by
      simp only [rnT,List.mem_singleton] at hy;subst hy;exact .inr hq') (G':=G.set q' (cells (ys.map e))) (fun y b hb _=>Heap.le_set hq' y b hb) (.inr ⟨q',_,[],rfl,Heap.set_same _ _ _,LL.plain _,rfl⟩))
    simpa [Go.Sep.own] using this
  · obtain ⟨rfl,rfl⟩:=LL.plain' hll
    have:=app_own (x:=.p (.sl (ys.map e))) (r:=q) (es:=xs.map e) (fs:=ys.map e) (H:=G) (K:=K) h1 h2 h3 h4 h5 h6 h7 (.inl rfl) hq (sizedMap hsz xs) (sizedMap hsz ys)
      (by simpa using hl) (by simpa using hl2) fun q' hq'=>by
        have:=h q' ((G.del q).set q' (cells ((xs++ys).map e))) hq' (s.repl i hi (rnT hL hh sz (.sl q' sz 0 (xs++ys).length) (xs++ys) [q']) (by simp [rnT]) (fun y hy=>by
          simp only [rnT,List.mem_singleton] at hy;subst hy;exact .inr hq') (fun y b hb hy=>by
            simp only [rnT,List.mem_singleton] at hy
            rw [Heap.set_other (fun e=>by rw [e,hq'] at hb;cases hb),Heap.del_other hy];exact hb) (.inr ⟨q',_,[],rfl,Heap.set_same _ _ _,LL.plain _,rfl⟩))
        simpa only [Go.Sep.own,List.length_map,List.map_append,List.length_append] using this
    simpa only [Go.Sep.own,List.length_map] using this
end Go.Sep
namespace Go.Proofs.Ytjdhigcefkihiaa
open Go Go.Sep Go.Pt
attribute [local irreducible] CallT
def LIn:Lay (List Int):=fun l cs G D=>∃x,cs=[x]∧RN (LPl eI) 1 x l G D
theorem LIn.local:Lay.Local LIn:=by
  rintro c cs G G' D ⟨x,e,h⟩ hf
  exact ⟨x,e,h.local (LPl.local eI) hf⟩
theorem LIn.has:Lay.Has LIn:=by
  rintro c cs G D ⟨x,e,h⟩
  exact h.has (LPl.has eI)
theorem LIn.size:Lay.Size LIn 1:=by
  rintro c cs G D ⟨x,rfl,h⟩;rfl
abbrev rnI (x:AV) (l:List Int) (D:List Nat):Th:=rnT (LPl.local eI) (LPl.has eI) 1 x l D
theorem st_appI {H G:Heap} {Ts:List Th} {q:Nat} {xs ys:List Int} (s:St H Ts G) (i:Nat) (hi:Ts[i]?=some (cellT q (cP fI xs))) (hl:xs.length+ys.length≤1000000000) {K:AV→Heap→Prop}
    (h:∀q' G',G q'=none→St H (Ts.set i (cellT q' (cP fI (xs++ys)))) G'→K (rowP q' (xs++ys)) G'):appendV tab 23 23 (rowP q xs) (Is ys) G (wkK K):=by
  have hq:G q=some (cP fI xs):=s.get i hi
  exact app_intsX (ex:=[]) (by rw [hq,List.append_nil]) hl fun q' hq' hne=>h q' _ hq' (s.moved i hi hq')
abbrev eBo (b:Bool):List PV:=[.bool b]
abbrev fB (b:Bool):PV:=.bool b
end Go.Proofs.Ytjdhigcefkihiaa
namespace Go.Pt
structure Sd where
  op:Int
  n:Int
instance:Inhabited Sd:=⟨⟨0,0⟩⟩
def need (op:Int):Int:=if op=1∨op=2 then 0 else if op=3∨op=4 then 1 else if op=5∨op=6∨op=7∨op=8 then 2 else -1
def sdOk (x:Sd):Bool:=if x.op=1 then decide (0≤x.n) && decide (x.n < 3) else if x.op=2 then decide (x.n=0) || decide (x.n=1) else decide (0 < need x.op) && decide (x.n=0)
theorem need_cases (op:Int):(need op=0∧(op=1∨op=2))∨(need op=1∧(op=3∨op=4))∨(need op=2∧(op=5∨op=6∨op=7∨op=8))∨need op=-1:=by
  unfold need
  by_cases h1:op=1∨op=2
  · rw [if_pos h1];exact .inl ⟨rfl,h1⟩
  rw [if_neg h1]
  by_cases h2:op=3∨op=4
  · rw [if_pos h2];exact .inr (.inl ⟨rfl,h2⟩)
  rw [if_neg h2]
  by_cases h3:op=5∨op=6∨op=7∨op=8
  · rw [if_pos h3];exact .inr (.inr (.inl ⟨rfl,h3⟩))
  rw [if_neg h3];exact .inr (.inr (.inr rfl))
theorem sdOk_need {x:Sd} (h:sdOk x=true):0≤need x.op∧need x.op≤2:=by
  unfold sdOk at h
  split at h
  · rename_i e;rw [e];decide
  · split at h
    · rename_i e;rw [e];decide
    · rw [Bool.and_eq_true,decide_eq_true_eq] at h
      rcases need_cases x.op with h1 | h1 | h1 | h1<;>omega
def vals (f:List Sd):Nat→Int
  | 0=>0
  | i+1=>vals f i+(1 - need (f.getD i default).op)
def sdAt (f:List Sd) (i:Nat):Bool:=sdOk (f.getD i default) && decide (need (f.getD i default).op≤vals f i)
def goodF (f:List Sd):Bool:=decide (1≤f.length) && decide (f.length≤16) && (List.range f.length).all (sdAt f) && decide (vals f f.length=1)
def stk (f:List Sd):Nat→List (Nat×Nat)
  | 0=>[]
  | i+1=>
    if need (f.getD i default).op=0 then (i,i)::stk f i
    else if need (f.getD i default).op=1 then (((stk f i).headD (0,0)).1,i)::(stk f i).tail
    else (((stk f i).tail.headD (0,0)).1,i)::(stk f i).tail.tail
def tst (f:List Sd) (k:Nat):Nat:=((stk f (k+1)).headD (0,0)).1
def Cont:Nat→List (Nat×Nat)→Prop
  | i,[]=>i=0
  | i,(s,k)::r=>k+1=i∧s≤k∧Cont s r
structure GoodFm (f:List Sd):Prop where
  l0:1≤f.length
  l1:f.length≤16
  ok:∀i,i < f.length→sdOk (f.getD i default)=true∧need (f.getD i default).op≤vals f i
  one:vals f f.length=1
theorem goodF_iff {f:List Sd}:goodF f=true↔GoodFm f:=by
  unfold goodF
  simp only [Bool.and_eq_true,decide_eq_true_eq,List.all_eq_true,List.mem_range,sdAt]
  exact ⟨fun h=>⟨h.1.1.1,h.1.1.2,h.1.2,h.2⟩,fun h=>⟨⟨⟨h.l0,h.l1⟩,h.ok⟩,h.one⟩⟩
theorem stk_len {f:List Sd} (g:GoodFm f):∀i,i≤f.length→((stk f i).length:Int)=vals f i:=by
  intro i
  induction i with
  | zero=>intro _;rfl
  | succ i ih=>
    intro hi
    have h1:=ih (by omega)
    have h2:=g.ok i (by omega)
    have h3:=sdOk_need h2.1
    have h4:=h2.2
    simp only [stk,vals]
    split
    · rename_i e;rw [List.length_cons];omega
    · split
      · rename_i e;rw [List.length_cons,List.length_tail];omega
      · rw [List.length_cons,List.length_tail,List.length_tail];omega
theorem stk_cont {f:List Sd} (g:GoodFm f):∀i,i≤f.length→Cont i (stk f i):=by
  intro i
  induction i with
  | zero=>intro _;rfl
  | succ i ih=>
    intro hi
    have h1:=ih (by omega)
    have h2:=g.ok i (by omega)
    have h3:=sdOk_need h2.1
    have h4:=h2.2
    have h5:=stk_len g i (by omega)
    simp only [stk]
    split
    · exact ⟨rfl,Nat.le_refl _,h1⟩
    · split
      · cases hs:stk f i with
        | nil=>rw [hs] at h5;simp at h5;omega
        | cons a r=>
          obtain ⟨s,k⟩:=a
          rw [hs] at h1
          obtain ⟨c1,c2,c3⟩:=h1
          exact ⟨rfl,by simp only [List.headD_cons];omega,by simpa using c3⟩
      · cases hs:stk f i with
        | nil=>rw [hs] at h5;simp at h5;omega
        | cons a r=>
          obtain ⟨s,k⟩:=a
          rw [hs] at h1 h5
          obtain ⟨c1,c2,c3⟩:=h1
          cases r with
          | nil=>simp at h5;omega
          | cons b r=>
            obtain ⟨s2,k2⟩:=b
            obtain ⟨d1,d2,d3⟩:=c3
            exact ⟨rfl,by simp only [List.tail_cons,List.headD_cons];omega,by simpa using d3⟩
theorem stk_below {f:List Sd} (g:GoodFm f):∀n i,i≤n→i≤f.length→∀s k r,stk f i=(s,k)::r→stk f s=r:=by
  intro n
  induction n with
  | zero => intro i hi _ s k r h; have : i = 0 := by omega
            subst this;cases h
  | succ n ih=>
    intro i hi hl s k r h
    cases i with
    | zero=>cases h
    | succ i=>
      have h2:=g.ok i (by omega)
      have h3:=sdOk_need h2.1
      have h4:=h2.2
      have h5:=stk_len g i (by omega)
      have hc:=stk_cont g i (by omega)
      simp only [stk] at h
      split at h
      · injection h with e1 e2
        injection e1 with e3 e4
        rw [← e3];exact e2
      · split at h
        · cases hs:stk f i with
          | nil=>rw [hs] at h5;simp at h5;omega
          | cons a r'=>
            obtain ⟨s',k'⟩:=a
            rw [hs] at h
            simp only [List.headD_cons,List.tail_cons] at h
            injection h with e1 e2
            injection e1 with e3 e4
            rw [← e3,← e2]
            exact ih i (by omega) (by omega) s' k' r' hs
        · cases hs:stk f i with
          | nil=>rw [hs] at h5;simp at h5;omega
          | cons a r'=>
            obtain ⟨s',k'⟩:=a
            have hb:=ih i (by omega) (by omega) s' k' r' hs
            rw [hs] at h h5 hc
            cases r' with
            | nil=>simp at h5;omega
            | cons b r''=>
              obtain ⟨s2,k2⟩:=b
              simp only [List.headD_cons,List.tail_cons] at h
              injection h with e1 e2
              injection e1 with e3 e4
              obtain ⟨c1,c2,c3⟩:=hc
              rw [← e3,← e2]
              exact ih s' (by omega) (by omega) s2 k2 r'' hb
theorem tst0 {f:List Sd} {k:Nat} (h:need (f.getD k default).op=0):tst f k=k:=by rw [tst,stk,if_pos h];rfl
theorem stk_top {f:List Sd} (g:GoodFm f) {k:Nat} (hk:k≤f.length) (h0:0 < k):∃r,stk f k=(tst f (k - 1),k - 1)::r∧tst f (k - 1)≤k - 1∧stk f (tst f (k - 1))=r:=by
  have hc:=stk_cont g k hk
  cases hs:stk f k with
  | nil=>rw [hs] at hc;have:k=0:=hc;omega
  | cons a r=>
    obtain ⟨s,j⟩:=a
    rw [hs] at hc
    obtain ⟨c1,c2,c3⟩:=hc
    have e:tst f (k - 1)=s:=by
      unfold tst
      rw [show k - 1+1=k by omega,hs];rfl
    have hb:=stk_below g k k (Nat.le_refl _) hk s j r hs
    refine ⟨r,?_,?_,?_⟩
    · rw [e,show j=k - 1 by omega]
    · rw [e];omega
    · rw [e];exact hb
theorem tst1 {f:List Sd} (g:GoodFm f) {k:Nat} (hk:k < f.length) (h:need (f.getD k default).op=1):1≤k∧tst f k=tst f (k - 1):=by
  have h2:=g.ok k hk
  have h5:=stk_len g k (by omega)
  have h0:0 < k:=by
    cases k with
    | zero=>simp [stk] at h5;omega
    | succ k=>omega
  obtain ⟨r,e,_,_⟩:=stk_top g (by omega:k≤f.length) h0
  refine ⟨h0,?_⟩
  rw [tst,stk,if_neg (by omega),if_pos h,e];rfl
theorem tst2 {f:List Sd} (g:GoodFm f) {k:Nat} (hk:k < f.length) (h:need (f.getD k default).op=2):1≤k∧1≤tst f (k - 1)∧tst f (k - 1)≤k - 1∧tst f k=tst f (tst f (k - 1) - 1)∧∃r,stk f k=(tst f (k - 1),k - 1)::(tst f (tst f (k - 1) - 1),tst f (k - 1) - 1)::r:=by
  have h2:=g.ok k hk
  have h5:=stk_len g k (by omega)
  have h0:0 < k:=by
    cases k with
    | zero=>simp [stk] at h5;omega
    | succ k=>omega
  obtain ⟨r,e,e1,e2⟩:=stk_top g (by omega:k≤f.length) h0
  have h6:0 < tst f (k - 1):=by
    rcases Nat.eq_zero_or_pos (tst f (k - 1)) with hz | hz
    · rw [hz] at e2
      have:r=[]:=e2.symm
      rw [e,this] at h5
      simp at h5;omega
    · exact hz
  obtain ⟨r2,f1,f2,f3⟩:=stk_top g (by omega:tst f (k - 1)≤f.length) h6
  rw [e2] at f1
  refine ⟨h0,h6,e1,?_,r2,by rw [e,f1]⟩
  rw [tst,stk,if_neg (by omega),if_neg (by omega),e,f1];rfl
def opsF (f:List Sd) (i:Nat):List Int:=
  if need (f.getD i default).op=0 then [] else if need (f.getD i default).op=1 then [(i:Int) - 1] else [(tst f (i - 1):Int) - 1,(i:Int) - 1]
def roots (f:List Sd) (i:Nat):List Int:=((stk f i).reverse.map fun x=>(x.2:Int))
theorem roots_succ {f:List Sd} (g:GoodFm f) {i:Nat} (hi:i < f.length):∃r,roots f i=r++opsF f i∧roots f (i+1)=r++[(i:Int)]∧((opsF f i).length:Int)=need (f.getD i default).op:=by
  have h2:=g.ok i hi
  have h3:=sdOk_need h2.1
  rcases (by omega:need (f.getD i default).op=0∨need (f.getD i default).op=1∨need (f.getD i default).op=2) with h | h | h
  · refine ⟨roots f i,?_,?_,?_⟩
    · rw [opsF,if_pos h];simp
    · rw [roots,stk,if_pos h];simp [roots]
    · rw [opsF,if_pos h,h];rfl
  · obtain ⟨r,e,_,_⟩:=stk_top g (by omega:i≤f.length) (tst1 g hi h).1
    have h0:=(tst1 g hi h).1
    refine ⟨r.reverse.map fun x=>(x.2:Int),?_,?_,?_⟩
    · rw [opsF,if_neg (by omega),if_pos h,roots,e]
      simp only [List.reverse_cons,List.map_append,List.map_cons,List.map_nil]
      congr 2;omega
    · rw [roots,stk,if_neg (by omega),if_pos h,e];simp
    · rw [opsF,if_neg (by omega),if_pos h,h];rfl
  · obtain ⟨h0,h1,h4,_,r,e⟩:=tst2 g hi h
    refine ⟨r.reverse.map fun x=>(x.2:Int),?_,?_,?_⟩
    · rw [opsF,if_neg (by omega),if_neg (by omega),roots,e]
      simp only [List.reverse_cons,List.map_append,List.map_cons,List.map_nil,List.append_assoc,List.cons_append,List.nil_append]
      congr 3
      · omega
      · congr 1;omega
    · rw [roots,stk,if_neg (by omega),if_neg (by omega),e];simp
    · rw [opsF,if_neg (by omega),if_neg (by omega),h];rfl
def trAt (f:List Sd) (i:Nat):List Int:=if (f.getD i default).op=7∨(f.getD i default).op=8 then [(i:Int),(i:Int) - 1] else if (f.getD i default).op=4 then [(i:Int) - 1] else []
def trL (f:List Sd) (i:Nat):List Int:=((f.length:Int) - 1)::((List.range i).map (trAt f)).flatten
theorem trL_succ (f:List Sd) (i:Nat):trL f (i+1)=trL f i++trAt f i:=by simp [trL,List.range_succ]
theorem trAt_len (f:List Sd) (i:Nat):(trAt f i).length≤2:=by
  unfold trAt;split
  · simp
  · split<;>simp
theorem trL_len (f:List Sd) (i:Nat):(trL f i).length≤2*i+1:=by
  induction i with
  | zero=>simp [trL]
  | succ i ih=>rw [trL_succ,List.length_append];have:=trAt_len f i;omega
end Go.Pt
namespace Go.Sep
open Go Go.RowKit Go.Proofs.Ytjdhigcefkihiaa
structure ResT (R:AV→Heap→List Nat→Prop):Prop where
  loc:∀{r G G' D},R r G D→(∀y∈D,∀b,G y=some b→G' y=some b)→R r G' D
  gd:∀{r G D},R r G D→Gd2 r∧∀y∈D,∀bs,G y=some bs→∀c∈bs,GdC c
  sh:∀{r G D n G0},(∀q,n≤q→G0 q=none)→R r G D→R (sh2 n r) (Heap.or G0 (shH n G)) (D.map (·+n))
theorem thawR {R:AV→Heap→List Nat→Prop} (hR:ResT R) {P:Program} {f:Nat} {args args':List AV} {G G1:Heap} {K:AV→Heap→Prop}
    (hf:∀{K:AV→Heap→Prop},(∀r G D,R r G D→New (fun _=>none) G D→K r G)→CallT P f args' (fun _=>none) K)
    (hw:Wk (.tup args) G (.tup args') G1) (h:∀r G' D,R r G' D→New G G' D→K r G'):CallT P f args G K:=by
  refine CallT.thawX (Q':=fun r H'=>∃D,R r H' D∧D.Nodup∧∀y,y∉D→H' y=none) ?_ ?_ hw ?_
  · refine CallT.fin (hf fun r G D hl hn=>⟨_,only D G,.forget (only_le D G),D,hR.loc hl fun y hy b hb=>by rw [only_in hy];exact hb,hn.nd,fun y hy=>only_out hy⟩)
  · rintro r H' ⟨D,hl,_,hout⟩
    refine ⟨(hR.gd hl).1,fun q cs hq=>?_⟩
    by_cases hD:q∈D
    · exact (hR.gd hl).2 q hD cs hq
    · rw [hout q hD] at hq;cases hq
  · rintro r H' n ⟨D,hl,hnd,hout⟩ hn
    refine h _ _ (D.map (·+n)) (hR.sh hn hl) ⟨?_,fun y hy=>?_,fun y b hb=>by simp only [Heap.or,hb]⟩
    · exact List.pairwise_map.2 (hnd.imp fun h e=>h (Nat.add_right_cancel e))
    · obtain ⟨z,_,rfl⟩:=List.mem_map.1 hy
      exact hn _ (by omega)
end Go.Sep
namespace Go.Proofs.Ytjdhigcefkihiaa
open Go Go.Sep Go.Pt
attribute [local irreducible] CallT
abbrev eD (x:Sd):List PV:=[.int .i64 x.op,.int .i64 x.n]
abbrev aD (x:Sd):AV:=.agg [I x.op,I x.n]
abbrev Ds (xs:List Sd):AV:=.p (.sl (xs.map eD))
abbrev rowD (q:Nat) (xs:List Sd):AV:=.sl q 2 0 xs.length
abbrev cD (xs:List Sd):List AV:=cells (xs.map eD)
abbrev LD:List Sd→AV→Heap→List Nat→Prop:=LRow (LPl eD) 2
theorem szD (xs:List Sd):Sized 2 (xs.map eD):=sizedMap (f:=eD) (fun _=>rfl) xs
def markD (k:Int) (n:Nat):List Sd:=(List.range n).map fun (i:Nat)=>⟨k+2*(i:Int),k+2*(i:Int)+1⟩
theorem markD_len (k:Int) (n:Nat):(markD k n).length=n:=by simp [markD]
theorem markD_succ (k:Int) (n:Nat):markD k (n+1)=markD k n++[⟨k+2*n,k+2*n+1⟩]:=by simp [markD,List.range_succ]
theorem szSaidS_spec (t:List Sd) (left:Int) (h0:0≤left) (h1:left≤1048576) (hl:ok t.length):Pu Try.prog 8 [Ds t,I left] (I (szR left t.length)):=by
  refine Pu.of fun H=>?_
  unfold ok at hl
  have e:IntKind.i64.wrap (left - t.length)=left - t.length:=i64_id (by omega) (by omega)
  refine W8_ok ?_;simp (maxSteps:=1000000) (disch:=first | assumption | (apply ν6;assumption)) only [W8,vz,vu,vv,eqS,eF_,↓c1_,↓c2_,tabs,reduceCtorEq,ι5,↓reduceIte,ν1,ν2,ν3,ν4,ν5,ι1,ι2,ι3,ι4,e]
  refine ⟨fun h=>by rw [szR_neg (by omega)],fun h=>by rw [szR_pos (by omega)]⟩
theorem toSaid_spec (c:Sd):Pu Try.prog 58 [aD c] (aD c):=by
  refine Pu.of fun H=>?_
  refine W58_ok ?_;simp (maxSteps:=1000000) (disch:=first | assumption | (apply ν6;assumption)) only [W58,vz,vu,vv,eqS,eF_,↓c1_,↓c2_,tabs,reduceCtorEq,ι5,↓reduceIte,ν1,ν2,ν3,ν4,ν5,ι1,ι2,ι3,ι4]
  intro r hr r2 n1 h2 r3 n2 n3 h3
  (try simp (maxSteps:=1000000) (disch:=first | assumption | (apply ν6;assumption)) only [vz,vu,vv,eqS,eF_,↓c1_,↓c2_,tabs,reduceCtorEq,ι5,↓reduceIte,ν1,ν2,ν3,ν4,ν5,ι1,ι2,ι3,ι4])
  (repeat first | exact Heap.le_refl _ | refine Heap.le_setN ?_ (by assumption))
theorem toSaidS_spec (xs:List Sd) (hl:xs.length≤1048576):Pu Try.prog 11 [Ds xs] (Ds xs):=by
  refine ⟨fun H=>CallT.fin ?_⟩
  refine W11_ok ?_;simp (maxSteps:=1000000) (disch:=first | assumption | (apply ν6;assumption)) only [W11,vz,vu,vv,eqS,eF_,↓c1_,↓c2_,tabs,reduceCtorEq,ι5,↓reduceIte,ν1,ν2,ν3,ν4,ν5,ι1,ι2,ι3,ι4,makeSliceV]
  refine ⟨by omega,by omega,by omega,by omega,fun q hq=>?_⟩
  have z0:rowZ eD [I 0,I 0] xs 0=zerosA xs.length [I 0,I 0]:=rowZ_zero
  rw [← z0]
  refine L11_0_rule (0:Nat) (fun i=>I i) (fun i=>H.set q (rowZ eD [I 0,I 0] xs i)) (fun i=>i≤xs.length) (fun i=>xs.length - i) ⟨by omega,.refl _,Heap.le_refl _⟩ ?_
  intro i hi
  have hrl:=rowZ_len (e:=eD) (zero:=[I 0,I 0]) (xs:=xs) (i:=i) (sz:=2) (fun _=>rfl) rfl hi
  (try simp (maxSteps:=1000000) (disch:=first | assumption | (apply ν6;assumption)) only [vz,vu,vv,eqS,eF_,↓c1_,↓c2_,tabs,reduceCtorEq,ι5,↓reduceIte,ν1,ν2,ν3,ν4,ν5,ι1,ι2,ι3,ι4,B11_0])
  refine ⟨fun h=>⟨by omega,h,?_⟩,fun h=>?_⟩
  · have hlt:i < xs.length:=by omega
    have hput:=rowZ_put (e:=eD) (zero:=[I 0,I 0]) (xs:=xs) (i:=i) (sz:=2) (fun _=>rfl) rfl hlt rfl rfl
    refine Pu.use (toSaid_spec (xs.getD i default)) ?_
    (try simp (maxSteps:=1000000) (disch:=first | assumption | (apply ν6;assumption)) only [vz,vu,vv,eqS,eF_,↓c1_,↓c2_,tabs,reduceCtorEq,ι5,↓reduceIte,ν1,ν2,ν3,ν4,ν5,ι1,ι2,ι3,ι4])
    refine ⟨by omega,h,by omega,i+1,by omega,by omega,?_,?_⟩
    · rw [wk_int,i64_id (by omega) (by omega)];simp
    · rw [← hput];exact Heap.le_refl _
  · have:i=xs.length:=by omega
    subst this
    have:=fin_own (sz:=2) (es:=xs.map eD) (q:=q) (H:=H) (H':=H.set q (rowZ eD [I 0,I 0] xs xs.length)) (K:=fun r H'=>r=Ds xs∧H'=H) (by omega) (sizedMap (f:=eD) (fun _=>rfl) xs) hq (by rw [rowZ_end];exact Heap.le_refl _) ⟨rfl,rfl⟩
    simpa only [Go.Sep.own,List.length_map] using this
theorem eqSaid_spec (c:Sd):Pu Try.prog 66 [aD c,aD c] (B true):=by
  refine Pu.of fun H=>?_
  refine W66_ok ?_;simp (maxSteps:=1000000) (disch:=first | assumption | (apply ν6;assumption)) only [W66,vz,vu,vv,eqS,eF_,↓c1_,↓c2_,tabs,reduceCtorEq,ι5,↓reduceIte,ν1,ν2,ν3,ν4,ν5,ι1,ι2,ι3,ι4]
  intro r hr r2 n1 h2
  (try simp (maxSteps:=1000000) (disch:=first | assumption | (apply ν6;assumption)) only [vz,vu,vv,eqS,eF_,↓c1_,↓c2_,tabs,reduceCtorEq,ι5,↓reduceIte,ν1,ν2,ν3,ν4,ν5,ι1,ι2,ι3,ι4])
  (repeat first | exact Heap.le_refl _ | refine Heap.le_setN ?_ (by assumption))
theorem eqSaidS_spec (xs:List Sd) (hl:xs.length≤1048576):Pu Try.prog 15 [Ds xs,Ds xs] (B true):=by
  refine Pu.of fun H=>?_
  refine W15_ok ?_;simp (maxSteps:=1000000) (disch:=first | assumption | (apply ν6;assumption)) only [W15,vz,vu,vv,eqS,eF_,↓c1_,↓c2_,tabs,reduceCtorEq,ι5,↓reduceIte,ν1,ν2,ν3,ν4,ν5,ι1,ι2,ι3,ι4]
  refine L15_0_rule (0:Nat) (fun i=>I i) (fun _=>H) (fun i=>i≤xs.length) (fun i=>xs.length - i) ⟨by omega,.refl _,Heap.le_refl _⟩ ?_
  intro i hi
  (try simp (maxSteps:=1000000) (disch:=first | assumption | (apply ν6;assumption)) only [vz,vu,vv,eqS,eF_,↓c1_,↓c2_,tabs,reduceCtorEq,ι5,↓reduceIte,ν1,ν2,ν3,ν4,ν5,ι1,ι2,ι3,ι4,B15_0])
  intro h
  have hlt:i < xs.length:=by omega
  refine ⟨by omega,h,by omega,h,?_⟩
  refine Pu.use (eqSaid_spec (xs.getD i default)) ?_
  (try simp (maxSteps:=1000000) (disch:=first | assumption | (apply ν6;assumption)) only [vz,vu,vv,eqS,eF_,↓c1_,↓c2_,tabs,reduceCtorEq,ι5,↓reduceIte,ν1,ν2,ν3,ν4,ν5,ι1,ι2,ι3,ι4])
  refine ⟨i+1,by omega,by omega,?_⟩
  rw [wk_int,i64_id (by omega) (by omega)];simp
theorem toSaidS_live (xs:List Sd) (hl:xs.length≤1048576) {H:Heap} {K:AV→Heap→Prop} (h:∀x G D,LD xs x G D→New H G D→K x G):CallT Try.prog 11 [Ds xs] H K:=by
  refine W11_ok ?_;simp (maxSteps:=1000000) (disch:=first | assumption | (apply ν6;assumption)) only [W11,vz,vu,vv,eqS,eF_,↓c1_,↓c2_,tabs,reduceCtorEq,ι5,↓reduceIte,ν1,ν2,ν3,ν4,ν5,ι1,ι2,ι3,ι4,makeSliceV]
  refine ⟨by omega,by omega,by omega,by omega,fun q hq=>?_⟩
  have z0:rowZ eD [I 0,I 0] xs 0=zerosA xs.length [I 0,I 0]:=rowZ_zero
  rw [← z0]
  refine L11_0_rule (0:Nat) (fun i=>I i) (fun i=>H.set q (rowZ eD [I 0,I 0] xs i)) (fun i=>i≤xs.length) (fun i=>xs.length - i) ⟨by omega,.refl _,Heap.le_refl _⟩ ?_
  intro i hi
  have hrl:=rowZ_len (e:=eD) (zero:=[I 0,I 0]) (xs:=xs) (i:=i) (sz:=2) (fun _=>rfl) rfl hi
  (try simp (maxSteps:=1000000) (disch:=first | assumption | (apply ν6;assumption)) only [vz,vu,vv,eqS,eF_,↓c1_,↓c2_,tabs,reduceCtorEq,ι5,↓reduceIte,ν1,ν2,ν3,ν4,ν5,ι1,ι2,ι3,ι4,B11_0])
  refine ⟨fun h=>⟨by omega,h,?_⟩,fun h5=>?_⟩
  · have hlt:i < xs.length:=by omega
    have hput:=rowZ_put (e:=eD) (zero:=[I 0,I 0]) (xs:=xs) (i:=i) (sz:=2) (fun _=>rfl) rfl hlt rfl rfl
    refine Pu.use (toSaid_spec (xs.getD i default)) ?_
    (try simp (maxSteps:=1000000) (disch:=first | assumption | (apply ν6;assumption)) only [vz,vu,vv,eqS,eF_,↓c1_,↓c2_,tabs,reduceCtorEq,ι5,↓reduceIte,ν1,ν2,ν3,ν4,ν5,ι1,ι2,ι3,ι4])
    refine ⟨by omega,h,by omega,i+1,by omega,by omega,?_,?_⟩
    · rw [wk_int,i64_id (by omega) (by omega)];simp
    · rw [← hput];exact Heap.le_refl _
  · have:i=xs.length:=by omega
    subst this
    refine h _ _ [q] ⟨q,_,[],rfl,Heap.set_same _ _ _,?_,rfl⟩ ⟨by simp,by simpa using hq,Heap.le_set hq⟩
    rw [rowZ_end];exact LL.plain xs
theorem markSaidS_row (xs:List Sd) (hl:xs.length≤1048576) {k:Int} (h0:0≤k) (h1:k≤1000000000) {q:Nat} {G:Heap} (hG:G q=some (cD xs)) {K:AV→Heap→Prop}
    (h:K (I (k+2*xs.length)) (G.set q (cD (markD k xs.length)))):CallT Try.prog 17 [rowD q xs,I k] G K:=by
  refine W17_ok ?_;simp (maxSteps:=1000000) (disch:=first | assumption | (apply ν6;assumption)) only [W17,vz,vu,vv,eqS,eF_,↓c1_,↓c2_,tabs,reduceCtorEq,ι5,↓reduceIte,ν1,ν2,ν3,ν4,ν5,ι1,ι2,ι3,ι4]
  refine L17_0_rule (0:Nat) (fun i=>I (k+2*i)) (fun i=>I i) (fun i=>G.set q (cD (markD k i++xs.drop i))) (fun i=>i≤xs.length) (fun i=>xs.length - i) ⟨by omega,?_,.refl _,?_⟩ ?_
  · rw [wk_int];simp
  · intro y b hy
    by_cases e:y=q
    · subst e;rw [Heap.set_same] at hy;rw [hG];simpa [markD] using hy
    · rw [Heap.set_other e] at hy;exact hy
  intro i hi
  (try simp (maxSteps:=1000000) (disch:=first | assumption | (apply ν6;assumption)) only [vz,vu,vv,eqS,eF_,↓c1_,↓c2_,tabs,reduceCtorEq,ι5,↓reduceIte,ν1,ν2,ν3,ν4,ν5,ι1,ι2,ι3,ι4,B17_0])
  refine ⟨fun h5=>?_,fun h5=>?_⟩
  · have hlt:i < xs.length:=by omega
    have hdl:(cD (markD k i)).length=i*2:=by rw [cells_map_len (sz:=2) (fun _=>rfl),markD_len]
    have e3:cD (markD k i++xs.drop i)=cD (markD k i)++(I (xs.getD i default).op::I (xs.getD i default).n::cD (xs.drop (i+1))):=by
      rw [drop_cons hlt,cD,List.map_append,cells_app];rfl
    have e4:cD (markD k (i+1)++xs.drop (i+1))=cD (markD k i)++(I (k+2*i)::I (k+2*i+1)::cD (xs.drop (i+1))):=by
      rw [markD_succ,List.append_assoc,cD,List.map_append,cells_app];rfl
    generalize cD (xs.drop (i+1))=c2 at e3 e4
    generalize xs.getD i default=a at e3
    rw [e3]
    generalize cD (markD k i)=cd at hdl e4
    have p1:∀z,List.take (i*2) (cd++(I a.op::I a.n::c2))++[z]++List.drop (i*2+1) (cd++(I a.op::I a.n::c2))=cd++(z::I a.n::c2):=fun z=>splice_at (c:=[I a.op]) (c':=[z]) (post:=I a.n::c2) hdl.symm rfl rfl
    have p2:∀z w,List.take (i*2+1) (cd++(z::I a.n::c2))++[w]++List.drop (i*2+1+1) (cd++(z::I a.n::c2))=cd++(z::w::c2):=fun z w=>by
      have:=splice_at (pre:=cd++[z]) (c:=[I a.n]) (c':=[w]) (post:=c2) (off:=i*2+1) (n:=1) (by simp [hdl]) rfl rfl
      simpa using this
    have w1:IntKind.i64.wrap (k+2 * ↑i+1)=k+2*i+1:=i64_id (by omega) (by omega)
    (try simp (maxSteps:=1000000) (disch:=first | assumption | (apply ν6;assumption)) only [vz,vu,vv,eqS,eF_,↓c1_,↓c2_,tabs,reduceCtorEq,ι5,↓reduceIte,ν1,ν2,ν3,ν4,ν5,ι1,ι2,ι3,ι4,p1,p2,w1])
    refine ⟨by omega,h5,by omega,by omega,h5,by simp only [List.length_take,List.length_drop,List.length_append,List.length_cons,hdl];omega,i+1,by omega,by omega,?_,?_,?_⟩
    · rw [wk_int,i64_id (by omega) (by omega)];omega
    · rw [wk_int,i64_id (by omega) (by omega)];simp
    · rw [e4];exact Heap.le_refl _
  · have:i=xs.length:=by omega
    subst this
    simpa using h
theorem LD_row {xs:List Sd} {x:AV} {G:Heap} {D:List Nat} (h:LD xs x G D):∃q,x=rowD q xs∧G q=some (cD xs)∧D=[q]:=by
  obtain ⟨q,cs,D',rfl,hq,hll,rfl⟩:=h
  obtain ⟨rfl,rfl⟩:=LL.plain' hll
  exact ⟨q,rfl,hq,rfl⟩
theorem frz_rowD {q:Nat} {xs:List Sd}:FrzR q 2 (xs.map eD) (rowD q xs) (Ds xs):=by
  have:FrzR q 2 (xs.map eD) (.sl q 2 0 (xs.map eD).length) (.p (.sl (xs.map eD))):=.here
  rwa [List.length_map] at this
theorem wkD {q:Nat} {xs:List Sd} {G:Heap} (hq:G q=some (cD xs)) (C:AV→AV) (hC:∀{q sz es a a'},FrzR q sz es a a'→FrzR q sz es (C a) (C a')):Wk (C (rowD q xs)) G (C (Ds xs)) (G.del q):=
  Wk.frz (r:=q) (sz:=2) (es:=xs.map eD) (by omega) hq (szD xs) (hC frz_rowD)
theorem eqD_row {q:Nat} {xs:List Sd} {G:Heap} (hq:G q=some (cD xs)) (hl:xs.length≤1048576) {K:AV→Heap→Prop} (h:K (B true) G):CallT Try.prog 15 [rowD q xs,Ds xs] G K:=
  Pu.thaw (eqSaidS_spec xs hl) (.bool _) (wkD hq (fun v=>.tup [v,Ds xs]) (fun h=>.tup (.cons h (.cons (.same _) .nil)))) h
end Go.Proofs.Ytjdhigcefkihiaa
namespace Go.Proofs.Ytjdhigcefkihiaa
open Go Go.Sep Go.Pt Go.RowKit
theorem typed_said {x:List PV} (h:Typed Try.prog 82 x):∃a:Sd,x=eD a:=by
  have h:=typed_fields (ts:=[3,3]) (by kernel_rfl) h
  obtain ⟨a,b,rfl,h1,h⟩:=typedAll_cons h
  obtain ⟨b,c,rfl,h2,h⟩:=typedAll_cons h
  cases typedAll_nil h
  obtain ⟨n,_,rfl⟩:=typed_int (k:=.i64) (by kernel_rfl) h1
  obtain ⟨m,_,rfl⟩:=typed_int (k:=.i64) (by kernel_rfl) h2
  exact ⟨⟨n,m⟩,rfl⟩
theorem typed_saids {x:List PV} (h:Typed Try.prog 22 x):∃t:List Sd,ok t.length∧x=[.sl (t.map eD)]:=by
  obtain ⟨es,rfl,hl,he⟩:=typed_slice (e:=82) (by kernel_rfl) h
  obtain ⟨t,h1,rfl,h3⟩:=rows_of (Q:=fun _=>True) (e:=eD) es fun y hy=>by
    obtain ⟨a,rfl⟩:=typed_said (he y hy)
    exact ⟨a,trivial,rfl⟩
  exact ⟨t,by unfold ok;omega,rfl⟩
theorem arg_saids {v:AV} (h:ArgT Try.prog 22 v):∃t:List Sd,ok t.length∧v=Ds t:=by
  have hu:=sliceIs_ok (P:=Try.prog) (t:=22) (e:=82) (by kernel_rfl)
  obtain ⟨p,g,rfl⟩:=arg_cell (fun fs h=>by rw [hu] at h;cases h) h
  obtain ⟨t,ht,e⟩:=typed_saids g
  injection e with e
  exact ⟨t,ht,by rw [e]⟩
end Go.Proofs.Ytjdhigcefkihiaa
namespace Go.Proofs.Ytjdhigcefkihiaa
open Go Go.Sep
attribute [local irreducible] CallT
theorem IndexFunc_at (xs:List Int) (g:Nat) (caps:List AV) (p:Int→Bool) {H:Heap} (hl:xs.length≤1000000000) (hp:∀x∈xs,PuAt Try.prog g (I x::caps) H (B (p x))) :
    PuAt Try.prog 137 [Is xs,.fn g caps] H (I (if xs.any p then (xs.findIdx p:Int) else -1)):=by
  intro K hK
  refine CallT.fin ?_
  refine W137_ok ?_;simp (maxSteps:=1000000) (disch:=first | assumption | (apply ν6;assumption)) only [W137,vz,vu,vv,eqS,eF_,↓c1_,↓c2_,tabs,reduceCtorEq,ι5,↓reduceIte,ν1,ν2,ν3,ν4,ν5,ι1,ι2,ι3,ι4]
  refine L137_0_rule (0:Nat) (fun i=>I i) (fun _=>H) (fun i=>i≤xs.length∧∀j (hj:j < xs.length),j < i→p xs[j]=false) (fun i=>xs.length - i) ⟨⟨by omega,by intros;omega⟩,.refl _,Heap.le_refl _⟩ ?_
  rintro i ⟨hi1,ha⟩
  (try simp (maxSteps:=1000000) (disch:=first | assumption | (apply ν6;assumption)) only [vz,vu,vv,eqS,eF_,↓c1_,↓c2_,tabs,reduceCtorEq,ι5,↓reduceIte,ν1,ν2,ν3,ν4,ν5,ι1,ι2,ι3,ι4,B137_0])
  refine ⟨fun h=>⟨by omega,h,?_⟩,fun h=>?_⟩
  · have hlt:i < xs.length:=by omega
    rw [getD_lt hlt]
    refine PuAt.use (hp _ (List.getElem_mem hlt)) ?_
    (try simp (maxSteps:=1000000) (disch:=first | assumption | (apply ν6;assumption)) only [vz,vu,vv,eqS,eF_,↓c1_,↓c2_,tabs,reduceCtorEq,ι5,↓reduceIte,ν1,ν2,ν3,ν4,ν5,ι1,ι2,ι3,ι4])
    refine ⟨fun h1=>?_,fun h1=>⟨i+1,⟨by omega,fun j hj hji=>?_⟩,by omega,?_⟩⟩
    · have h2:xs.any p=true:=List.any_eq_true.2 ⟨xs[i],List.getElem_mem hlt,h1⟩
      have h3:xs.findIdx p=i:=by
        rw [List.findIdx_eq hlt];exact ⟨h1,fun j hj=>ha j (by omega) hj⟩
      rw [h2,h3] at hK;exact wkK.keep (by simpa using hK)
    · rcases Nat.lt_succ_iff_lt_or_eq.1 hji with h2 | rfl
      · exact ha j hj h2
      · exact h1
    · rw [wk_int,i64_id (by omega) (by omega)];simp
  · have hi:i=xs.length:=by omega
    have h2:xs.any p=false:=by
      rw [List.any_eq_false]
      intro x hx
      obtain ⟨j,hj,rfl⟩:=List.mem_iff_getElem.1 hx
      rw [ha j hj (by omega)];simp
    rw [h2] at hK;exact wkK.keep (by simpa using hK)
theorem ContainsFunc_at (xs:List Int) (g:Nat) (caps:List AV) (p:Int→Bool) {H:Heap} (hl:xs.length≤1000000000) (hp:∀x∈xs,PuAt Try.prog g (I x::caps) H (B (p x))) :
    PuAt Try.prog 124 [Is xs,.fn g caps] H (B (xs.any p)):=by
  intro K hK
  refine W124_ok ?_;simp (maxSteps:=1000000) (disch:=first | assumption | (apply ν6;assumption)) only [W124,vz,vu,vv,eqS,eF_,↓c1_,↓c2_,tabs,reduceCtorEq,ι5,↓reduceIte,ν1,ν2,ν3,ν4,ν5,ι1,ι2,ι3,ι4]
  refine PuAt.use (IndexFunc_at xs g caps p hl hp) ?_
  (try simp (maxSteps:=1000000) (disch:=first | assumption | (apply ν6;assumption)) only [vz,vu,vv,eqS,eF_,↓c1_,↓c2_,tabs,reduceCtorEq,ι5,↓reduceIte,ν1,ν2,ν3,ν4,ν5,ι1,ι2,ι3,ι4])
  cases h:xs.any p<;>simp [h] at hK ⊢<;>exact hK
end Go.Proofs.Ytjdhigcefkihiaa
namespace Go.Proofs.Ytjdhigcefkihiaa
open Go Go.Sep Go.Pt
attribute [local irreducible] CallT
theorem l1In_BQ (a lo hi:Int):Pu Try.prog 77 [I a,I lo,I hi] (B (inB a lo hi)):=l1In_spec a lo hi
theorem l1AllQ (xs:List Int) (lo hi:Int) (hl:xs.length≤1000000000):Pu Try.prog 78 [Is xs,I lo,I hi] (B (xs.all fun a=>decide (lo≤a) && decide (a≤hi))):=by
  refine Pu.of fun H=>?_
  refine W78_ok ?_;simp (maxSteps:=1000000) (disch:=first | assumption | (apply ν6;assumption)) only [W78,vz,vu,vv,eqS,eF_,↓c1_,↓c2_,tabs,reduceCtorEq,ι5,↓reduceIte,ν1,ν2,ν3,ν4,ν5,ι1,ι2,ι3,ι4]
  refine L78_0_rule (0:Nat) (fun i=>I i) (fun _=>H) (fun i=>i≤xs.length∧(xs.take i).all (fun a=>decide (lo≤a) && decide (a≤hi))=true) (fun i=>xs.length - i) ⟨⟨by omega,by simp⟩,.refl _,Heap.le_refl _⟩ ?_
  rintro i ⟨hi1,ha⟩
  (try simp (maxSteps:=1000000) (disch:=first | assumption | (apply ν6;assumption)) only [vz,vu,vv,eqS,eF_,↓c1_,↓c2_,tabs,reduceCtorEq,ι5,↓reduceIte,ν1,ν2,ν3,ν4,ν5,ι1,ι2,ι3,ι4,B78_0])
  refine ⟨fun h=>⟨by omega,h,?_⟩,fun h=>?_⟩
  · have hlt:i < xs.length:=by omega
    refine Pu.use (l1In_spec ..) ?_
    (try simp (maxSteps:=1000000) (disch:=first | assumption | (apply ν6;assumption)) only [vz,vu,vv,eqS,eF_,↓c1_,↓c2_,tabs,reduceCtorEq,ι5,↓reduceIte,ν1,ν2,ν3,ν4,ν5,ι1,ι2,ι3,ι4])
    have e:=take_all_succ (p:=fun a=>decide (lo≤a) && decide (a≤hi)) hlt
    rw [getD_lt hlt]
    refine ⟨fun h1=>?_,fun h1=>?_⟩
    · congr 2
      symm
      rw [List.all_eq_false]
      exact ⟨xs[i],by simp,by simpa using h1⟩
    · refine ⟨i+1,⟨by omega,by rw [e,ha];simpa using h1⟩,by omega,?_⟩
      rw [wk_int,i64_id (by omega) (by omega)];simp
  · have:i=xs.length:=by omega
    subst this
    rw [List.take_length] at ha;simp [ha]
def letB (n:Int):Bool:=decide (0≤n) && decide (n≤7)
def goodL (s l:List Int):Bool:=(decide (s.length≤24) && (decide (1≤l.length) && decide (l.length≤24))) && (s.all letB && l.all letB)
theorem areLetters1Q (n:Int) {H:Heap}:PuAt Try.prog 125 [I n] H (B (!letB n)):=by
  intro K hK
  refine W125_ok ?_;simp (maxSteps:=1000000) (disch:=first | assumption | (apply ν6;assumption)) only [W125,vz,vu,vv,eqS,eF_,↓c1_,↓c2_,tabs,reduceCtorEq,ι5,↓reduceIte,ν1,ν2,ν3,ν4,ν5,ι1,ι2,ι3,ι4]
  refine ⟨fun h=>?_,fun h=>?_⟩
  · have e:letB n=false:=by simp [letB];omega
    rw [e] at hK;exact hK
  · by_cases h2:8≤n
    · have e:letB n=false:=by simp [letB];omega
      have e2:decide (8≤n)=true:=by simpa using h2
      rw [e] at hK;simpa [e2] using hK
    · have e:letB n=true:=by simp [letB];omega
      have e2:decide (8≤n)=false:=by simpa using h2
      rw [e] at hK;simpa [e2] using hK
theorem areLettersQ (xs:List Int) (hl:xs.length≤1000000000):Pu Try.prog 103 [Is xs] (B (xs.all letB)):=by
  refine Pu.of fun H=>?_
  refine W103_ok ?_;simp (maxSteps:=1000000) (disch:=first | assumption | (apply ν6;assumption)) only [W103,vz,vu,vv,eqS,eF_,↓c1_,↓c2_,tabs,reduceCtorEq,ι5,↓reduceIte,ν1,ν2,ν3,ν4,ν5,ι1,ι2,ι3,ι4]
  refine PuAt.use (ContainsFunc_at xs _ _ (fun n=>!letB n) hl fun x _=>areLetters1Q x) ?_
  (try simp (maxSteps:=1000000) (disch:=first | assumption | (apply ν6;assumption)) only [vz,vu,vv,eqS,eF_,↓c1_,↓c2_,tabs,reduceCtorEq,ι5,↓reduceIte,ν1,ν2,ν3,ν4,ν5,ι1,ι2,ι3,ι4])
  rw [List.all_eq_not_any_not]
theorem GoodLassoI (s l:List Int) (h1:s.length≤1000000000) (h2:l.length≤1000000000):Pu Try.prog 61 [.agg [Is s,Is l]] (B (goodL s l)):=by
  refine Pu.of fun H=>?_
  refine W61_ok ?_;simp (maxSteps:=1000000) (disch:=first | assumption | (apply ν6;assumption)) only [W61,vz,vu,vv,eqS,eF_,↓c1_,↓c2_,tabs,reduceCtorEq,ι5,↓reduceIte,ν1,ν2,ν3,ν4,ν5,ι1,ι2,ι3,ι4]
  intro r hr
  have hle:∀z,Heap.le H (H.set r z):=fun z=>Heap.le_set hr
  (try simp (maxSteps:=1000000) (disch:=first | assumption | (apply ν6;assumption)) only [vz,vu,vv,eqS,eF_,↓c1_,↓c2_,tabs,reduceCtorEq,ι5,↓reduceIte,ν1,ν2,ν3,ν4,ν5,ι1,ι2,ι3,ι4])
  have fls:(¬(s.length≤24∧1≤l.length∧l.length≤24))→goodL s l=false:=fun h=>by
    rw [Bool.eq_false_iff];intro hh
    simp only [goodL,Bool.and_eq_true,decide_eq_true_eq] at hh
    exact h ⟨hh.1.1,hh.1.2.1,hh.1.2.2⟩
  refine ⟨fun a1=>⟨fun a2=>⟨fun a3=>?_,fun a3=>⟨by rw [fls (by omega)],hle _⟩⟩,fun a2=>⟨by rw [fls (by omega)],hle _⟩⟩,fun a1=>⟨by rw [fls (by omega)],hle _⟩⟩
  have e:goodL s l=(s.all letB && l.all letB):=by
    have b1:s.length≤24:=by omega
    have b2:1≤l.length:=by omega
    have b3:l.length≤24:=by omega
    simp only [goodL,b1,b2,b3,decide_true,Bool.true_and]
  rw [e]
  refine Pu.use (areLettersQ s h1) ?_
  cases s.all letB
  · (try simp (maxSteps:=1000000) (disch:=first | assumption | (apply ν6;assumption)) only [vz,vu,vv,eqS,eF_,↓c1_,↓c2_,tabs,reduceCtorEq,ι5,↓reduceIte,ν1,ν2,ν3,ν4,ν5,ι1,ι2,ι3,ι4])
    exact hle _
  · (try simp (maxSteps:=1000000) (disch:=first | assumption | (apply ν6;assumption)) only [vz,vu,vv,eqS,eF_,↓c1_,↓c2_,tabs,reduceCtorEq,ι5,↓reduceIte,ν1,ν2,ν3,ν4,ν5,ι1,ι2,ι3,ι4])
    refine Pu.use (areLettersQ l h2) ?_
    (try simp (maxSteps:=1000000) (disch:=first | assumption | (apply ν6;assumption)) only [vz,vu,vv,eqS,eF_,↓c1_,↓c2_,tabs,reduceCtorEq,ι5,↓reduceIte,ν1,ν2,ν3,ν4,ν5,ι1,ι2,ι3,ι4])
    exact hle _
theorem GoodLassoR (s l:List Int) (h1:s.length≤1000000000) (h2:l.length≤1000000000):Pu Try.prog 27 [.agg [Is s,Is l]] (B (goodL s l)):=by
  refine Pu.of fun H=>?_
  refine W27_ok ?_;simp (maxSteps:=1000000) (disch:=first | assumption | (apply ν6;assumption)) only [W27,vz,vu,vv,eqS,eF_,↓c1_,↓c2_,tabs,reduceCtorEq,ι5,↓reduceIte,ν1,ν2,ν3,ν4,ν5,ι1,ι2,ι3,ι4]
  intro r hr
  have hle:∀z,Heap.le H (H.set r z):=fun z=>Heap.le_set hr
  (try simp (maxSteps:=1000000) (disch:=first | assumption | (apply ν6;assumption)) only [vz,vu,vv,eqS,eF_,↓c1_,↓c2_,tabs,reduceCtorEq,ι5,↓reduceIte,ν1,ν2,ν3,ν4,ν5,ι1,ι2,ι3,ι4])
  refine ⟨fun a1=>?_,fun a1=>?_⟩
  rotate_left
  · refine ⟨?_,hle _⟩
    have:goodL s l=false:=by
      rw [Bool.eq_false_iff];intro hh
      simp only [goodL,Bool.and_eq_true,decide_eq_true_eq] at hh
      have:=hh.1.1;omega
    rw [this]
  refine Pu.use (l1In_BQ l.length 1 24) ?_
  cases hin:inB l.length 1 24
  · (try simp (maxSteps:=1000000) (disch:=first | assumption | (apply ν6;assumption)) only [vz,vu,vv,eqS,eF_,↓c1_,↓c2_,tabs,reduceCtorEq,ι5,↓reduceIte,ν1,ν2,ν3,ν4,ν5,ι1,ι2,ι3,ι4])
    refine ⟨?_,hle _⟩
    have:goodL s l=false:=by
      rw [Bool.eq_false_iff];intro hh
      simp only [goodL,Bool.and_eq_true,decide_eq_true_eq] at hh
      rw [inB_iff.2 (by have:=hh.1.2;omega)] at hin;cases hin
    rw [this]
  rw [inB_iff] at hin
  have e:goodL s l=(s.all letB && l.all letB):=by
    have b1:s.length≤24:=by omega
    have b2:1≤l.length:=by omega
    have b3:l.length≤24:=by omega
    simp only [goodL,b1,b2,b3,decide_true,Bool.true_and]
  rw [e]
  (try simp (maxSteps:=1000000) (disch:=first | assumption | (apply ν6;assumption)) only [vz,vu,vv,eqS,eF_,↓c1_,↓c2_,tabs,reduceCtorEq,ι5,↓reduceIte,ν1,ν2,ν3,ν4,ν5,ι1,ι2,ι3,ι4])
  refine Pu.use (l1AllQ s 0 7 h1) ?_
  have e3:∀xs:List Int,(xs.all fun a=>decide (0≤a) && decide (a≤7))=xs.all letB:=fun xs=>rfl
  rw [e3]
  cases s.all letB
  · (try simp (maxSteps:=1000000) (disch:=first | assumption | (apply ν6;assumption)) only [vz,vu,vv,eqS,eF_,↓c1_,↓c2_,tabs,reduceCtorEq,ι5,↓reduceIte,ν1,ν2,ν3,ν4,ν5,ι1,ι2,ι3,ι4])
    exact hle _
  · (try simp (maxSteps:=1000000) (disch:=first | assumption | (apply ν6;assumption)) only [vz,vu,vv,eqS,eF_,↓c1_,↓c2_,tabs,reduceCtorEq,ι5,↓reduceIte,ν1,ν2,ν3,ν4,ν5,ι1,ι2,ι3,ι4])
    refine Pu.use (l1AllQ l 0 7 h2) ?_
    rw [e3]
    (try simp (maxSteps:=1000000) (disch:=first | assumption | (apply ν6;assumption)) only [vz,vu,vv,eqS,eF_,↓c1_,↓c2_,tabs,reduceCtorEq,ι5,↓reduceIte,ν1,ν2,ν3,ν4,ν5,ι1,ι2,ι3,ι4])
    exact hle _
abbrev aL2 (s l:List Int):AV:=.agg [Is s,Is l]
theorem wkL2 {s l:List Int} {q1 q2:Nat} {G:Heap} (hq1:G q1=some (cP fI s)) (hq2:G q2=some (cP fI l)) (hne:q1≠q2) (C:AV→AV) (hC:∀{r sz es a a'},FrzR r sz es a a'→FrzR r sz es (C a) (C a')):Wk (C (.agg [rowP q1 s,rowP q2 l])) G (C (aL2 s l)) ((G.del q1).del q2):=by
  have w1:=Wk.frz (v:=C (.agg [rowP q1 s,rowP q2 l])) (v':=C (.agg [Is s,rowP q2 l])) (H:=G) (r:=q1) (sz:=1) (es:=s.map fun n=>[fI n]) (by omega) (by rw [flat_P];exact hq1) (szP _ _) (hC (.agg (.cons frz_row (.cons (.same _) .nil))))
  have w2:=Wk.frz (v:=C (.agg [Is s,rowP q2 l])) (v':=C (aL2 s l)) (H:=G.del q1) (r:=q2) (sz:=1) (es:=l.map fun n=>[fI n]) (by omega) (by rw [flat_P,Heap.del_other (Ne.symm hne)];exact hq2) (szP _ _) (hC (.agg (.cons (.same _) (.cons frz_row .nil))))
  exact .trans w1 w2
def RL (s l:List Int) (v:AV) (G:Heap) (D:List Nat):Prop:=(s=[]∧l=[]∧v=.agg [.p .nil,.p .nil]∧D=[])∨∃q1 q2,v=.agg [rowP q1 s,rowP q2 l]∧G q1=some (cP fI s)∧G q2=some (cP fI l)∧D=[q1,q2]∧q1≠q2
end Go.Proofs.Ytjdhigcefkihiaa
namespace Go.Proofs.Ytjdhigcefkihiaa
open Go Go.Sep Go.Pt Go.RowKit
theorem arg_lasso {v:AV} (h:ArgT Try.prog 25 v):∃s l:List Int,ok s.length∧ok l.length∧v=aL2 s l:=by
  obtain ⟨pvs,g,rfl⟩:=arg_struct (ts:=[23,23]) (by kernel_rfl) h
  clear h
  have h:=g
  obtain ⟨a,b,rfl,h1,h⟩:=typedAll_cons h
  obtain ⟨b,c,rfl,h2,h⟩:=typedAll_cons h
  cases typedAll_nil h
  obtain ⟨s,hs,rfl⟩:=typed_intl h1
  obtain ⟨l,hl,rfl⟩:=typed_intl h2
  exact ⟨s,l,hs,hl,rfl⟩
end Go.Proofs.Ytjdhigcefkihiaa
namespace Go.Proofs.Ytjdhigcefkihiaa
open Go Go.Sep Go.Pt
attribute [local irreducible] CallT
def letW (s l:List Int) (t:Nat):Int:=(s++l).getD t default
def nxW (s l:List Int) (t:Nat):Nat:=if t+1 < s.length+l.length then t+1 else s.length
theorem letW_1 {s l:List Int} {t:Nat} (h:t < s.length):letW s l t=s.getD t default:=by simp [letW,List.getD,List.getElem?_append_left h]
theorem letW_2 {s l:List Int} {t:Nat} (h:s.length≤t):letW s l t=l.getD (t - s.length) default:=by simp [letW,List.getD,List.getElem?_append_right h]
theorem l9At_spec (s l:List Int) (h1:s.length≤24) (h2:1≤l.length∧l.length≤24) {t:Nat} (ht:t < s.length+l.length):Pu Try.prog 102 [aL2 s l,I t] (I (letW s l t)):=by
  refine Pu.of fun H=>?_
  have e1:IntKind.i64.wrap ((t:Int) - (s.length:Int))=(t:Int) - s.length:=i64_id (by omega) (by omega)
  refine W102_ok ?_;simp (maxSteps:=1000000) (disch:=first | assumption | (apply ν6;assumption)) only [W102,vz,vu,vv,eqS,eF_,↓c1_,↓c2_,tabs,reduceCtorEq,ι5,↓reduceIte,ν1,ν2,ν3,ν4,ν5,ι1,ι2,ι3,ι4]
  intro r hr
  have hle:=Heap.le_set (b:=[Is s,Is l]) hr
  (try simp (maxSteps:=1000000) (disch:=first | assumption | (apply ν6;assumption)) only [vz,vu,vv,eqS,eF_,↓c1_,↓c2_,tabs,reduceCtorEq,ι5,↓reduceIte,ν1,ν2,ν3,ν4,ν5,ι1,ι2,ι3,ι4,e1])
  refine ⟨fun h=>?_,fun h=>?_⟩
  · rw [letW_1 (by omega)]
    exact ⟨by omega,h,rfl,hle⟩
  · have e2:((t:Int) - (s.length:Int)).tmod (l.length:Int)=(t:Int) - s.length:=Int.tmod_eq_of_lt (by omega) (by omega)
    have e3:((t:Int) - (s.length:Int)).toNat=t - s.length:=by omega
    rw [e2,e3,letW_2 (by omega)]
    exact ⟨by omega,by omega,by omega,rfl,hle⟩
theorem letterAt_spec (s l:List Int) (h1:s.length≤24) (h2:1≤l.length∧l.length≤24) {t:Nat} (ht:t < s.length+l.length):Pu Try.prog 117 [aL2 s l,I t] (I (letW s l t)):=by
  refine Pu.of fun H=>?_
  have e1:IntKind.i64.wrap ((t:Int) - (s.length:Int))=(t:Int) - s.length:=i64_id (by omega) (by omega)
  refine W117_ok ?_;simp (maxSteps:=1000000) (disch:=first | assumption | (apply ν6;assumption)) only [W117,vz,vu,vv,eqS,eF_,↓c1_,↓c2_,tabs,reduceCtorEq,ι5,↓reduceIte,ν1,ν2,ν3,ν4,ν5,ι1,ι2,ι3,ι4]
  intro r hr
  have hle:=Heap.le_set (b:=[Is s,Is l]) hr
  (try simp (maxSteps:=1000000) (disch:=first | assumption | (apply ν6;assumption)) only [vz,vu,vv,eqS,eF_,↓c1_,↓c2_,tabs,reduceCtorEq,ι5,↓reduceIte,ν1,ν2,ν3,ν4,ν5,ι1,ι2,ι3,ι4,e1])
  refine ⟨fun h=>?_,fun h=>?_⟩
  · rw [letW_1 (by omega)]
    exact ⟨by omega,h,rfl,hle⟩
  · have e2:((t:Int) - (s.length:Int)).tmod (l.length:Int)=(t:Int) - s.length:=Int.tmod_eq_of_lt (by omega) (by omega)
    have e3:((t:Int) - (s.length:Int)).toNat=t - s.length:=by omega
    rw [e2,e3,letW_2 (by omega)]
    exact ⟨by omega,by omega,by omega,rfl,hle⟩
theorem nextPlace_spec (s l:List Int) (h1:s.length≤24) (h2:1≤l.length∧l.length≤24) {t:Nat} (ht:t < s.length+l.length):Pu Try.prog 133 [aL2 s l,I t] (I (nxW s l t:Nat)):=by
  refine Pu.of fun H=>?_
  have e1:IntKind.i64.wrap ((t:Int)+1)=((t+1:Nat):Int):=by rw [i64_id (by omega) (by omega)];simp
  have e2:IntKind.i64.wrap ((s.length:Int)+(l.length:Int))=(s.length:Int)+l.length:=i64_id (by omega) (by omega)
  refine W133_ok ?_;simp (maxSteps:=1000000) (disch:=first | assumption | (apply ν6;assumption)) only [W133,vz,vu,vv,eqS,eF_,↓c1_,↓c2_,tabs,reduceCtorEq,ι5,↓reduceIte,ν1,ν2,ν3,ν4,ν5,ι1,ι2,ι3,ι4]
  intro r hr
  have hle:=Heap.le_set (b:=[Is s,Is l]) hr
  (try simp (maxSteps:=1000000) (disch:=first | assumption | (apply ν6;assumption)) only [vz,vu,vv,eqS,eF_,↓c1_,↓c2_,tabs,reduceCtorEq,ι5,↓reduceIte,ν1,ν2,ν3,ν4,ν5,ι1,ι2,ι3,ι4,e1,e2])
  refine ⟨fun h=>?_,fun h=>?_⟩
  · rw [nxW,if_pos (by omega)];exact ⟨rfl,hle⟩
  · rw [nxW,if_neg (by omega)];exact ⟨rfl,hle⟩
end Go.Proofs.Ytjdhigcefkihiaa
namespace Go.Sep
open Go Go.RowKit Go.Sort Go.Proofs.Ytjdhigcefkihiaa
theorem Sim.ahead {Z:Fro} {φ:Pm} {B0:Nat} {w0 w:World} {H:Heap} (s:Sim Z φ B0 w0 H w) (n:Nat):Sim Z φ B0 w0 H (Go.Sort.ahead w n):=
  ⟨s.b0,⟨⟨s.below.os,s.below.tape,s.below.output,s.below.size,s.below.block⟩,s.below.drawn.trans (DrawnLe.same rfl)⟩,s.bnd,fun r blk e=>let ⟨pl,hp,hl⟩:=s.live r blk e;⟨pl,hp,hl.world fun _ h=>h⟩,s.disj,fun b i v hz=>s.froz b i v hz,s.zsep⟩
theorem mapBlock_setRow {w:World} {b:Nat} {cur:Array Value} {e:TypeId} {fr:Nat×Nat} (h:w.heap[b]?=some (.cells cur e fr)) (f:Array Value→Array Value):mapBlock w b f=w.setRow b (f cur):=by
  unfold mapBlock World.setRow
  congr 1
  apply Array.ext_getElem?
  intro k
  simp only [Array.getElem?_modify]
  by_cases hk:b=k
  · subst hk;simp [h,onCells]
  · simp [hk]
theorem Sim.grow {Z:Fro} {φ:Pm} {B0:Nat} {w0 w:World} {H:Heap} (s:Sim Z φ B0 w0 H w) (os:Array Obj):Sim Z φ B0 w0 H (Go.Sort.grow w os):=
  s.later ⟨⟨rfl,rfl,rfl,by simp,fun k hk=>heap_grow_old w os hk⟩,fun k o hk _=>(heap_grow_old w os (Array.getElem?_eq_some_iff.1 hk).1).trans hk⟩
theorem Sim.putInts {Z:Fro} {φ:Pm} {B0:Nat} {w0 w:World} {H:Heap} (s:Sim Z φ B0 w0 H w) {r:Nat} {zs zs':List Int} (hr:H r=some (zs.map fun n=>AV.p (.int .i64 n))) (hl:zs'.length=zs.length) (hpos:0 < zs.length) {pl:Place} (hp:φ r=some pl) (n:Nat) (os:Array Obj) :
    Sim Z φ B0 w0 (H.set r (zs'.map fun n=>AV.p (.int .i64 n))) (Go.Sort.grow (putRow (Value.int .i64) (Go.Sort.ahead w n) pl.b pl.o zs'.toArray) os):=by
  obtain ⟨pl',hp',hlive⟩:=s.live r _ hr
  rw [hp] at hp';cases hp'
  rcases hlive with ⟨_,h0⟩ | ⟨cur,e,h1,h2,h3,h4,h5⟩
  · cases zs with
    | nil=>simp at hpos
    | cons a zs=>simp at h0
  rw [List.length_map] at h3
  refine Sim.grow ?_ os
  have s1:=s.ahead n
  have h1':(Go.Sort.ahead w n).heap[pl.b]?=some (.cells cur e (0,0)):=h1
  rw [putRow,mapBlock_setRow h1']
  refine s1.setRow hr hp h1' (by omega) _ (by simp [putCells]) ?_ _ (by rw [List.length_map];omega) ?_
  · intro i hi
    simp only [putCells,Array.getElem?_mapIdx]
    cases cur[i]? with
    | none=>rfl
    | some v=>simp only [Option.map_some];rw [if_neg (by simp;omega)]
  · intro i av hi
    rw [List.getElem?_map] at hi
    cases hz:zs'[i]? with
    | none=>rw [hz] at hi;cases hi
    | some x=>
      rw [hz] at hi
      cases hi
      have hlt:i < zs'.length:=(List.getElem?_eq_some_iff.1 hz).1
      refine ⟨.int .i64 x,?_,.p (.int _ _)⟩
      have hc:pl.o+i < cur.size:=by omega
      simp only [putCells,Array.getElem?_mapIdx,Array.getElem?_eq_getElem hc,Option.map_some]
      rw [if_pos (by simp;omega)]
      have:(List.toArray zs')[pl.o+i - pl.o]! = x:=by
        rw [Nat.add_sub_cancel_left]
        have:=(List.getElem?_eq_some_iff.1 hz).2
        simp [hlt,this]
      rw [this]
theorem Sim.holdsInts {Z:Fro} {φ:Pm} {B0:Nat} {w0 w:World} {H:Heap} (s:Sim Z φ B0 w0 H w) {r:Nat} {zs:List Int} (hr:H r=some (zs.map fun n=>AV.p (.int .i64 n))) (hpos:0 < zs.length) {pl:Place} (hp:φ r=some pl) :
    Holds (Value.int .i64) w pl.b pl.o zs.toArray∧pl.b < w.heap.size:=by
  obtain ⟨pl',hp',hlive⟩:=s.live r _ hr
  rw [hp] at hp';cases hp'
  rcases hlive with ⟨_,h0⟩ | ⟨cur,e,h1,h2,h3,h4,h5⟩
  · cases zs with
    | nil=>simp at hpos
    | cons a zs=>simp at h0
  refine ⟨fun j hj=>⟨?_,?_⟩,(Array.getElem?_eq_some_iff.1 h1).1⟩
  · have hj':j < zs.length:=by simpa using hj
    have hz:zs[j]?=some zs[j]:=List.getElem?_eq_getElem hj'
    obtain ⟨x,hx,hc⟩:=h5 j (.p (.int .i64 zs[j])) (by rw [List.getElem?_map,hz];rfl)
    have ex:x=.int .i64 zs[j]:=by
      cases hc with
      | p h=>cases h;rfl
    rw [cell_of_row w pl.b _ cur e _ h1,hx,ex]
    simp [hj']
  · unfold World.frozen?
    rw [h1];simp
theorem CallT.inPlace {P:Program} {f:Nat} (hb:HasBody P f) {H:Heap} {q:Nat} {zs:List Int} (hq:H q=some (zs.map fun n=>AV.p (.int .i64 n))) (g:List Int) (hg:g.length=zs.length)
    (hc:∀blk off cap w,zs.length≤cap→Holds (Value.int .i64) w blk off zs.toArray→blk < w.heap.size→Calls P f #[.slice (some ⟨blk,off,none⟩) zs.length cap] w fun e w'=>
      e=.returned (.tuple #[])∧∃n os,w'=Go.Sort.grow (putRow (Value.int .i64) (Go.Sort.ahead w n) blk off g.toArray) os)
    (hn:zs=[]→∀p cap w,Calls P f #[.slice p 0 cap] w fun e w'=>e=.returned (.tuple #[])∧w'=w)
    {K:AV→Heap→Prop} (h:K (.tup []) (H.set q (g.map fun n=>AV.p (.int .i64 n)))):CallT P f [.sl q 1 0 zs.length] H K:=by
  refine ⟨hb,?_⟩
  intro B0 w0 F Z φ w xs hd hs ha
  obtain ⟨hsz,hrel⟩:=ha
  obtain ⟨x,rfl⟩:∃x,xs=#[x]:=by
    have h1:xs.size=1:=hsz
    exact ⟨xs[0],by
      apply Array.ext
      · simp [h1]
      · intro i hi1 hi2
        have:i=0:=by simp at hi2;omega
        subst this;simp⟩
  have hx:=hrel 0 (.sl q 1 0 zs.length) x rfl rfl
  have hq':(H.or F) q=some (zs.map fun n=>AV.p (.int .i64 n)):=Heap.or_left hq
  have hFq:F q=none:=hd q (by rw [hq];simp)
  have empty:zs=[]→∀a c,x=.slice a 0 c→Calls P f #[x] w (fun e w'=>∃x,e=.returned x∧UpV B0 w0 F Z φ K x w'):=by
    rintro rfl a c rfl
    refine (hn rfl a c w).mono ?_
    rintro e w' ⟨rfl,rfl⟩
    have hg0:g=[]:=List.eq_nil_of_length_eq_zero hg
    subst hg0
    have hset:H.set q []=H:=by
      funext y
      by_cases e:y=q
      · subst e;rw [Heap.set_same];exact hq.symm
      · rw [Heap.set_other e]
    refine ⟨_,rfl,.tup [],H,Z,φ,?_,Fro.le_refl _,Pm.le_refl _,hd,hs,.tup [] #[] rfl (fun i av x h=>by simp at h)⟩
    rw [← hset];exact h
  generalize hm:zs.length=m at hx
  cases hx with
  | slz _ _ _ a=>exact empty (List.eq_nil_of_length_eq_zero hm) a 0 rfl
  | sl hp hl hC=>
    rename_i c pl
    subst hm
    by_cases h0:zs.length=0
    · exact empty (List.eq_nil_of_length_eq_zero h0) _ _ (by rw [h0])
    have hh:=hs.holdsInts hq' (by omega) hp
    refine (hc pl.b pl.o c w hl hh.1 hh.2).mono ?_
    rintro e w' ⟨rfl,n,os,rfl⟩
    have s2:=hs.putInts (zs':=g) hq' hg (by omega) hp n os
    refine ⟨_,rfl,.tup [],H.set q (g.map fun n=>AV.p (.int .i64 n)),Z,φ,h,Fro.le_refl _,Pm.le_refl _,hd.set hFq,?_,.tup [] #[] rfl (fun i av x h=>by simp at h)⟩
    rw [Heap.or_set];exact s2
theorem CallT.inPlaceC {P:Program} {f:Nat} (hb:HasBody P f) {H:Heap} {q:Nat} {zs:List Int} (hq:H q=some (zs.map fun n=>AV.p (.int .i64 n))) (g tl:List Int) (hg:(g++tl).length=zs.length)
    (hc:∀blk off cap w,zs.length≤cap→Holds (Value.int .i64) w blk off zs.toArray→blk < w.heap.size→Calls P f #[.slice (some ⟨blk,off,none⟩) zs.length cap] w fun e w'=>
      e=.returned (.slice (some ⟨blk,off,none⟩) g.length cap)∧∃n,w'=putRow (Value.int .i64) (Go.Sort.ahead w n) blk off (g++tl).toArray)
    (hn:zs=[]→∀p cap w,Calls P f #[.slice p 0 cap] w fun e w'=>e=.returned (.slice p 0 cap)∧w'=w)
    {K:AV→Heap→Prop} (h:K (.sl q 1 0 g.length) (H.set q ((g++tl).map fun n=>AV.p (.int .i64 n)))):CallT P f [.sl q 1 0 zs.length] H K:=by
  refine ⟨hb,?_⟩
  intro B0 w0 F Z φ w xs hd hs ha
  obtain ⟨hsz,hrel⟩:=ha
  obtain ⟨x,rfl⟩:∃x,xs=#[x]:=by
    have h1:xs.size=1:=hsz
    exact ⟨xs[0],by
      apply Array.ext
      · simp [h1]
      · intro i hi1 hi2
        have:i=0:=by simp at hi2;omega
        subst this;simp⟩
  have hx:=hrel 0 (.sl q 1 0 zs.length) x rfl rfl
  have hq':(H.or F) q=some (zs.map fun n=>AV.p (.int .i64 n)):=Heap.or_left hq
  have hFq:F q=none:=hd q (by rw [hq];simp)
  have empty:zs=[]→∀a c,x=.slice a 0 c→Cv Z φ (.sl q 1 0 0) x→Calls P f #[x] w (fun e w'=>∃x,e=.returned x∧UpV B0 w0 F Z φ K x w'):=by
    rintro rfl a c rfl hcv
    refine (hn rfl a c w).mono ?_
    rintro e w' ⟨rfl,rfl⟩
    have hg0:=List.eq_nil_of_length_eq_zero hg
    rw [List.append_eq_nil_iff] at hg0
    obtain ⟨rfl,rfl⟩:=hg0
    have hset:H.set q []=H:=by
      funext y
      by_cases e:y=q
      · subst e;rw [Heap.set_same];exact hq.symm
      · rw [Heap.set_other e]
    refine ⟨_,rfl,_,H,Z,φ,?_,Fro.le_refl _,Pm.le_refl _,hd,hs,hcv⟩
    rw [← hset];exact h
  have hx0:=hx
  generalize hm:zs.length=m at hx
  cases hx with
  | slz _ _ _ a=>exact empty (List.eq_nil_of_length_eq_zero hm) a 0 rfl (.slz _ _ _ _)
  | sl hp hl hC=>
    rename_i c pl
    subst hm
    by_cases h0:zs.length=0
    · exact empty (List.eq_nil_of_length_eq_zero h0) _ _ (by rw [h0]) (by rw [h0] at hx0;rw [h0];exact hx0)
    have hh:=hs.holdsInts hq' (by omega) hp
    refine (hc pl.b pl.o c w hl hh.1 hh.2).mono ?_
    rintro e w' ⟨rfl,n,rfl⟩
    have s2:=hs.putInts (zs':=g++tl) hq' hg (by omega) hp n #[]
    rw [Go.Sort.grow_empty] at s2
    rw [List.length_append] at hg
    refine ⟨_,rfl,.sl q 1 0 g.length,H.set q ((g++tl).map fun n=>AV.p (.int .i64 n)),Z,φ,h,Fro.le_refl _,Pm.le_refl _,hd.set hFq,?_,.sl hp (by omega) hC⟩
    rw [Heap.or_set];exact s2
end Go.Sep
/-
  DERIVED: THE SHELF's CONTRACTS AT THIS DUMP,IN PLAIN WORDS (tools/lay-plain.mjs out of 'YtjdhigcefkihiaaLay.lean',which tools/lay-shelf.mjs wrote): THE SAME DECLARATIONS UNDER THE SAME NAMES: 'import','namespace','open','def','theorem' AND NOTHING ELSE: no command of the shelf's: FOR A HAND-IN. Each laying: the table of numbers ('.._ren') and one theorem,a field a fact of the dump's own or the kernel's comparison;each contract: ONE APPLICATION.
-/
namespace Go.Proofs
open Go.Shelf
def Try.laySort_ren:Go.Shelf.Ren:=⟨fun | 53=>105 | 64=>127 | 63=>126 | 78=>147 | 79=>148 | 70=>138 | 71=>139 | 72=>140 | 73=>141 | 74=>142 | 75=>143 | 59=>144 | 76=>145 | 77=>146 | 88=>152 | 89=>153 | 90=>154 | 91=>155 | 92=>156 | 68=>157 | 96=>160 | n=>n,fun | 22=>23 | 23=>3 | 3=>3 | 51=>77 | 0=>0 | 67=>134 | 69=>74 | 4=>4 | 61=>128 | 60=>127 | 44=>67 | 5=>5 | 9=>9 | 75=>140 | 79=>144 | 83=>148 | 84=>149 | n=>n,fun | n=>n⟩
theorem Try.laySort:Go.Proofs.SlLaysN.n53 Try.prog Try.laySort_ren:={
  mixed:=by kernel_rfl
  f53:=⟨Try.f105.name,by decide,Try.func105.trans (congrArg some (by kernel_rfl))⟩
  f59:=⟨Try.f144.name,by decide,Try.func144.trans (congrArg some (by kernel_rfl))⟩
  f63:=⟨Try.f126.name,by decide,Try.func126.trans (congrArg some (by kernel_rfl))⟩
  f64:=Try.func127.trans (congrArg some (by kernel_rfl))
  f68:=⟨Try.f157.name,by decide,Try.func157.trans (congrArg some (by kernel_rfl))⟩
  f70:=⟨Try.f138.name,by decide,Try.func138.trans (congrArg some (by kernel_rfl))⟩
  f71:=⟨Try.f139.name,by decide,Try.func139.trans (congrArg some (by kernel_rfl))⟩
  f72:=⟨Try.f140.name,by decide,Try.func140.trans (congrArg some (by kernel_rfl))⟩
  f73:=⟨Try.f141.name,by decide,Try.func141.trans (congrArg some (by kernel_rfl))⟩
  f74:=⟨Try.f142.name,by decide,Try.func142.trans (congrArg some (by kernel_rfl))⟩
  f75:=⟨Try.f143.name,by decide,Try.func143.trans (congrArg some (by kernel_rfl))⟩
  f76:=⟨Try.f145.name,by decide,Try.func145.trans (congrArg some (by kernel_rfl))⟩
  f77:=⟨Try.f146.name,by decide,Try.func146.trans (congrArg some (by kernel_rfl))⟩
  f78:=Try.func147.trans (congrArg some (by kernel_rfl))
  f79:=Try.func148.trans (congrArg some (by kernel_rfl))
  f88:=⟨Try.f152.name,by decide,Try.func152.trans (congrArg some (by kernel_rfl))⟩
  f89:=Try.func153.trans (congrArg some (by kernel_rfl))
  f90:=Try.func154.trans (congrArg some (by kernel_rfl))
  f91:=⟨Try.f155.name,by decide,Try.func155.trans (congrArg some (by kernel_rfl))⟩
  f92:=⟨Try.f156.name,by decide,Try.func156.trans (congrArg some (by kernel_rfl))⟩
  f96:=⟨Try.f160.name,by decide,Try.func160.trans (congrArg some (by kernel_rfl))⟩
  t0:=Try.underlying0
  a0:=Try.isAgg0
  z0:=Try.sizeOf0
  v0:=Try.zeroValue0
  t3:=Try.underlying3
  a3:=Try.isAgg3
  z3:=Try.sizeOf3
  v3:=Try.zeroValue3
  t4:=Try.underlying4
  a4:=Try.isAgg4
  z4:=Try.sizeOf4
  v4:=Try.zeroValue4
  t5:=Try.underlying5
  a5:=Try.isAgg5
  z5:=Try.sizeOf5
  v5:=Try.zeroValue5
  t9:=Try.underlying9
  a9:=Try.isAgg9
  z9:=Try.sizeOf9
  v9:=Try.zeroValue9
  t22:=Try.underlying23
  a22:=Try.isAgg23
  z22:=Try.sizeOf23
  v22:=Try.zeroValue23
  t23:=Try.underlying3
  a23:=Try.isAgg3
  z23:=Try.sizeOf3
  v23:=Try.zeroValue3
  t44:=Try.underlying67
  a44:=Try.isAgg67
  z44:=Try.sizeOf67
  v44:=Try.zeroValue67
  t51:=Try.underlying77
  a51:=Try.isAgg77
  z51:=Try.sizeOf77
  v51:=Try.zeroValue77
  t60:=Try.underlying127
  a60:=Try.isAgg127
  z60:=Try.sizeOf127
  v60:=Try.zeroValue127
  t61:=Try.underlying128
  a61:=Try.isAgg128
  z61:=Try.sizeOf128
  v61:=Try.zeroValue128
  t67:=Try.underlying134
  a67:=Try.isAgg134
  z67:=Try.sizeOf134
  v67:=Try.zeroValue134
  t69:=Try.underlying74
  a69:=Try.isAgg74
  z69:=Try.sizeOf74
  v69:=Try.zeroValue74
  t75:=Try.underlying140
  a75:=Try.isAgg140
  z75:=Try.sizeOf140
  v75:=Try.zeroValue140
  t79:=Try.underlying144
  a79:=Try.isAgg144
  z79:=Try.sizeOf144
  v79:=Try.zeroValue144
  t83:=Try.underlying148
  a83:=Try.isAgg148
  z83:=Try.sizeOf148
  v83:=Try.zeroValue148
  t84:=Try.underlying149
  a84:=Try.isAgg149
  z84:=Try.sizeOf149
  v84:=Try.zeroValue149 }
def Try.layCompact_ren:Go.Shelf.Ren:=⟨fun | 43=>106 | n=>n,fun | 22=>23 | 23=>3 | 3=>3 | 4=>4 | 0=>0 | n=>n,fun | n=>n⟩
theorem Try.layCompact:Go.Proofs.SlLaysN.n43 Try.prog Try.layCompact_ren:={
  mixed:=by kernel_rfl
  f43:=⟨Try.f106.name,by decide,Try.func106.trans (congrArg some (by kernel_rfl))⟩
  t0:=Try.underlying0
  a0:=Try.isAgg0
  z0:=Try.sizeOf0
  v0:=Try.zeroValue0
  t3:=Try.underlying3
  a3:=Try.isAgg3
  z3:=Try.sizeOf3
  v3:=Try.zeroValue3
  t4:=Try.underlying4
  a4:=Try.isAgg4
  z4:=Try.sizeOf4
  v4:=Try.zeroValue4
  t22:=Try.underlying23
  a22:=Try.isAgg23
  z22:=Try.sizeOf23
  v22:=Try.zeroValue23
  t23:=Try.underlying3
  a23:=Try.isAgg3
  z23:=Try.sizeOf3
  v23:=Try.zeroValue3
  i23:=by kernel_rfl }
end Go.Proofs
namespace Go.Pt
def sc (zs:List Int):List Int:=Lib.compact (zs.mergeSort fun x y=>decide (x≤y))
theorem srt_perm (zs:List Int):List.Perm (zs.mergeSort fun x y=>decide (x≤y)) zs:=List.mergeSort_perm zs _
theorem srt_sorted (zs:List Int):(zs.mergeSort fun x y=>decide (x≤y)).Pairwise (·≤·):=by
  have:=List.pairwise_mergeSort (le:=fun x y:Int=>decide (x≤y)) (fun a b c h1 h2=>by simp only [decide_eq_true_eq] at *;omega) (fun a b=>by simp only [Bool.or_eq_true,decide_eq_true_eq];omega) zs
  exact this.imp fun h=>by simpa using h
theorem keeps_iff (ys:List Int) (j:Nat) (hj:j < ys.length):Lib.keeps ys.toArray j=true↔j=0∨ys[j - 1]'(by omega)≠ys[j]:=by
  unfold Lib.keeps
  by_cases h0:j=0
  · simp [h0]
  · have h1:j - 1 < ys.length:=by omega
    simp [h0,hj,h1]
    omega
theorem compact_mem {ys:List Int} (hs:ys.Pairwise (·≤·)) (x:Int):x∈Lib.compact ys↔x∈ys:=by
  unfold Lib.compact Lib.compactUpTo
  simp only [List.mem_map,List.mem_filter,List.mem_range]
  constructor
  · rintro ⟨j,⟨hj,_⟩,rfl⟩
    simp [hj]
  · intro hx
    obtain ⟨j,hj,rfl⟩:=List.mem_iff_getElem.1 hx
    have key:∀n j (hj:j < ys.length),j≤n→∃i,∃hi:i < ys.length,Lib.keeps ys.toArray i=true∧ys[i]=ys[j]:=by
      intro n
      induction n with
      | zero=>intro j hj h;exact ⟨j,hj,(keeps_iff ys j hj).2 (.inl (by omega)),rfl⟩
      | succ n ih=>
        intro j hj h
        by_cases hk:Lib.keeps ys.toArray j=true
        · exact ⟨j,hj,hk,rfl⟩
        · rw [keeps_iff ys j hj] at hk
          have h1:j≠0:=fun e=>hk (.inl e)
          have h2:ys[j - 1]'(by omega)=ys[j]:=by
            by_cases e:ys[j - 1]'(by omega)=ys[j]
            · exact e
            · exact absurd (.inr e) hk
          obtain ⟨i,hi,hki,e⟩:=ih (j - 1) (by omega) (by omega)
          exact ⟨i,hi,hki,by rw [e,h2]⟩
    obtain ⟨i,hi,hk,e⟩:=key j j hj (Nat.le_refl _)
    exact ⟨i,⟨hi,hk⟩,by simp [hi,e]⟩
theorem compact_lt {ys:List Int} (hs:ys.Pairwise (·≤·)):(Lib.compact ys).Pairwise (· < ·):=by
  unfold Lib.compact Lib.compactUpTo
  rw [List.pairwise_map]
  have hr:((List.range ys.length).filter (Lib.keeps ys.toArray)).Pairwise (· < ·):=List.Pairwise.filter _ List.pairwise_lt_range
  refine List.Pairwise.imp_of_mem ?_ hr
  intro i j hi hj hij
  rw [List.mem_filter,List.mem_range] at hi hj
  have hle:=List.pairwise_iff_getElem.1 hs
  have h1:=(keeps_iff ys j hj.1).1 hj.2
  have e1:ys.toArray[i]! = ys[i]'hi.1:=by simp [hi.1]
  have e2:ys.toArray[j]! = ys[j]'hj.1:=by simp [hj.1]
  rw [e1,e2]
  rcases h1 with h1 | h1
  · omega
  · have h2:=hle (j - 1) j (by omega) hj.1 (by omega)
    by_cases e:i=j - 1
    · subst e
      omega
    · have h3:=hle i (j - 1) hi.1 (by omega) (by omega)
      omega
theorem sc_mem (zs:List Int) (x:Int):x∈sc zs↔x∈zs:=by
  unfold sc
  rw [compact_mem (srt_sorted zs)]
  exact (srt_perm zs).mem_iff
theorem sc_lt (zs:List Int):(sc zs).Pairwise (· < ·):=compact_lt (srt_sorted zs)
theorem rise_ext:∀{xs ys:List Int},xs.Pairwise (· < ·)→ys.Pairwise (· < ·)→(∀x,x∈xs↔x∈ys)→xs=ys
  | [],[],_,_,_=>rfl
  | [],b::ys,_,_,h=>absurd ((h b).2 (by simp)) (by simp)
  | a::xs,[],_,_,h=>absurd ((h a).1 (by simp)) (by simp)
  | a::xs,b::ys,h1,h2,h=>by
    rw [List.pairwise_cons] at h1 h2
    have e:a=b:=by
      rcases List.mem_cons.1 ((h a).1 (by simp)) with e | e
      · exact e
      · have k1:=h2.1 a e
        rcases List.mem_cons.1 ((h b).2 (by simp)) with e' | e'
        · omega
        · have k2:=h1.1 b e';omega
    subst e
    refine congrArg _ (rise_ext h1.2 h2.2 fun x=>?_)
    constructor
    · intro hx
      rcases List.mem_cons.1 ((h x).1 (by simp [hx])) with e | e
      · have:=h1.1 x hx;omega
      · exact e
    · intro hx
      rcases List.mem_cons.1 ((h x).2 (by simp [hx])) with e | e
      · have:=h2.1 x hx;omega
      · exact e
theorem compact_len (ys:List Int):(Lib.compact ys).length≤ys.length:=by
  unfold Lib.compact Lib.compactUpTo
  rw [List.length_map]
  exact Nat.le_trans (List.length_filter_le _ _) (by simp)
def put (l:List Int) (n:Int):List Int:=if n∈l then l else l.takeWhile (· < n)++n::l.dropWhile (· < n)
theorem put_mem (l:List Int) (n x:Int):x∈put l n↔x=n∨x∈l:=by
  unfold put
  split
  · rename_i h
    exact ⟨.inr,fun h'=>by rcases h' with rfl | h';exact h;exact h'⟩
  · rw [List.mem_append,List.mem_cons]
    have:x∈l↔x∈l.takeWhile (· < n)∨x∈l.dropWhile (· < n):=by
      rw [← List.mem_append,List.takeWhile_append_dropWhile]
    rw [this]
    constructor
    · rintro (h | h | h)
      · exact .inr (.inl h)
      · exact .inl h
      · exact .inr (.inr h)
    · rintro (h | h | h)
      · exact .inr (.inl h)
      · exact .inl h
      · exact .inr (.inr h)
theorem drop_ge {l:List Int} {n:Int} (hs:l.Pairwise (· < ·)):∀x∈l.dropWhile (· < n),n≤x:=by
  induction l with
  | nil=>intro x hx;simp at hx
  | cons a l ih=>
    rw [List.pairwise_cons] at hs
    intro x hx
    rw [List.dropWhile_cons] at hx
    split at hx
    · exact ih hs.2 x hx
    · rename_i h
      simp only [decide_eq_true_eq] at h
      rcases List.mem_cons.1 hx with rfl | hx
      · omega
      · have:=hs.1 x hx;omega
theorem take_lt {l:List Int} {n:Int}:∀x∈l.takeWhile (· < n),x < n:=by
  induction l with
  | nil=>intro x hx;simp at hx
  | cons a l ih=>
    intro x hx
    rw [List.takeWhile_cons] at hx
    split at hx
    · rename_i h
      rcases List.mem_cons.1 hx with rfl | hx
      · simpa using h
      · exact ih x hx
    · simp at hx
theorem put_lt {l:List Int} (n:Int) (hs:l.Pairwise (· < ·)):(put l n).Pairwise (· < ·):=by
  unfold put
  split
  · exact hs
  · rename_i hn
    rw [List.pairwise_append,List.pairwise_cons]
    have h2:=drop_ge (n:=n) hs
    have h3:∀x∈l.dropWhile (· < n),n < x:=fun x hx=>by
      have:=h2 x hx
      have hm:x∈l:=(List.dropWhile_suffix _).subset hx
      have:x≠n:=fun e=>hn (e ▸ hm)
      omega
    refine ⟨List.Pairwise.sublist (List.takeWhile_prefix _).sublist hs,⟨h3,List.Pairwise.sublist (List.dropWhile_suffix _).sublist hs⟩,fun a ha b hb=>?_⟩
    have h4:=take_lt a ha
    rcases List.mem_cons.1 hb with rfl | hb
    · exact h4
    · have:=h3 b hb;omega
theorem put_len (l:List Int) (n:Int):(put l n).length≤l.length+1:=by
  unfold put
  split
  · omega
  · have:(l.takeWhile (· < n)).length+(l.dropWhile (· < n)).length=l.length:=by rw [← List.length_append,List.takeWhile_append_dropWhile]
    rw [List.length_append,List.length_cons];omega
theorem foldl_put (xs:List Int):∀(l:List Int),l.Pairwise (· < ·)→(xs.foldl put l).Pairwise (· < ·)∧∀x,x∈xs.foldl put l↔x∈l∨x∈xs:=by
  induction xs with
  | nil=>intro l hl;exact ⟨hl,fun x=>by simp⟩
  | cons a xs ih=>
    intro l hl
    obtain ⟨h1,h2⟩:=ih (put l a) (put_lt a hl)
    refine ⟨h1,fun x=>?_⟩
    rw [List.foldl_cons,h2,put_mem,List.mem_cons]
    constructor
    · rintro ((h | h) | h)
      · exact .inr (.inl h)
      · exact .inl h
      · exact .inr (.inr h)
    · rintro (h | h | h)
      · exact .inl (.inr h)
      · exact .inl (.inl h)
      · exact .inr h
end Go.Pt
namespace Go.Proofs.Ytjdhigcefkihiaa
open Go Go.Sep Go.Pt Go.RowKit
abbrev srt (zs:List Int):List Int:=zs.mergeSort fun x y=>decide (x≤y)
theorem Sort_hb:HasBody Try.prog 105:=⟨_,bodyOf Try.f105,Try.func105,by kernel_rfl,rfl⟩
theorem Compact_hb:HasBody Try.prog 106:=⟨_,bodyOf Try.f106,Try.func106,by kernel_rfl,rfl⟩
theorem Sort_row {H:Heap} {q:Nat} {zs:List Int} {K:AV→Heap→Prop} (hq:H q=some (zs.map fun n=>AV.p (.int .i64 n))) (hl:zs.length≤1000000000) (h:K (.tup []) (H.set q ((srt zs).map fun n=>AV.p (.int .i64 n)))):CallT Try.prog 105 [.sl q 1 0 zs.length] H K:=
  CallT.inPlace Sort_hb hq (srt zs) (List.length_mergeSort ..) (fun blk off cap w _ hH hb=>AnyG.slices_Sort_int Try.laySort blk off cap zs w hH hb (by omega)) (fun _ p cap w=>AnyG.slices_Sort_int_none Try.laySort p cap w) h
theorem Compact_row {H:Heap} {q:Nat} {zs:List Int} {K:AV→Heap→Prop} (hq:H q=some (zs.map fun n=>AV.p (.int .i64 n))) (hl:zs.length≤1000000000) (h:K (.sl q 1 0 (Lib.compact zs).length) (H.set q ((Lib.compact zs).map fun n=>AV.p (.int .i64 n)))):CallT Try.prog 106 [.sl q 1 0 zs.length] H K:=by
  refine CallT.fin ?_
  refine CallT.inPlaceC Compact_hb hq (Lib.compact zs) (List.replicate (zs.length - (Lib.compact zs).length) 0) (by have:=compact_len zs;rw [List.length_append,List.length_replicate];omega) (fun blk off cap w hc hH hb=>AnyG.slices_Compact_int Try.layCompact blk off cap zs w hH (by omega) hc) (fun _ p cap w=>AnyG.slices_Compact_int_empty Try.layCompact p cap w) ?_
  refine ⟨_,_,.cell (cs':=(Lib.compact zs).map fun n=>AV.p (.int .i64 n)) (Heap.set_same _ _ _) (by rw [List.map_append,List.length_append];omega) (fun i a a' h1 h2=>?_),?_⟩
  · rw [List.map_append,List.getElem?_append_left (List.getElem?_eq_some_iff.1 h2).1,h2] at h1
    cases h1;exact .refl _
  · rw [Heap.set_set];exact h
end Go.Proofs.Ytjdhigcefkihiaa
namespace Go.Proofs.Ytjdhigcefkihiaa
open Go Go.Sep Go.Pt
attribute [local irreducible] CallT
def GAt (x:AV) (gs:List (List Int)) (G:Heap) (D:List Nat):Prop:=∃cs D',LL LIc gs cs G D'∧((x=.p .nil∧cs=[]∧D=[])∨∃q,x=.sl q 1 0 gs.length∧G q=some cs∧D=q::D')
theorem GAt.nil (G:Heap):GAt (.p .nil) [] G []:=⟨[],[],⟨rfl,rfl⟩,.inl ⟨rfl,rfl,rfl⟩⟩
theorem GAt.local {x:AV} {gs:List (List Int)} {G G':Heap} {D:List Nat} (g:GAt x gs G D) (h:∀y∈D,∀b,G y=some b→G' y=some b):GAt x gs G' D:=by
  obtain ⟨cs,D',hl,h1⟩:=g
  rcases h1 with ⟨rfl,rfl,rfl⟩ | ⟨q,rfl,hq,rfl⟩
  · cases gs with
    | nil=>obtain ⟨_,rfl⟩:=hl;exact ⟨[],[],⟨rfl,rfl⟩,.inl ⟨rfl,rfl,rfl⟩⟩
    | cons a gs=>obtain ⟨c1,c2,D1,D2,e,_,⟨z,rfl,_⟩,_⟩:=hl;simp at e
  · exact ⟨cs,D',LL.local LIc.local hl (fun y hy b hb=>h y (List.mem_cons_of_mem _ hy) b hb),.inr ⟨q,rfl,h q (List.mem_cons_self ..) _ hq,rfl⟩⟩
theorem GAt.push {x:AV} {gs:List (List Int)} {G:Heap} {D:List Nat} {l:List Int} {qn ql:Nat} {K:AV→Heap→Prop} (g:GAt x gs G D) (hD:D.Nodup) (hl:G qn=some (cP fI l)) (hn:qn∉D) (hql:G ql=some [rowP qn l]) (hlen:gs.length≤1000)
    (h:∀q' G' D'',G q'=none→GAt (.sl q' 1 0 (gs.length+1)) (gs++[l]) G' D''→D''.Nodup→(∀y∈D'',y∈D∨y=qn∨y=q')→(∀y b,G y=some b→y∉D→G' y=some b)→K (.sl q' 1 0 (gs.length+1)) G') :
    appendV tab 110 110 x (.sl ql 1 0 1) G (wkK K):=by
  obtain ⟨cs,D',hll,h1⟩:=g
  have hcl:cs.length=gs.length:=by rw [LL.size LIc.size hll,Nat.mul_one]
  have hqnN:∀{q'},G q'=none→q'≠qn:=fun hq' e=>by rw [e,hl] at hq';cases hq'
  simp only [appendV,tab_110,tab_23,srcV,hql]
  rcases h1 with ⟨rfl,rfl,rfl⟩ | ⟨q,rfl,hq,rfl⟩
  · have hgs:gs=[]:=List.eq_nil_of_length_eq_zero hcl.symm
    subst hgs
    obtain ⟨_,rfl⟩:=hll
    simp only [baseV]
    refine ⟨trivial,by simp,by omega,by omega,rfl,fun q' hq'=>wkK.keep ?_⟩
    have hlL:LI l (rowP qn l) (G.set q' ([]++[rowP qn l])) [qn]:=LI_mk' (by rw [Heap.set_other (Ne.symm (hqnN hq'))];exact hl)
    refine h q' _ [q',qn] hq' ⟨[rowP qn l],[qn],?_,.inr ⟨q',rfl,Heap.set_same _ _ _,rfl⟩⟩ (by simp [hqnN hq']) (fun y hy=>by simp at hy;rcases hy with rfl | rfl<;>simp) (fun y b hb _=>by rw [Heap.set_other (fun e=>by rw [e,hq'] at hb;cases hb)];exact hb)
    exact ⟨[rowP qn l],[],[qn],[],rfl,by simp,⟨_,rfl,hlL⟩,⟨rfl,rfl⟩⟩
  · rw [List.mem_cons,not_or] at hn
    rw [List.nodup_cons] at hD
    simp only [baseV,hq]
    have e1:List.take (gs.length*1) (List.drop 0 cs)=cs:=by rw [List.drop_zero,Nat.mul_one,← hcl,List.take_length]
    have e2:List.take (1*1) (List.drop 0 [rowP qn l])=[rowP qn l]:=rfl
    refine ⟨trivial,by simp,trivial,by omega,by omega,by omega,rfl,fun q' hq'=>wkK.keep ?_⟩
    rw [e1,e2]
    have nq:q'≠q:=fun e=>by rw [e,hq] at hq';cases hq'
    have old:∀y b,G y=some b→y≠q→((G.del q).set q' (cs++[rowP qn l])) y=some b:=fun y b hb hy=>by
      rw [Heap.set_other (fun e=>by rw [e,hq'] at hb;cases hb),Heap.del_other hy];exact hb
    have hlL:LI l (rowP qn l) ((G.del q).set q' (cs++[rowP qn l])) [qn]:=LI_mk' (old _ _ hl hn.1)
    have hnD:∀y∈D',y≠q:=fun y hy e=>hD.1 (e ▸ hy)
    refine h q' _ (q'::(D'++[qn])) hq' ⟨cs++[rowP qn l],D'++[qn],LL.snoc ⟨_,rfl,hlL⟩ (LL.local LIc.local hll fun y hy b hb=>old y b hb (hnD y hy)),.inr ⟨q',by simp,Heap.set_same _ _ _,rfl⟩⟩ ?_ ?_ ?_
    · have hq'D:q'∉D':=fun hm=>LL.has LIc.has hll q' hm hq'
      rw [List.nodup_cons,List.nodup_append]
      refine ⟨by simp only [List.mem_append,List.mem_singleton,not_or];exact ⟨hq'D,hqnN hq'⟩,hD.2,by simp,fun a ha b hb e=>?_⟩
      rw [List.mem_singleton] at hb
      exact hn.2 (by rw [← hb,← e];exact ha)
    · intro y hy
      simp only [List.mem_cons,List.mem_append,List.not_mem_nil,or_false] at hy ⊢
      rcases hy with rfl | hy | rfl
      · exact .inr (.inr rfl)
      · exact .inl (.inr hy)
      · exact .inr (.inl rfl)
    · intro y b hb hy
      rw [List.mem_cons,not_or] at hy
      exact old y b hb hy.1
end Go.Proofs.Ytjdhigcefkihiaa
namespace Go.Proofs.Ytjdhigcefkihiaa
open Go Go.Sep Go.Pt
attribute [local irreducible] CallT
def RZ {α:Type} (L:Lay α) (sz z:Nat) (x:AV) (xs:List α) (G:Heap) (D:List Nat):Prop:=(x=.p .nil∧xs=[]∧D=[z]∧G z=some [])∨LRow L sz xs x G D
theorem RZ.local {α:Type} {L:Lay α} {sz z:Nat} (hL:L.Local) {x:AV} {xs:List α} {G G':Heap} {D:List Nat} (h:RZ L sz z x xs G D) (hf:∀y∈D,∀b,G y=some b→G' y=some b):RZ L sz z x xs G' D:=by
  rcases h with ⟨h1,h2,rfl,h3⟩ | h
  · exact .inl ⟨h1,h2,rfl,hf z (by simp) _ h3⟩
  · exact .inr (h.local hL hf)
theorem RZ.has {α:Type} {L:Lay α} {sz z:Nat} (hL:L.Has) {x:AV} {xs:List α} {G:Heap} {D:List Nat} (h:RZ L sz z x xs G D):∀y∈D,G y≠none:=by
  rcases h with ⟨h1,h2,rfl,h3⟩ | h
  · intro y hy;rw [List.mem_singleton.1 hy,h3];simp
  · exact h.has hL
theorem RZ.row {α:Type} {L:Lay α} {sz z:Nat} {x:AV} {xs:List α} {G:Heap} {D:List Nat} (h:RZ L sz z x xs G D):∃x',AV.wk x x'∧LRow L sz xs x' G D:=by
  rcases h with ⟨rfl,rfl,rfl,h3⟩ | h
  · exact ⟨.sl z sz 0 0,.nilo _ _ _,z,[],[],rfl,h3,⟨rfl,rfl⟩,rfl⟩
  · exact ⟨x,.refl _,h⟩
theorem RZ.sl {α:Type} {L:Lay α} {sz z:Nat} {x:AV} {xs:List α} {G:Heap} {D:List Nat} (h:RZ L sz z x xs G D):x=.p .nil∨∃q,x=.sl q sz 0 xs.length:=by
  rcases h with ⟨h1,_⟩ | ⟨q,cs,D',h1,_⟩
  · exact .inl h1
  · exact .inr ⟨q,h1⟩
def rzT {α:Type} {L:Lay α} (hL:L.Local) (hh:L.Has) (sz z:Nat) (x:AV) (xs:List α) (D:List Nat):Th:=⟨D,fun G=>RZ L sz z x xs G D,fun h f=>h.local hL f,fun h=>h.has hh⟩
theorem lent {α:Type} {L:Lay α} (hL:L.Local) (hh:L.Has) (sz:Nat) {H G:Heap} {Ts:List Th} {z:Nat} (s:St H Ts G) (i:Nat) (h:Ts[i]?=some (cellT z [])):St H (Ts.set i (rzT hL hh sz z (.p .nil) [] [z])) G:=
  s.repl i h _ (by simp [rzT]) (fun y hy=>.inl hy) (fun y b hb _=>hb) (.inl ⟨rfl,rfl,rfl,s.get i h⟩)
theorem RZ.app {tab:Tab} {t0 t1 e0 e1 sz z:Nat} {d d1 ed:TD} {α:Type} {e:α→List PV} (h1:tab t0=some d) (h2:d.k=.slice e0) (h3:tab e0=some ed) (h4:tab t1=some d1) (h5:d1.k=.slice e1) (h6:ed.size=sz) {bz:Nat} (h7:ed.bytes=bz)
    (hsz:∀a,(e a).length=sz) {H G:Heap} {Ts:List Th} {x y:AV} {xs ys:List α} {D:List Nat} {hL:(LPl e).Local} {hh:(LPl e).Has} (s:St H Ts G) (i:Nat) (hi:Ts[i]?=some (rzT hL hh sz z x xs D)) (hy:y=.p (.sl (ys.map e)))
    (hl:(xs.length+ys.length)*bz≤140737488355328) (hl2:xs.length+ys.length≤9223372036854775807) {K:AV→Heap→Prop}
    (h:∀q' G',G q'=none→St H (Ts.set i (rzT hL hh sz z (.sl q' sz 0 (xs++ys).length) (xs++ys) [q'])) G'→K (.sl q' sz 0 (xs++ys).length) G'):appendV tab t0 t1 x y G (wkK K):=by
  subst hy
  have hrz:RZ (LPl e) sz z x xs G D:=s.get i hi
  rcases hrz with ⟨rfl,rfl,rfl,hz⟩ | ⟨q,cs,D',rfl,hq,hll,rfl⟩
  · refine app_nil h1 h2 h3 h4 h5 h6 h7 (.inl rfl) (.inl rfl) (sizedMap hsz ys) (by simpa using hl) (by simpa using hl2) fun q' hq'=>?_
    have:=h q' _ hq' (s.repl i hi (rzT hL hh sz z (.sl q' sz 0 ([]++ys).length) ([]++ys) [q']) (by simp [rzT]) (fun y hy=>by
      simp only [rzT,List.mem_singleton] at hy;subst hy;exact .inr hq') (G':=G.set q' (cells (ys.map e))) (fun y b hb _=>Heap.le_set hq' y b hb) (.inr ⟨q',_,[],rfl,Heap.set_same _ _ _,LL.plain _,rfl⟩))
    simpa [Go.Sep.own] using this
  · have hq0:cs=cells (xs.map e)∧D'=[]:=by
      have key:∀(xs:List α) (cs:List AV) (D:List Nat),LL (LPl e) xs cs G D→cs=cells (xs.map e)∧D=[]:=by
        intro xs
        induction xs with
        | nil=>rintro cs D ⟨rfl,rfl⟩;exact ⟨rfl,rfl⟩
        | cons a xs ih=>
          rintro cs D ⟨c1,c2,D1,D2,rfl,rfl,⟨rfl,rfl⟩,h2⟩
          obtain ⟨rfl,rfl⟩:=ih _ _ h2
          exact ⟨by simp [cells],rfl⟩
      exact key _ _ _ hll
    obtain ⟨rfl,rfl⟩:=hq0
    have:=app_own (x:=.p (.sl (ys.map e))) (r:=q) (es:=xs.map e) (fs:=ys.map e) (H:=G) (K:=K) h1 h2 h3 h4 h5 h6 h7 (.inl rfl) hq (sizedMap hsz xs) (sizedMap hsz ys)
      (by simpa using hl) (by simpa using hl2) fun q' hq'=>by
        have:=h q' ((G.del q).set q' (cells ((xs++ys).map e))) hq' (s.repl i hi (rzT hL hh sz z (.sl q' sz 0 (xs++ys).length) (xs++ys) [q']) (by simp [rzT]) (fun y hy=>by
          simp only [rzT,List.mem_singleton] at hy;subst hy;exact .inr hq') (fun y b hb hy=>by
            simp only [rzT,List.mem_singleton] at hy
            rw [Heap.set_other (fun e=>by rw [e,hq'] at hb;cases hb),Heap.del_other hy];exact hb) (.inr ⟨q',_,[],rfl,Heap.set_same _ _ _,LL.plain _,rfl⟩))
        simpa only [Go.Sep.own,List.length_map,List.map_append,List.length_append] using this
    simpa only [Go.Sep.own,List.length_map] using this
end Go.Proofs.Ytjdhigcefkihiaa
