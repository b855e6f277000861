/- Texts laid together: Mt0 Pm1 Ma1 Lb2 Lt3 Lt4 Ma2 Ma3 Ma4 Mg0 Pf1 Mf0 Ss1 Lay Ps1 Ss2 Ma5 Mb0 Ms0 Ms1 Mf1 Lb1c Dr4 Dr0 Hg2 Mf2 Mf3 Mf4. -/
import Derived.Test.YtjdhigcefkihiaaPc4
import Derived.Sort.Grow
import Derived.Shelf.SlGeneric
import Derived.Shelf.SlLaysNS
import Derived.Test.YtjdhigcefkihiaaProg
import Derived.Lib.SlicesCompact
import Derived.Shelf.SortG.Plain
import Derived.Shelf.SortG.SortNone
import Derived.Shelf.SlicesG.CompactI
set_option linter.unusedVariables false
set_option linter.unusedSimpArgs false
open Nat renaming reduceAdd→ν1,reduceLeDiff→ν2,reduceLT→ν3,reduceMul→ν4,reduceSub→ν5
open Int renaming reduceToNat→ι1,reduceSub→ι2,reduceAdd→ι3,reduceNeg→ι4
open Array renaming toList→ι5
open Ne renaming symm→ν6
open List renaming forall_mem_cons→ν7
namespace Go.Sep
open Go Go.RowKit Go.Proofs.Ytjdhigcefkihiaa
structure Th where
  D:List Nat
  P:Heap→Prop
  loc:∀{G G':Heap},P G→(∀y∈D,∀b,G y=some b→G' y=some b)→P G'
  has:∀{G:Heap},P G→∀y∈D,G y≠none
def cellT (r:Nat) (b:List AV):Th:=⟨[r],fun G=>G r=some b,fun h f=>f r (List.mem_singleton.2 rfl) b h,fun h y hy=>by rw [List.mem_singleton.1 hy,h];simp⟩
structure St (H:Heap) (Ts:List Th) (G:Heap):Prop where
  le:Heap.le H G
  nd:(Ts.flatMap Th.D).Nodup
  fr:∀t∈Ts,∀y∈t.D,H y=none
  ok:∀t∈Ts,t.P G
theorem St.nil (H:Heap):St H [] H:=⟨Heap.le_refl _,List.nodup_nil,fun t ht=>(by cases ht),fun t ht=>(by cases ht)⟩
theorem St.get {H G:Heap} {Ts:List Th} {t:Th} (s:St H Ts G) (i:Nat) (h:Ts[i]?=some t):t.P G:=s.ok t (List.mem_of_getElem? h)
theorem St.push {H G G':Heap} {Ts:List Th} (s:St H Ts G) (t:Th) (hn:New G G' t.D) (hp:t.P G'):St H (t::Ts) G':=by
  refine ⟨Heap.le_trans s.le hn.le,?_,?_,?_⟩
  · rw [List.flatMap_cons,List.nodup_append]
    refine ⟨hn.nd,s.nd,fun a ha b hb e=>?_⟩
    obtain ⟨u,hu,hbu⟩:=List.mem_flatMap.1 hb
    exact u.has (s.ok u hu) b hbu (by rw [← e];exact hn.fr a ha)
  · intro u hu y hy
    rcases List.mem_cons.1 hu with rfl | hu
    · cases hh:H y with
      | none=>rfl
      | some b=>rw [← hn.fr y hy,s.le y b hh]
    · exact s.fr u hu y hy
  · intro u hu
    rcases List.mem_cons.1 hu with rfl | hu
    · exact hp
    · exact u.loc (s.ok u hu) fun y _ b hb=>hn.le y b hb
theorem New.cell {G:Heap} {r:Nat} {b:List AV} (hr:G r=none):New G (G.set r b) [r]:=⟨by simp,by simpa using hr,Heap.le_set hr⟩
theorem St.cell {H G:Heap} {Ts:List Th} (s:St H Ts G) {r:Nat} (hr:G r=none) (b:List AV):St H (cellT r b::Ts) (G.set r b):=s.push (cellT r b) (New.cell hr) (Heap.set_same _ _ _)
theorem St.upd {H G G':Heap} {Ts:List Th} {t:Th} (s:St H Ts G) (i:Nat) (h:Ts[i]?=some t) (t':Th) (hD:t'.D=t.D) (hf:∀y,y∉t.D→G' y=G y) (hp:t'.P G'):St H (Ts.set i t') G':=by
  obtain ⟨hi,hti⟩:=List.getElem?_eq_some_iff.1 h
  have e:Ts=Ts.take i++t::Ts.drop (i+1):=by rw [← hti,List.getElem_cons_drop,List.take_append_drop]
  have e':Ts.set i t'=Ts.take i++t'::Ts.drop (i+1):=by rw [List.set_eq_take_append_cons_drop,if_pos hi]
  generalize Ts.take i=pre at e e'
  generalize Ts.drop (i+1)=post at e e'
  rw [e']
  subst e
  have hnd:=s.nd
  rw [List.flatMap_append,List.flatMap_cons] at hnd
  have hdis:∀u∈pre++post,∀y∈u.D,y∉t.D:=by
    intro u hu y hy hyt
    rw [List.nodup_append,List.nodup_append] at hnd
    rcases List.mem_append.1 hu with hu | hu
    · exact hnd.2.2 y (List.mem_flatMap.2 ⟨u,hu,hy⟩) y (List.mem_append_left _ hyt) rfl
    · exact hnd.2.1.2.2 y hyt y (List.mem_flatMap.2 ⟨u,hu,hy⟩) rfl
  refine ⟨fun y b hb=>?_,by rw [List.flatMap_append,List.flatMap_cons,hD];exact hnd,fun u hu y hy=>?_,fun u hu=>?_⟩
  · rw [hf y (fun hy=>by have:=s.fr t (by simp) y hy;rw [this] at hb;cases hb)];exact s.le y b hb
  · rcases List.mem_append.1 hu with hu | hu
    · exact s.fr u (List.mem_append_left _ hu) y hy
    · rcases List.mem_cons.1 hu with rfl | hu
      · exact s.fr t (by simp) y (hD ▸ hy)
      · exact s.fr u (by simp [hu]) y hy
  · have old:∀u∈pre++post,u.P G':=fun u hu=>u.loc (s.ok u (by
      rcases List.mem_append.1 hu with hu | hu
      · exact List.mem_append_left _ hu
      · exact List.mem_append_right _ (List.mem_cons_of_mem _ hu))) fun y hy b hb=>by rw [hf y (hdis u hu y hy)];exact hb
    rcases List.mem_append.1 hu with hu | hu
    · exact old u (List.mem_append_left _ hu)
    · rcases List.mem_cons.1 hu with rfl | hu
      · exact hp
      · exact old u (List.mem_append_right _ hu)
theorem St.drop {H G:Heap} {t:Th} {Ts:List Th} (s:St H (t::Ts) G):St H Ts G:=⟨s.le,(by have:=s.nd;rw [List.flatMap_cons,List.nodup_append] at this;exact this.2.1),fun u hu=>s.fr u (List.mem_cons_of_mem _ hu),fun u hu=>s.ok u (List.mem_cons_of_mem _ hu)⟩
theorem St.perm {H G:Heap} {Ts Us:List Th} (s:St H Ts G) (h:List.Perm Ts Us):St H Us G:=
  ⟨s.le,(h.flatMap_right _).nodup s.nd,fun t ht=>s.fr t (h.mem_iff.2 ht),fun t ht=>s.ok t (h.mem_iff.2 ht)⟩
theorem St.disj {H G:Heap} {t u:Th} {Ts:List Th} (s:St H (t::u::Ts) G):∀y∈t.D,y∉u.D:=by
  have:=s.nd
  rw [List.flatMap_cons,List.flatMap_cons,List.nodup_append] at this
  exact fun y hy hu=>this.2.2 y hy y (List.mem_append_left _ hu) rfl
theorem Th.dis:∀{Ts:List Th} {t u:Th} {i j:Nat},(Ts.flatMap Th.D).Nodup→Ts[i]?=some t→Ts[j]?=some u→i < j→∀y∈t.D,y∉u.D
  | [],_,_,_,_,_,hi,_,_=>by simp at hi
  | a::Ts,t,u,0,j+1,nd,hi,hj,_=>by
    rw [List.flatMap_cons,List.nodup_append] at nd
    simp only [List.getElem?_cons_zero,Option.some.injEq] at hi
    subst hi
    exact fun y hy hu=>nd.2.2 y hy y (List.mem_flatMap.2 ⟨u,List.mem_of_getElem? (by simpa using hj),hu⟩) rfl
  | a::Ts,t,u,i+1,j+1,nd,hi,hj,h=>by
    rw [List.flatMap_cons,List.nodup_append] at nd
    exact Th.dis nd.2.1 (by simpa using hi) (by simpa using hj) (by omega)
theorem St.disjI {H G:Heap} {t u:Th} {Ts:List Th} (s:St H Ts G) (i j:Nat) (hi:Ts[i]?=some t) (hj:Ts[j]?=some u) (hij:i≠j):∀y∈t.D,y∉u.D:=by
  rcases Nat.lt_or_gt_of_ne hij with h | h
  · exact Th.dis s.nd hi hj h
  · exact fun y hy hu=>Th.dis s.nd hj hi h y hu hy
theorem St.fresh {H G:Heap} {Ts:List Th} {t:Th} (s:St H Ts G) (i:Nat) (h:Ts[i]?=some t) {q:Nat} (hq:G q=none):q∉t.D:=fun hm=>t.has (s.get i h) q hm hq
theorem perm_pick {α:Type}:∀(Ts:List α) (i:Nat) (hi:i < Ts.length),List.Perm Ts (Ts[i]::Ts.eraseIdx i)
  | a::Ts,0,_=>List.Perm.refl _
  | a::Ts,i+1,hi=>((perm_pick Ts i (by simpa using hi)).cons a).trans (List.Perm.swap _ _ _)
theorem perm_set {α:Type}:∀(Ts:List α) (i:Nat) (hi:i < Ts.length) (t:α),List.Perm (Ts.set i t) (t::Ts.eraseIdx i)
  | a::Ts,0,_,_=>List.Perm.refl _
  | a::Ts,i+1,hi,t=>((perm_set Ts i (by simpa using hi) t).cons a).trans (List.Perm.swap _ _ _)
theorem sub_flat {α β:Type} {f:α→List β} {l m:List α} (h:List.Sublist l m):List.Sublist (l.flatMap f) (m.flatMap f):=by
  induction h with
  | slnil=>exact List.Sublist.refl _
  | cons a _ ih=>rw [List.flatMap_cons];exact ih.trans (List.sublist_append_right _ _)
  | cons_cons a _ ih=>rw [List.flatMap_cons,List.flatMap_cons];exact List.Sublist.append_left ih _
theorem St.pick {H G:Heap} {Ts:List Th} {t:Th} (s:St H Ts G) (i:Nat) (h:Ts[i]?=some t):St H (t::Ts.eraseIdx i) G:=by
  obtain ⟨hi,rfl⟩:=List.getElem?_eq_some_iff.1 h
  exact s.perm (perm_pick Ts i hi)
theorem St.step {H G G':Heap} {old rest:List Th} (s:St H (old++rest) G) (new:List Th) (hnd:(new.flatMap Th.D).Nodup) (hfr:∀t∈new,∀y∈t.D,(∃u∈old,y∈u.D)∨G y=none)
    (hf:∀y b,G y=some b→(∀u∈old,y∉u.D)→G' y=some b) (hp:∀t∈new,t.P G'):St H (new++rest) G':=by
  have hs:=s.nd
  rw [List.flatMap_append,List.nodup_append] at hs
  have hdis:∀u∈rest,∀y∈u.D,∀t∈old,y∉t.D:=fun u hu y hy t ht hyt=>hs.2.2 y (List.mem_flatMap.2 ⟨t,ht,hyt⟩) y (List.mem_flatMap.2 ⟨u,hu,hy⟩) rfl
  refine ⟨fun y b hb=>?_,?_,fun u hu y hy=>?_,fun u hu=>?_⟩
  · refine hf y b (s.le y b hb) fun u hu hy=>?_
    rw [s.fr u (List.mem_append_left _ hu) y hy] at hb;cases hb
  · rw [List.flatMap_append,List.nodup_append]
    refine ⟨hnd,hs.2.1,fun a ha b hb e=>?_⟩
    subst e
    obtain ⟨t,ht,hat⟩:=List.mem_flatMap.1 ha
    obtain ⟨u,hu,hau⟩:=List.mem_flatMap.1 hb
    rcases hfr t ht a hat with ⟨v,hv,hav⟩ | hn
    · exact hdis u hu a hau v hv hav
    · exact u.has (s.ok u (List.mem_append_right _ hu)) a hau hn
  · rcases List.mem_append.1 hu with hu | hu
    · rcases hfr u hu y hy with ⟨v,hv,hav⟩ | hn
      · exact s.fr v (List.mem_append_left _ hv) y hav
      · cases hh:H y with
        | none=>rfl
        | some b=>rw [← hn,s.le y b hh]
    · exact s.fr u (List.mem_append_right _ hu) y hy
  · rcases List.mem_append.1 hu with hu | hu
    · exact hp u hu
    · exact u.loc (s.ok u (List.mem_append_right _ hu)) fun y hy b hb=>hf y b hb (hdis u hu y hy)
theorem St.repl {H G G':Heap} {Ts:List Th} {t:Th} (s:St H Ts G) (i:Nat) (h:Ts[i]?=some t) (t':Th) (hnd:t'.D.Nodup) (hfr:∀y∈t'.D,y∈t.D∨G y=none)
    (hf:∀y b,G y=some b→y∉t.D→G' y=some b) (hp:t'.P G'):St H (Ts.set i t') G':=by
  obtain ⟨hi,-⟩:=List.getElem?_eq_some_iff.1 h
  have:=St.step (old:=[t]) (s.pick i h) [t'] (by simpa using hnd) (fun u hu y hy=>by
    rw [List.mem_singleton] at hu;subst hu
    rcases hfr y hy with h1 | h1
    · exact .inl ⟨t,by simp,h1⟩
    · exact .inr h1) (fun y b hb hy=>hf y b hb (hy t (by simp))) (fun u hu=>by rw [List.mem_singleton] at hu;subst hu;exact hp)
  exact this.perm (perm_set Ts i hi t').symm
theorem St.moved {H G:Heap} {Ts:List Th} {q q':Nat} {b c:List AV} (s:St H Ts G) (i:Nat) (h:Ts[i]?=some (cellT q b)) (hq:G q'=none):St H (Ts.set i (cellT q' c)) ((G.del q).set q' c):=by
  have hg:G q=some b:=s.get i h
  refine s.repl i h (cellT q' c) (by simp [cellT]) (fun y hy=>?_) (fun y bb hb hy=>?_) (Heap.set_same _ _ _)
  · simp only [cellT,List.mem_singleton] at hy;subst hy;exact .inr hq
  · simp only [cellT,List.mem_singleton] at hy
    rw [Heap.set_other (fun e=>by rw [e,hq] at hb;cases hb),Heap.del_other hy];exact hb
theorem St.put {H G:Heap} {Ts:List Th} {q:Nat} {b:List AV} (s:St H Ts G) (i:Nat) (h:Ts[i]?=some (cellT q b)) (c:List AV):St H (Ts.set i (cellT q c)) (G.set q c):=by
  refine s.repl i h (cellT q c) (by simp [cellT]) (fun y hy=>.inl hy) (fun y bb hb hy=>?_) (Heap.set_same _ _ _)
  simp only [cellT,List.mem_singleton] at hy
  rw [Heap.set_other hy];exact hb
theorem St.sub {H G:Heap} {Ts Us:List Th} (s:St H Ts G) (h:List.Sublist Us Ts):St H Us G:=
  ⟨s.le,List.Nodup.sublist (sub_flat h) s.nd,fun t ht=>s.fr t (h.subset ht),fun t ht=>s.ok t (h.subset ht)⟩
theorem St.new {H G:Heap} {Ts:List Th} (s:St H Ts G):New H G (Ts.flatMap Th.D):=⟨s.nd,fun y hy=>by
  obtain ⟨t,ht,hyt⟩:=List.mem_flatMap.1 hy
  exact s.fr t ht y hyt,s.le⟩
theorem St.wkNone {H G:Heap} {Ts:List Th} (s:St H Ts G):∀y b,H y=some b→∀t∈Ts,y∉t.D:=fun y b hb t ht hy=>by rw [s.fr t ht y hy] at hb;cases hb
end Go.Sep
namespace Go.Pt
structure Ed where
  src:Int
  lt:Int
  dst:Int
deriving Inhabited
structure Au where
  states:Int
  first:List Int
  edges:List Ed
  goals:List (List Int)
deriving Inhabited
def riseAt (l:List Int) (n:Int) (i:Nat):Bool:=(decide (0≤l.getD i default) && decide (l.getD i default < n)) && (decide (i=0) || decide (l.getD (i - 1) default < l.getD i default))
def rising (l:List Int) (n:Int):Bool:=(List.range l.length).all (riseAt l n)
def edIn (n:Int) (e:Ed):Bool:=(decide (0≤e.src) && decide (e.src < n)) && ((decide (0≤e.dst) && decide (e.dst < n)) && (decide (0≤e.lt) && decide (e.lt < 8)))
end Go.Pt
namespace Go.Proofs.Ytjdhigcefkihiaa
open Go Go.Sep Go.Pt
attribute [local irreducible] CallT
abbrev eE (x:Ed):List PV:=[.int .i64 x.src,.int .i64 x.lt,.int .i64 x.dst]
abbrev Es (xs:List Ed):AV:=.p (.sl (xs.map eE))
abbrev aAu (a:Au):AV:=.agg [I a.states,Is a.first,Es a.edges,Ls a.goals]
end Go.Proofs.Ytjdhigcefkihiaa
namespace Go.Proofs.Ytjdhigcefkihiaa
open Go Go.Sep
attribute [local irreducible] CallT
abbrev fI (n:Int):PV:=.int .i64 n
abbrev rowP {α:Type} (q:Nat) (xs:List α):AV:=.sl q 1 0 xs.length
abbrev cP {α:Type} (f:α→PV) (xs:List α):List AV:=xs.map fun x=>AV.p (f x)
abbrev vP {α:Type} (f:α→PV) (xs:List α):AV:=.p (.sl (xs.map fun x=>[f x]))
theorem cells_P {α:Type} (f:α→PV) (xs:List α):cells (xs.map fun x=>[f x])=cP f xs:=by
  induction xs with
  | nil=>rfl
  | cons x xs ih=>simp only [cells,List.map_cons,List.flatten_cons,List.map_append] at ih ⊢;rw [ih];rfl
theorem flat_P {α:Type} (f:α→PV) (xs:List α):(xs.map fun x=>[f x]).flatten.map AV.p=cP f xs:=cells_P f xs
theorem szP {α:Type} (f:α→PV) (xs:List α):Sized 1 (xs.map fun x=>[f x]):=sizedMap (f:=fun x=>[f x]) (fun _=>rfl) xs
theorem cP_cell {α:Type} (f:α→PV) (xs:List α):(cP f xs).all AV.isCell=true:=by
  rw [← cells_P];exact cells_cell _
theorem read_row {α:Type} {f:α→PV} {xs:List α} {k:Nat} (d:α) (h:k < xs.length):((((cP f xs).drop k).take 1).headD .any)=.p (f (xs.getD k d)):=by
  rw [List.drop_eq_getElem_cons (by simpa using h)]
  simp [List.getD,h]
def Base {α:Type} (f:α→PV) (x:AV) (xs:List α) (G:Heap):Prop:=(x=.p .nil∧xs=[])∨∃q,x=rowP q xs∧G q=some (cP f xs)
theorem app_row {α:Type} {f:α→PV} {tab:Tab} {t e:Nat} {d ed:TD} {q:Nat} {xs ys:List α} {G:Heap} {K:AV→Heap→Prop} (h1:tab t=some d) (h2:d.k=.slice e) (h3:tab e=some ed) (h6:ed.size=1) (h7:ed.bytes≤64)
    (hq:G q=some (cP f xs)) (hl:xs.length+ys.length≤1000000000)
    (h:∀q',G q'=none→K (rowP q' (xs++ys)) ((G.del q).set q' (cP f (xs++ys)))):appendV tab t t (rowP q xs) (vP f ys) G (wkK K):=by
  have:=app_own (x:=vP f ys) (r:=q) (es:=xs.map fun x=>[f x]) (fs:=ys.map fun x=>[f x]) (H:=G) (K:=K) h1 h2 h3 h1 h2 h6 (bz:=ed.bytes) rfl (.inl rfl) (by rw [cells_P];exact hq) (szP f xs) (szP f ys)
    (by simp only [List.length_map];exact Nat.le_trans (Nat.mul_le_mul hl h7) (by omega)) (by simp only [List.length_map];omega) fun r' hr'=>by
      have:=h r' hr'
      rw [← List.map_append,cells_P]
      simpa only [own,List.length_map] using this
  simpa only [own,List.length_map] using this
theorem app_base {α:Type} {f:α→PV} {tab:Tab} {t e:Nat} {d ed:TD} {x:AV} {xs ys:List α} {G:Heap} {K:AV→Heap→Prop} (h1:tab t=some d) (h2:d.k=.slice e) (h3:tab e=some ed) (h6:ed.size=1) (h7:ed.bytes≤64)
    (hb:Base f x xs G) (hl:xs.length+ys.length≤1000000000)
    (h:∀q' G1,G q'=none→G1 q'=some (cP f (xs++ys))→(∀y,y≠q'→(∀q,x=rowP q xs→y≠q)→G1 y=G y)→K (rowP q' (xs++ys)) G1):appendV tab t t x (vP f ys) G (wkK K):=by
  rcases hb with ⟨rfl,rfl⟩ | ⟨q,rfl,hq⟩
  · simp only [appendV,h1,h2,h3,h6,srcV,baseV]
    refine ⟨szP f ys,?_,?_,?_,fun r' hr'=>wkK.keep ?_⟩
    · have hl2:0+(ys.map fun x=>[f x]).length≤1000000000:=by simpa using hl
      exact Nat.le_trans (Nat.mul_le_mul hl2 h7) (by omega)
    · simp only [List.length_map];simp at hl;omega
    · exact cells_cell _
    · have:=h r' (G.set r' (cP f ys)) hr' (by rw [Heap.set_same];rfl) (fun y hy _=>Heap.set_other hy)
      rw [flat_P]
      simpa using this
  · refine app_row h1 h2 h3 h6 h7 hq hl fun q' hq'=>?_
    have hne:q'≠q:=by rintro rfl;rw [hq] at hq';cases hq'
    refine h q' _ hq' (Heap.set_same _ _ _) fun y hy hy2=>?_
    rw [Heap.set_other hy,Heap.del_other (hy2 q rfl)]
structure Own1 {α:Type} (f:α→PV) (H0 G:Heap) (r:Nat) (pre:List AV) (x:AV) (xs:List α):Prop where
  hr:G r=some (pre++[x])
  base:(x=.p .nil∧xs=[])∨∃q,x=rowP q xs∧G q=some (cP f xs)∧H0 q=none∧q≠r
  le:Heap.le H0 G
  nr:H0 r=none
theorem Own1.alloc {α:Type} {f:α→PV} {H0 G:Heap} {r:Nat} {pre:List AV} {x:AV} {xs:List α} (o:Own1 f H0 G r pre x xs) {q:Nat} (hq:G q=none) (b:List AV):Own1 f H0 (G.set q b) r pre x xs:=by
  have ne:∀{y c},G y=some c→y≠q:=fun h e=>by rw [e,hq] at h;cases h
  refine ⟨by rw [Heap.set_other (ne o.hr)];exact o.hr,?_,Heap.le_setN o.le ?_,o.nr⟩
  · rcases o.base with h | ⟨q1,h1,h2,h3,h4⟩
    · exact .inl h
    · exact .inr ⟨q1,h1,by rw [Heap.set_other (ne h2)];exact h2,h3,h4⟩
  · cases hh:H0 q with
    | none=>rfl
    | some c=>rw [o.le q c hh] at hq;cases hq
theorem Own1.app {α:Type} {f:α→PV} {H0 G:Heap} {r:Nat} {pre:List AV} {x:AV} {xs:List α} (o:Own1 f H0 G r pre x xs) {tab:Tab} {t e:Nat} {d ed:TD} {ys:List α} {K:AV→Heap→Prop} (h1:tab t=some d) (h2:d.k=.slice e) (h3:tab e=some ed) (h6:ed.size=1) (h7:ed.bytes≤64)
    (hl:xs.length+ys.length≤1000000000)
    (h:∀q' m G1,G1 r=some (pre++[x])→Own1 f H0 (G1.set r (pre++[.sl q' 1 0 m])) r pre (.sl q' 1 0 m) (xs++ys)→(∀y b,y≠r→H0 y=some b→G1 y=some b)→K (.sl q' 1 0 m) G1):appendV tab t t x (vP f ys) G (wkK K):=by
  refine app_base (f:=f) h1 h2 h3 h6 h7 (xs:=xs) ?_ hl fun q' G1 hq' hG1 hfr=>?_
  · rcases o.base with h | ⟨q1,h1,h2,h3,h4⟩
    · exact .inl h
    · exact .inr ⟨q1,h1,h2⟩
  · have hrq:r≠q':=fun e=>by rw [← e,o.hr] at hq';cases hq'
    have hxr:∀q,x=rowP q xs→H0 q=none∧q≠r:=by
      intro q hx
      rcases o.base with ⟨h,_⟩ | ⟨q1,h1,h2,h3,h4⟩
      · rw [h] at hx;cases hx
      · rw [h1] at hx;cases hx;exact ⟨h3,h4⟩
    have hle1:∀y b,H0 y=some b→G1 y=some b:=by
      intro y b hy
      rw [hfr y (fun e=>by rw [← e,o.le y b hy] at hq';cases hq') (fun q hx e=>by rw [e,(hxr q hx).1] at hy;cases hy)]
      exact o.le y b hy
    have hnq:H0 q'=none:=by
      cases hh:H0 q' with
      | none=>rfl
      | some c=>rw [o.le q' c hh] at hq';cases hq'
    refine h q' _ G1 ?_ ⟨Heap.set_same _ _ _,.inr ⟨q',rfl,by rw [Heap.set_other hrq.symm];exact hG1,hnq,hrq.symm⟩,?_,o.nr⟩ fun y b _ hy=>hle1 y b hy
    · rw [hfr r hrq (fun q hx e=>(hxr q hx).2 e.symm)];exact o.hr
    · refine Heap.le_setN (fun y b hy=>hle1 y b hy) o.nr
theorem Own1.wk {α:Type} {f:α→PV} {H0 G:Heap} {r:Nat} {pre:List AV} {x:AV} {xs:List α} (o:Own1 f H0 G r pre x xs) {v v':AV}
    (hn:x=.p .nil→xs=[]→AV.wk v v') (hf:∀q,x=rowP q xs→FrzR q 1 (xs.map fun x=>[f x]) v v') (hp:∀q,q≠r→FrzL q 1 (xs.map fun x=>[f x]) (pre++[rowP q xs]) (pre++[vP f xs])) :
    ∃G',Wk v G v' G'∧G' r=some (pre++[vP f xs])∧Heap.le H0 G':=by
  rcases o.base with ⟨rfl,rfl⟩ | ⟨q,rfl,hq,hq0,hqr⟩
  · refine ⟨G.set r (pre++[vP f []]),.trans (.val (hn rfl rfl)) (.cell o.hr (by simp) fun i a a' ha ha'=>?_),Heap.set_same _ _ _,Heap.le_setN o.le o.nr⟩
    by_cases hi:i < pre.length
    · rw [List.getElem?_append_left hi] at ha ha'
      rw [ha] at ha';cases ha';exact .refl _
    · rw [List.getElem?_append_right (by omega)] at ha ha'
      cases hj:i - pre.length with
      | zero=>
        rw [hj] at ha ha'
        simp at ha ha'
        subst ha;subst ha';exact .nil
      | succ j=>rw [hj] at ha;simp at ha
  · refine ⟨(G.del q).set r (pre++[vP f xs]),Wk.frzAt (r:=q) (s:=r) (sz:=1) (es:=xs.map fun x=>[f x]) (by omega) (by rw [flat_P];exact hq) (szP f xs) o.hr hqr.symm (hp q hqr) (hf q rfl) (by simp),Heap.set_same _ _ _,?_⟩
    exact Heap.le_setN (Heap.le_del o.le hq0) o.nr
theorem FrzL.refl {r sz:Nat} {es:List (List PV)}:∀vs,FrzL r sz es vs vs
  | []=>.nil
  | v::vs=>.cons (.same v) (FrzL.refl vs)
theorem FrzL.app {r sz:Nat} {es:List (List PV)}:∀{vs ws ws':List AV},FrzL r sz es ws ws'→FrzL r sz es (vs++ws) (vs++ws')
  | [],_,_,h=>h
  | v::vs,_,_,h=>.cons (.same v) (FrzL.app (vs:=vs) h)
theorem frz_row {α:Type} {f:α→PV} {q:Nat} {xs:List α}:FrzR q 1 (xs.map fun x=>[f x]) (rowP q xs) (vP f xs):=by
  have:FrzR q 1 (xs.map fun x=>[f x]) (.sl q 1 0 (xs.map fun x=>[f x]).length) (.p (.sl (xs.map fun x=>[f x]))):=.here
  rwa [List.length_map] at this
end Go.Proofs.Ytjdhigcefkihiaa
namespace Go.Proofs.Ytjdhigcefkihiaa
open Go Go.Sep Go.Pt
attribute [local irreducible] CallT
def LPg (p:Pg) (v:AV) (G:Heap) (D:List Nat):Prop:=∃x y D1 D2,v=.agg [I p.wide,I p.vars,x,y]∧D=D1++D2∧LN p.start x G D1∧LRow LCm 2 p.cmds y G D2
theorem LPg.local {p:Pg} {v:AV} {G G':Heap} {D:List Nat} (h:LPg p v G D) (hf:∀y∈D,∀b,G y=some b→G' y=some b):LPg p v G' D:=by
  obtain ⟨x,y,D1,D2,e,rfl,h1,h2⟩:=h
  exact ⟨x,y,D1,D2,e,rfl,LRow.local (LPl.local eN) h1 (fun z hz=>hf z (List.mem_append_left _ hz)),LRow.local LCm.local h2 (fun z hz=>hf z (List.mem_append_right _ hz))⟩
theorem LPg.has {p:Pg} {v:AV} {G:Heap} {D:List Nat} (h:LPg p v G D):∀y∈D,G y≠none:=by
  obtain ⟨x,y,D1,D2,e,rfl,h1,h2⟩:=h
  intro z hz
  rcases List.mem_append.1 hz with hz | hz
  · exact LRow.has (LPl.has eN) h1 z hz
  · exact LRow.has LCm.has h2 z hz
theorem LPg.wk {p:Pg} {v:AV} {G:Heap} {D:List Nat} (h:LPg p v G D) (hD:D.Nodup) (C:AV→AV) (hC:∀{q sz es a a'},FrzR q sz es a a'→FrzR q sz es (C a) (C a')):∃G',Wk (C v) G (C (aPg p)) G'∧∀y,y∉D→G' y=G y:=by
  obtain ⟨x,y,D1,D2,rfl,rfl,h1,h2⟩:=h
  rw [List.nodup_append] at hD
  obtain ⟨G1,w1,f1⟩:=LRow.frzV (e:=eN) (sz:=2) (v:=C (.agg [I p.wide,I p.vars,x,y])) (v':=C (.agg [I p.wide,I p.vars,Ns p.start,y])) (by omega) (fun _=>rfl) (LPl.local eN) (LPl.frz eN) h1 hD.1
    (fun q _ hr=>hC (.agg (.cons (.same _) (.cons (.same _) (.cons hr (.cons (.same _) .nil))))))
  have h2':=LRow.local LCm.local h2 (G':=G1) fun z hz b hb=>by rw [f1 z (fun hz1=>hD.2.2 z hz1 z hz rfl)];exact hb
  obtain ⟨G2,w2,f2⟩:=LRow.frzV (e:=eCm) (sz:=2) (v:=C (.agg [I p.wide,I p.vars,Ns p.start,y])) (v':=C (aPg p)) (by omega) (fun _=>rfl) LCm.local LCm.frz h2' hD.2.1
    (fun q _ hr=>hC (.agg (.cons (.same _) (.cons (.same _) (.cons (.same _) (.cons hr .nil))))))
  refine ⟨G2,.trans w1 w2,fun z hz=>?_⟩
  rw [List.mem_append,not_or] at hz
  rw [f2 z hz.2,f1 z hz.1]
def LSt (of:List Int) (v:AV) (G:Heap) (D:List Nat):Prop:=∃x,v=.agg [x]∧LI of x G D
theorem LI_mk {xs:List Int} {q:Nat} {G:Heap} (h:G q=some (cells (xs.map eI))):LI xs (rowP q xs) G [q]:=⟨q,_,[],rfl,h,LL.plain xs,rfl⟩
theorem LSt.local {of:List Int} {v:AV} {G G':Heap} {D:List Nat} (h:LSt of v G D) (hf:∀y∈D,∀b,G y=some b→G' y=some b):LSt of v G' D:=by
  obtain ⟨x,e,h⟩:=h;exact ⟨x,e,LRow.local (LPl.local eI) h hf⟩
theorem LSt.has {of:List Int} {v:AV} {G:Heap} {D:List Nat} (h:LSt of v G D):∀y∈D,G y≠none:=by
  obtain ⟨x,e,h⟩:=h;exact LRow.has (LPl.has eI) h
theorem LSt.wk {of:List Int} {v:AV} {G:Heap} {D:List Nat} (h:LSt of v G D) (hD:D.Nodup) (C:AV→AV) (hC:∀{q sz es a a'},FrzR q sz es a a'→FrzR q sz es (C a) (C a')):∃G',Wk (C v) G (C (aS of)) G'∧∀y,y∉D→G' y=G y:=by
  obtain ⟨x,rfl,h⟩:=h
  exact LRow.frzV (e:=eI) (sz:=1) (v:=C (.agg [x])) (v':=C (aS of)) (by omega) (fun _=>rfl) (LPl.local eI) (LPl.frz eI) h hD (fun q _ hr=>hC (.agg (.cons hr .nil)))
def marked (k:Int) (n:Nat):List Int:=(List.range n).map fun (j:Nat)=>k+(j:Int)
theorem marked_len (k:Int) (n:Nat):(marked k n).length=n:=by simp [marked]
theorem markIntS_live (xs:List Int) (hl:xs.length≤1048576) {k:Int} (h0:0≤k) (h1:k≤1000000000) {q:Nat} {G:Heap} (hG:G q=some (cells (xs.map eI))) {K:AV→Heap→Prop}
    (h:K (I (k+xs.length)) (G.set q (cells ((marked k xs.length).map eI)))):CallT Try.prog 19 [rowP q xs,I k] G K:=by
  refine W19_ok ?_;simp (maxSteps:=1000000) (disch:=first | assumption | (apply ν6;assumption)) only [W19,vz,vu,vv,eqS,eF_,↓c1_,↓c2_,tabs,reduceCtorEq,ι5,↓reduceIte,ν1,ν2,ν3,ν4,ν5,ι1,ι2,ι3,ι4]
  refine L19_0_rule (0:Nat) (fun i=>I (k+i)) (fun i=>I i) (fun i=>G.set q (cells ((marked k i++xs.drop i).map eI))) (fun i=>i≤xs.length) (fun i=>xs.length - i) ⟨by omega,?_,.refl _,?_⟩ ?_
  · rw [wk_int];simp
  · intro y b hy
    by_cases e:y=q
    · subst e;rw [Heap.set_same] at hy;rw [hG];simpa [marked] using hy
    · rw [Heap.set_other e] at hy;exact hy
  intro i hi
  have hcl:(cells ((marked k i++xs.drop i).map eI)).length=xs.length:=by
    rw [cells_I,List.length_map,List.length_append,marked_len,List.length_drop];omega
  (try simp (maxSteps:=1000000) (disch:=first | assumption | (apply ν6;assumption)) only [vz,vu,vv,eqS,eF_,↓c1_,↓c2_,tabs,reduceCtorEq,ι5,↓reduceIte,ν1,ν2,ν3,ν4,ν5,ι1,ι2,ι3,ι4,B19_0,hcl])
  refine ⟨fun h5=>?_,fun h5=>?_⟩
  · have hlt:i < xs.length:=by omega
    refine ⟨by omega,h5,by omega,i+1,by omega,by omega,?_,?_,?_⟩
    · rw [wk_int,i64_id (by omega) (by omega)];omega
    · rw [wk_int,i64_id (by omega) (by omega)];simp
    · have e1:xs.drop i=xs.getD i 0::xs.drop (i+1):=by rw [List.drop_eq_getElem_cons hlt];simp [List.getD,hlt]
      have e2:marked k (i+1)=marked k i++[k+i]:=by simp [marked,List.range_succ]
      have e3:cells ((marked k i++xs.drop i).map eI)=cells ((marked k i).map eI)++([I (xs.getD i 0)]++cells ((xs.drop (i+1)).map eI)):=by rw [e1,List.map_append,cells_app];rfl
      have e4:cells ((marked k (i+1)++xs.drop (i+1)).map eI)=cells ((marked k i).map eI)++([I (k+i)]++cells ((xs.drop (i+1)).map eI)):=by rw [e2,List.append_assoc,List.map_append,cells_app];rfl
      have e5:=splice_at (pre:=cells ((marked k i).map eI)) (c:=[I (xs.getD i 0)]) (c':=[I (k+i)]) (post:=cells ((xs.drop (i+1)).map eI)) (off:=i*1) (n:=1) (by rw [cells_I,List.length_map,marked_len,Nat.mul_one]) rfl rfl
      rw [← e3,← e4] at e5
      rw [← e5];exact Heap.le_refl _
  · have:i=xs.length:=by omega
    subst this
    simpa using h
end Go.Proofs.Ytjdhigcefkihiaa
namespace Go.Proofs.Ytjdhigcefkihiaa
open Go Go.Sep Go.Pt
attribute [local irreducible] CallT
structure Half {α:Type} (L:Lay α) (G0:Heap) (q:Nat) (D:List Nat) (xs:List α) (i:Nat) (G:Heap) (done:List α):Prop where
  ex:∃cd cr Dd Dr,G q=some (cd++cr)∧LL L done cd G Dd∧LL L (xs.drop i) cr G Dr∧D=Dd++Dr
  len:done.length=i
  fr:∀y,y∉q::D→G y=G0 y
end Go.Proofs.Ytjdhigcefkihiaa
namespace Go.Proofs.Ytjdhigcefkihiaa
open Go Go.Sep Go.Pt
attribute [local irreducible] CallT
abbrev LE:List Ed→AV→Heap→List Nat→Prop:=LRow (LPl eE) 3
def LIc:Lay (List Int):=fun l cs G D=>∃x,cs=[x]∧LI l x G D
abbrev LII:List (List Int)→AV→Heap→List Nat→Prop:=LRow LIc 1
theorem LIc.local:Lay.Local LIc:=by
  rintro c cs G G' D ⟨x,e,h⟩ hf
  exact ⟨x,e,LRow.local (LPl.local eI) h hf⟩
theorem LIc.size:Lay.Size LIc 1:=by
  rintro c cs G D ⟨x,rfl,h⟩;rfl
theorem LIc.has:Lay.Has LIc:=by
  rintro c cs G D ⟨x,e,h⟩
  exact LRow.has (LPl.has eI) h
theorem LIc.frz:Lay.Frz LIc eL:=by
  rintro c cs G D v s pre post ⟨x,rfl,h⟩ hD hs hG
  obtain ⟨G',w,k,f⟩:=LRow.frzIn (e:=eI) (sz:=1) (pre:=pre) (post:=post) (v:=v) (by omega) (fun _=>rfl) (LPl.local eI) (LPl.frz eI) h hD hs (by rw [hG])
  exact ⟨G',w,by rw [k];rfl,f⟩
def LAu (a:Au) (v:AV) (G:Heap) (D:List Nat):Prop:=∃x y z D1 D2 D3,v=.agg [I a.states,x,y,z]∧D=D1++(D2++D3)∧LI a.first x G D1∧LE a.edges y G D2∧LII a.goals z G D3
theorem LAu.local {a:Au} {v:AV} {G G':Heap} {D:List Nat} (h:LAu a v G D) (hf:∀y∈D,∀b,G y=some b→G' y=some b):LAu a v G' D:=by
  obtain ⟨x,y,z,D1,D2,D3,e,rfl,h1,h2,h3⟩:=h
  exact ⟨x,y,z,D1,D2,D3,e,rfl,LRow.local (LPl.local eI) h1 (fun u hu=>hf u (by simp [hu])),LRow.local (LPl.local eE) h2 (fun u hu=>hf u (by simp [hu])),LRow.local LIc.local h3 (fun u hu=>hf u (by simp [hu]))⟩
theorem LAu.has {a:Au} {v:AV} {G:Heap} {D:List Nat} (h:LAu a v G D):∀y∈D,G y≠none:=by
  obtain ⟨x,y,z,D1,D2,D3,e,rfl,h1,h2,h3⟩:=h
  intro u hu
  simp only [List.mem_append] at hu
  rcases hu with hu | hu | hu
  · exact LRow.has (LPl.has eI) h1 u hu
  · exact LRow.has (LPl.has eE) h2 u hu
  · exact LRow.has LIc.has h3 u hu
theorem nd3' {A B C:List Nat} (h:(A++(B++C)).Nodup):A.Nodup∧B.Nodup∧C.Nodup∧(∀y∈A,y∉B)∧(∀y∈A,y∉C)∧(∀y∈B,y∉C):=by
  rw [List.nodup_append,List.nodup_append] at h
  obtain ⟨h1,⟨h2,h3,h4⟩,h5⟩:=h
  exact ⟨h1,h2,h3,fun y hy hb=>h5 y hy y (List.mem_append_left _ hb) rfl,fun y hy hb=>h5 y hy y (List.mem_append_right _ hb) rfl,fun y hy hb=>h4 y hy y hb rfl⟩
theorem LAu.wk {a:Au} {v:AV} {G:Heap} {D:List Nat} (h:LAu a v G D) (hD:D.Nodup) (C:AV→AV) (hC:∀{q sz es a a'},FrzR q sz es a a'→FrzR q sz es (C a) (C a')):∃G',Wk (C v) G (C (aAu a)) G'∧∀y,y∉D→G' y=G y:=by
  obtain ⟨x,y,z,D1,D2,D3,rfl,rfl,h1,h2,h3⟩:=h
  obtain ⟨n1,n2,n3,d12,d13,d23⟩:=nd3' hD
  obtain ⟨G1,w1,f1⟩:=LRow.frzV (e:=eI) (sz:=1) (v:=C (.agg [I a.states,x,y,z])) (v':=C (.agg [I a.states,Is a.first,y,z])) (by omega) (fun _=>rfl) (LPl.local eI) (LPl.frz eI) h1 n1
    (fun q _ hr=>hC (.agg (.cons (.same _) (.cons hr (.cons (.same _) (.cons (.same _) .nil))))))
  have h2':=LRow.local (LPl.local eE) h2 (G':=G1) fun u hu b hb=>by rw [f1 u (fun h=>d12 u h hu)];exact hb
  obtain ⟨G2,w2,f2⟩:=LRow.frzV (e:=eE) (sz:=3) (v:=C (.agg [I a.states,Is a.first,y,z])) (v':=C (.agg [I a.states,Is a.first,Es a.edges,z])) (by omega) (fun _=>rfl) (LPl.local eE) (LPl.frz eE) h2' n2
    (fun q _ hr=>hC (.agg (.cons (.same _) (.cons (.same _) (.cons hr (.cons (.same _) .nil))))))
  have h3':=LRow.local LIc.local h3 (G':=G2) fun u hu b hb=>by rw [f2 u (fun h=>d23 u h hu),f1 u (fun h=>d13 u h hu)];exact hb
  obtain ⟨G3,w3,f3⟩:=LRow.frzV (e:=eL) (sz:=1) (v:=C (.agg [I a.states,Is a.first,Es a.edges,z])) (v':=C (aAu a)) (by omega) (fun _=>rfl) LIc.local LIc.frz h3' n3
    (fun q _ hr=>hC (.agg (.cons (.same _) (.cons (.same _) (.cons (.same _) (.cons hr .nil))))))
  refine ⟨G3,.trans w1 (.trans w2 w3),fun u hu=>?_⟩
  simp only [List.mem_append,not_or] at hu
  rw [f3 u hu.2.2,f2 u hu.2.1,f1 u hu.1]
end Go.Proofs.Ytjdhigcefkihiaa
namespace Go.Proofs.Ytjdhigcefkihiaa
open Go Go.Sep Go.Pt
attribute [local irreducible] CallT
end Go.Proofs.Ytjdhigcefkihiaa
namespace Go.Proofs.Ytjdhigcefkihiaa
open Go Go.Sep Go.Pt
attribute [local irreducible] CallT
theorem cI_len (xs:List Int):(cP fI xs).length=xs.length:=by simp [cP]
theorem cI_app (xs ys:List Int):cP fI (xs++ys)=cP fI xs++cP fI ys:=by simp [cP]
theorem app_intsX {q:Nat} {xs ys:List Int} {ex:List AV} {G:Heap} {K:AV→Heap→Prop} (hq:G q=some (cP fI xs++ex)) (hl:xs.length+ys.length≤1000000000)
    (h:∀q',G q'=none→q'≠q→K (rowP q' (xs++ys)) ((G.del q).set q' (cP fI (xs++ys)))):appendV tab 23 23 (rowP q xs) (Is ys) G (wkK K):=by
  have hlen:=cI_len xs
  simp only [appendV,tab_23,tab_3,srcV,baseV,hq]
  have e2:List.map AV.p (List.map eI ys).flatten=cP fI ys:=flat_P fI ys
  refine ⟨szI ys,trivial,by rw [List.length_append,hlen];omega,by simp only [List.length_map];omega,by simp only [List.length_map];omega,cells_cell _,fun q' hq'=>wkK.keep ?_⟩
  have hne:q'≠q:=fun e=>by rw [e,hq] at hq';cases hq'
  have:=h q' hq' hne
  have e:List.take (xs.length*1) (List.drop 0 (cP fI xs++ex))=cP fI xs:=by rw [List.drop_zero,Nat.mul_one,← hlen,List.take_left]
  rw [e,e2,List.length_map]
  rw [cI_app] at this
  simpa only [rowP,List.length_append] using this
theorem lit0I {G:Heap} {K:AV→Heap→Prop} (h:∀q,G q=none→K (rowP q ([]:List Int)) (G.set q (cP fI []))):buildSliceV tab 23 0 [] G (wkK K):=by
  simp only [buildSliceV,tab_23,tab_3]
  refine ⟨by omega,?_⟩
  simp only [fillV,zerosA,List.replicate_zero,List.flatten_nil]
  exact fun r hr=>wkK.keep (h r hr)
def below (n:Nat):List Int:=(List.range n).map fun (i:Nat)=>(i:Int)
def smI (l:List Int):Prop:=l.length≤10000∧∀x∈l,0≤x∧x≤100000
theorem LI_mk' {xs:List Int} {q:Nat} {G:Heap} (h:G q=some (cP fI xs)):LI xs (rowP q xs) G [q]:=LI_mk (by
  have e:cells (xs.map eI)=cP fI xs:=cells_P fI xs
  rw [e];exact h)
end Go.Proofs.Ytjdhigcefkihiaa
namespace Go.Sep
open Go Go.RowKit
inductive FinK (K:AV→Heap→Prop):AV→Heap→Prop where
  | done {v:AV} {H:Heap} (h:K v H):FinK K v H
  | wk {v v':AV} {H H':Heap} (h:Wk v H v' H') (k:FinK K v' H'):FinK K v H
  | ghost {v:AV} {H:Heap} (k:∀z,H z=none→FinK K v (H.set z [])):FinK K v H
def RN {α:Type} (L:Lay α) (sz:Nat) (x:AV) (xs:List α) (G:Heap) (D:List Nat):Prop:=(x=.p .nil∧xs=[]∧D=[])∨LRow L sz xs x G D
theorem RN.local {α:Type} {L:Lay α} {sz:Nat} (hL:L.Local) {x:AV} {xs:List α} {G G':Heap} {D:List Nat} (h:RN L sz x xs G D) (hf:∀y∈D,∀b,G y=some b→G' y=some b):RN L sz x xs G' D:=by
  rcases h with h | h
  · exact .inl h
  · exact .inr (h.local hL hf)
theorem RN.has {α:Type} {L:Lay α} {sz:Nat} (hL:L.Has) {x:AV} {xs:List α} {G:Heap} {D:List Nat} (h:RN L sz x xs G D):∀y∈D,G y≠none:=by
  rcases h with ⟨h1,h2,rfl⟩ | h
  · intro y hy;cases hy
  · exact h.has hL
theorem RN.sl {α:Type} {L:Lay α} {sz:Nat} {x:AV} {xs:List α} {G:Heap} {D:List Nat} (h:RN L sz x xs G D):x=.p .nil∨∃q,x=.sl q sz 0 xs.length:=by
  rcases h with ⟨h1,_⟩ | ⟨q,cs,D',h1,_⟩
  · exact .inl h1
  · exact .inr ⟨q,h1⟩
def rnT {α:Type} {L:Lay α} (hL:L.Local) (hh:L.Has) (sz:Nat) (x:AV) (xs:List α) (D:List Nat):Th:=⟨D,fun G=>RN L sz x xs G D,fun h f=>h.local hL f,fun h=>h.has hh⟩
theorem LL.plain' {α:Type} {e:α→List PV} {G:Heap}:∀{xs:List α} {cs:List AV} {D:List Nat},LL (LPl e) xs cs G D→cs=cells (xs.map e)∧D=[]
  | [],_,_,⟨h1,h2⟩=>⟨h1,h2⟩
  | a::xs,_,_,⟨c1,c2,D1,D2,e1,e2,h1,h2⟩=>by
    obtain ⟨f1,f2⟩:=LL.plain' h2
    rw [e1,e2,h1.1,h1.2,f1,f2]
    exact ⟨by simp [cells],rfl⟩
theorem RN.app {tab:Tab} {t0 t1 e0 e1 sz:Nat} {d d1 ed:TD} {α:Type} {e:α→List PV} (h1:tab t0=some d) (h2:d.k=.slice e0) (h3:tab e0=some ed) (h4:tab t1=some d1) (h5:d1.k=.slice e1) (h6:ed.size=sz) {bz:Nat} (h7:ed.bytes=bz)
    (hsz:∀a,(e a).length=sz) {H G:Heap} {Ts:List Th} {x y:AV} {xs ys:List α} {D:List Nat} {hL:(LPl e).Local} {hh:(LPl e).Has} (s:St H Ts G) (i:Nat) (hi:Ts[i]?=some (rnT hL hh sz x xs D)) (hy:y=.p (.sl (ys.map e)))
    (hl:(xs.length+ys.length)*bz≤140737488355328) (hl2:xs.length+ys.length≤9223372036854775807) {K:AV→Heap→Prop}
    (h:∀q' G',G q'=none→St H (Ts.set i (rnT hL hh sz (.sl q' sz 0 (xs++ys).length) (xs++ys) [q'])) G'→K (.sl q' sz 0 (xs++ys).length) G'):appendV tab t0 t1 x y G (wkK K):=by
  subst hy
  have hrz:RN (LPl e) sz x xs G D:=s.get i hi
  rcases hrz with ⟨rfl,rfl,rfl⟩ | ⟨q,cs,D',rfl,hq,hll,rfl⟩
  · refine app_nil h1 h2 h3 h4 h5 h6 h7 (.inl rfl) (.inl rfl) (sizedMap hsz ys) (by simpa using hl) (by simpa using hl2) fun q' hq'=>?_
    have:=h q' _ hq' (s.repl i hi (rnT hL hh sz (.sl q' sz 0 ([]++ys).length) ([]++ys) [q']) (by simp [rnT]) (fun y hy=>by
      simp only [rnT,List.mem_singleton] at hy;subst hy;exact .inr hq') (G':=G.set q' (cells (ys.map e))) (fun y b hb _=>Heap.le_set hq' y b hb) (.inr ⟨q',_,[],rfl,Heap.set_same _ _ _,LL.plain _,rfl⟩))
    simpa [Go.Sep.own] using this
  · obtain ⟨rfl,rfl⟩:=LL.plain' hll
    have:=app_own (x:=.p (.sl (ys.map e))) (r:=q) (es:=xs.map e) (fs:=ys.map e) (H:=G) (K:=K) h1 h2 h3 h4 h5 h6 h7 (.inl rfl) hq (sizedMap hsz xs) (sizedMap hsz ys)
      (by simpa using hl) (by simpa using hl2) fun q' hq'=>by
        have:=h q' ((G.del q).set q' (cells ((xs++ys).map e))) hq' (s.repl i hi (rnT hL hh sz (.sl q' sz 0 (xs++ys).length) (xs++ys) [q']) (by simp [rnT]) (fun y hy=>by
          simp only [rnT,List.mem_singleton] at hy;subst hy;exact .inr hq') (fun y b hb hy=>by
            simp only [rnT,List.mem_singleton] at hy
            rw [Heap.set_other (fun e=>by rw [e,hq'] at hb;cases hb),Heap.del_other hy];exact hb) (.inr ⟨q',_,[],rfl,Heap.set_same _ _ _,LL.plain _,rfl⟩))
        simpa only [Go.Sep.own,List.length_map,List.map_append,List.length_append] using this
    simpa only [Go.Sep.own,List.length_map] using this
end Go.Sep
namespace Go.Proofs.Ytjdhigcefkihiaa
open Go Go.Sep Go.Pt
attribute [local irreducible] CallT
def LIn:Lay (List Int):=fun l cs G D=>∃x,cs=[x]∧RN (LPl eI) 1 x l G D
theorem LIn.local:Lay.Local LIn:=by
  rintro c cs G G' D ⟨x,e,h⟩ hf
  exact ⟨x,e,h.local (LPl.local eI) hf⟩
theorem LIn.has:Lay.Has LIn:=by
  rintro c cs G D ⟨x,e,h⟩
  exact h.has (LPl.has eI)
theorem LIn.size:Lay.Size LIn 1:=by
  rintro c cs G D ⟨x,rfl,h⟩;rfl
theorem st_appI {H G:Heap} {Ts:List Th} {q:Nat} {xs ys:List Int} (s:St H Ts G) (i:Nat) (hi:Ts[i]?=some (cellT q (cP fI xs))) (hl:xs.length+ys.length≤1000000000) {K:AV→Heap→Prop}
    (h:∀q' G',G q'=none→St H (Ts.set i (cellT q' (cP fI (xs++ys)))) G'→K (rowP q' (xs++ys)) G'):appendV tab 23 23 (rowP q xs) (Is ys) G (wkK K):=by
  have hq:G q=some (cP fI xs):=s.get i hi
  exact app_intsX (ex:=[]) (by rw [hq,List.append_nil]) hl fun q' hq' hne=>h q' _ hq' (s.moved i hi hq')
abbrev eBo (b:Bool):List PV:=[.bool b]
abbrev fB (b:Bool):PV:=.bool b
end Go.Proofs.Ytjdhigcefkihiaa
namespace Go.Pt
structure Sd where
  op:Int
  n:Int
instance:Inhabited Sd:=⟨⟨0,0⟩⟩
def need (op:Int):Int:=if op=1∨op=2 then 0 else if op=3∨op=4 then 1 else if op=5∨op=6∨op=7∨op=8 then 2 else -1
def sdOk (x:Sd):Bool:=if x.op=1 then decide (0≤x.n) && decide (x.n < 3) else if x.op=2 then decide (x.n=0) || decide (x.n=1) else decide (0 < need x.op) && decide (x.n=0)
theorem need_cases (op:Int):(need op=0∧(op=1∨op=2))∨(need op=1∧(op=3∨op=4))∨(need op=2∧(op=5∨op=6∨op=7∨op=8))∨need op=-1:=by
  unfold need
  by_cases h1:op=1∨op=2
  · rw [if_pos h1];exact .inl ⟨rfl,h1⟩
  rw [if_neg h1]
  by_cases h2:op=3∨op=4
  · rw [if_pos h2];exact .inr (.inl ⟨rfl,h2⟩)
  rw [if_neg h2]
  by_cases h3:op=5∨op=6∨op=7∨op=8
  · rw [if_pos h3];exact .inr (.inr (.inl ⟨rfl,h3⟩))
  rw [if_neg h3];exact .inr (.inr (.inr rfl))
theorem sdOk_need {x:Sd} (h:sdOk x=true):0≤need x.op∧need x.op≤2:=by
  unfold sdOk at h
  split at h
  · rename_i e;rw [e];decide
  · split at h
    · rename_i e;rw [e];decide
    · rw [Bool.and_eq_true,decide_eq_true_eq] at h
      rcases need_cases x.op with h1 | h1 | h1 | h1<;>omega
def vals (f:List Sd):Nat→Int
  | 0=>0
  | i+1=>vals f i+(1 - need (f.getD i default).op)
def sdAt (f:List Sd) (i:Nat):Bool:=sdOk (f.getD i default) && decide (need (f.getD i default).op≤vals f i)
def goodF (f:List Sd):Bool:=decide (1≤f.length) && decide (f.length≤16) && (List.range f.length).all (sdAt f) && decide (vals f f.length=1)
def stk (f:List Sd):Nat→List (Nat×Nat)
  | 0=>[]
  | i+1=>
    if need (f.getD i default).op=0 then (i,i)::stk f i
    else if need (f.getD i default).op=1 then (((stk f i).headD (0,0)).1,i)::(stk f i).tail
    else (((stk f i).tail.headD (0,0)).1,i)::(stk f i).tail.tail
def tst (f:List Sd) (k:Nat):Nat:=((stk f (k+1)).headD (0,0)).1
def Cont:Nat→List (Nat×Nat)→Prop
  | i,[]=>i=0
  | i,(s,k)::r=>k+1=i∧s≤k∧Cont s r
structure GoodFm (f:List Sd):Prop where
  l0:1≤f.length
  l1:f.length≤16
  ok:∀i,i < f.length→sdOk (f.getD i default)=true∧need (f.getD i default).op≤vals f i
  one:vals f f.length=1
theorem goodF_iff {f:List Sd}:goodF f=true↔GoodFm f:=by
  unfold goodF
  simp only [Bool.and_eq_true,decide_eq_true_eq,List.all_eq_true,List.mem_range,sdAt]
  exact ⟨fun h=>⟨h.1.1.1,h.1.1.2,h.1.2,h.2⟩,fun h=>⟨⟨⟨h.l0,h.l1⟩,h.ok⟩,h.one⟩⟩
theorem stk_len {f:List Sd} (g:GoodFm f):∀i,i≤f.length→((stk f i).length:Int)=vals f i:=by
  intro i
  induction i with
  | zero=>intro _;rfl
  | succ i ih=>
    intro hi
    have h1:=ih (by omega)
    have h2:=g.ok i (by omega)
    have h3:=sdOk_need h2.1
    have h4:=h2.2
    simp only [stk,vals]
    split
    · rename_i e;rw [List.length_cons];omega
    · split
      · rename_i e;rw [List.length_cons,List.length_tail];omega
      · rw [List.length_cons,List.length_tail,List.length_tail];omega
theorem stk_cont {f:List Sd} (g:GoodFm f):∀i,i≤f.length→Cont i (stk f i):=by
  intro i
  induction i with
  | zero=>intro _;rfl
  | succ i ih=>
    intro hi
    have h1:=ih (by omega)
    have h2:=g.ok i (by omega)
    have h3:=sdOk_need h2.1
    have h4:=h2.2
    have h5:=stk_len g i (by omega)
    simp only [stk]
    split
    · exact ⟨rfl,Nat.le_refl _,h1⟩
    · split
      · cases hs:stk f i with
        | nil=>rw [hs] at h5;simp at h5;omega
        | cons a r=>
          obtain ⟨s,k⟩:=a
          rw [hs] at h1
          obtain ⟨c1,c2,c3⟩:=h1
          exact ⟨rfl,by simp only [List.headD_cons];omega,by simpa using c3⟩
      · cases hs:stk f i with
        | nil=>rw [hs] at h5;simp at h5;omega
        | cons a r=>
          obtain ⟨s,k⟩:=a
          rw [hs] at h1 h5
          obtain ⟨c1,c2,c3⟩:=h1
          cases r with
          | nil=>simp at h5;omega
          | cons b r=>
            obtain ⟨s2,k2⟩:=b
            obtain ⟨d1,d2,d3⟩:=c3
            exact ⟨rfl,by simp only [List.tail_cons,List.headD_cons];omega,by simpa using d3⟩
theorem stk_below {f:List Sd} (g:GoodFm f):∀n i,i≤n→i≤f.length→∀s k r,stk f i=(s,k)::r→stk f s=r:=by
  intro n
  induction n with
  | zero => intro i hi _ s k r h; have : i = 0 := by omega
            subst this;cases h
  | succ n ih=>
    intro i hi hl s k r h
    cases i with
    | zero=>cases h
    | succ i=>
      have h2:=g.ok i (by omega)
      have h3:=sdOk_need h2.1
      have h4:=h2.2
      have h5:=stk_len g i (by omega)
      have hc:=stk_cont g i (by omega)
      simp only [stk] at h
      split at h
      · injection h with e1 e2
        injection e1 with e3 e4
        rw [← e3];exact e2
      · split at h
        · cases hs:stk f i with
          | nil=>rw [hs] at h5;simp at h5;omega
          | cons a r'=>
            obtain ⟨s',k'⟩:=a
            rw [hs] at h
            simp only [List.headD_cons,List.tail_cons] at h
            injection h with e1 e2
            injection e1 with e3 e4
            rw [← e3,← e2]
            exact ih i (by omega) (by omega) s' k' r' hs
        · cases hs:stk f i with
          | nil=>rw [hs] at h5;simp at h5;omega
          | cons a r'=>
            obtain ⟨s',k'⟩:=a
            have hb:=ih i (by omega) (by omega) s' k' r' hs
            rw [hs] at h h5 hc
            cases r' with
            | nil=>simp at h5;omega
            | cons b r''=>
              obtain ⟨s2,k2⟩:=b
              simp only [List.headD_cons,List.tail_cons] at h
              injection h with e1 e2
              injection e1 with e3 e4
              obtain ⟨c1,c2,c3⟩:=hc
              rw [← e3,← e2]
              exact ih s' (by omega) (by omega) s2 k2 r'' hb
theorem tst0 {f:List Sd} {k:Nat} (h:need (f.getD k default).op=0):tst f k=k:=by rw [tst,stk,if_pos h];rfl
theorem stk_top {f:List Sd} (g:GoodFm f) {k:Nat} (hk:k≤f.length) (h0:0 < k):∃r,stk f k=(tst f (k - 1),k - 1)::r∧tst f (k - 1)≤k - 1∧stk f (tst f (k - 1))=r:=by
  have hc:=stk_cont g k hk
  cases hs:stk f k with
  | nil=>rw [hs] at hc;have:k=0:=hc;omega
  | cons a r=>
    obtain ⟨s,j⟩:=a
    rw [hs] at hc
    obtain ⟨c1,c2,c3⟩:=hc
    have e:tst f (k - 1)=s:=by
      unfold tst
      rw [show k - 1+1=k by omega,hs];rfl
    have hb:=stk_below g k k (Nat.le_refl _) hk s j r hs
    refine ⟨r,?_,?_,?_⟩
    · rw [e,show j=k - 1 by omega]
    · rw [e];omega
    · rw [e];exact hb
theorem tst1 {f:List Sd} (g:GoodFm f) {k:Nat} (hk:k < f.length) (h:need (f.getD k default).op=1):1≤k∧tst f k=tst f (k - 1):=by
  have h2:=g.ok k hk
  have h5:=stk_len g k (by omega)
  have h0:0 < k:=by
    cases k with
    | zero=>simp [stk] at h5;omega
    | succ k=>omega
  obtain ⟨r,e,_,_⟩:=stk_top g (by omega:k≤f.length) h0
  refine ⟨h0,?_⟩
  rw [tst,stk,if_neg (by omega),if_pos h,e];rfl
theorem tst2 {f:List Sd} (g:GoodFm f) {k:Nat} (hk:k < f.length) (h:need (f.getD k default).op=2):1≤k∧1≤tst f (k - 1)∧tst f (k - 1)≤k - 1∧tst f k=tst f (tst f (k - 1) - 1)∧∃r,stk f k=(tst f (k - 1),k - 1)::(tst f (tst f (k - 1) - 1),tst f (k - 1) - 1)::r:=by
  have h2:=g.ok k hk
  have h5:=stk_len g k (by omega)
  have h0:0 < k:=by
    cases k with
    | zero=>simp [stk] at h5;omega
    | succ k=>omega
  obtain ⟨r,e,e1,e2⟩:=stk_top g (by omega:k≤f.length) h0
  have h6:0 < tst f (k - 1):=by
    rcases Nat.eq_zero_or_pos (tst f (k - 1)) with hz | hz
    · rw [hz] at e2
      have:r=[]:=e2.symm
      rw [e,this] at h5
      simp at h5;omega
    · exact hz
  obtain ⟨r2,f1,f2,f3⟩:=stk_top g (by omega:tst f (k - 1)≤f.length) h6
  rw [e2] at f1
  refine ⟨h0,h6,e1,?_,r2,by rw [e,f1]⟩
  rw [tst,stk,if_neg (by omega),if_neg (by omega),e,f1];rfl
def roots (f:List Sd) (i:Nat):List Int:=((stk f i).reverse.map fun x=>(x.2:Int))
def trAt (f:List Sd) (i:Nat):List Int:=if (f.getD i default).op=7∨(f.getD i default).op=8 then [(i:Int),(i:Int) - 1] else if (f.getD i default).op=4 then [(i:Int) - 1] else []
def trL (f:List Sd) (i:Nat):List Int:=((f.length:Int) - 1)::((List.range i).map (trAt f)).flatten
end Go.Pt
namespace Go.Sep
open Go Go.RowKit Go.Proofs.Ytjdhigcefkihiaa
structure ResT (R:AV→Heap→List Nat→Prop):Prop where
  loc:∀{r G G' D},R r G D→(∀y∈D,∀b,G y=some b→G' y=some b)→R r G' D
  gd:∀{r G D},R r G D→Gd2 r∧∀y∈D,∀bs,G y=some bs→∀c∈bs,GdC c
  sh:∀{r G D n G0},(∀q,n≤q→G0 q=none)→R r G D→R (sh2 n r) (Heap.or G0 (shH n G)) (D.map (·+n))
end Go.Sep
namespace Go.Proofs.Ytjdhigcefkihiaa
open Go Go.Sep Go.Pt
attribute [local irreducible] CallT
abbrev eD (x:Sd):List PV:=[.int .i64 x.op,.int .i64 x.n]
abbrev aD (x:Sd):AV:=.agg [I x.op,I x.n]
abbrev Ds (xs:List Sd):AV:=.p (.sl (xs.map eD))
abbrev rowD (q:Nat) (xs:List Sd):AV:=.sl q 2 0 xs.length
abbrev cD (xs:List Sd):List AV:=cells (xs.map eD)
theorem szD (xs:List Sd):Sized 2 (xs.map eD):=sizedMap (f:=eD) (fun _=>rfl) xs
end Go.Proofs.Ytjdhigcefkihiaa
namespace Go.Sep
open Go Go.RowKit Go.Sort Go.Proofs.Ytjdhigcefkihiaa
theorem Sim.ahead {Z:Fro} {φ:Pm} {B0:Nat} {w0 w:World} {H:Heap} (s:Sim Z φ B0 w0 H w) (n:Nat):Sim Z φ B0 w0 H (Go.Sort.ahead w n):=
  ⟨s.b0,⟨⟨s.below.os,s.below.tape,s.below.output,s.below.size,s.below.block⟩,s.below.drawn.trans (DrawnLe.same rfl)⟩,s.bnd,fun r blk e=>let ⟨pl,hp,hl⟩:=s.live r blk e;⟨pl,hp,hl.world fun _ h=>h⟩,s.disj,fun b i v hz=>s.froz b i v hz,s.zsep⟩
theorem mapBlock_setRow {w:World} {b:Nat} {cur:Array Value} {e:TypeId} {fr:Nat×Nat} (h:w.heap[b]?=some (.cells cur e fr)) (f:Array Value→Array Value):mapBlock w b f=w.setRow b (f cur):=by
  unfold mapBlock World.setRow
  congr 1
  apply Array.ext_getElem?
  intro k
  simp only [Array.getElem?_modify]
  by_cases hk:b=k
  · subst hk;simp [h,onCells]
  · simp [hk]
theorem Sim.grow {Z:Fro} {φ:Pm} {B0:Nat} {w0 w:World} {H:Heap} (s:Sim Z φ B0 w0 H w) (os:Array Obj):Sim Z φ B0 w0 H (Go.Sort.grow w os):=
  s.later ⟨⟨rfl,rfl,rfl,by simp,fun k hk=>heap_grow_old w os hk⟩,fun k o hk _=>(heap_grow_old w os (Array.getElem?_eq_some_iff.1 hk).1).trans hk⟩
theorem Sim.putInts {Z:Fro} {φ:Pm} {B0:Nat} {w0 w:World} {H:Heap} (s:Sim Z φ B0 w0 H w) {r:Nat} {zs zs':List Int} (hr:H r=some (zs.map fun n=>AV.p (.int .i64 n))) (hl:zs'.length=zs.length) (hpos:0 < zs.length) {pl:Place} (hp:φ r=some pl) (n:Nat) (os:Array Obj) :
    Sim Z φ B0 w0 (H.set r (zs'.map fun n=>AV.p (.int .i64 n))) (Go.Sort.grow (putRow (Value.int .i64) (Go.Sort.ahead w n) pl.b pl.o zs'.toArray) os):=by
  obtain ⟨pl',hp',hlive⟩:=s.live r _ hr
  rw [hp] at hp';cases hp'
  rcases hlive with ⟨_,h0⟩ | ⟨cur,e,h1,h2,h3,h4,h5⟩
  · cases zs with
    | nil=>simp at hpos
    | cons a zs=>simp at h0
  rw [List.length_map] at h3
  refine Sim.grow ?_ os
  have s1:=s.ahead n
  have h1':(Go.Sort.ahead w n).heap[pl.b]?=some (.cells cur e (0,0)):=h1
  rw [putRow,mapBlock_setRow h1']
  refine s1.setRow hr hp h1' (by omega) _ (by simp [putCells]) ?_ _ (by rw [List.length_map];omega) ?_
  · intro i hi
    simp only [putCells,Array.getElem?_mapIdx]
    cases cur[i]? with
    | none=>rfl
    | some v=>simp only [Option.map_some];rw [if_neg (by simp;omega)]
  · intro i av hi
    rw [List.getElem?_map] at hi
    cases hz:zs'[i]? with
    | none=>rw [hz] at hi;cases hi
    | some x=>
      rw [hz] at hi
      cases hi
      have hlt:i < zs'.length:=(List.getElem?_eq_some_iff.1 hz).1
      refine ⟨.int .i64 x,?_,.p (.int _ _)⟩
      have hc:pl.o+i < cur.size:=by omega
      simp only [putCells,Array.getElem?_mapIdx,Array.getElem?_eq_getElem hc,Option.map_some]
      rw [if_pos (by simp;omega)]
      have:(List.toArray zs')[pl.o+i - pl.o]! = x:=by
        rw [Nat.add_sub_cancel_left]
        have:=(List.getElem?_eq_some_iff.1 hz).2
        simp [hlt,this]
      rw [this]
theorem Sim.holdsInts {Z:Fro} {φ:Pm} {B0:Nat} {w0 w:World} {H:Heap} (s:Sim Z φ B0 w0 H w) {r:Nat} {zs:List Int} (hr:H r=some (zs.map fun n=>AV.p (.int .i64 n))) (hpos:0 < zs.length) {pl:Place} (hp:φ r=some pl) :
    Holds (Value.int .i64) w pl.b pl.o zs.toArray∧pl.b < w.heap.size:=by
  obtain ⟨pl',hp',hlive⟩:=s.live r _ hr
  rw [hp] at hp';cases hp'
  rcases hlive with ⟨_,h0⟩ | ⟨cur,e,h1,h2,h3,h4,h5⟩
  · cases zs with
    | nil=>simp at hpos
    | cons a zs=>simp at h0
  refine ⟨fun j hj=>⟨?_,?_⟩,(Array.getElem?_eq_some_iff.1 h1).1⟩
  · have hj':j < zs.length:=by simpa using hj
    have hz:zs[j]?=some zs[j]:=List.getElem?_eq_getElem hj'
    obtain ⟨x,hx,hc⟩:=h5 j (.p (.int .i64 zs[j])) (by rw [List.getElem?_map,hz];rfl)
    have ex:x=.int .i64 zs[j]:=by
      cases hc with
      | p h=>cases h;rfl
    rw [cell_of_row w pl.b _ cur e _ h1,hx,ex]
    simp [hj']
  · unfold World.frozen?
    rw [h1];simp
theorem CallT.inPlace {P:Program} {f:Nat} (hb:HasBody P f) {H:Heap} {q:Nat} {zs:List Int} (hq:H q=some (zs.map fun n=>AV.p (.int .i64 n))) (g:List Int) (hg:g.length=zs.length)
    (hc:∀blk off cap w,zs.length≤cap→Holds (Value.int .i64) w blk off zs.toArray→blk < w.heap.size→Calls P f #[.slice (some ⟨blk,off,none⟩) zs.length cap] w fun e w'=>
      e=.returned (.tuple #[])∧∃n os,w'=Go.Sort.grow (putRow (Value.int .i64) (Go.Sort.ahead w n) blk off g.toArray) os)
    (hn:zs=[]→∀p cap w,Calls P f #[.slice p 0 cap] w fun e w'=>e=.returned (.tuple #[])∧w'=w)
    {K:AV→Heap→Prop} (h:K (.tup []) (H.set q (g.map fun n=>AV.p (.int .i64 n)))):CallT P f [.sl q 1 0 zs.length] H K:=by
  refine ⟨hb,?_⟩
  intro B0 w0 F Z φ w xs hd hs ha
  obtain ⟨hsz,hrel⟩:=ha
  obtain ⟨x,rfl⟩:∃x,xs=#[x]:=by
    have h1:xs.size=1:=hsz
    exact ⟨xs[0],by
      apply Array.ext
      · simp [h1]
      · intro i hi1 hi2
        have:i=0:=by simp at hi2;omega
        subst this;simp⟩
  have hx:=hrel 0 (.sl q 1 0 zs.length) x rfl rfl
  have hq':(H.or F) q=some (zs.map fun n=>AV.p (.int .i64 n)):=Heap.or_left hq
  have hFq:F q=none:=hd q (by rw [hq];simp)
  have empty:zs=[]→∀a c,x=.slice a 0 c→Calls P f #[x] w (fun e w'=>∃x,e=.returned x∧UpV B0 w0 F Z φ K x w'):=by
    rintro rfl a c rfl
    refine (hn rfl a c w).mono ?_
    rintro e w' ⟨rfl,rfl⟩
    have hg0:g=[]:=List.eq_nil_of_length_eq_zero hg
    subst hg0
    have hset:H.set q []=H:=by
      funext y
      by_cases e:y=q
      · subst e;rw [Heap.set_same];exact hq.symm
      · rw [Heap.set_other e]
    refine ⟨_,rfl,.tup [],H,Z,φ,?_,Fro.le_refl _,Pm.le_refl _,hd,hs,.tup [] #[] rfl (fun i av x h=>by simp at h)⟩
    rw [← hset];exact h
  generalize hm:zs.length=m at hx
  cases hx with
  | slz _ _ _ a=>exact empty (List.eq_nil_of_length_eq_zero hm) a 0 rfl
  | sl hp hl hC=>
    rename_i c pl
    subst hm
    by_cases h0:zs.length=0
    · exact empty (List.eq_nil_of_length_eq_zero h0) _ _ (by rw [h0])
    have hh:=hs.holdsInts hq' (by omega) hp
    refine (hc pl.b pl.o c w hl hh.1 hh.2).mono ?_
    rintro e w' ⟨rfl,n,os,rfl⟩
    have s2:=hs.putInts (zs':=g) hq' hg (by omega) hp n os
    refine ⟨_,rfl,.tup [],H.set q (g.map fun n=>AV.p (.int .i64 n)),Z,φ,h,Fro.le_refl _,Pm.le_refl _,hd.set hFq,?_,.tup [] #[] rfl (fun i av x h=>by simp at h)⟩
    rw [Heap.or_set];exact s2
theorem CallT.inPlaceC {P:Program} {f:Nat} (hb:HasBody P f) {H:Heap} {q:Nat} {zs:List Int} (hq:H q=some (zs.map fun n=>AV.p (.int .i64 n))) (g tl:List Int) (hg:(g++tl).length=zs.length)
    (hc:∀blk off cap w,zs.length≤cap→Holds (Value.int .i64) w blk off zs.toArray→blk < w.heap.size→Calls P f #[.slice (some ⟨blk,off,none⟩) zs.length cap] w fun e w'=>
      e=.returned (.slice (some ⟨blk,off,none⟩) g.length cap)∧∃n,w'=putRow (Value.int .i64) (Go.Sort.ahead w n) blk off (g++tl).toArray)
    (hn:zs=[]→∀p cap w,Calls P f #[.slice p 0 cap] w fun e w'=>e=.returned (.slice p 0 cap)∧w'=w)
    {K:AV→Heap→Prop} (h:K (.sl q 1 0 g.length) (H.set q ((g++tl).map fun n=>AV.p (.int .i64 n)))):CallT P f [.sl q 1 0 zs.length] H K:=by
  refine ⟨hb,?_⟩
  intro B0 w0 F Z φ w xs hd hs ha
  obtain ⟨hsz,hrel⟩:=ha
  obtain ⟨x,rfl⟩:∃x,xs=#[x]:=by
    have h1:xs.size=1:=hsz
    exact ⟨xs[0],by
      apply Array.ext
      · simp [h1]
      · intro i hi1 hi2
        have:i=0:=by simp at hi2;omega
        subst this;simp⟩
  have hx:=hrel 0 (.sl q 1 0 zs.length) x rfl rfl
  have hq':(H.or F) q=some (zs.map fun n=>AV.p (.int .i64 n)):=Heap.or_left hq
  have hFq:F q=none:=hd q (by rw [hq];simp)
  have empty:zs=[]→∀a c,x=.slice a 0 c→Cv Z φ (.sl q 1 0 0) x→Calls P f #[x] w (fun e w'=>∃x,e=.returned x∧UpV B0 w0 F Z φ K x w'):=by
    rintro rfl a c rfl hcv
    refine (hn rfl a c w).mono ?_
    rintro e w' ⟨rfl,rfl⟩
    have hg0:=List.eq_nil_of_length_eq_zero hg
    rw [List.append_eq_nil_iff] at hg0
    obtain ⟨rfl,rfl⟩:=hg0
    have hset:H.set q []=H:=by
      funext y
      by_cases e:y=q
      · subst e;rw [Heap.set_same];exact hq.symm
      · rw [Heap.set_other e]
    refine ⟨_,rfl,_,H,Z,φ,?_,Fro.le_refl _,Pm.le_refl _,hd,hs,hcv⟩
    rw [← hset];exact h
  have hx0:=hx
  generalize hm:zs.length=m at hx
  cases hx with
  | slz _ _ _ a=>exact empty (List.eq_nil_of_length_eq_zero hm) a 0 rfl (.slz _ _ _ _)
  | sl hp hl hC=>
    rename_i c pl
    subst hm
    by_cases h0:zs.length=0
    · exact empty (List.eq_nil_of_length_eq_zero h0) _ _ (by rw [h0]) (by rw [h0] at hx0;rw [h0];exact hx0)
    have hh:=hs.holdsInts hq' (by omega) hp
    refine (hc pl.b pl.o c w hl hh.1 hh.2).mono ?_
    rintro e w' ⟨rfl,n,rfl⟩
    have s2:=hs.putInts (zs':=g++tl) hq' hg (by omega) hp n #[]
    rw [Go.Sort.grow_empty] at s2
    rw [List.length_append] at hg
    refine ⟨_,rfl,.sl q 1 0 g.length,H.set q ((g++tl).map fun n=>AV.p (.int .i64 n)),Z,φ,h,Fro.le_refl _,Pm.le_refl _,hd.set hFq,?_,.sl hp (by omega) hC⟩
    rw [Heap.or_set];exact s2
end Go.Sep
/-
  DERIVED: THE SHELF's CONTRACTS AT THIS DUMP,IN PLAIN WORDS (tools/lay-plain.mjs out of 'YtjdhigcefkihiaaLay.lean',which tools/lay-shelf.mjs wrote): THE SAME DECLARATIONS UNDER THE SAME NAMES: 'import','namespace','open','def','theorem' AND NOTHING ELSE: no command of the shelf's: FOR A HAND-IN. Each laying: the table of numbers ('.._ren') and one theorem,a field a fact of the dump's own or the kernel's comparison;each contract: ONE APPLICATION.
-/
namespace Go.Proofs
open Go.Shelf
def Try.laySort_ren:Go.Shelf.Ren:=⟨fun | 53=>105 | 64=>127 | 63=>126 | 78=>147 | 79=>148 | 70=>138 | 71=>139 | 72=>140 | 73=>141 | 74=>142 | 75=>143 | 59=>144 | 76=>145 | 77=>146 | 88=>152 | 89=>153 | 90=>154 | 91=>155 | 92=>156 | 68=>157 | 96=>160 | n=>n,fun | 22=>23 | 23=>3 | 3=>3 | 51=>77 | 0=>0 | 67=>134 | 69=>74 | 4=>4 | 61=>128 | 60=>127 | 44=>67 | 5=>5 | 9=>9 | 75=>140 | 79=>144 | 83=>148 | 84=>149 | n=>n,fun | n=>n⟩
theorem Try.laySort:Go.Proofs.SlLaysN.n53 Try.prog Try.laySort_ren:={
  mixed:=by kernel_rfl
  f53:=⟨Try.f105.name,by decide,Try.func105.trans (congrArg some (by kernel_rfl))⟩
  f59:=⟨Try.f144.name,by decide,Try.func144.trans (congrArg some (by kernel_rfl))⟩
  f63:=⟨Try.f126.name,by decide,Try.func126.trans (congrArg some (by kernel_rfl))⟩
  f64:=Try.func127.trans (congrArg some (by kernel_rfl))
  f68:=⟨Try.f157.name,by decide,Try.func157.trans (congrArg some (by kernel_rfl))⟩
  f70:=⟨Try.f138.name,by decide,Try.func138.trans (congrArg some (by kernel_rfl))⟩
  f71:=⟨Try.f139.name,by decide,Try.func139.trans (congrArg some (by kernel_rfl))⟩
  f72:=⟨Try.f140.name,by decide,Try.func140.trans (congrArg some (by kernel_rfl))⟩
  f73:=⟨Try.f141.name,by decide,Try.func141.trans (congrArg some (by kernel_rfl))⟩
  f74:=⟨Try.f142.name,by decide,Try.func142.trans (congrArg some (by kernel_rfl))⟩
  f75:=⟨Try.f143.name,by decide,Try.func143.trans (congrArg some (by kernel_rfl))⟩
  f76:=⟨Try.f145.name,by decide,Try.func145.trans (congrArg some (by kernel_rfl))⟩
  f77:=⟨Try.f146.name,by decide,Try.func146.trans (congrArg some (by kernel_rfl))⟩
  f78:=Try.func147.trans (congrArg some (by kernel_rfl))
  f79:=Try.func148.trans (congrArg some (by kernel_rfl))
  f88:=⟨Try.f152.name,by decide,Try.func152.trans (congrArg some (by kernel_rfl))⟩
  f89:=Try.func153.trans (congrArg some (by kernel_rfl))
  f90:=Try.func154.trans (congrArg some (by kernel_rfl))
  f91:=⟨Try.f155.name,by decide,Try.func155.trans (congrArg some (by kernel_rfl))⟩
  f92:=⟨Try.f156.name,by decide,Try.func156.trans (congrArg some (by kernel_rfl))⟩
  f96:=⟨Try.f160.name,by decide,Try.func160.trans (congrArg some (by kernel_rfl))⟩
  t0:=Try.underlying0
  a0:=Try.isAgg0
  z0:=Try.sizeOf0
  v0:=Try.zeroValue0
  t3:=Try.underlying3
  a3:=Try.isAgg3
  z3:=Try.sizeOf3
  v3:=Try.zeroValue3
  t4:=Try.underlying4
  a4:=Try.isAgg4
  z4:=Try.sizeOf4
  v4:=Try.zeroValue4
  t5:=Try.underlying5
  a5:=Try.isAgg5
  z5:=Try.sizeOf5
  v5:=Try.zeroValue5
  t9:=Try.underlying9
  a9:=Try.isAgg9
  z9:=Try.sizeOf9
  v9:=Try.zeroValue9
  t22:=Try.underlying23
  a22:=Try.isAgg23
  z22:=Try.sizeOf23
  v22:=Try.zeroValue23
  t23:=Try.underlying3
  a23:=Try.isAgg3
  z23:=Try.sizeOf3
  v23:=Try.zeroValue3
  t44:=Try.underlying67
  a44:=Try.isAgg67
  z44:=Try.sizeOf67
  v44:=Try.zeroValue67
  t51:=Try.underlying77
  a51:=Try.isAgg77
  z51:=Try.sizeOf77
  v51:=Try.zeroValue77
  t60:=Try.underlying127
  a60:=Try.isAgg127
  z60:=Try.sizeOf127
  v60:=Try.zeroValue127
  t61:=Try.underlying128
  a61:=Try.isAgg128
  z61:=Try.sizeOf128
  v61:=Try.zeroValue128
  t67:=Try.underlying134
  a67:=Try.isAgg134
  z67:=Try.sizeOf134
  v67:=Try.zeroValue134
  t69:=Try.underlying74
  a69:=Try.isAgg74
  z69:=Try.sizeOf74
  v69:=Try.zeroValue74
  t75:=Try.underlying140
  a75:=Try.isAgg140
  z75:=Try.sizeOf140
  v75:=Try.zeroValue140
  t79:=Try.underlying144
  a79:=Try.isAgg144
  z79:=Try.sizeOf144
  v79:=Try.zeroValue144
  t83:=Try.underlying148
  a83:=Try.isAgg148
  z83:=Try.sizeOf148
  v83:=Try.zeroValue148
  t84:=Try.underlying149
  a84:=Try.isAgg149
  z84:=Try.sizeOf149
  v84:=Try.zeroValue149 }
def Try.layCompact_ren:Go.Shelf.Ren:=⟨fun | 43=>106 | n=>n,fun | 22=>23 | 23=>3 | 3=>3 | 4=>4 | 0=>0 | n=>n,fun | n=>n⟩
theorem Try.layCompact:Go.Proofs.SlLaysN.n43 Try.prog Try.layCompact_ren:={
  mixed:=by kernel_rfl
  f43:=⟨Try.f106.name,by decide,Try.func106.trans (congrArg some (by kernel_rfl))⟩
  t0:=Try.underlying0
  a0:=Try.isAgg0
  z0:=Try.sizeOf0
  v0:=Try.zeroValue0
  t3:=Try.underlying3
  a3:=Try.isAgg3
  z3:=Try.sizeOf3
  v3:=Try.zeroValue3
  t4:=Try.underlying4
  a4:=Try.isAgg4
  z4:=Try.sizeOf4
  v4:=Try.zeroValue4
  t22:=Try.underlying23
  a22:=Try.isAgg23
  z22:=Try.sizeOf23
  v22:=Try.zeroValue23
  t23:=Try.underlying3
  a23:=Try.isAgg3
  z23:=Try.sizeOf3
  v23:=Try.zeroValue3
  i23:=by kernel_rfl }
end Go.Proofs
namespace Go.Pt
def sc (zs:List Int):List Int:=Lib.compact (zs.mergeSort fun x y=>decide (x≤y))
theorem compact_len (ys:List Int):(Lib.compact ys).length≤ys.length:=by
  unfold Lib.compact Lib.compactUpTo
  rw [List.length_map]
  exact Nat.le_trans (List.length_filter_le _ _) (by simp)
theorem sc_len (zs:List Int):(sc zs).length≤zs.length:=by
  unfold sc
  exact Nat.le_trans (compact_len _) (by rw [List.length_mergeSort];exact Nat.le_refl _)
def put (l:List Int) (n:Int):List Int:=if n∈l then l else l.takeWhile (· < n)++n::l.dropWhile (· < n)
end Go.Pt
namespace Go.Proofs.Ytjdhigcefkihiaa
open Go Go.Sep Go.Pt Go.RowKit
abbrev srt (zs:List Int):List Int:=zs.mergeSort fun x y=>decide (x≤y)
theorem Sort_hb:HasBody Try.prog 105:=⟨_,bodyOf Try.f105,Try.func105,by kernel_rfl,rfl⟩
theorem Compact_hb:HasBody Try.prog 106:=⟨_,bodyOf Try.f106,Try.func106,by kernel_rfl,rfl⟩
theorem Sort_row {H:Heap} {q:Nat} {zs:List Int} {K:AV→Heap→Prop} (hq:H q=some (zs.map fun n=>AV.p (.int .i64 n))) (hl:zs.length≤1000000000) (h:K (.tup []) (H.set q ((srt zs).map fun n=>AV.p (.int .i64 n)))):CallT Try.prog 105 [.sl q 1 0 zs.length] H K:=
  CallT.inPlace Sort_hb hq (srt zs) (List.length_mergeSort ..) (fun blk off cap w _ hH hb=>AnyG.slices_Sort_int Try.laySort blk off cap zs w hH hb (by omega)) (fun _ p cap w=>AnyG.slices_Sort_int_none Try.laySort p cap w) h
theorem Compact_row {H:Heap} {q:Nat} {zs:List Int} {K:AV→Heap→Prop} (hq:H q=some (zs.map fun n=>AV.p (.int .i64 n))) (hl:zs.length≤1000000000) (h:K (.sl q 1 0 (Lib.compact zs).length) (H.set q ((Lib.compact zs).map fun n=>AV.p (.int .i64 n)))):CallT Try.prog 106 [.sl q 1 0 zs.length] H K:=by
  refine CallT.fin ?_
  refine CallT.inPlaceC Compact_hb hq (Lib.compact zs) (List.replicate (zs.length - (Lib.compact zs).length) 0) (by have:=compact_len zs;rw [List.length_append,List.length_replicate];omega) (fun blk off cap w hc hH hb=>AnyG.slices_Compact_int Try.layCompact blk off cap zs w hH (by omega) hc) (fun _ p cap w=>AnyG.slices_Compact_int_empty Try.layCompact p cap w) ?_
  refine ⟨_,_,.cell (cs':=(Lib.compact zs).map fun n=>AV.p (.int .i64 n)) (Heap.set_same _ _ _) (by rw [List.map_append,List.length_append];omega) (fun i a a' h1 h2=>?_),?_⟩
  · rw [List.map_append,List.getElem?_append_left (List.getElem?_eq_some_iff.1 h2).1,h2] at h1
    cases h1;exact .refl _
  · rw [Heap.set_set];exact h
end Go.Proofs.Ytjdhigcefkihiaa
namespace Go.Proofs.Ytjdhigcefkihiaa
open Go Go.Sep Go.Pt
attribute [local irreducible] CallT
def GAt (x:AV) (gs:List (List Int)) (G:Heap) (D:List Nat):Prop:=∃cs D',LL LIc gs cs G D'∧((x=.p .nil∧cs=[]∧D=[])∨∃q,x=.sl q 1 0 gs.length∧G q=some cs∧D=q::D')
theorem GAt.nil (G:Heap):GAt (.p .nil) [] G []:=⟨[],[],⟨rfl,rfl⟩,.inl ⟨rfl,rfl,rfl⟩⟩
theorem GAt.local {x:AV} {gs:List (List Int)} {G G':Heap} {D:List Nat} (g:GAt x gs G D) (h:∀y∈D,∀b,G y=some b→G' y=some b):GAt x gs G' D:=by
  obtain ⟨cs,D',hl,h1⟩:=g
  rcases h1 with ⟨rfl,rfl,rfl⟩ | ⟨q,rfl,hq,rfl⟩
  · cases gs with
    | nil=>obtain ⟨_,rfl⟩:=hl;exact ⟨[],[],⟨rfl,rfl⟩,.inl ⟨rfl,rfl,rfl⟩⟩
    | cons a gs=>obtain ⟨c1,c2,D1,D2,e,_,⟨z,rfl,_⟩,_⟩:=hl;simp at e
  · exact ⟨cs,D',LL.local LIc.local hl (fun y hy b hb=>h y (List.mem_cons_of_mem _ hy) b hb),.inr ⟨q,rfl,h q (List.mem_cons_self ..) _ hq,rfl⟩⟩
theorem GAt.push {x:AV} {gs:List (List Int)} {G:Heap} {D:List Nat} {l:List Int} {qn ql:Nat} {K:AV→Heap→Prop} (g:GAt x gs G D) (hD:D.Nodup) (hl:G qn=some (cP fI l)) (hn:qn∉D) (hql:G ql=some [rowP qn l]) (hlen:gs.length≤1000)
    (h:∀q' G' D'',G q'=none→GAt (.sl q' 1 0 (gs.length+1)) (gs++[l]) G' D''→D''.Nodup→(∀y∈D'',y∈D∨y=qn∨y=q')→(∀y b,G y=some b→y∉D→G' y=some b)→K (.sl q' 1 0 (gs.length+1)) G') :
    appendV tab 110 110 x (.sl ql 1 0 1) G (wkK K):=by
  obtain ⟨cs,D',hll,h1⟩:=g
  have hcl:cs.length=gs.length:=by rw [LL.size LIc.size hll,Nat.mul_one]
  have hqnN:∀{q'},G q'=none→q'≠qn:=fun hq' e=>by rw [e,hl] at hq';cases hq'
  simp only [appendV,tab_110,tab_23,srcV,hql]
  rcases h1 with ⟨rfl,rfl,rfl⟩ | ⟨q,rfl,hq,rfl⟩
  · have hgs:gs=[]:=List.eq_nil_of_length_eq_zero hcl.symm
    subst hgs
    obtain ⟨_,rfl⟩:=hll
    simp only [baseV]
    refine ⟨trivial,by simp,by omega,by omega,rfl,fun q' hq'=>wkK.keep ?_⟩
    have hlL:LI l (rowP qn l) (G.set q' ([]++[rowP qn l])) [qn]:=LI_mk' (by rw [Heap.set_other (Ne.symm (hqnN hq'))];exact hl)
    refine h q' _ [q',qn] hq' ⟨[rowP qn l],[qn],?_,.inr ⟨q',rfl,Heap.set_same _ _ _,rfl⟩⟩ (by simp [hqnN hq']) (fun y hy=>by simp at hy;rcases hy with rfl | rfl<;>simp) (fun y b hb _=>by rw [Heap.set_other (fun e=>by rw [e,hq'] at hb;cases hb)];exact hb)
    exact ⟨[rowP qn l],[],[qn],[],rfl,by simp,⟨_,rfl,hlL⟩,⟨rfl,rfl⟩⟩
  · rw [List.mem_cons,not_or] at hn
    rw [List.nodup_cons] at hD
    simp only [baseV,hq]
    have e1:List.take (gs.length*1) (List.drop 0 cs)=cs:=by rw [List.drop_zero,Nat.mul_one,← hcl,List.take_length]
    have e2:List.take (1*1) (List.drop 0 [rowP qn l])=[rowP qn l]:=rfl
    refine ⟨trivial,by simp,trivial,by omega,by omega,by omega,rfl,fun q' hq'=>wkK.keep ?_⟩
    rw [e1,e2]
    have nq:q'≠q:=fun e=>by rw [e,hq] at hq';cases hq'
    have old:∀y b,G y=some b→y≠q→((G.del q).set q' (cs++[rowP qn l])) y=some b:=fun y b hb hy=>by
      rw [Heap.set_other (fun e=>by rw [e,hq'] at hb;cases hb),Heap.del_other hy];exact hb
    have hlL:LI l (rowP qn l) ((G.del q).set q' (cs++[rowP qn l])) [qn]:=LI_mk' (old _ _ hl hn.1)
    have hnD:∀y∈D',y≠q:=fun y hy e=>hD.1 (e ▸ hy)
    refine h q' _ (q'::(D'++[qn])) hq' ⟨cs++[rowP qn l],D'++[qn],LL.snoc ⟨_,rfl,hlL⟩ (LL.local LIc.local hll fun y hy b hb=>old y b hb (hnD y hy)),.inr ⟨q',by simp,Heap.set_same _ _ _,rfl⟩⟩ ?_ ?_ ?_
    · have hq'D:q'∉D':=fun hm=>LL.has LIc.has hll q' hm hq'
      rw [List.nodup_cons,List.nodup_append]
      refine ⟨by simp only [List.mem_append,List.mem_singleton,not_or];exact ⟨hq'D,hqnN hq'⟩,hD.2,by simp,fun a ha b hb e=>?_⟩
      rw [List.mem_singleton] at hb
      exact hn.2 (by rw [← hb,← e];exact ha)
    · intro y hy
      simp only [List.mem_cons,List.mem_append,List.not_mem_nil,or_false] at hy ⊢
      rcases hy with rfl | hy | rfl
      · exact .inr (.inr rfl)
      · exact .inl (.inr hy)
      · exact .inr (.inl rfl)
    · intro y b hb hy
      rw [List.mem_cons,not_or] at hy
      exact old y b hb hy.1
end Go.Proofs.Ytjdhigcefkihiaa
namespace Go.Proofs.Ytjdhigcefkihiaa
open Go Go.Sep Go.Pt
attribute [local irreducible] CallT
def RZ {α:Type} (L:Lay α) (sz z:Nat) (x:AV) (xs:List α) (G:Heap) (D:List Nat):Prop:=(x=.p .nil∧xs=[]∧D=[z]∧G z=some [])∨LRow L sz xs x G D
theorem RZ.local {α:Type} {L:Lay α} {sz z:Nat} (hL:L.Local) {x:AV} {xs:List α} {G G':Heap} {D:List Nat} (h:RZ L sz z x xs G D) (hf:∀y∈D,∀b,G y=some b→G' y=some b):RZ L sz z x xs G' D:=by
  rcases h with ⟨h1,h2,rfl,h3⟩ | h
  · exact .inl ⟨h1,h2,rfl,hf z (by simp) _ h3⟩
  · exact .inr (h.local hL hf)
theorem RZ.has {α:Type} {L:Lay α} {sz z:Nat} (hL:L.Has) {x:AV} {xs:List α} {G:Heap} {D:List Nat} (h:RZ L sz z x xs G D):∀y∈D,G y≠none:=by
  rcases h with ⟨h1,h2,rfl,h3⟩ | h
  · intro y hy;rw [List.mem_singleton.1 hy,h3];simp
  · exact h.has hL
theorem RZ.row {α:Type} {L:Lay α} {sz z:Nat} {x:AV} {xs:List α} {G:Heap} {D:List Nat} (h:RZ L sz z x xs G D):∃x',AV.wk x x'∧LRow L sz xs x' G D:=by
  rcases h with ⟨rfl,rfl,rfl,h3⟩ | h
  · exact ⟨.sl z sz 0 0,.nilo _ _ _,z,[],[],rfl,h3,⟨rfl,rfl⟩,rfl⟩
  · exact ⟨x,.refl _,h⟩
theorem RZ.sl {α:Type} {L:Lay α} {sz z:Nat} {x:AV} {xs:List α} {G:Heap} {D:List Nat} (h:RZ L sz z x xs G D):x=.p .nil∨∃q,x=.sl q sz 0 xs.length:=by
  rcases h with ⟨h1,_⟩ | ⟨q,cs,D',h1,_⟩
  · exact .inl h1
  · exact .inr ⟨q,h1⟩
def rzT {α:Type} {L:Lay α} (hL:L.Local) (hh:L.Has) (sz z:Nat) (x:AV) (xs:List α) (D:List Nat):Th:=⟨D,fun G=>RZ L sz z x xs G D,fun h f=>h.local hL f,fun h=>h.has hh⟩
theorem lent {α:Type} {L:Lay α} (hL:L.Local) (hh:L.Has) (sz:Nat) {H G:Heap} {Ts:List Th} {z:Nat} (s:St H Ts G) (i:Nat) (h:Ts[i]?=some (cellT z [])):St H (Ts.set i (rzT hL hh sz z (.p .nil) [] [z])) G:=
  s.repl i h _ (by simp [rzT]) (fun y hy=>.inl hy) (fun y b hb _=>hb) (.inl ⟨rfl,rfl,rfl,s.get i h⟩)
theorem RZ.app {tab:Tab} {t0 t1 e0 e1 sz z:Nat} {d d1 ed:TD} {α:Type} {e:α→List PV} (h1:tab t0=some d) (h2:d.k=.slice e0) (h3:tab e0=some ed) (h4:tab t1=some d1) (h5:d1.k=.slice e1) (h6:ed.size=sz) {bz:Nat} (h7:ed.bytes=bz)
    (hsz:∀a,(e a).length=sz) {H G:Heap} {Ts:List Th} {x y:AV} {xs ys:List α} {D:List Nat} {hL:(LPl e).Local} {hh:(LPl e).Has} (s:St H Ts G) (i:Nat) (hi:Ts[i]?=some (rzT hL hh sz z x xs D)) (hy:y=.p (.sl (ys.map e)))
    (hl:(xs.length+ys.length)*bz≤140737488355328) (hl2:xs.length+ys.length≤9223372036854775807) {K:AV→Heap→Prop}
    (h:∀q' G',G q'=none→St H (Ts.set i (rzT hL hh sz z (.sl q' sz 0 (xs++ys).length) (xs++ys) [q'])) G'→K (.sl q' sz 0 (xs++ys).length) G'):appendV tab t0 t1 x y G (wkK K):=by
  subst hy
  have hrz:RZ (LPl e) sz z x xs G D:=s.get i hi
  rcases hrz with ⟨rfl,rfl,rfl,hz⟩ | ⟨q,cs,D',rfl,hq,hll,rfl⟩
  · refine app_nil h1 h2 h3 h4 h5 h6 h7 (.inl rfl) (.inl rfl) (sizedMap hsz ys) (by simpa using hl) (by simpa using hl2) fun q' hq'=>?_
    have:=h q' _ hq' (s.repl i hi (rzT hL hh sz z (.sl q' sz 0 ([]++ys).length) ([]++ys) [q']) (by simp [rzT]) (fun y hy=>by
      simp only [rzT,List.mem_singleton] at hy;subst hy;exact .inr hq') (G':=G.set q' (cells (ys.map e))) (fun y b hb _=>Heap.le_set hq' y b hb) (.inr ⟨q',_,[],rfl,Heap.set_same _ _ _,LL.plain _,rfl⟩))
    simpa [Go.Sep.own] using this
  · have hq0:cs=cells (xs.map e)∧D'=[]:=by
      have key:∀(xs:List α) (cs:List AV) (D:List Nat),LL (LPl e) xs cs G D→cs=cells (xs.map e)∧D=[]:=by
        intro xs
        induction xs with
        | nil=>rintro cs D ⟨rfl,rfl⟩;exact ⟨rfl,rfl⟩
        | cons a xs ih=>
          rintro cs D ⟨c1,c2,D1,D2,rfl,rfl,⟨rfl,rfl⟩,h2⟩
          obtain ⟨rfl,rfl⟩:=ih _ _ h2
          exact ⟨by simp [cells],rfl⟩
      exact key _ _ _ hll
    obtain ⟨rfl,rfl⟩:=hq0
    have:=app_own (x:=.p (.sl (ys.map e))) (r:=q) (es:=xs.map e) (fs:=ys.map e) (H:=G) (K:=K) h1 h2 h3 h4 h5 h6 h7 (.inl rfl) hq (sizedMap hsz xs) (sizedMap hsz ys)
      (by simpa using hl) (by simpa using hl2) fun q' hq'=>by
        have:=h q' ((G.del q).set q' (cells ((xs++ys).map e))) hq' (s.repl i hi (rzT hL hh sz z (.sl q' sz 0 (xs++ys).length) (xs++ys) [q']) (by simp [rzT]) (fun y hy=>by
          simp only [rzT,List.mem_singleton] at hy;subst hy;exact .inr hq') (fun y b hb hy=>by
            simp only [rzT,List.mem_singleton] at hy
            rw [Heap.set_other (fun e=>by rw [e,hq'] at hb;cases hb),Heap.del_other hy];exact hb) (.inr ⟨q',_,[],rfl,Heap.set_same _ _ _,LL.plain _,rfl⟩))
        simpa only [Go.Sep.own,List.length_map,List.map_append,List.length_append] using this
    simpa only [Go.Sep.own,List.length_map] using this
end Go.Proofs.Ytjdhigcefkihiaa
namespace Go.Proofs.Ytjdhigcefkihiaa
open Go Go.Sep Go.Pt
attribute [local irreducible] CallT
end Go.Proofs.Ytjdhigcefkihiaa
namespace Go.Proofs.Ytjdhigcefkihiaa
open Go Go.Sep Go.Pt
attribute [local irreducible] CallT
end Go.Proofs.Ytjdhigcefkihiaa
namespace Go.Proofs.Ytjdhigcefkihiaa
open Go Go.Sep Go.Pt
attribute [local irreducible] CallT
theorem need_impl.operandsOfSaid_spec (op:Int):Pu Try.prog 69 [I op] (I (need op)):=by
  refine Pu.of fun H=>?_
  refine W69_ok ?_;simp (maxSteps:=1000000) (disch:=first | assumption | (apply ν6;assumption)) only [W69,vz,vu,vv,eqS,eF_,↓c1_,↓c2_,tabs,reduceCtorEq,ι5,↓reduceIte,ν1,ν2,ν3,ν4,ν5,ι1,ι2,ι3,ι4,J69_0,J69_1]
  by_cases h1:op=1
  · subst h1;simp [need]
  by_cases h2:op=2
  · subst h2;simp [need]
  by_cases h3:op=3
  · subst h3;simp [need]
  by_cases h4:op=4
  · subst h4;simp [need]
  by_cases h5:op=5
  · subst h5;simp [need]
  by_cases h6:op=6
  · subst h6;simp [need]
  by_cases h7:op=7
  · subst h7;simp [need]
  by_cases h8:op=8
  · subst h8;simp [need]
  simp [need,h1,h2,h3,h4,h5,h6,h7,h8]
theorem need_spec.l10Need_spec (op:Int):Pu Try.prog 72 [I op] (I (need op)):=by
  refine Pu.of fun H=>?_
  refine W72_ok ?_;simp (maxSteps:=1000000) (disch:=first | assumption | (apply ν6;assumption)) only [W72,vz,vu,vv,eqS,eF_,↓c1_,↓c2_,tabs,reduceCtorEq,ι5,↓reduceIte,ν1,ν2,ν3,ν4,ν5,ι1,ι2,ι3,ι4,J72_0,J72_1]
  by_cases h1:op=1
  · subst h1;simp [need]
  by_cases h2:op=2
  · subst h2;simp [need]
  by_cases h3:op=3
  · subst h3;simp [need]
  by_cases h4:op=4
  · subst h4;simp [need]
  by_cases h5:op=5
  · subst h5;simp [need]
  by_cases h6:op=6
  · subst h6;simp [need]
  by_cases h7:op=7
  · subst h7;simp [need]
  by_cases h8:op=8
  · subst h8;simp [need]
  simp [need,h1,h2,h3,h4,h5,h6,h7,h8]
theorem isSaid_spec (x:Sd):Pu Try.prog 88 [aD x] (B (sdOk x)):=by
  refine Pu.of fun H=>?_
  refine W88_ok ?_;simp (maxSteps:=1000000) (disch:=first | assumption | (apply ν6;assumption)) only [W88,vz,vu,vv,eqS,eF_,↓c1_,↓c2_,tabs,reduceCtorEq,ι5,↓reduceIte,ν1,ν2,ν3,ν4,ν5,ι1,ι2,ι3,ι4]
  intro r hr
  have hle:=Heap.le_set (b:=[I x.op,I x.n]) hr
  refine ⟨fun h1=>?_,fun h1=>⟨fun h2=>?_,fun h2=>?_⟩⟩
  · rw [sdOk,if_pos h1]
    exact ⟨fun h3=>⟨by rw [decide_eq_true h3,Bool.true_and],hle⟩,fun h3=>⟨by rw [decide_eq_false h3,Bool.false_and],hle⟩⟩
  · rw [sdOk,if_neg h1,if_pos h2]
    exact ⟨fun h3=>⟨by rw [decide_eq_true h3,Bool.true_or],hle⟩,fun h3=>⟨by rw [decide_eq_false h3,Bool.false_or],hle⟩⟩
  · refine Pu.use (need_impl.operandsOfSaid_spec x.op) ?_
    rw [sdOk,if_neg h1,if_neg h2]
    (try simp (maxSteps:=1000000) (disch:=first | assumption | (apply ν6;assumption)) only [vz,vu,vv,eqS,eF_,↓c1_,↓c2_,tabs,reduceCtorEq,ι5,↓reduceIte,ν1,ν2,ν3,ν4,ν5,ι1,ι2,ι3,ι4])
    exact ⟨fun h3=>⟨by rw [decide_eq_true h3,Bool.true_and],hle⟩,fun h3=>⟨by rw [decide_eq_false h3,Bool.false_and],hle⟩⟩
theorem l10N_spec (x:Sd) (h:0≤need x.op):Pu Try.prog 89 [aD x] (B (sdOk x)):=by
  refine Pu.of fun H=>?_
  refine W89_ok ?_;simp (maxSteps:=1000000) (disch:=first | assumption | (apply ν6;assumption)) only [W89,vz,vu,vv,eqS,eF_,↓c1_,↓c2_,tabs,reduceCtorEq,ι5,↓reduceIte,ν1,ν2,ν3,ν4,ν5,ι1,ι2,ι3,ι4]
  intro r hr
  have hle:=Heap.le_set (b:=[I x.op,I x.n]) hr
  refine ⟨fun h1=>?_,fun h1=>⟨fun h2=>?_,fun h2=>?_⟩⟩
  · rw [sdOk,if_pos h1]
    refine Pu.use (l1In_spec x.n 0 2) ⟨?_,hle⟩
    exact congrArg (fun b:Bool=>B b) (by rw [Bool.eq_iff_iff];simp only [Bool.and_eq_true,decide_eq_true_eq];omega)
  · rw [sdOk,if_neg h1,if_pos h2]
    refine Pu.use (l1In_spec x.n 0 1) ⟨?_,hle⟩
    exact congrArg (fun b:Bool=>B b) (by rw [Bool.eq_iff_iff];simp only [Bool.and_eq_true,Bool.or_eq_true,decide_eq_true_eq];omega)
  · rw [sdOk,if_neg h1,if_neg h2]
    have:0 < need x.op:=by
      rcases need_cases x.op with h3 | h3 | h3 | h3<;>omega
    exact ⟨by rw [decide_eq_true this,Bool.true_and],hle⟩
theorem goodF_false {f:List Sd} {i:Nat} (hi:i < f.length) (h:sdAt f i=false):goodF f=false:=by
  rw [goodF,Bool.and_eq_false_iff,Bool.and_eq_false_iff]
  exact .inl (.inr (range_all_false hi h))
theorem vals_bd {f:List Sd}:∀i,(∀j,j < i→sdAt f j=true)→0≤vals f i∧vals f i≤i:=by
  intro i
  induction i with
  | zero=>intro _;exact ⟨Int.le_refl _,Int.le_refl _⟩
  | succ i ih=>
    intro h
    have h1:=ih fun j hj=>h j (by omega)
    have h2:=h i (by omega)
    simp only [sdAt,Bool.and_eq_true,decide_eq_true_eq] at h2
    have h3:=sdOk_need h2.1
    have h4:=h2.2
    simp only [vals]
    omega
theorem GoodSaid_impl (f:List Sd) (hl:f.length≤1048576):Pu Try.prog 37 [Ds f] (B (goodF f)):=by
  refine Pu.of fun H=>?_
  refine W37_ok ?_;simp (maxSteps:=1000000) (disch:=first | assumption | (apply ν6;assumption)) only [W37,vz,vu,vv,eqS,eF_,↓c1_,↓c2_,tabs,reduceCtorEq,ι5,↓reduceIte,ν1,ν2,ν3,ν4,ν5,ι1,ι2,ι3,ι4]
  refine ⟨fun h1=>by rw [goodF,decide_eq_false (by omega)];rfl,fun h1=>⟨fun h2=>by rw [goodF,decide_eq_false (show ¬f.length≤16 by omega),Bool.and_false];rfl,fun h2=>?_⟩⟩
  refine L37_0_rule (0:Nat) (fun i=>I (vals f i)) (fun i=>I i) (fun _=>H) (fun i=>i≤f.length∧∀j,j < i→sdAt f j=true) (fun i=>f.length - i) ⟨⟨by omega,by intros;omega⟩,.refl _,.refl _,Heap.le_refl _⟩ ?_
  rintro i ⟨hi,ha⟩
  have hv:=vals_bd i ha
  (try simp (maxSteps:=1000000) (disch:=first | assumption | (apply ν6;assumption)) only [vz,vu,vv,eqS,eF_,↓c1_,↓c2_,tabs,reduceCtorEq,ι5,↓reduceIte,ν1,ν2,ν3,ν4,ν5,ι1,ι2,ι3,ι4,B37_0])
  refine ⟨fun h3=>⟨by omega,h3,?_⟩,fun h3=>?_⟩
  · have hlt:i < f.length:=by omega
    have hat:sdAt f i=(sdOk (f.getD i default) && decide (need (f.getD i default).op≤vals f i)):=rfl
    have hvs:vals f (i+1)=vals f i+(1 - need (f.getD i default).op):=rfl
    generalize f.getD i default=x at hat hvs ⊢
    intro r hr
    have hle:=Heap.le_set (b:=[I x.op,I x.n]) hr
    refine Pu.use (need_impl.operandsOfSaid_spec x.op) ?_
    (try simp (maxSteps:=1000000) (disch:=first | assumption | (apply ν6;assumption)) only [vz,vu,vv,eqS,eF_,↓c1_,↓c2_,tabs,reduceCtorEq,ι5,↓reduceIte,ν1,ν2,ν3,ν4,ν5,ι1,ι2,ι3,ι4])
    refine Pu.use (isSaid_spec x) ?_
    cases hok:sdOk x
    · (try simp (maxSteps:=1000000) (disch:=first | assumption | (apply ν6;assumption)) only [vz,vu,vv,eqS,eF_,↓c1_,↓c2_,tabs,reduceCtorEq,ι5,↓reduceIte,ν1,ν2,ν3,ν4,ν5,ι1,ι2,ι3,ι4])
      exact ⟨by rw [goodF_false hlt (by rw [hat,hok];rfl)],hle⟩
    · have hnd:=sdOk_need hok
      (try simp (maxSteps:=1000000) (disch:=first | assumption | (apply ν6;assumption)) only [vz,vu,vv,eqS,eF_,↓c1_,↓c2_,tabs,reduceCtorEq,ι5,↓reduceIte,ν1,ν2,ν3,ν4,ν5,ι1,ι2,ι3,ι4])
      refine ⟨fun h4=>⟨by rw [goodF_false hlt (by rw [hat,hok,Bool.true_and,decide_eq_false (by omega)])],hle⟩,fun h4=>⟨i+1,⟨by omega,fun j hj=>?_⟩,by omega,?_,?_,hle⟩⟩
      · rcases Nat.lt_succ_iff_lt_or_eq.1 hj with h | rfl
        · exact ha j h
        · rw [hat,hok,Bool.true_and,decide_eq_true (by omega)]
      · rw [wk_int,i64_id (n:=1 - need x.op) (by omega) (by omega),i64_id (by omega) (by omega),hvs]
      · rw [wk_int,i64_id (by omega) (by omega)];simp
  · have:i=f.length:=by omega
    subst this
    refine congrArg (fun b:Bool=>B b) ?_
    have hall:(List.range f.length).all (sdAt f)=true:=List.all_eq_true.2 fun j hj=>ha j (List.mem_range.1 hj)
    rw [goodF,hall,decide_eq_true (show 1≤f.length by omega),decide_eq_true (show f.length≤16 by omega)];rfl
theorem GoodSaid_spec (f:List Sd) (hl:f.length≤1048576):Pu Try.prog 38 [Ds f] (B (goodF f)):=by
  refine Pu.of fun H=>?_
  refine W38_ok ?_;simp (maxSteps:=1000000) (disch:=first | assumption | (apply ν6;assumption)) only [W38,vz,vu,vv,eqS,eF_,↓c1_,↓c2_,tabs,reduceCtorEq,ι5,↓reduceIte,ν1,ν2,ν3,ν4,ν5,ι1,ι2,ι3,ι4]
  refine Pu.use (l1In_spec f.length 1 16) ?_
  cases hin:(decide ((1:Int)≤f.length) && decide ((f.length:Int)≤16))
  · (try simp (maxSteps:=1000000) (disch:=first | assumption | (apply ν6;assumption)) only [vz,vu,vv,eqS,eF_,↓c1_,↓c2_,tabs,reduceCtorEq,ι5,↓reduceIte,ν1,ν2,ν3,ν4,ν5,ι1,ι2,ι3,ι4])
    rw [Bool.and_eq_false_iff,decide_eq_false_iff_not,decide_eq_false_iff_not] at hin
    rcases hin with h | h
    · rw [goodF,decide_eq_false (by omega)];rfl
    · rw [goodF,decide_eq_false (show ¬f.length≤16 by omega),Bool.and_false];rfl
  rw [Bool.and_eq_true,decide_eq_true_eq,decide_eq_true_eq] at hin
  (try simp (maxSteps:=1000000) (disch:=first | assumption | (apply ν6;assumption)) only [vz,vu,vv,eqS,eF_,↓c1_,↓c2_,tabs,reduceCtorEq,ι5,↓reduceIte,ν1,ν2,ν3,ν4,ν5,ι1,ι2,ι3,ι4])
  refine L38_0_rule (0:Nat) (fun i=>I (vals f i)) (fun i=>I i) (fun _=>H) (fun i=>i≤f.length∧∀j,j < i→sdAt f j=true) (fun i=>f.length - i) ⟨⟨by omega,by intros;omega⟩,.refl _,.refl _,Heap.le_refl _⟩ ?_
  rintro i ⟨hi,ha⟩
  have hv:=vals_bd i ha
  (try simp (maxSteps:=1000000) (disch:=first | assumption | (apply ν6;assumption)) only [vz,vu,vv,eqS,eF_,↓c1_,↓c2_,tabs,reduceCtorEq,ι5,↓reduceIte,ν1,ν2,ν3,ν4,ν5,ι1,ι2,ι3,ι4,B38_0])
  refine ⟨fun h3=>⟨by omega,h3,?_⟩,fun h3=>?_⟩
  · have hlt:i < f.length:=by omega
    have hat:sdAt f i=(sdOk (f.getD i default) && decide (need (f.getD i default).op≤vals f i)):=rfl
    have hvs:vals f (i+1)=vals f i+(1 - need (f.getD i default).op):=rfl
    generalize f.getD i default=x at hat hvs ⊢
    intro r hr
    have hle:=Heap.le_set (b:=[I x.op,I x.n]) hr
    refine Pu.use (need_spec.l10Need_spec x.op) ?_
    (try simp (maxSteps:=1000000) (disch:=first | assumption | (apply ν6;assumption)) only [vz,vu,vv,eqS,eF_,↓c1_,↓c2_,tabs,reduceCtorEq,ι5,↓reduceIte,ν1,ν2,ν3,ν4,ν5,ι1,ι2,ι3,ι4])
    refine ⟨fun h0=>⟨?_,hle⟩,fun h0=>?_⟩
    · have:sdOk x=false:=by
        cases hok:sdOk x
        · rfl
        · have:=sdOk_need hok;omega
      rw [goodF_false hlt (by rw [hat,this];rfl)]
    refine Pu.use (l10N_spec x (by omega)) ?_
    cases hok:sdOk x
    · (try simp (maxSteps:=1000000) (disch:=first | assumption | (apply ν6;assumption)) only [vz,vu,vv,eqS,eF_,↓c1_,↓c2_,tabs,reduceCtorEq,ι5,↓reduceIte,ν1,ν2,ν3,ν4,ν5,ι1,ι2,ι3,ι4])
      exact ⟨by rw [goodF_false hlt (by rw [hat,hok];rfl)],hle⟩
    · have hnd:=sdOk_need hok
      (try simp (maxSteps:=1000000) (disch:=first | assumption | (apply ν6;assumption)) only [vz,vu,vv,eqS,eF_,↓c1_,↓c2_,tabs,reduceCtorEq,ι5,↓reduceIte,ν1,ν2,ν3,ν4,ν5,ι1,ι2,ι3,ι4])
      refine ⟨fun h4=>⟨by rw [goodF_false hlt (by rw [hat,hok,Bool.true_and,decide_eq_false (by omega)])],hle⟩,fun h4=>⟨i+1,⟨by omega,fun j hj=>?_⟩,by omega,?_,?_,hle⟩⟩
      · rcases Nat.lt_succ_iff_lt_or_eq.1 hj with h | rfl
        · exact ha j h
        · rw [hat,hok,Bool.true_and,decide_eq_true (by omega)]
      · rw [wk_int,i64_id (n:=1 - need x.op) (by omega) (by omega),i64_id (by omega) (by omega),hvs]
      · rw [wk_int,i64_id (by omega) (by omega)];simp
  · have:i=f.length:=by omega
    subst this
    refine congrArg (fun b:Bool=>B b) ?_
    have hall:(List.range f.length).all (sdAt f)=true:=List.all_eq_true.2 fun j hj=>ha j (List.mem_range.1 hj)
    rw [goodF,hall,decide_eq_true (show 1≤f.length by omega),decide_eq_true (show f.length≤16 by omega)];rfl
end Go.Proofs.Ytjdhigcefkihiaa
namespace Go.Proofs.Ytjdhigcefkihiaa
open Go Go.Sep
attribute [local irreducible] CallT
abbrev cur (code:List Int) (k:Nat) (seed:Int):List AV:=[.p (.sl (code.map e8)),I k,U seed]
structure CodeC (code:List Int):Prop where
  byte:∀b∈code,0≤b∧b < 256
  len:code.length≤4194304
theorem and255 (x:Int):0≤bitsI .and .u64 x 255∧bitsI .and .u64 x 255 < 256:=by
  have h:(BitVec.ofInt IntKind.u64.bits x &&& BitVec.ofInt IntKind.u64.bits 255).toNat≤255:=by
    rw [BitVec.toNat_and];exact Nat.le_trans Nat.and_le_right (by decide)
  simp only [bitsI]
  rw [IntKind.wrap_u64];omega
theorem cnext_spec {code:List Int} (hc:CodeC code) {k:Nat} {seed:Int} (hk:k≤1000000000) {H:Heap} {r:Nat} (hr:H r=some (cur code k seed)) {K:AV→Heap→Prop}
    (h:∀b seed',0≤b→b < 256→K (I b) (H.set r (cur code (k+1) seed'))):CallT Try.prog 109 [.ptr r 0] H K:=by
  have hw:IntKind.i64.wrap (↑k+1)=((k+1:Nat):Int):=i64_id (by omega) (by omega)
  refine W109_ok ?_;simp (maxSteps:=1000000) (disch:=first | assumption | (apply ν6;assumption)) only [W109,vz,vu,vv,eqS,eF_,↓c1_,↓c2_,tabs,reduceCtorEq,ι5,↓reduceIte,ν1,ν2,ν3,ν4,ν5,ι1,ι2,ι3,ι4,J109_0,load_at hr,store_at hr,hw]
  have hb:∀x:Int,(0≤x∧x < 256)→0≤IntKind.i64.wrap x∧IntKind.i64.wrap x < 256:=fun x hx=>by rw [i64_id (by omega) (by omega)];exact hx
  refine ⟨fun h1=>⟨by omega,h1,fun _=>?_,fun _=>⟨by omega,?_⟩⟩,fun h1=>⟨fun _=>?_,fun _=>⟨by omega,?_⟩⟩⟩
  · have:=hb _ (getD_all (d:=default) hc.byte (i:=k) (by omega))
    exact h _ _ this.1 this.2
  · have:=hb _ (and255 ((IntKind.u64.wrap (IntKind.u64.wrap (IntKind.u64.wrap (seed*6364136223846793005)+IntKind.u64.wrap (IntKind.i64.wrap (code.getD k default)))+1442695040888963407)).fdiv (2^min 40 IntKind.u64.bits)))
    exact h _ _ this.1 this.2
  · exact h _ _ (by omega) (by omega)
  · have:=hb _ (and255 ((IntKind.u64.wrap (IntKind.u64.wrap (IntKind.u64.wrap (seed*6364136223846793005)+IntKind.u64.wrap 0)+1442695040888963407)).fdiv (2^min 40 IntKind.u64.bits)))
    exact h _ _ this.1 this.2
theorem pick_spec {code:List Int} (hc:CodeC code) {k:Nat} {seed:Int} (n:Int) (hn:n≤65536) (hk:k≤900000000) {H:Heap} {r:Nat} (hr:H r=some (cur code k seed)) {K:AV→Heap→Prop}
    (h:∀x k' seed',0≤x→(x=0∨x < n)→k≤k'→k'≤k+2→K (I x) (H.set r (cur code k' seed'))):CallT Try.prog 67 [.ptr r 0,I n] H K:=by
  have hs:H.set r (cur code k seed)=H:=by
    funext x;by_cases e:x=r
    · subst e;rw [Heap.set_same,hr]
    · rw [Heap.set_other e]
  refine W67_ok ?_;simp (maxSteps:=1000000) (disch:=first | assumption | (apply ν6;assumption)) only [W67,vz,vu,vv,eqS,eF_,↓c1_,↓c2_,tabs,reduceCtorEq,ι5,↓reduceIte,ν1,ν2,ν3,ν4,ν5,ι1,ι2,ι3,ι4]
  refine ⟨fun h1=>?_,fun h1=>?_⟩
  · have:=h 0 k seed (by omega) (.inl rfl) (by omega) (by omega)
    rwa [hs] at this
  · refine cnext_spec hc (by omega) hr fun b s1 hb0 hb1=>?_
    (try simp (maxSteps:=1000000) (disch:=first | assumption | (apply ν6;assumption)) only [vz,vu,vv,eqS,eF_,↓c1_,↓c2_,tabs,reduceCtorEq,ι5,↓reduceIte,ν1,ν2,ν3,ν4,ν5,ι1,ι2,ι3,ι4])
    refine ⟨fun h2=>?_,fun h2=>?_⟩
    · refine cnext_spec hc (by omega) (Heap.set_same _ _ _) fun b2 s2 hb2 hb3=>?_
      (try simp (maxSteps:=1000000) (disch:=first | assumption | (apply ν6;assumption)) only [vz,vu,vv,eqS,eF_,↓c1_,↓c2_,tabs,reduceCtorEq,ι5,↓reduceIte,ν1,ν2,ν3,ν4,ν5,ι1,ι2,ι3,ι4])
      rw [i64_id (n:=b*256) (by omega) (by omega),i64_id (by omega) (by omega)]
      exact ⟨by omega,h _ _ _ (Int.tmod_nonneg _ (by omega)) (.inr (Int.tmod_lt_of_pos _ (by omega))) (by omega) (by omega)⟩
    · exact ⟨by omega,h _ _ _ (Int.tmod_nonneg _ (by omega)) (.inr (Int.tmod_lt_of_pos _ (by omega))) (by omega) (by omega)⟩
theorem one_spec {code:List Int} (hc:CodeC code) {k:Nat} {seed:Int} (n:Int) (hn:n≤65536) (hk:k≤900000000) {H:Heap} {r:Nat} (hr:H r=some (cur code k seed)) {K:AV→Heap→Prop}
    (h:∀x k' seed',k≤k'→k'≤k+2→K (B x) (H.set r (cur code k' seed'))):CallT Try.prog 94 [.ptr r 0,I n] H K:=by
  refine W94_ok ?_;simp (maxSteps:=1000000) (disch:=first | assumption | (apply ν6;assumption)) only [W94,vz,vu,vv,eqS,eF_,↓c1_,↓c2_,tabs,reduceCtorEq,ι5,↓reduceIte,ν1,ν2,ν3,ν4,ν5,ι1,ι2,ι3,ι4]
  refine pick_spec hc n hn hk hr fun x k' s' _ _ h1 h2=>?_
  (try simp (maxSteps:=1000000) (disch:=first | assumption | (apply ν6;assumption)) only [vz,vu,vv,eqS,eF_,↓c1_,↓c2_,tabs,reduceCtorEq,ι5,↓reduceIte,ν1,ν2,ν3,ν4,ν5,ι1,ι2,ι3,ι4])
  exact h _ _ _ h1 h2
theorem among_spec {code:List Int} (hc:CodeC code) {k:Nat} {seed:Int} (l:List Int) (hl:0 < l.length) (hn:l.length≤65536) (hk:k≤900000000) {H:Heap} {r:Nat} (hr:H r=some (cur code k seed)) {K:AV→Heap→Prop}
    (h:∀x k' seed',x∈l→k≤k'→k'≤k+2→K (I x) (H.set r (cur code k' seed'))):CallT Try.prog 81 [.ptr r 0,Is l] H K:=by
  refine W81_ok ?_;simp (maxSteps:=1000000) (disch:=first | assumption | (apply ν6;assumption)) only [W81,vz,vu,vv,eqS,eF_,↓c1_,↓c2_,tabs,reduceCtorEq,ι5,↓reduceIte,ν1,ν2,ν3,ν4,ν5,ι1,ι2,ι3,ι4]
  refine pick_spec hc _ (by omega) hk hr fun x k' s' h0 hx h1 h2=>?_
  (try simp (maxSteps:=1000000) (disch:=first | assumption | (apply ν6;assumption)) only [vz,vu,vv,eqS,eF_,↓c1_,↓c2_,tabs,reduceCtorEq,ι5,↓reduceIte,ν1,ν2,ν3,ν4,ν5,ι1,ι2,ι3,ι4])
  refine ⟨h0,by omega,?_⟩
  exact h _ _ _ (getD_all (p:=fun b=>b∈l) (fun b hb=>hb) (by omega)) h1 h2
end Go.Proofs.Ytjdhigcefkihiaa
namespace Go.Proofs.Ytjdhigcefkihiaa
open Go Go.Sep Go.Pt
attribute [local irreducible] CallT
theorem litD_ {a b:Int} {G:Heap} {K:AV→Heap→Prop} (h:∀q,G q=none→K (.sl q 2 0 1) (G.set q [I a,I b])):buildSliceV tab 30 1 [(0,.agg [I a,I b])] G K:=by
  simp only [buildSliceV,tab_30,tab_80]
  refine ⟨by omega,?_⟩
  simp only [fillV,zerosA,List.replicate_succ,List.replicate_zero,List.flatten_cons,List.flatten_nil,List.append_nil,AV.cells,splice]
  simp only [List.length_cons,List.length_nil,Nat.reduceAdd,Nat.zero_mul,Nat.zero_add,Nat.le_refl,and_self,if_true,List.take_zero,List.nil_append,List.drop_succ_cons,List.drop_zero,List.append_nil,List.cons_append]
  exact h
theorem litD {a b:Int} {G:Heap} {K:AV→Heap→Prop} (h:∀q,G q=none→K (.sl q 2 0 1) (G.set q [I a,I b])):buildSliceV tab 30 1 [(0,.agg [I a,I b])] G (wkK K):=litD_ fun r hr=>wkK.keep (h r hr)
theorem litDv {a b:Int} {G:Heap} {K:AV→Heap→Prop} (h:K (Ds [⟨a,b⟩]) G):buildSliceV tab 30 1 [(0,.agg [I a,I b])] G (wkK K):=by
  refine litD_ fun q hq=>⟨_,_,Wk.own_le (q:=q) (sz:=2) (es:=[[.int .i64 a,.int .i64 b]]) (by omega) (fun e he=>by rw [List.mem_singleton.1 he];rfl) hq (Heap.le_refl _),h⟩
theorem app_D {q:Nat} {xs ys:List Sd} {G:Heap} {K:AV→Heap→Prop} (hq:G q=some (cD xs)) (hl:xs.length+ys.length≤1000000) (h:∀q',G q'=none→K (rowD q' (xs++ys)) ((G.del q).set q' (cD (xs++ys)))):appendV tab 30 30 (rowD q xs) (Ds ys) G (wkK K):=by
  have:=app_own (x:=Ds ys) (r:=q) (es:=xs.map eD) (fs:=ys.map eD) (H:=G) (K:=K) tab_30 rfl tab_80 tab_30 rfl rfl (bz:=16) rfl (.inl rfl) hq (szD xs) (szD ys) (by simp only [List.length_map];omega) (by simp only [List.length_map];omega) fun r' hr'=>by
    have:=h r' hr'
    simpa only [Sep.own,rowD,cD,List.map_append,List.length_map,List.length_append] using this
  simpa only [Sep.own,List.length_map] using this
def fbK:Nat→Nat
  | 0=>10
  | d+1=>10+2*fbK d
def flK:Nat→Nat
  | 0=>1
  | d+1=>2*flK d+1
theorem formula_spec {code:List Int} (hc:CodeC code):∀(d:Nat),d≤3→∀{k:Nat} {seed:Int},k+fbK d≤800000000→∀{H:Heap} {r:Nat},H r=some (cur code k seed)→∀{K:AV→Heap→Prop},
    (∀(xs:List Sd) q k' seed',1≤xs.length→xs.length≤flK d→k≤k'→k'≤k+fbK d→H q=none→K (rowD q xs) ((H.set r (cur code k' seed')).set q (cD xs)))→CallT Try.prog 68 [.ptr r 0,I d] H K:=by
  have leaf:∀{k:Nat} {seed:Int},k≤899999000→∀{H:Heap} {r:Nat},H r=some (cur code k seed)→∀{K:AV→Heap→Prop},
      (∀(xs:List Sd) q k' seed',xs.length=1→k≤k'→k'≤k+8→H q=none→K (rowD q xs) ((H.set r (cur code k' seed')).set q (cD xs)))→CallT Try.prog 94 [.ptr r 0,I 12] H fun v13 H20=>J68_0 K (.ptr r 0) v13 H20:=by
    intro k seed hk H r hr K h
    refine one_spec hc 12 (by omega) (by omega) hr fun x k1 s1 hk1 hk2=>?_
    have fin:∀(op n:Int) k' s',k≤k'→k'≤k+8→buildSliceV tab 30 1 [(0,.agg [I op,I n])] (H.set r (cur code k' s')) (wkK fun v17 H4=>K v17 H4):=fun op n k' s' h1 h2=>by
      refine litD fun q hq=>?_
      rw [Heap.set_none] at hq
      exact h [⟨op,n⟩] q k' s' rfl h1 h2 hq.2
    cases x
    · (try simp (maxSteps:=1000000) (disch:=first | assumption | (apply ν6;assumption)) only [vz,vu,vv,eqS,eF_,↓c1_,↓c2_,tabs,reduceCtorEq,ι5,↓reduceIte,ν1,ν2,ν3,ν4,ν5,ι1,ι2,ι3,ι4,J68_0])
      refine pick_spec hc 3 (by omega) (by omega) (Heap.set_same _ _ _) fun x k2 s2 _ _ hk3 hk4=>?_
      (try simp (maxSteps:=1000000) (disch:=first | assumption | (apply ν6;assumption)) only [vz,vu,vv,eqS,eF_,↓c1_,↓c2_,tabs,reduceCtorEq,ι5,↓reduceIte,ν1,ν2,ν3,ν4,ν5,ι1,ι2,ι3,ι4])
      exact fin _ _ _ _ (by omega) (by omega)
    · (try simp (maxSteps:=1000000) (disch:=first | assumption | (apply ν6;assumption)) only [vz,vu,vv,eqS,eF_,↓c1_,↓c2_,tabs,reduceCtorEq,ι5,↓reduceIte,ν1,ν2,ν3,ν4,ν5,ι1,ι2,ι3,ι4,J68_0])
      refine pick_spec hc 2 (by omega) (by omega) (Heap.set_same _ _ _) fun x k2 s2 _ _ hk3 hk4=>?_
      (try simp (maxSteps:=1000000) (disch:=first | assumption | (apply ν6;assumption)) only [vz,vu,vv,eqS,eF_,↓c1_,↓c2_,tabs,reduceCtorEq,ι5,↓reduceIte,ν1,ν2,ν3,ν4,ν5,ι1,ι2,ι3,ι4])
      exact fin _ _ _ _ (by omega) (by omega)
  intro d
  induction d with
  | zero=>
    intro _ k seed hk H r hr K h
    simp only [fbK,flK] at hk h
    refine W68_ok ?_;simp (maxSteps:=1000000) (disch:=first | assumption | (apply ν6;assumption)) only [W68,vz,vu,vv,eqS,eF_,↓c1_,↓c2_,tabs,reduceCtorEq,ι5,↓reduceIte,ν1,ν2,ν3,ν4,ν5,ι1,ι2,ι3,ι4]
    refine ⟨fun _=>?_,fun h1=>absurd rfl h1⟩
    exact leaf (by omega) hr fun xs q k' s' h1 h2 h3=>h xs q k' s' (by omega) (by omega) h2 (by omega)
  | succ d ih=>
    intro hd k seed hk H r hr K h
    have hd3:d≤3:=by omega
    have vih:∀{k:Nat} {seed:Int},k+fbK d≤800000000→∀{H:Heap} {r:Nat},H r=some (cur code k seed)→∀{K:AV→Heap→Prop},
        (∀(xs:List Sd) k' seed',1≤xs.length→xs.length≤flK d→k≤k'→k'≤k+fbK d→K (Ds xs) (H.set r (cur code k' seed')))→CallT Try.prog 68 [.ptr r 0,I d] H K:=by
      intro k seed hk H r hr K h
      refine CallT.fin (ih hd3 hk hr fun xs q k' s' a1 a2 a3 a4 a5=>?_)
      have hqr:q≠r:=fun e=>by rw [e,hr] at a5;cases a5
      have hw:=Wk.own_le (q:=q) (sz:=2) (es:=xs.map eD) (H:=H.set r (cur code k' s')) (H':=(H.set r (cur code k' s')).set q (cD xs)) (by omega) (szD xs) (by rw [Heap.set_other hqr];exact a5) (Heap.le_refl _)
      refine ⟨_,_,?_,h xs k' s' a1 a2 a3 a4⟩
      simpa only [Sep.own,List.length_map] using hw
    have hb0:fbK d≤1000:=by
      rcases (by omega:d=0∨d=1∨d=2) with rfl | rfl | rfl<;>simp [fbK]
    have hl0:flK d≤100:=by
      rcases (by omega:d=0∨d=1∨d=2) with rfl | rfl | rfl<;>simp [flK]
    simp only [fbK,flK] at hk h
    have ed:IntKind.i64.wrap (((d+1:Nat):Int) - 1)=(d:Nat):=by rw [i64_id (by omega) (by omega)];omega
    refine CallT.fin ?_
    refine W68_ok ?_;simp (maxSteps:=1000000) (disch:=first | assumption | (apply ν6;assumption)) only [W68,vz,vu,vv,eqS,eF_,↓c1_,↓c2_,tabs,reduceCtorEq,ι5,↓reduceIte,ν1,ν2,ν3,ν4,ν5,ι1,ι2,ι3,ι4,ed]
    refine ⟨fun h1=>by omega,fun _=>?_⟩
    refine one_spec hc 6 (by omega) (by omega) hr fun x k1 s1 hk1 hk2=>?_
    cases x
    rotate_left
    · (try simp (maxSteps:=1000000) (disch:=first | assumption | (apply ν6;assumption)) only [vz,vu,vv,eqS,eF_,↓c1_,↓c2_,tabs,reduceCtorEq,ι5,↓reduceIte,ν1,ν2,ν3,ν4,ν5,ι1,ι2,ι3,ι4])
      refine leaf (by omega) (Heap.set_same _ _ _) fun xs q k' s' h1 h2 h3 h4=>?_
      rw [Heap.set_none] at h4
      rw [Heap.set_set]
      exact wkK.keep (h xs q k' s' (by omega) (by omega) (by omega) (by omega) h4.2)
    (try simp (maxSteps:=1000000) (disch:=first | assumption | (apply ν6;assumption)) only [vz,vu,vv,eqS,eF_,↓c1_,↓c2_,tabs,reduceCtorEq,ι5,↓reduceIte,ν1,ν2,ν3,ν4,ν5,ι1,ι2,ι3,ι4])
    refine one_spec hc 3 (by omega) (by omega) (Heap.set_same _ _ _) fun x k2 s2 hk3 hk4=>?_
    rw [Heap.set_set]
    cases x
    · (try simp (maxSteps:=1000000) (disch:=first | assumption | (apply ν6;assumption)) only [vz,vu,vv,eqS,eF_,↓c1_,↓c2_,tabs,reduceCtorEq,ι5,↓reduceIte,ν1,ν2,ν3,ν4,ν5,ι1,ι2,ι3,ι4])
      refine lit_gen tab_23 rfl tab_3 ⟨rfl,rfl⟩ [.int .i64 5,.int .i64 6,.int .i64 7,.int .i64 7,.int .i64 8] (by simp) ?_
      refine among_spec hc [5,6,7,7,8] (by simp) (by simp) (by omega) (Heap.set_same _ _ _) fun op k3 s3 _ hk5 hk6=>?_
      rw [Heap.set_set]
      (try simp (maxSteps:=1000000) (disch:=first | assumption | (apply ν6;assumption)) only [vz,vu,vv,eqS,eF_,↓c1_,↓c2_,tabs,reduceCtorEq,ι5,↓reduceIte,ν1,ν2,ν3,ν4,ν5,ι1,ι2,ι3,ι4,ed])
      refine ih hd3 (by omega) (Heap.set_same _ _ _) fun xs q1 k4 s4 a1 a2 a3 a4 a5=>?_
      rw [Heap.set_set]
      rw [Heap.set_none] at a5
      (try simp (maxSteps:=1000000) (disch:=first | assumption | (apply ν6;assumption)) only [vz,vu,vv,eqS,eF_,↓c1_,↓c2_,tabs,reduceCtorEq,ι5,↓reduceIte,ν1,ν2,ν3,ν4,ν5,ι1,ι2,ι3,ι4,ed])
      refine vih (k:=k4) (seed:=s4) (by omega) (by rw [Heap.set_other (Ne.symm a5.1),Heap.set_same]) fun ys k5 s5 b1 b2 b3 b4=>?_
      have e1:(((H.set r (cur code k4 s4)).set q1 (cD xs)).set r (cur code k5 s5))=(H.set r (cur code k5 s5)).set q1 (cD xs):=by
        rw [Heap.set_comm a5.1,Heap.set_set]
      rw [e1]
      have hf1:(H.set r (cur code k5 s5)) q1=none:=by rw [Heap.set_other a5.1];exact a5.2
      refine app_D (Heap.set_same _ _ _) (by omega) fun q2 hq2=>?_
      rw [Heap.del_set hf1]
      rw [Heap.set_none] at hq2
      (try simp (maxSteps:=1000000) (disch:=first | assumption | (apply ν6;assumption)) only [vz,vu,vv,eqS,eF_,↓c1_,↓c2_,tabs,reduceCtorEq,ι5,↓reduceIte,ν1,ν2,ν3,ν4,ν5,ι1,ι2,ι3,ι4])
      refine litDv ?_
      refine app_D (Heap.set_same _ _ _) (by rw [List.length_append];simp;omega) fun q3 hq3=>?_
      rw [Heap.del_set hq2.2]
      rw [Heap.set_none,Heap.set_none] at hq3
      exact wkK.keep (h (xs++ys++[⟨op,0⟩]) q3 k5 s5 (by simp;omega) (by simp;omega) (by omega) (by omega) hq3.2.2)
    · (try simp (maxSteps:=1000000) (disch:=first | assumption | (apply ν6;assumption)) only [vz,vu,vv,eqS,eF_,↓c1_,↓c2_,tabs,reduceCtorEq,ι5,↓reduceIte,ν1,ν2,ν3,ν4,ν5,ι1,ι2,ι3,ι4,ed])
      refine ih hd3 (by omega) (Heap.set_same _ _ _) fun xs q1 k4 s4 a1 a2 a3 a4 a5=>?_
      rw [Heap.set_set]
      rw [Heap.set_none] at a5
      (try simp (maxSteps:=1000000) (disch:=first | assumption | (apply ν6;assumption)) only [vz,vu,vv,eqS,eF_,↓c1_,↓c2_,tabs,reduceCtorEq,ι5,↓reduceIte,ν1,ν2,ν3,ν4,ν5,ι1,ι2,ι3,ι4])
      refine lit_gen tab_23 rfl tab_3 ⟨rfl,rfl⟩ [.int .i64 3,.int .i64 3,.int .i64 4] (by simp) ?_
      refine among_spec hc [3,3,4] (by simp) (by simp) (k:=k4) (seed:=s4) (by omega) (by rw [Heap.set_other (Ne.symm a5.1),Heap.set_same]) fun op k5 s5 _ hk5 hk6=>?_
      have e1:(((H.set r (cur code k4 s4)).set q1 (cD xs)).set r (cur code k5 s5))=(H.set r (cur code k5 s5)).set q1 (cD xs):=by
        rw [Heap.set_comm a5.1,Heap.set_set]
      rw [e1]
      (try simp (maxSteps:=1000000) (disch:=first | assumption | (apply ν6;assumption)) only [vz,vu,vv,eqS,eF_,↓c1_,↓c2_,tabs,reduceCtorEq,ι5,↓reduceIte,ν1,ν2,ν3,ν4,ν5,ι1,ι2,ι3,ι4])
      refine litDv ?_
      refine app_D (Heap.set_same _ _ _) (by simp;omega) fun q3 hq3=>?_
      rw [Heap.set_none,Heap.set_none] at hq3
      rw [Heap.del_set (by rw [Heap.set_other a5.1];exact a5.2)]
      exact wkK.keep (h (xs++[⟨op,0⟩]) q3 k5 s5 (by simp) (by simp;omega) (by omega) (by omega) hq3.2.2)
theorem wk_tail {q:Nat} {a:Sd} {rest:List Sd} {H:Heap} (hq:H q=some (cD (a::rest))):Wk (.sl q 2 2 rest.length) H (Ds rest) (H.del q):=by
  refine .freeze (cells:=((a::rest).map eD).flatten) hq fun Z φ pl vals hp _ h1 h2 x c=>?_
  have hsz:∀e∈rest.map eD,e.length=2:=szD rest
  have hfl:((a::rest).map eD).flatten=eD a++(rest.map eD).flatten:=rfl
  have hl2:(rest.map eD).flatten.length=rest.length*2:=by rw [flatten_len _ hsz,List.length_map]
  generalize hn:rest.length=n at c
  cases c with
  | slz _ _ _ a=>
    have:rest=[]:=List.eq_nil_of_length_eq_zero hn
    subst this
    exact .p (.emp a 0)
  | sl hp' hl hC=>
    rw [hp] at hp';cases hp'
    subst hn
    refine .p ?_
    have key:=Cz.sl (Z:=Z) (rest.map eD) 2 pl.b (pl.o+2) _ (fun i=>vals (2+i)) (by rw [List.length_map];exact hl) hsz ?_ ?_
    · rw [List.length_map] at key;exact key
    · intro i hi
      rw [List.length_map] at hi
      rw [Nat.add_assoc];exact h1 _ (by rw [hfl,List.length_append,hl2];simp;omega)
    · intro i e he j p hpj
      refine h2 _ p ?_
      have hj:j < 2:=by
        have:=(List.getElem?_eq_some_iff.1 hpj).1
        rw [hsz e (List.mem_of_getElem? he)] at this;exact this
      rw [hfl,List.getElem?_append_right (by simp)]
      have e0:2+(i*2+j) - (eD a).length=i*2+j:=by simp
      rw [e0,flatten_get (by omega) (rest.map eD) hsz]
      have e1:(i*2+j) / 2=i:=by omega
      have e2:(i*2+j) % 2=j:=by omega
      rw [e1,e2,he];exact hpj
theorem said_spec {code:List Int} (hc:CodeC code) {k:Nat} {seed:Int} (hk:k≤700000000) {H:Heap} {r:Nat} (hr:H r=some (cur code k seed)) {K:AV→Heap→Prop}
    (h:∀(xs:List Sd) k' seed',xs.length≤20→k≤k'→k'≤k+1000→K (Ds xs) (H.set r (cur code k' seed'))):CallT Try.prog 74 [.ptr r 0] H K:=by
  refine CallT.fin ?_
  have J:∀(xs:List Sd) q k' s',1≤xs.length→xs.length≤20→k≤k'→k'≤k+500→H q=none→q≠r→J74_0 (wkK K) (.ptr r 0) (rowD q xs) ((H.set r (cur code k' s')).set q (cD xs)):=by
    intro xs q k1 s1 hl0 hl1 hk1 hk2 hq hqr
    (try simp (maxSteps:=1000000) (disch:=first | assumption | (apply ν6;assumption)) only [vz,vu,vv,eqS,eF_,↓c1_,↓c2_,tabs,reduceCtorEq,ι5,↓reduceIte,ν1,ν2,ν3,ν4,ν5,ι1,ι2,ι3,ι4,J74_0])
    refine pick_spec hc 40 (by omega) (k:=k1) (seed:=s1) (by omega) (by rw [Heap.set_other (Ne.symm hqr),Heap.set_same]) fun x k2 s2 _ _ hk3 hk4=>?_
    have e1:((H.set r (cur code k1 s1)).set q (cD xs)).set r (cur code k2 s2)=(H.set r (cur code k2 s2)).set q (cD xs):=by rw [Heap.set_comm hqr,Heap.set_set]
    rw [e1]
    have hq2:(H.set r (cur code k2 s2)) q=none:=by rw [Heap.set_other hqr];exact hq
    have val:∀(ys:List Sd) (k3:Nat) (s3:Int),ys.length=xs.length→k≤k3→k3≤k+1000→wkK K (rowD q xs) ((H.set r (cur code k3 s3)).set q (cD ys)):=by
      intro ys k3 s3 hys h1 h2
      have hw:=Wk.own_le (q:=q) (sz:=2) (es:=ys.map eD) (H:=H.set r (cur code k3 s3)) (H':=(H.set r (cur code k3 s3)).set q (cD ys)) (by omega) (szD ys) (by rw [Heap.set_other hqr];exact hq) (Heap.le_refl _)
      refine ⟨_,_,?_,h ys k3 s3 (by omega) h1 h2⟩
      rw [rowD,← hys]
      simpa only [Sep.own,List.length_map] using hw
    (try simp (maxSteps:=1000000) (disch:=first | assumption | (apply ν6;assumption)) only [vz,vu,vv,eqS,eF_,↓c1_,↓c2_,tabs,reduceCtorEq,ι5,↓reduceIte,ν1,ν2,ν3,ν4,ν5,ι1,ι2,ι3,ι4,sliceV])
    cases xs with
    | nil=>simp at hl0
    | cons a rest=>
      refine ⟨fun c=>?_,fun _=>⟨fun c=>?_,fun _=>⟨fun c=>?_,fun c=>?_⟩⟩⟩
      · have en:(((a::rest).length:Int) - 1).toNat=rest.length:=by simp
        rw [en]
        refine ⟨by omega,by simp only [List.length_cons];omega,by omega,?_⟩
        refine ⟨_,_,wk_tail (Heap.set_same _ _ _),?_⟩
        rw [Heap.del_set hq2]
        exact h rest k2 s2 (by simp only [List.length_cons] at hl1;omega) (by omega) (by omega)
      · refine ⟨by omega,by simp only [List.length_cons];omega,by simp [cells],?_⟩
        exact val (⟨a.op,3⟩::rest) k2 s2 rfl (by omega) (by omega)
      · refine pick_spec hc 10 (by omega) (k:=k2) (seed:=s2) (by omega) (by rw [Heap.set_other (Ne.symm hqr),Heap.set_same]) fun y k3 s3 _ _ hk5 hk6=>?_
        have e2:((H.set r (cur code k2 s2)).set q (cD (a::rest))).set r (cur code k3 s3)=(H.set r (cur code k3 s3)).set q (cD (a::rest)):=by rw [Heap.set_comm hqr,Heap.set_set]
        rw [e2]
        obtain ⟨pre,z,e⟩:∃pre z,a::rest=pre++[z]:=⟨_,_,(List.dropLast_concat_getLast (by simp)).symm⟩
        have hln:(a::rest).length=pre.length+1:=by rw [e];simp
        have ew:IntKind.i64.wrap (((a::rest).length:Int) - 1)=(pre.length:Nat):=by rw [i64_id (by omega) (by omega)];omega
        rw [ew,hln,Int.toNat_natCast]
        have hcp:(cD pre).length=pre.length*2:=by rw [cells_map_len (sz:=2) (fun _=>rfl)]
        have hcd:cD (a::rest)=cD pre++([I z.op]++[I z.n]):=by rw [e,cD,List.map_append,cells_app];rfl
        have hcy:cD (pre++[⟨y,z.n⟩])=cD pre++([I y]++[I z.n]):=by rw [cD,List.map_append,cells_app];rfl
        have hsp:=splice_at (pre:=cD pre) (c:=[I z.op]) (c':=[I y]) (post:=[I z.n]) (off:=pre.length*2) (n:=1) (by omega) rfl rfl
        rw [← hcy,← hcd] at hsp
        have hcl:(cD (a::rest)).length=pre.length*2+2:=by rw [hcd,List.length_append,hcp];rfl
        refine ⟨by omega,by omega,?_⟩
        rw [store_at (Heap.set_same _ _ _)]
        (try simp (maxSteps:=1000000) (disch:=first | assumption | (apply ν6;assumption)) only [vz,vu,vv,eqS,eF_,↓c1_,↓c2_,tabs,reduceCtorEq,ι5,↓reduceIte,ν1,ν2,ν3,ν4,ν5,ι1,ι2,ι3,ι4,hsp,hcl])
        refine ⟨by omega,?_⟩
        exact val (pre++[⟨y,z.n⟩]) k3 s3 (by rw [hln];simp) (by omega) (by omega)
      · exact val (a::rest) k2 s2 rfl (by omega) (by omega)
  refine W74_ok ?_;simp (maxSteps:=1000000) (disch:=first | assumption | (apply ν6;assumption)) only [W74,vz,vu,vv,eqS,eF_,↓c1_,↓c2_,tabs,reduceCtorEq,ι5,↓reduceIte,ν1,ν2,ν3,ν4,ν5,ι1,ι2,ι3,ι4]
  have fl:∀d,d≤3→1≤d→flK d≤15∧fbK d≤150:=by
    intro d h1 h2
    rcases (by omega:d=1∨d=2∨d=3) with rfl | rfl | rfl<;>simp [flK,fbK]
  refine pick_spec hc 2 (by omega) (by omega) hr fun x k1 s1 hx0 hx1 hk1 hk2=>?_
  obtain ⟨d,hd,hd3⟩:∃d:Nat,IntKind.i64.wrap (2+x)=d∧(d=2∨d=3):=⟨(2+x).toNat,by rw [i64_id (by omega) (by omega)];omega,by omega⟩
  (try simp (maxSteps:=1000000) (disch:=first | assumption | (apply ν6;assumption)) only [vz,vu,vv,eqS,eF_,↓c1_,↓c2_,tabs,reduceCtorEq,ι5,↓reduceIte,ν1,ν2,ν3,ν4,ν5,ι1,ι2,ι3,ι4,hd])
  have hf:=fl d (by omega) (by omega)
  refine formula_spec hc d (by omega) (k:=k1) (seed:=s1) (by omega) (Heap.set_same _ _ _) fun xs q k2 s2 a1 a2 a3 a4 a5=>?_
  rw [Heap.set_set]
  rw [Heap.set_none] at a5
  (try simp (maxSteps:=1000000) (disch:=first | assumption | (apply ν6;assumption)) only [vz,vu,vv,eqS,eF_,↓c1_,↓c2_,tabs,reduceCtorEq,ι5,↓reduceIte,ν1,ν2,ν3,ν4,ν5,ι1,ι2,ι3,ι4])
  refine ⟨fun h16=>by omega,fun _=>?_⟩
  exact J xs q k2 s2 a1 (by omega) (by omega) (by omega) a5.2 a5.1
end Go.Proofs.Ytjdhigcefkihiaa
namespace Go.Proofs.Ytjdhigcefkihiaa
open Go Go.Sep
attribute [local irreducible] CallT
theorem bigC (a b:List Int):Pu Try.prog 21 [.p (.sl (a.map e8)),.p (.sl (b.map e8))] (B (decide (1048576 < a.length+b.length))):=by
  refine Pu.of fun H=>?_
  refine W21_ok ?_;simp (maxSteps:=1000000) (disch:=first | assumption | (apply ν6;assumption)) only [W21,vz,vu,vv,eqS,eF_,↓c1_,↓c2_,tabs,reduceCtorEq,ι5,↓reduceIte,ν1,ν2,ν3,ν4,ν5,ι1,ι2,ι3,ι4]
  refine ⟨fun h=>?_,fun h=>?_⟩
  · have:1048576 < a.length+b.length:=by omega
    simp [this]
  · have hw:IntKind.i64.wrap (1048576 - ↑a.length)=1048576 - ↑a.length:=i64_id (by omega) (by omega)
    rw [hw]
    congr 2
    apply decide_eq_decide.2
    omega
theorem sameInts_self (xs:List Int) (hl:xs.length≤1000000000):Pu Try.prog 43 [Is xs,Is xs] (B true):=by
  refine Pu.of fun H=>?_
  refine W43_ok ?_;simp (maxSteps:=1000000) (disch:=first | assumption | (apply ν6;assumption)) only [W43,vz,vu,vv,eqS,eF_,↓c1_,↓c2_,tabs,reduceCtorEq,ι5,↓reduceIte,ν1,ν2,ν3,ν4,ν5,ι1,ι2,ι3,ι4]
  refine L43_0_rule (0:Nat) (fun i=>I i) (fun _=>H) (fun i=>i≤xs.length) (fun i=>xs.length - i) ⟨by omega,.refl _,Heap.le_refl _⟩ ?_
  rintro i hi
  have e5:IntKind.i64.wrap ((i:Int)+1)=((i+1:Nat):Int):=by rw [i64_id (by omega) (by omega)];simp
  (try simp (maxSteps:=1000000) (disch:=first | assumption | (apply ν6;assumption)) only [vz,vu,vv,eqS,eF_,↓c1_,↓c2_,tabs,reduceCtorEq,ι5,↓reduceIte,ν1,ν2,ν3,ν4,ν5,ι1,ι2,ι3,ι4,B43_0,e5])
  intro h
  exact ⟨by omega,by omega,by omega,by omega,i+1,by omega,by omega,.refl _⟩
end Go.Proofs.Ytjdhigcefkihiaa
namespace Go.Proofs.Ytjdhigcefkihiaa
open Go Go.Sep Go.Pt
attribute [local irreducible] CallT
abbrev DDs (bs:List (List Sd)):AV:=.p (.sl (bs.map fun b=>[.sl (b.map eD)]))
theorem app_DX {q:Nat} {xs ys:List Sd} {ex:List AV} {G:Heap} {K:AV→Heap→Prop} (hq:G q=some (cD xs++ex)) (hl:xs.length+ys.length≤1000000000)
    (h:∀q',G q'=none→q'≠q→K (rowD q' (xs++ys)) ((G.del q).set q' (cD (xs++ys)))):appendV tab 30 30 (rowD q xs) (Ds ys) G (wkK K):=by
  have hlen:(cD xs).length=xs.length*2:=cells_map_len (sz:=2) (fun _=>rfl) xs
  simp only [appendV,tab_30,tab_80,srcV,baseV,hq]
  refine ⟨szD ys,trivial,by rw [List.length_append,hlen];omega,by simp only [List.length_map];omega,by simp only [List.length_map];omega,cells_cell _,fun q' hq'=>wkK.keep ?_⟩
  have hne:q'≠q:=fun e=>by rw [e,hq] at hq';cases hq'
  have:=h q' hq' hne
  have e:List.take (xs.length*2) (List.drop 0 (cD xs++ex))=cD xs:=by rw [List.drop_zero,← hlen,List.take_left]
  rw [e,List.length_map]
  simp only [rowD,cD,List.map_append,cells_app,List.length_append] at this ⊢
  exact this
theorem app_Dv {q:Nat} {xs ys:List Sd} {ex:List AV} {G:Heap} {K:AV→Heap→Prop} (hq:G q=some (cD xs++ex)) (hl:xs.length+ys.length≤1000000000)
    (h:K (Ds (xs++ys)) (G.del q)):appendV tab 30 30 (rowD q xs) (Ds ys) G (wkK K):=by
  have hlen:(cD xs).length=xs.length*2:=cells_map_len (sz:=2) (fun _=>rfl) xs
  simp only [appendV,tab_30,tab_80,srcV,baseV,hq]
  refine ⟨szD ys,trivial,by rw [List.length_append,hlen];omega,by simp only [List.length_map];omega,by simp only [List.length_map];omega,cells_cell _,fun q' hq'=>?_⟩
  have hne:q'≠q:=fun e=>by rw [e,hq] at hq';cases hq'
  have e:List.take (xs.length*2) (List.drop 0 (cD xs++ex))=cD xs:=by rw [List.drop_zero,← hlen,List.take_left]
  rw [e,List.length_map]
  have hw:=Wk.own_le (q:=q') (sz:=2) (es:=(xs++ys).map eD) (H:=G.del q) (H':=(G.del q).set q' (cD (xs++ys))) (by omega) (szD _) (by rw [Heap.del_other hne];exact hq') (Heap.le_refl _)
  refine ⟨_,_,?_,h⟩
  have e2:cD (xs++ys)=cD xs++List.map AV.p (ys.map eD).flatten:=by rw [cD,List.map_append,cells_app];rfl
  rw [← e2]
  simpa only [Sep.own,List.length_map,List.length_append] using hw
theorem lit0D {G:Heap} {K:AV→Heap→Prop} (h:∀q,G q=none→K (rowD q []) (G.set q (cD []))):buildSliceV tab 30 0 [] G (wkK K):=by
  simp only [buildSliceV,tab_30,tab_80]
  refine ⟨by omega,?_⟩
  simp only [fillV,zerosA,List.replicate_zero,List.flatten_nil]
  exact fun r hr=>wkK.keep (h r hr)
def mdR (f:List Sd):List Sd×Bool:=if goodF f then (f,true) else ([],false)
theorem noD {H:Heap}:wkK (fun r H'=>r=.tup [Ds [],B false]∧H'=H) (.tup [.p .nil,B false]) H:=⟨_,_,.val (v':=.tup [Ds [],B false]) (wk_tup ⟨.nil,.refl _,trivial⟩),rfl,rfl⟩
theorem checkedSaid_spec (f:List Sd) (hl:f.length≤1048576):Pu Try.prog 70 [Ds f] (.tup [Ds (mdR f).1,B (mdR f).2]):=by
  refine ⟨fun H=>CallT.fin ?_⟩
  refine W70_ok ?_;simp (maxSteps:=1000000) (disch:=first | assumption | (apply ν6;assumption)) only [W70,vz,vu,vv,eqS,eF_,↓c1_,↓c2_,tabs,reduceCtorEq,ι5,↓reduceIte,ν1,ν2,ν3,ν4,ν5,ι1,ι2,ι3,ι4]
  refine Pu.use (GoodSaid_impl f hl) ?_
  cases hg:goodF f
  · have e:mdR f=([],false):=by rw [mdR,hg];rfl
    rw [e]
    (try simp (maxSteps:=1000000) (disch:=first | assumption | (apply ν6;assumption)) only [vz,vu,vv,eqS,eF_,↓c1_,↓c2_,tabs,reduceCtorEq,ι5,↓reduceIte,ν1,ν2,ν3,ν4,ν5,ι1,ι2,ι3,ι4])
    exact noD
  · have e:mdR f=(f,true):=by rw [mdR,hg];rfl
    rw [e]
    (try simp (maxSteps:=1000000) (disch:=first | assumption | (apply ν6;assumption)) only [vz,vu,vv,eqS,eF_,↓c1_,↓c2_,tabs,reduceCtorEq,ι5,↓reduceIte,ν1,ν2,ν3,ν4,ν5,ι1,ι2,ι3,ι4])
    exact wkK.keep ⟨rfl,rfl⟩
theorem l10Made_spec (f:List Sd) (hl:f.length≤1048576):Pu Try.prog 73 [Ds f] (.tup [Ds (mdR f).1,B (mdR f).2]):=by
  refine ⟨fun H=>CallT.fin ?_⟩
  refine W73_ok ?_;simp (maxSteps:=1000000) (disch:=first | assumption | (apply ν6;assumption)) only [W73,vz,vu,vv,eqS,eF_,↓c1_,↓c2_,tabs,reduceCtorEq,ι5,↓reduceIte,ν1,ν2,ν3,ν4,ν5,ι1,ι2,ι3,ι4]
  refine Pu.use (GoodSaid_spec f hl) ?_
  cases hg:goodF f
  · have e:mdR f=([],false):=by rw [mdR,hg];rfl
    rw [e]
    (try simp (maxSteps:=1000000) (disch:=first | assumption | (apply ν6;assumption)) only [vz,vu,vv,eqS,eF_,↓c1_,↓c2_,tabs,reduceCtorEq,ι5,↓reduceIte,ν1,ν2,ν3,ν4,ν5,ι1,ι2,ι3,ι4])
    exact noD
  · have e:mdR f=(f,true):=by rw [mdR,hg];rfl
    rw [e]
    (try simp (maxSteps:=1000000) (disch:=first | assumption | (apply ν6;assumption)) only [vz,vu,vv,eqS,eF_,↓c1_,↓c2_,tabs,reduceCtorEq,ι5,↓reduceIte,ν1,ν2,ν3,ν4,ν5,ι1,ι2,ι3,ι4])
    exact wkK.keep ⟨rfl,rfl⟩
theorem sameSaid_self (f:List Sd) (hl:f.length≤1000000):Pu Try.prog 25 [Ds f,Ds f] (B true):=by
  refine Pu.of fun H=>?_
  refine W25_ok ?_;simp (maxSteps:=1000000) (disch:=first | assumption | (apply ν6;assumption)) only [W25,vz,vu,vv,eqS,eF_,↓c1_,↓c2_,tabs,reduceCtorEq,ι5,↓reduceIte,ν1,ν2,ν3,ν4,ν5,ι1,ι2,ι3,ι4]
  refine L25_0_rule (0:Nat) (fun i=>I i) (fun _=>H) (fun i=>i≤f.length) (fun i=>f.length - i) ⟨by omega,.refl _,Heap.le_refl _⟩ ?_
  rintro i hi
  have e5:IntKind.i64.wrap ((i:Int)+1)=((i+1:Nat):Int):=by rw [i64_id (by omega) (by omega)];simp
  (try simp (maxSteps:=1000000) (disch:=first | assumption | (apply ν6;assumption)) only [vz,vu,vv,eqS,eF_,↓c1_,↓c2_,tabs,reduceCtorEq,ι5,↓reduceIte,ν1,ν2,ν3,ν4,ν5,ι1,ι2,ι3,ι4,B25_0,e5])
  intro h
  exact ⟨by omega,h,by omega,h,i+1,by omega,by omega,.refl _⟩
end Go.Proofs.Ytjdhigcefkihiaa
namespace Go.Proofs.Ytjdhigcefkihiaa
open Go Go.Sep Go.Pt
attribute [local irreducible] CallT
def RowR (l:List Int) (r:AV) (G:Heap) (D:List Nat):Prop:=∃q,r=rowP q l∧G q=some (cP fI l)∧D=[q]
theorem RowR.res (l:List Int):ResT (RowR l):=by
  refine ⟨?_,?_,?_⟩
  · rintro r G G' D ⟨q,rfl,hq,rfl⟩ hf
    exact ⟨q,rfl,hf q (by simp) _ hq,rfl⟩
  · rintro r G D ⟨q,rfl,hq,rfl⟩
    refine ⟨.inr ⟨.inr ⟨.inl ⟨_,_,_,_,rfl⟩,fun _=>rfl⟩,fun _=>rfl⟩,fun y hy bs hb c hc=>?_⟩
    rw [List.mem_singleton.1 hy,hq] at hb
    cases hb
    obtain ⟨x,_,rfl⟩:=List.mem_map.1 hc
    exact .p (.int _ _)
  · rintro r G D n G0 h0 ⟨q,rfl,hq,rfl⟩
    refine ⟨q+n,rfl,?_,rfl⟩
    have hr:=LRow.sh (LPl.sh eI) h0 (LI_mk' hq)
    obtain ⟨q',cs,D',e1,e2,e3,e4⟩:=hr
    obtain ⟨rfl,-⟩:=LL.plain' e3
    have e:q'=q+n:=by
      have h1:shC n (rowP q l)=.sl (q+n) 1 0 l.length:=rfl
      rw [h1] at e1
      injection e1 with e1;exact e1.symm
    subst e
    have e5:cells (l.map eI)=cP fI l:=cells_P fI l
    rw [← e5];exact e2
def tr (f:List Sd):List Int:=sc (trL f f.length)
end Go.Proofs.Ytjdhigcefkihiaa
namespace Go.Proofs.Ytjdhigcefkihiaa
open Go Go.Sep Go.Pt
attribute [local irreducible] CallT
def goodT (f:List Sd):Bool:=goodF f && decide ((tr f).length≤5)
def RowB (l:List Int) (ok:Bool) (r:AV) (G:Heap) (D:List Nat):Prop:=∃q,r=.tup [rowP q l,B ok]∧G q=some (cP fI l)∧D=[q]
theorem RowB.res (l:List Int) (ok:Bool):ResT (RowB l ok):=by
  refine ⟨?_,?_,?_⟩
  · rintro r G G' D ⟨q,rfl,hq,rfl⟩ hf
    exact ⟨q,rfl,hf q (by simp) _ hq,rfl⟩
  · rintro r G D ⟨q,rfl,hq,rfl⟩
    refine ⟨.inl ⟨_,rfl,fun u hu=>?_⟩,fun y hy bs hb c hc=>?_⟩
    · rcases List.mem_cons.1 hu with rfl | hu
      · exact .inr ⟨.inl ⟨_,_,_,_,rfl⟩,fun _=>rfl⟩
      · rw [List.mem_singleton] at hu;rw [hu];exact .inr ⟨.p (.bool ok),fun _=>rfl⟩
    · rw [List.mem_singleton.1 hy,hq] at hb
      cases hb
      obtain ⟨x,_,rfl⟩:=List.mem_map.1 hc
      exact .p (.int _ _)
  · rintro r G D n G0 h0 ⟨q,rfl,hq,rfl⟩
    obtain ⟨q',e,h1,_⟩:=(RowR.res l).sh h0 ⟨q,rfl,hq,rfl⟩
    have e2:q'=q+n:=by
      have h1:sh2 n (rowP q l)=.sl (q+n) 1 0 l.length:=rfl
      rw [h1] at e
      injection e with e;exact e.symm
    subst e2
    exact ⟨q+n,rfl,h1,rfl⟩
end Go.Proofs.Ytjdhigcefkihiaa
namespace Go.Proofs.Ytjdhigcefkihiaa
open Go Go.Sep Go.Pt
attribute [local irreducible] CallT
end Go.Proofs.Ytjdhigcefkihiaa
