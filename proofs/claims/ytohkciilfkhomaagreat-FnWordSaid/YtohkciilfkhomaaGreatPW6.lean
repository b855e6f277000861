/- Texts laid together: Lt1 Lt2 Lb2 Lt3 Lt4 Ma2 Ma4 Ma5 Mt0 Mb0 Ps1 Ms0 Ma6 Ma7 Ma8 Lb1c. -/
import Derived.Test.YtohkciilfkhomaaGreatPW5
import Derived.Lib.SlicesCompact
set_option linter.unusedVariables false
set_option linter.unusedSimpArgs false
open Go.Sep.AV renaming any → Q_
open Nat renaming reduceAdd→ν1,reduceLeDiff→ν2,reduceLT→ν3,reduceMul→ν4,reduceSub→ν5
open Int renaming reduceToNat→ι1,reduceSub→ι2,reduceAdd→ι3,reduceNeg→ι4
open Array renaming toList→ι5
open Ne renaming symm→ν6
open List renaming forall_mem_cons→ν7
namespace Go.Sep
open Go Go.RowKit
abbrev Lay (α:Type):=α→List AV→Heap→List Nat→Prop
def LPl {α:Type} (e:α→List PV):Lay α:=fun a cs _ D=>cs=(e a).map .p∧D=[]
def LL {α:Type} (L:Lay α):List α→List AV→Heap→List Nat→Prop
 | [],cs,_,D=>cs=[]∧D=[]
 | a::az,cs,G,D=>∃c1 c2 D1 D2,cs=c1++c2∧D=D1++D2∧L a c1 G D1∧LL L az c2 G D2
def LRow {α:Type} (L:Lay α) (sz:Nat):List α→AV→Heap→List Nat→Prop:=fun xs x G D=>∃q cs D',x=.sl q sz 0 xs.length∧G q=some cs∧LL L xs cs G D'∧D=q::D'
def Lay.Local {α:Type} (L:Lay α):Prop:=∀a cs G G' D,L a cs G D→(∀y∈D,∀b,G y=some b→G' y=some b)→L a cs G' D
def Lay.Size {α:Type} (L:Lay α) (sz:Nat):Prop:=∀a cs G D,L a cs G D→cs.length=sz
theorem LPl.local {α:Type} (e:α→List PV):Lay.Local (LPl e):=fun a cs G G' D h _=>h
theorem LPl.size {α:Type} {e:α→List PV} {sz:Nat} (h:∀a,(e a).length=sz):Lay.Size (LPl e) sz:=fun a cs G D hl=>by rw [hl.1,List.length_map,h]
theorem LL.local {α:Type} {L:Lay α} (hL:L.Local):∀{az:List α} {cs:List AV} {G G':Heap} {D:List Nat},LL L az cs G D→(∀y∈D,∀b,G y=some b→G' y=some b)→LL L az cs G' D
 | [],cs,G,G',D,h,_=>h
 | a::az,cs,G,G',D,⟨c1,c2,D1,D2,e1,e2,h1,h2⟩,hf=>by
  subst e2
  exact ⟨c1,c2,D1,D2,e1,rfl,hL _ _ _ _ _ h1 (fun y hy=>hf y (List.mem_append_left _ hy)),LL.local hL h2 (fun y hy=>hf y (List.mem_append_right _ hy))⟩
theorem LL.size {α:Type} {L:Lay α} {sz:Nat} (hL:L.Size sz):∀{az:List α} {cs:List AV} {G:Heap} {D:List Nat},LL L az cs G D→cs.length=az.length*sz
 | [],cs,G,D,h=>by rw [h.1];simp
 | a::az,cs,G,D,⟨c1,c2,D1,D2,e1,e2,h1,h2⟩=>by
  rw [e1,List.length_append,hL _ _ _ _ h1,LL.size hL h2,List.length_cons,Nat.add_mul,Nat.one_mul];omega
theorem LRow.local {α:Type} {L:Lay α} {sz:Nat} (hL:L.Local) {xs:List α} {x:AV} {G G':Heap} {D:List Nat} (h:LRow L sz xs x G D) (hf:∀y∈D,∀b,G y=some b→G' y=some b):LRow L sz xs x G' D:=by
 obtain ⟨q,cs,D',e1,e2,e3,e4⟩:=h
 subst e4
 exact ⟨q,cs,D',e1,hf q (by simp) _ e2,LL.local hL e3 (fun y hy=>hf y (by simp [hy])),rfl⟩
def Lay.Has {α:Type} (L:Lay α):Prop:=∀a cs G D,L a cs G D→∀y∈D,G y≠none
theorem LPl.has {α:Type} (e:α→List PV):Lay.Has (LPl e):=fun a cs G D h y hy=>by rw [h.2] at hy;cases hy
theorem LL.has {α:Type} {L:Lay α} (hL:L.Has):∀{az:List α} {cs:List AV} {G:Heap} {D:List Nat},LL L az cs G D→∀y∈D,G y≠none
 | [],cs,G,D,h=>fun y hy=>by rw [h.2] at hy;cases hy
 | a::az,cs,G,D,⟨c1,c2,D1,D2,e1,e2,h1,h2⟩=>fun y hy=>by
  rw [e2] at hy
  rcases List.mem_append.1 hy with hy | hy
  ·exact hL _ _ _ _ h1 y hy
  ·exact LL.has hL h2 y hy
theorem LRow.has {α:Type} {L:Lay α} {sz:Nat} (hL:L.Has) {xs:List α} {x:AV} {G:Heap} {D:List Nat} (h:LRow L sz xs x G D):∀y∈D,G y≠none:=by
 obtain ⟨q,cs,D',e1,e2,e3,e4⟩:=h
 intro y hy
 rw [e4] at hy
 rcases List.mem_cons.1 hy with rfl | hy
 ·rw [e2];simp
 ·exact LL.has hL e3 y hy
theorem LL.plain {α:Type} {e:α→List PV} {G:Heap}:∀(xs:List α),LL (LPl e) xs (cells (xs.map e)) G []
 | []=>⟨rfl,rfl⟩
 | x::xs=>⟨(e x).map .p,cells (xs.map e),[],[],by simp [cells],rfl,⟨rfl,rfl⟩,LL.plain xs⟩
theorem splice_at {pre c c' post:List AV} {off n:Nat} (ho:off=pre.length) (hn:n=c'.length) (hc:c.length=c'.length):List.take off (pre++(c++post))++c'++List.drop (off+n) (pre++(c++post))=pre++(c'++post):=by
 subst ho;subst hn
 rw [List.take_left',List.append_assoc]
 ·congr 2
  rw [List.drop_append,← hc]
  simp
 ·rfl
theorem LL.snoc {α:Type} {L:Lay α} {a:α} {c2:List AV} {G:Heap} {D2:List Nat} (h2:L a c2 G D2):∀{az:List α} {c1:List AV} {D1:List Nat},LL L az c1 G D1→LL L (az++[a]) (c1++c2) G (D1++D2)
 | [],c1,D1,h=>by
  obtain ⟨rfl,rfl⟩:=h
  exact ⟨c2,[],D2,[],by simp,by simp,h2,rfl,rfl⟩
 | b::az,c1,D1,⟨d1,d2,E1,E2,e1,e2,h1,h3⟩=>by
  subst e1;subst e2
  exact ⟨d1,d2++c2,E1,E2++D2,by simp,by simp,h1,LL.snoc h2 h3⟩
theorem LL.split {α:Type} [Inhabited α] {L:Lay α} {sz:Nat} (hL:L.Size sz):∀{az:List α} {cs:List AV} {G:Heap} {D:List Nat} {i:Nat},LL L az cs G D→i < az.length→
  ∃c1 c c2 D1 Di D2,cs=c1++(c++c2)∧D=D1++(Di++D2)∧c1.length=i*sz∧L (az.getD i default) c G Di∧LL L (az.take i) c1 G D1∧LL L (az.drop (i+1)) c2 G D2
 | a::az,cs,G,D,0,⟨c1,c2,D1,D2,e1,e2,h1,h2⟩,_=>⟨[],c1,c2,[],D1,D2,by simpa using e1,by simpa using e2,by simp,by simpa using h1,⟨rfl,rfl⟩,by simpa using h2⟩
 | a::az,cs,G,D,i+1,⟨c1,c2,D1,D2,e1,e2,h1,h2⟩,hi=>by
  obtain ⟨d1,d,d2,E1,Ei,E2,f1,f2,f3,f4,f5,f6⟩:=LL.split hL h2 (i:=i) (by simpa using hi)
  subst e1;subst e2;subst f1;subst f2
  refine ⟨c1++d1,d,d2,D1++E1,Ei,E2,by simp,by simp,?_,by simpa using f4,⟨c1,d1,D1,E1,rfl,rfl,h1,f5⟩,by simpa using f6⟩
  rw [List.length_append,hL _ _ _ _ h1,f3,Nat.add_mul,Nat.one_mul];omega
theorem LL.join {α:Type} {L:Lay α}:∀{az bs:List α} {c1 c2:List AV} {G:Heap} {D1 D2:List Nat},LL L az c1 G D1→LL L bs c2 G D2→LL L (az++bs) (c1++c2) G (D1++D2)
 | [],bs,c1,c2,G,D1,D2,h1,h2=>by
  obtain ⟨rfl,rfl⟩:=h1
  simpa using h2
 | a::az,bs,c1,c2,G,D1,D2,⟨d1,d2,E1,E2,e1,e2,h1,h3⟩,h2=>by
  subst e1;subst e2
  exact ⟨d1,d2++c2,E1,E2++D2,by simp,by simp,h1,LL.join h3 h2⟩
def Lay.Frz {α:Type} (L:Lay α) (e:α→List PV):Prop:=∀(a:α) (cs:List AV) (G:Heap) (D:List Nat) (v:AV) (s:Nat) (pre post:List AV),L a cs G D→D.Nodup→s∉D→G s=some (pre++(cs++post))→
 ∃G',Wk v G v G'∧G' s=some (pre++((e a).map .p++post))∧∀y,y≠s→y∉D→G' y=G y
theorem LPl.frz {α:Type} (e:α→List PV):(LPl e).Frz e:=by
 rintro a cs G D v s pre post ⟨rfl,rfl⟩ _ _ hs
 exact ⟨G,.refl _ _,hs,fun _ _ _=>rfl⟩
theorem LL.frz {α:Type} {L:Lay α} {e:α→List PV} (hl:L.Local) (hf:L.Frz e):∀(az:List α) (cs:List AV) (G:Heap) (D:List Nat) (v:AV) (s:Nat) (pre post:List AV),LL L az cs G D→D.Nodup→s∉D→G s=some (pre++(cs++post))→
  ∃G',Wk v G v G'∧G' s=some (pre++((az.map e).flatten.map .p++post))∧∀y,y≠s→y∉D→G' y=G y
 | [],cs,G,D,v,s,pre,post,h,hD,hs,hG=>by
  obtain ⟨rfl,rfl⟩:=h
  exact ⟨G,.refl _ _,by simpa using hG,fun _ _ _=>rfl⟩
 | a::az,cs,G,D,v,s,pre,post,⟨c1,c2,D1,D2,e1,e2,h1,h2⟩,hD,hs,hG=>by
  subst e1;subst e2
  rw [List.nodup_append] at hD
  rw [List.mem_append,not_or] at hs
  obtain ⟨G1,w1,k1,f1⟩:=hf a c1 G D1 v s pre (c2++post) h1 hD.1 hs.1 (by rw [hG];simp)
  have h2':LL L az c2 G1 D2:=LL.local hl h2 fun y hy b hb=>by rw [f1 y (fun e=>hs.2 (e ▸ hy)) (fun hy1=>hD.2.2 y hy1 y hy rfl)];exact hb
  obtain ⟨G2,w2,k2,f2⟩:=LL.frz hl hf az c2 G1 D2 v s (pre++(e a).map .p) post h2' hD.2.1 hs.2 (by rw [k1];simp)
  refine ⟨G2,.trans w1 w2,by rw [k2];simp,fun y hy hyD=>?_⟩
  rw [List.mem_append,not_or] at hyD
  rw [f2 y hy hyD.2,f1 y hy hyD.1]
theorem FrzL.refl' {r sz:Nat} {es:List (List PV)}:∀vs,FrzL r sz es vs vs
 | []=>.nil
 | v::vs=>.cons (.same v) (FrzL.refl' vs)
theorem FrzL.at {r sz:Nat} {es:List (List PV)} {x x':AV} (h:FrzR r sz es x x') (post:List AV):∀pre,FrzL r sz es (pre++([x]++post)) (pre++([x']++post))
 | []=>.cons h (FrzL.refl' post)
 | v::pre=>.cons (.same v) (FrzL.at h post pre)
theorem LRow.frzIn {α:Type} {L:Lay α} {e:α→List PV} {sz:Nat} (hpos:0 < sz) (he:∀a,(e a).length=sz) (hl:L.Local) (hf:L.Frz e) {xs:List α} {x:AV} {G:Heap} {D:List Nat} {v:AV} {s:Nat} {pre post:List AV} (h:LRow L sz xs x G D) (hD:D.Nodup) (hs:s∉D) (hG:G s=some (pre++([x]++post))) :
  ∃G',Wk v G v G'∧G' s=some (pre++([.p (.sl (xs.map e))]++post))∧∀y,y≠s→y∉D→G' y=G y:=by
 obtain ⟨q,cs,D',rfl,hq,hll,rfl⟩:=h
 rw [List.nodup_cons] at hD
 rw [List.mem_cons,not_or] at hs
 obtain ⟨G1,w1,k1,f1⟩:=LL.frz hl hf xs cs G D' v q [] [] hll hD.2 hD.1 (by simpa using hq)
 have hG1:G1 s=some (pre++([.sl q sz 0 xs.length]++post)):=by rw [f1 s hs.1 hs.2];exact hG
 have k1':G1 q=some ((xs.map e).flatten.map .p):=by simpa using k1
 have hr:FrzR q sz (xs.map e) (.sl q sz 0 xs.length) (.p (.sl (xs.map e))):=by
  have:FrzR q sz (xs.map e) (.sl q sz 0 (xs.map e).length) (.p (.sl (xs.map e))):=.here
  rwa [List.length_map] at this
 refine ⟨(G1.del q).set s (pre++([.p (.sl (xs.map e))]++post)),.trans w1 (Wk.frzAt hpos k1' (sized_map he xs) hG1 hs.1 (FrzL.at hr post pre) (.same v) (by simp)),Heap.set_same _ _ _,fun y hy hyD=>?_⟩
 rw [List.mem_cons,not_or] at hyD
 rw [Heap.set_other hy,Heap.del_other hyD.1,f1 y hyD.1 hyD.2]
theorem LRow.frzV {α:Type} {L:Lay α} {e:α→List PV} {sz:Nat} (hpos:0 < sz) (he:∀a,(e a).length=sz) (hl:L.Local) (hf:L.Frz e) {xs:List α} {x:AV} {G:Heap} {D:List Nat} {v v':AV} (h:LRow L sz xs x G D) (hD:D.Nodup)
  (hv:∀q,x=.sl q sz 0 xs.length→FrzR q sz (xs.map e) x (.p (.sl (xs.map e)))→FrzR q sz (xs.map e) v v') :
  ∃G',Wk v G v' G'∧∀y,y∉D→G' y=G y:=by
 obtain ⟨q,cs,D',rfl,hq,hll,rfl⟩:=h
 rw [List.nodup_cons] at hD
 obtain ⟨G1,w1,k1,f1⟩:=LL.frz hl hf xs cs G D' v q [] [] hll hD.2 hD.1 (by simpa using hq)
 have k1':G1 q=some ((xs.map e).flatten.map .p):=by simpa using k1
 have hr:FrzR q sz (xs.map e) (.sl q sz 0 xs.length) (.p (.sl (xs.map e))):=by
  have:FrzR q sz (xs.map e) (.sl q sz 0 (xs.map e).length) (.p (.sl (xs.map e))):=.here
  rwa [List.length_map] at this
 refine ⟨G1.del q,.trans w1 (Wk.frz hpos k1' (sized_map he xs) (hv q rfl hr)),fun y hyD=>?_⟩
 rw [List.mem_cons,not_or] at hyD
 rw [Heap.del_other hyD.1,f1 y hyD.1 hyD.2]
def Lay.Gd {α:Type} (L:Lay α):Prop:=∀a cs G D,L a cs G D→(∀c∈cs,GdC c)∧∀y∈D,∀bs,G y=some bs→∀c∈bs,GdC c
def Lay.Sh {α:Type} (L:Lay α):Prop:=∀a cs G D n G0,(∀q,n≤q→G0 q=none)→L a cs G D→L a (cs.map (shC n)) (Heap.or G0 (shH n G)) (D.map (·+n))
theorem LPl.gd {α:Type} {e:α→List PV} (h:∀a,∀x∈e a,Plain (.p x)):Lay.Gd (LPl e):=by
 rintro a cs G D ⟨rfl,rfl⟩
 refine ⟨fun c hc=>?_,fun y hy=>by cases hy⟩
 obtain ⟨x,hx,rfl⟩:=List.mem_map.1 hc
 exact .p (h a x hx)
theorem LPl.sh {α:Type} (e:α→List PV):Lay.Sh (LPl e):=by
 rintro a cs G D n G0 _ ⟨rfl,rfl⟩
 exact ⟨by rw [List.map_map];rfl,rfl⟩
theorem LL.gd {α:Type} {L:Lay α} (hL:L.Gd):∀{az:List α} {cs:List AV} {G:Heap} {D:List Nat},LL L az cs G D→(∀c∈cs,GdC c)∧∀y∈D,∀bs,G y=some bs→∀c∈bs,GdC c
 | [],_,_,_,⟨e1,e2⟩=>by subst e1;subst e2;exact ⟨(fun c hc=>by cases hc),(fun y hy=>by cases hy)⟩
 | a::az,_,_,_,⟨c1,c2,D1,D2,e1,e2,h1,h2⟩=>by
  subst e1;subst e2
  obtain ⟨a1,a2⟩:=hL _ _ _ _ h1
  obtain ⟨b1,b2⟩:=LL.gd hL h2
  refine ⟨fun c hc=>?_,fun y hy=>?_⟩
  ·rcases List.mem_append.1 hc with hc | hc
   ·exact a1 c hc
   ·exact b1 c hc
  ·rcases List.mem_append.1 hy with hy | hy
   ·exact a2 y hy
   ·exact b2 y hy
theorem LL.sh {α:Type} {L:Lay α} (hL:L.Sh) {n:Nat} {G0:Heap} (h0:∀q,n≤q→G0 q=none):∀{az:List α} {cs:List AV} {G:Heap} {D:List Nat},LL L az cs G D→LL L az (cs.map (shC n)) (Heap.or G0 (shH n G)) (D.map (·+n))
 | [],_,_,_,⟨e1,e2⟩=>by subst e1;subst e2;exact ⟨rfl,rfl⟩
 | a::az,_,_,_,⟨c1,c2,D1,D2,e1,e2,h1,h2⟩=>by
  subst e1;subst e2
  exact ⟨_,_,_,_,List.map_append,List.map_append,hL _ _ _ _ n G0 h0 h1,LL.sh hL h0 h2⟩
theorem or_sh {G0 G:Heap} {n q:Nat} (h0:∀q,n≤q→G0 q=none):(Heap.or G0 (shH n G)) (q+n)=(G q).map (List.map (shC n)):=by
 simp only [Heap.or,shH,h0 (q+n) (by omega),show n≤q+n by omega,if_true,Nat.add_sub_cancel]
theorem LRow.gd {α:Type} {L:Lay α} {sz:Nat} (hL:L.Gd) {xs:List α} {x:AV} {G:Heap} {D:List Nat} (h:LRow L sz xs x G D):GdC x∧∀y∈D,∀bs,G y=some bs→∀c∈bs,GdC c:=by
 obtain ⟨q,cs,D',rfl,hq,hll,rfl⟩:=h
 obtain ⟨h1,h2⟩:=LL.gd hL hll
 refine ⟨.inl ⟨_,_,_,_,rfl⟩,fun y hy bs hb=>?_⟩
 rcases List.mem_cons.1 hy with rfl | hy
 ·rw [hq] at hb;cases hb;exact h1
 ·exact h2 y hy bs hb
theorem LRow.sh {α:Type} {L:Lay α} {sz:Nat} (hL:L.Sh) {n:Nat} {G0:Heap} (h0:∀q,n≤q→G0 q=none) {xs:List α} {x:AV} {G:Heap} {D:List Nat} (h:LRow L sz xs x G D):LRow L sz xs (shC n x) (Heap.or G0 (shH n G)) (D.map (·+n)):=by
 obtain ⟨q,cs,D',rfl,hq,hll,rfl⟩:=h
 exact ⟨q+n,cs.map (shC n),D'.map (·+n),rfl,by rw [or_sh h0,hq];rfl,LL.sh hL h0 hll,rfl⟩
def only (D:List Nat) (G:Heap):Heap:=fun y=>if y∈D then G y else none
theorem only_le (D:List Nat) (G:Heap):Heap.le (only D G) G:=fun y b hb=>by
 unfold only at hb;split at hb
 ·exact hb
 ·cases hb
theorem only_in {D:List Nat} {G:Heap} {y:Nat} (h:y∈D):only D G y=G y:=if_pos h
theorem only_out {D:List Nat} {G:Heap} {y:Nat} (h:y∉D):only D G y=none:=if_neg h
end Go.Sep
namespace Go.Proofs.YtohkciilfkhomaaGreat
open Go Go.Sep Go.Pt
attribute [local irreducible] CallT
abbrev LN:List Nd→AV→Heap→List Nat→Prop:=LRow (LPl eN) 2
abbrev LI:List Int→AV→Heap→List Nat→Prop:=LRow (LPl eI) 1
def LCh:Lay Ch:=fun c cs G D=>∃x,cs=[I c.var,x]∧LN c.by_ x G D
def LCm:Lay Cm:=fun c cs G D=>∃x y D1 D2,cs=[x,y]∧D=D1++D2∧LN c.when_ x G D1∧LRow LCh 2 c.chs y G D2
theorem LCh.local:Lay.Local LCh:=by
 rintro c cs G G' D ⟨x,e,h⟩ hf
 exact ⟨x,e,LRow.local (LPl.local eN) h hf⟩
theorem LCh.size:Lay.Size LCh 2:=by
 rintro c cs G D ⟨x,rfl,h⟩;rfl
theorem LCh.has:Lay.Has LCh:=by
 rintro c cs G D ⟨x,e,h⟩
 exact LRow.has (LPl.has eN) h
theorem LCh.frz:Lay.Frz LCh eCh:=by
 rintro c cs G D v s pre post ⟨x,rfl,h⟩ hD hs hG
 obtain ⟨G',w,k,f⟩:=LRow.frzIn (e:=eN) (sz:=2) (pre:=pre++[I c.var]) (post:=post) (v:=v) (by omega) (fun _=>rfl) (LPl.local eN) (LPl.frz eN) h hD hs (by rw [hG];simp)
 exact ⟨G',w,by rw [k];simp,f⟩
theorem LCm.local:Lay.Local LCm:=by
 rintro c cs G G' D ⟨x,y,D1,D2,e,rfl,h1,h2⟩ hf
 exact ⟨x,y,D1,D2,e,rfl,LRow.local (LPl.local eN) h1 (fun z hz=>hf z (List.mem_append_left _ hz)),LRow.local LCh.local h2 (fun z hz=>hf z (List.mem_append_right _ hz))⟩
theorem LCm.size:Lay.Size LCm 2:=by
 rintro c cs G D ⟨x,y,D1,D2,rfl,e,h1,h2⟩;rfl
theorem LCm.has:Lay.Has LCm:=by
 rintro c cs G D ⟨x,y,D1,D2,e,rfl,h1,h2⟩ z hz
 rcases List.mem_append.1 hz with hz | hz
 ·exact LRow.has (LPl.has eN) h1 z hz
 ·exact LRow.has LCh.has h2 z hz
theorem LCm.frz:Lay.Frz LCm eCm:=by
 rintro c cs G D v s pre post ⟨x,y,D1,D2,rfl,rfl,h1,h2⟩ hD hs hG
 rw [List.nodup_append] at hD
 rw [List.mem_append,not_or] at hs
 obtain ⟨G1,w1,k1,f1⟩:=LRow.frzIn (e:=eN) (sz:=2) (pre:=pre) (post:=y::post) (v:=v) (by omega) (fun _=>rfl) (LPl.local eN) (LPl.frz eN) h1 hD.1 hs.1 (by rw [hG];simp)
 have h2':LRow LCh 2 c.chs y G1 D2:=LRow.local LCh.local h2 fun z hz b hb=>by rw [f1 z (fun e=>hs.2 (e ▸ hz)) (fun hz1=>hD.2.2 z hz1 z hz rfl)];exact hb
 obtain ⟨G2,w2,k2,f2⟩:=LRow.frzIn (e:=eCh) (sz:=2) (pre:=pre++[Ns c.when_]) (post:=post) (v:=v) (by omega) (fun _=>rfl) LCh.local LCh.frz h2' hD.2.1 hs.2 (by rw [k1];simp)
 refine ⟨G2,.trans w1 w2,by rw [k2];simp,fun z hz hzD=>?_⟩
 rw [List.mem_append,not_or] at hzD
 rw [f2 z hz hzD.2,f1 z hz hzD.1]
structure New (H G:Heap) (D:List Nat):Prop where
 nd:D.Nodup
 fr:∀y∈D,H y=none
 le:Heap.le H G
theorem New.trans {H G G':Heap} {D D':List Nat} (n:New H G D) (m:New G G' D') (hh:∀y∈D,G y≠none):New H G' (D++D'):=by
 refine ⟨List.nodup_append.2 ⟨n.nd,m.nd,fun a ha b hb e=>hh a ha (by rw [e];exact m.fr b hb)⟩,fun y hy=>?_,Heap.le_trans n.le m.le⟩
 rcases List.mem_append.1 hy with hy | hy
 ·exact n.fr y hy
 ·cases hh:H y with
  | none=>rfl
  | some b=>rw [← m.fr y hy,n.le y b hh]
theorem New.base {H H' G:Heap} {D:List Nat} (n:New H' G D) (hle:Heap.le H H'):New H G D:=
 ⟨n.nd,fun y hy=>by
  cases hh:H y with
  | none=>rfl
  | some b=>rw [← n.fr y hy,hle y b hh],Heap.le_trans hle n.le⟩
theorem New.put {H G:Heap} {D:List Nat} (n:New H G D) {q:Nat} (hq:H q=none) (b:List AV):New H (G.set q b) D:=⟨n.nd,n.fr,Heap.le_setN n.le hq⟩
theorem LRow.sl {α:Type} {L:Lay α} {sz:Nat} {xs:List α} {x:AV} {G:Heap} {D:List Nat} (h:LRow L sz xs x G D):∃q,x=.sl q sz 0 xs.length:=by
 obtain ⟨q,cs,D',e1,e2,e3,e4⟩:=h;exact ⟨q,e1⟩
end Go.Proofs.YtohkciilfkhomaaGreat
namespace Go.Proofs.YtohkciilfkhomaaGreat
open Go Go.Sep
attribute [local irreducible] CallT
abbrev fI (n:Int):PV:=.int .i64 n
abbrev rowP {α:Type} (q:Nat) (xs:List α):AV:=.sl q 1 0 xs.length
abbrev cP {α:Type} (f:α→PV) (xs:List α):List AV:=xs.map fun x=>AV.p (f x)
abbrev vP {α:Type} (f:α→PV) (xs:List α):AV:=.p (.sl (xs.map fun x=>[f x]))
theorem cells_P {α:Type} (f:α→PV) (xs:List α):cells (xs.map fun x=>[f x])=cP f xs:=by
 induction xs with
 | nil=>rfl
 | cons x xs ih=>simp only [cells,List.map_cons,List.flatten_cons,List.map_append] at ih ⊢;rw [ih];rfl
theorem flat_P {α:Type} (f:α→PV) (xs:List α):(xs.map fun x=>[f x]).flatten.map AV.p=cP f xs:=cells_P f xs
theorem szP {α:Type} (f:α→PV) (xs:List α):Sized 1 (xs.map fun x=>[f x]):=sized_map (f:=fun x=>[f x]) (fun _=>rfl) xs
def Base {α:Type} (f:α→PV) (x:AV) (xs:List α) (G:Heap):Prop:=(x=.p .nil∧xs=[])∨∃q,x=rowP q xs∧G q=some (cP f xs)
theorem app_row {α:Type} {f:α→PV} {tab:Tab} {t e:Nat} {d ed:TD} {q:Nat} {xs ys:List α} {G:Heap} {K:AV→Heap→Prop} (h1:tab t=some d) (h2:d.k=.slice e) (h3:tab e=some ed) (h6:ed.size=1) (h7:ed.bytes≤64)
  (hq:G q=some (cP f xs)) (hl:xs.length+ys.length≤1000000000)
  (h:∀q',G q'=none→K (rowP q' (xs++ys)) ((G.del q).set q' (cP f (xs++ys)))):aP_ tab t t (rowP q xs) (vP f ys) G (wkK K):=by
 have:=app_own (x:=vP f ys) (r:=q) (es:=xs.map fun x=>[f x]) (fs:=ys.map fun x=>[f x]) (H:=G) (K:=K) h1 h2 h3 h1 h2 h6 (bz:=ed.bytes) rfl (.inl rfl) (by rw [cells_P];exact hq) (szP f xs) (szP f ys)
  (by simp only [List.length_map];exact Nat.le_trans (Nat.mul_le_mul hl h7) (by omega)) (by simp only [List.length_map];omega) fun r' hr'=>by
   have:=h r' hr'
   rw [← List.map_append,cells_P]
   simpa only [own,List.length_map] using this
 simpa only [own,List.length_map] using this
theorem app_base {α:Type} {f:α→PV} {tab:Tab} {t e:Nat} {d ed:TD} {x:AV} {xs ys:List α} {G:Heap} {K:AV→Heap→Prop} (h1:tab t=some d) (h2:d.k=.slice e) (h3:tab e=some ed) (h6:ed.size=1) (h7:ed.bytes≤64)
  (hb:Base f x xs G) (hl:xs.length+ys.length≤1000000000)
  (h:∀q' G1,G q'=none→G1 q'=some (cP f (xs++ys))→(∀y,y≠q'→(∀q,x=rowP q xs→y≠q)→G1 y=G y)→K (rowP q' (xs++ys)) G1):aP_ tab t t x (vP f ys) G (wkK K):=by
 rcases hb with ⟨rfl,rfl⟩ | ⟨q,rfl,hq⟩
 ·simp only [aP_,h1,h2,h3,h6,srcV,baseV]
  refine ⟨szP f ys,?_,?_,?_,fun r' hr'=>wkK.keep ?_⟩
  ·have hl2:0+(ys.map fun x=>[f x]).length≤1000000000:=by simpa using hl
   exact Nat.le_trans (Nat.mul_le_mul hl2 h7) (by omega)
  ·simp only [List.length_map];simp at hl;omega
  ·exact cells_cell _
  ·have:=h r' (G.set r' (cP f ys)) hr' (by rw [Heap.set_same];rfl) (fun y hy _=>Heap.set_other hy)
   rw [flat_P]
   simpa using this
 ·refine app_row h1 h2 h3 h6 h7 hq hl fun q' hq'=>?_
  have hne:q'≠q:=by rintro rfl;rw [hq] at hq';cases hq'
  refine h q' _ hq' (Heap.set_same _ _ _) fun y hy hy2=>?_
  rw [Heap.set_other hy,Heap.del_other (hy2 q rfl)]
structure Own1 {α:Type} (f:α→PV) (H0 G:Heap) (r:Nat) (pre:List AV) (x:AV) (xs:List α):Prop where
 hr:G r=some (pre++[x])
 base:(x=.p .nil∧xs=[])∨∃q,x=rowP q xs∧G q=some (cP f xs)∧H0 q=none∧q≠r
 le:Heap.le H0 G
 nr:H0 r=none
theorem Own1.alloc {α:Type} {f:α→PV} {H0 G:Heap} {r:Nat} {pre:List AV} {x:AV} {xs:List α} (o:Own1 f H0 G r pre x xs) {q:Nat} (hq:G q=none) (b:List AV):Own1 f H0 (G.set q b) r pre x xs:=by
 have ne:∀{y c},G y=some c→y≠q:=fun h e=>by rw [e,hq] at h;cases h
 refine ⟨by rw [Heap.set_other (ne o.hr)];exact o.hr,?_,Heap.le_setN o.le ?_,o.nr⟩
 ·rcases o.base with h | ⟨q1,h1,h2,h3,h4⟩
  ·exact .inl h
  ·exact .inr ⟨q1,h1,by rw [Heap.set_other (ne h2)];exact h2,h3,h4⟩
 ·cases hh:H0 q with
  | none=>rfl
  | some c=>rw [o.le q c hh] at hq;cases hq
theorem Own1.app {α:Type} {f:α→PV} {H0 G:Heap} {r:Nat} {pre:List AV} {x:AV} {xs:List α} (o:Own1 f H0 G r pre x xs) {tab:Tab} {t e:Nat} {d ed:TD} {ys:List α} {K:AV→Heap→Prop} (h1:tab t=some d) (h2:d.k=.slice e) (h3:tab e=some ed) (h6:ed.size=1) (h7:ed.bytes≤64)
  (hl:xs.length+ys.length≤1000000000)
  (h:∀q' m G1,G1 r=some (pre++[x])→Own1 f H0 (G1.set r (pre++[.sl q' 1 0 m])) r pre (.sl q' 1 0 m) (xs++ys)→(∀y b,y≠r→H0 y=some b→G1 y=some b)→K (.sl q' 1 0 m) G1):aP_ tab t t x (vP f ys) G (wkK K):=by
 refine app_base (f:=f) h1 h2 h3 h6 h7 (xs:=xs) ?_ hl fun q' G1 hq' hG1 hfr=>?_
 ·rcases o.base with h | ⟨q1,h1,h2,h3,h4⟩
  ·exact .inl h
  ·exact .inr ⟨q1,h1,h2⟩
 ·have hrq:r≠q':=fun e=>by rw [← e,o.hr] at hq';cases hq'
  have hxr:∀q,x=rowP q xs→H0 q=none∧q≠r:=by
   intro q hx
   rcases o.base with ⟨h,_⟩ | ⟨q1,h1,h2,h3,h4⟩
   ·rw [h] at hx;cases hx
   ·rw [h1] at hx;cases hx;exact ⟨h3,h4⟩
  have hle1:∀y b,H0 y=some b→G1 y=some b:=by
   intro y b hy
   rw [hfr y (fun e=>by rw [← e,o.le y b hy] at hq';cases hq') (fun q hx e=>by rw [e,(hxr q hx).1] at hy;cases hy)]
   exact o.le y b hy
  have hnq:H0 q'=none:=by
   cases hh:H0 q' with
   | none=>rfl
   | some c=>rw [o.le q' c hh] at hq';cases hq'
  refine h q' _ G1 ?_ ⟨Heap.set_same _ _ _,.inr ⟨q',rfl,by rw [Heap.set_other hrq.symm];exact hG1,hnq,hrq.symm⟩,?_,o.nr⟩ fun y b _ hy=>hle1 y b hy
  ·rw [hfr r hrq (fun q hx e=>(hxr q hx).2 e.symm)];exact o.hr
  ·refine Heap.le_setN (fun y b hy=>hle1 y b hy) o.nr
theorem Own1.wk {α:Type} {f:α→PV} {H0 G:Heap} {r:Nat} {pre:List AV} {x:AV} {xs:List α} (o:Own1 f H0 G r pre x xs) {v v':AV}
  (hn:x=.p .nil→xs=[]→AV.wk v v') (hf:∀q,x=rowP q xs→FrzR q 1 (xs.map fun x=>[f x]) v v') (hp:∀q,q≠r→FrzL q 1 (xs.map fun x=>[f x]) (pre++[rowP q xs]) (pre++[vP f xs])) :
  ∃G',Wk v G v' G'∧G' r=some (pre++[vP f xs])∧Heap.le H0 G':=by
 rcases o.base with ⟨rfl,rfl⟩ | ⟨q,rfl,hq,hq0,hqr⟩
 ·refine ⟨G.set r (pre++[vP f []]),.trans (.val (hn rfl rfl)) (.cell o.hr (by simp) fun i a a' ha ha'=>?_),Heap.set_same _ _ _,Heap.le_setN o.le o.nr⟩
  by_cases hi:i < pre.length
  ·rw [List.getElem?_append_left hi] at ha ha'
   rw [ha] at ha';cases ha';exact .refl _
  ·rw [List.getElem?_append_right (by omega)] at ha ha'
   cases hj:i - pre.length with
   | zero=>
    rw [hj] at ha ha'
    simp at ha ha'
    subst ha;subst ha';exact .nil
   | succ j=>rw [hj] at ha;simp at ha
 ·refine ⟨(G.del q).set r (pre++[vP f xs]),Wk.frzAt (r:=q) (s:=r) (sz:=1) (es:=xs.map fun x=>[f x]) (by omega) (by rw [flat_P];exact hq) (szP f xs) o.hr hqr.symm (hp q hqr) (hf q rfl) (by simp),Heap.set_same _ _ _,?_⟩
  exact Heap.le_setN (Heap.le_del o.le hq0) o.nr
theorem FrzL.refl {r sz:Nat} {es:List (List PV)}:∀vs,FrzL r sz es vs vs
 | []=>.nil
 | v::vs=>.cons (.same v) (FrzL.refl vs)
theorem FrzL.app {r sz:Nat} {es:List (List PV)}:∀{vs ws ws':List AV},FrzL r sz es ws ws'→FrzL r sz es (vs++ws) (vs++ws')
 | [],_,_,h=>h
 | v::vs,_,_,h=>.cons (.same v) (FrzL.app (vs:=vs) h)
end Go.Proofs.YtohkciilfkhomaaGreat
namespace Go.Proofs.YtohkciilfkhomaaGreat
open Go Go.Sep Go.Pt
attribute [local irreducible] CallT
def LPg (p:Pg) (v:AV) (G:Heap) (D:List Nat):Prop:=∃x y D1 D2,v=.agg [I p.wide,I p.vars,x,y]∧D=D1++D2∧LN p.start x G D1∧LRow LCm 2 p.cmds y G D2
theorem LPg.local {p:Pg} {v:AV} {G G':Heap} {D:List Nat} (h:LPg p v G D) (hf:∀y∈D,∀b,G y=some b→G' y=some b):LPg p v G' D:=by
 obtain ⟨x,y,D1,D2,e,rfl,h1,h2⟩:=h
 exact ⟨x,y,D1,D2,e,rfl,LRow.local (LPl.local eN) h1 (fun z hz=>hf z (List.mem_append_left _ hz)),LRow.local LCm.local h2 (fun z hz=>hf z (List.mem_append_right _ hz))⟩
theorem LPg.has {p:Pg} {v:AV} {G:Heap} {D:List Nat} (h:LPg p v G D):∀y∈D,G y≠none:=by
 obtain ⟨x,y,D1,D2,e,rfl,h1,h2⟩:=h
 intro z hz
 rcases List.mem_append.1 hz with hz | hz
 ·exact LRow.has (LPl.has eN) h1 z hz
 ·exact LRow.has LCm.has h2 z hz
theorem LPg.wk {p:Pg} {v:AV} {G:Heap} {D:List Nat} (h:LPg p v G D) (hD:D.Nodup) (C:AV→AV) (hC:∀{q sz es a a'},FrzR q sz es a a'→FrzR q sz es (C a) (C a')):∃G',Wk (C v) G (C (aPg p)) G'∧∀y,y∉D→G' y=G y:=by
 obtain ⟨x,y,D1,D2,rfl,rfl,h1,h2⟩:=h
 rw [List.nodup_append] at hD
 obtain ⟨G1,w1,f1⟩:=LRow.frzV (e:=eN) (sz:=2) (v:=C (.agg [I p.wide,I p.vars,x,y])) (v':=C (.agg [I p.wide,I p.vars,Ns p.start,y])) (by omega) (fun _=>rfl) (LPl.local eN) (LPl.frz eN) h1 hD.1
  (fun q _ hr=>hC (.agg (.cons (.same _) (.cons (.same _) (.cons hr (.cons (.same _) .nil))))))
 have h2':=LRow.local LCm.local h2 (G':=G1) fun z hz b hb=>by rw [f1 z (fun hz1=>hD.2.2 z hz1 z hz rfl)];exact hb
 obtain ⟨G2,w2,f2⟩:=LRow.frzV (e:=eCm) (sz:=2) (v:=C (.agg [I p.wide,I p.vars,Ns p.start,y])) (v':=C (aPg p)) (by omega) (fun _=>rfl) LCm.local LCm.frz h2' hD.2.1
  (fun q _ hr=>hC (.agg (.cons (.same _) (.cons (.same _) (.cons (.same _) (.cons hr .nil))))))
 refine ⟨G2,.trans w1 w2,fun z hz=>?_⟩
 rw [List.mem_append,not_or] at hz
 rw [f2 z hz.2,f1 z hz.1]
def LSt (of:List Int) (v:AV) (G:Heap) (D:List Nat):Prop:=∃x,v=.agg [x]∧LI of x G D
theorem LI_mk {xs:List Int} {q:Nat} {G:Heap} (h:G q=some (cells (xs.map eI))):LI xs (rowP q xs) G [q]:=⟨q,_,[],rfl,h,LL.plain xs,rfl⟩
theorem LSt.local {of:List Int} {v:AV} {G G':Heap} {D:List Nat} (h:LSt of v G D) (hf:∀y∈D,∀b,G y=some b→G' y=some b):LSt of v G' D:=by
 obtain ⟨x,e,h⟩:=h;exact ⟨x,e,LRow.local (LPl.local eI) h hf⟩
theorem LSt.has {of:List Int} {v:AV} {G:Heap} {D:List Nat} (h:LSt of v G D):∀y∈D,G y≠none:=by
 obtain ⟨x,e,h⟩:=h;exact LRow.has (LPl.has eI) h
theorem LSt.wk {of:List Int} {v:AV} {G:Heap} {D:List Nat} (h:LSt of v G D) (hD:D.Nodup) (C:AV→AV) (hC:∀{q sz es a a'},FrzR q sz es a a'→FrzR q sz es (C a) (C a')):∃G',Wk (C v) G (C (aS of)) G'∧∀y,y∉D→G' y=G y:=by
 obtain ⟨x,rfl,h⟩:=h
 exact LRow.frzV (e:=eI) (sz:=1) (v:=C (.agg [x])) (v':=C (aS of)) (by omega) (fun _=>rfl) (LPl.local eI) (LPl.frz eI) h hD (fun q _ hr=>hC (.agg (.cons hr .nil)))
def marked (k:Int) (n:Nat):List Int:=(List.range n).map fun (j:Nat)=>k+(j:Int)
end Go.Proofs.YtohkciilfkhomaaGreat
namespace Go.Proofs.YtohkciilfkhomaaGreat
open Go Go.Sep Go.Pt
attribute [local irreducible] CallT
theorem drop_cons {α:Type} [Inhabited α] {xs:List α} {i:Nat} (h:i < xs.length):xs.drop i=xs.getD i default::xs.drop (i+1):=by
 rw [List.drop_eq_getElem_cons h];simp [List.getD,h]
structure Half {α:Type} (L:Lay α) (G0:Heap) (q:Nat) (D:List Nat) (xs:List α) (i:Nat) (G:Heap) (done:List α):Prop where
 ex:∃cd cr Dd Dr,G q=some (cd++cr)∧LL L done cd G Dd∧LL L (xs.drop i) cr G Dr∧D=Dd++Dr
 len:done.length=i
 fr:∀y,y∉q::D→G y=G0 y
end Go.Proofs.YtohkciilfkhomaaGreat
namespace Go.Proofs.YtohkciilfkhomaaGreat
open Go Go.Sep Go.Pt
attribute [local irreducible] CallT
abbrev LE:List Ed→AV→Heap→List Nat→Prop:=LRow (LPl eE) 3
def LIc:Lay (List Int):=fun l cs G D=>∃x,cs=[x]∧LI l x G D
abbrev LII:List (List Int)→AV→Heap→List Nat→Prop:=LRow LIc 1
theorem LIc.local:Lay.Local LIc:=by
 rintro c cs G G' D ⟨x,e,h⟩ hf
 exact ⟨x,e,LRow.local (LPl.local eI) h hf⟩
theorem LIc.size:Lay.Size LIc 1:=by
 rintro c cs G D ⟨x,rfl,h⟩;rfl
theorem LIc.has:Lay.Has LIc:=by
 rintro c cs G D ⟨x,e,h⟩
 exact LRow.has (LPl.has eI) h
theorem LIc.frz:Lay.Frz LIc eL:=by
 rintro c cs G D v s pre post ⟨x,rfl,h⟩ hD hs hG
 obtain ⟨G',w,k,f⟩:=LRow.frzIn (e:=eI) (sz:=1) (pre:=pre) (post:=post) (v:=v) (by omega) (fun _=>rfl) (LPl.local eI) (LPl.frz eI) h hD hs (by rw [hG])
 exact ⟨G',w,by rw [k];rfl,f⟩
def LAu (a:Au) (v:AV) (G:Heap) (D:List Nat):Prop:=∃x y z D1 D2 D3,v=.agg [I a.states,x,y,z]∧D=D1++(D2++D3)∧LI a.first x G D1∧LE a.edges y G D2∧LII a.goals z G D3
theorem LAu.local {a:Au} {v:AV} {G G':Heap} {D:List Nat} (h:LAu a v G D) (hf:∀y∈D,∀b,G y=some b→G' y=some b):LAu a v G' D:=by
 obtain ⟨x,y,z,D1,D2,D3,e,rfl,h1,h2,h3⟩:=h
 exact ⟨x,y,z,D1,D2,D3,e,rfl,LRow.local (LPl.local eI) h1 (fun u hu=>hf u (by simp [hu])),LRow.local (LPl.local eE) h2 (fun u hu=>hf u (by simp [hu])),LRow.local LIc.local h3 (fun u hu=>hf u (by simp [hu]))⟩
theorem LAu.has {a:Au} {v:AV} {G:Heap} {D:List Nat} (h:LAu a v G D):∀y∈D,G y≠none:=by
 obtain ⟨x,y,z,D1,D2,D3,e,rfl,h1,h2,h3⟩:=h
 intro u hu
 simp only [List.mem_append] at hu
 rcases hu with hu | hu | hu
 ·exact LRow.has (LPl.has eI) h1 u hu
 ·exact LRow.has (LPl.has eE) h2 u hu
 ·exact LRow.has LIc.has h3 u hu
theorem nd3' {A B C:List Nat} (h:(A++(B++C)).Nodup):A.Nodup∧B.Nodup∧C.Nodup∧(∀y∈A,y∉B)∧(∀y∈A,y∉C)∧(∀y∈B,y∉C):=by
 rw [List.nodup_append,List.nodup_append] at h
 obtain ⟨h1,⟨h2,h3,h4⟩,h5⟩:=h
 exact ⟨h1,h2,h3,fun y hy hb=>h5 y hy y (List.mem_append_left _ hb) rfl,fun y hy hb=>h5 y hy y (List.mem_append_right _ hb) rfl,fun y hy hb=>h4 y hy y hb rfl⟩
theorem LAu.wk {a:Au} {v:AV} {G:Heap} {D:List Nat} (h:LAu a v G D) (hD:D.Nodup) (C:AV→AV) (hC:∀{q sz es a a'},FrzR q sz es a a'→FrzR q sz es (C a) (C a')):∃G',Wk (C v) G (C (aAu a)) G'∧∀y,y∉D→G' y=G y:=by
 obtain ⟨x,y,z,D1,D2,D3,rfl,rfl,h1,h2,h3⟩:=h
 obtain ⟨n1,n2,n3,d12,d13,d23⟩:=nd3' hD
 obtain ⟨G1,w1,f1⟩:=LRow.frzV (e:=eI) (sz:=1) (v:=C (.agg [I a.states,x,y,z])) (v':=C (.agg [I a.states,Is a.first,y,z])) (by omega) (fun _=>rfl) (LPl.local eI) (LPl.frz eI) h1 n1
  (fun q _ hr=>hC (.agg (.cons (.same _) (.cons hr (.cons (.same _) (.cons (.same _) .nil))))))
 have h2':=LRow.local (LPl.local eE) h2 (G':=G1) fun u hu b hb=>by rw [f1 u (fun h=>d12 u h hu)];exact hb
 obtain ⟨G2,w2,f2⟩:=LRow.frzV (e:=eE) (sz:=3) (v:=C (.agg [I a.states,Is a.first,y,z])) (v':=C (.agg [I a.states,Is a.first,Es a.edges,z])) (by omega) (fun _=>rfl) (LPl.local eE) (LPl.frz eE) h2' n2
  (fun q _ hr=>hC (.agg (.cons (.same _) (.cons (.same _) (.cons hr (.cons (.same _) .nil))))))
 have h3':=LRow.local LIc.local h3 (G':=G2) fun u hu b hb=>by rw [f2 u (fun h=>d23 u h hu),f1 u (fun h=>d13 u h hu)];exact hb
 obtain ⟨G3,w3,f3⟩:=LRow.frzV (e:=eL) (sz:=1) (v:=C (.agg [I a.states,Is a.first,Es a.edges,z])) (v':=C (aAu a)) (by omega) (fun _=>rfl) LIc.local LIc.frz h3' n3
  (fun q _ hr=>hC (.agg (.cons (.same _) (.cons (.same _) (.cons (.same _) (.cons hr .nil))))))
 refine ⟨G3,.trans w1 (.trans w2 w3),fun u hu=>?_⟩
 simp only [List.mem_append,not_or] at hu
 rw [f3 u hu.2.2,f2 u hu.2.1,f1 u hu.1]
end Go.Proofs.YtohkciilfkhomaaGreat
namespace Go.Proofs.YtohkciilfkhomaaGreat
open Go Go.Sep Go.Pt
attribute [local irreducible] CallT
theorem cI_len (xs:List Int):(cP fI xs).length=xs.length:=by simp [cP]
theorem cI_app (xs ys:List Int):cP fI (xs++ys)=cP fI xs++cP fI ys:=by simp [cP]
theorem app_intsX {q:Nat} {xs ys:List Int} {ex:List AV} {G:Heap} {K:AV→Heap→Prop} (hq:G q=some (cP fI xs++ex)) (hl:xs.length+ys.length≤1000000000)
  (h:∀q',G q'=none→q'≠q→K (rowP q' (xs++ys)) ((G.del q).set q' (cP fI (xs++ys)))):aP_ tab 24 24 (rowP q xs) (Is ys) G (wkK K):=by
 have hlen:=cI_len xs
 simp only [aP_,tab_24,tab_3,srcV,baseV,hq]
 have e2:List.map AV.p (List.map eI ys).flatten=cP fI ys:=flat_P fI ys
 refine ⟨szI ys,trivial,by rw [List.length_append,hlen];omega,by simp only [List.length_map];omega,by simp only [List.length_map];omega,cells_cell _,fun q' hq'=>wkK.keep ?_⟩
 have hne:q'≠q:=fun e=>by rw [e,hq] at hq';cases hq'
 have:=h q' hq' hne
 have e:List.take (xs.length*1) (List.drop 0 (cP fI xs++ex))=cP fI xs:=by rw [List.drop_zero,Nat.mul_one,← hlen,List.take_left]
 rw [e,e2,List.length_map]
 rw [cI_app] at this
 simpa only [rowP,List.length_append] using this
theorem app_topI {q:Nat} {xs ys:List Int} {G:Heap} {K:AV→Heap→Prop} (hq:G q=none) (hl:xs.length+ys.length≤1000000) (h:∀q',G q'=none→K (rowP q' (xs++ys)) (G.set q' (cP fI (xs++ys)))) :
  aP_ tab 24 24 (rowP q xs) (Is ys) (G.set q (cP fI xs)) (wkK K):=
 app_intsX (ex:=[]) (by rw [Heap.set_same,List.append_nil]) (by omega) fun q' hq' hne=>by
  rw [Heap.del_set hq]
  rw [Heap.set_none] at hq'
  exact h q' hq'.2
theorem push_topI {q:Nat} {xs:List Int} {b:Int} {G:Heap} {K:AV→Heap→Prop} (hq:G q=none) (hl:xs.length≤100000) (h:∀q',G q'=none→K (rowP q' (xs++[b])) (G.set q' (cP fI (xs++[b])))) :
  bS_ tab 24 1 [(0,I b)] (G.set q (cP fI xs)) (wkK fun v H1=>aP_ tab 24 24 (rowP q xs) v H1 (wkK K)):=by
 refine lit1 tab_24 rfl tab_3 ⟨rfl,rfl⟩ ?_
 exact app_topI (ys:=[b]) hq (by simp;omega) h
theorem lit0I {G:Heap} {K:AV→Heap→Prop} (h:∀q,G q=none→K (rowP q ([]:List Int)) (G.set q (cP fI []))):bS_ tab 24 0 [] G (wkK K):=by
 simp only [bS_,tab_24,tab_3]
 refine ⟨by omega,?_⟩
 simp only [fillV,zA_,List.replicate_zero,List.flatten_nil]
 exact fun r hr=>wkK.keep (h r hr)
theorem GrowI_nil (n:Nat) (hn:n≤1000000000) {H:Heap} {K:AV→Heap→Prop} (hz:n=0→K (.p .nil) H) (hp:0 < n→∀q,H q=none→K (.sl q 1 0 0) (H.set q (zA_ n [I 0]))):CallT Tryz.prog 84 [.p .nil,I n] H K:=by
 refine CallT.fin ?_
 have e1:IntKind.i64.wrap (n:Int)=n:=i6_ (by omega) (by omega)
 have e0:IntKind.i64.wrap 0=0:=rfl
 refine W84_ok ?_;simp (maxSteps:=1000000) (disch:=first | assumption | (apply ν6;assumption)) only [W84,vz,vu,vv,eqS,eF_,↓c1_,↓c2_,tabs,reduceCtorEq,ι5,↓reduceIte,ν1,ν2,ν3,ν4,ν5,ι1,ι2,ι3,ι4,capV,e0,Int.sub_zero,e1]
 refine ⟨fun h1=>by omega,fun _=>⟨fun h2=>?_,fun h2=>wkK.keep (hz (by omega))⟩⟩
 simp only [aP_,tab_24,tab_3]
 refine ⟨h2,by omega,by omega,fun q hq=>wkK.keep ?_⟩
 (try simp (maxSteps:=1000000) (disch:=first | assumption | (apply ν6;assumption)) only [vz,vu,vv,eqS,eF_,↓c1_,↓c2_,tabs,reduceCtorEq,ι5,↓reduceIte,ν1,ν2,ν3,ν4,ν5,ι1,ι2,ι3,ι4,sliceV])
 exact ⟨by omega,by omega,by omega,by omega,wkK.keep (hp (by omega) q hq)⟩
theorem ConcatI_spec (bs:List (List Int)) (hl:bs.flatten.length≤1000000) (hl2:bs.length≤1000000) {H:Heap} {K:AV→Heap→Prop} (h:∀q,H q=none→K (rowP q bs.flatten) (H.set q (cP fI bs.flatten))):CallT Tryz.prog 32 [Ls bs] H K:=by
 refine CallT.fin ?_
 refine CallT.ghost W32_hb fun q0 hq0=>?_
 refine W32_ok ?_;simp (maxSteps:=1000000) (disch:=first | assumption | (apply ν6;assumption)) only [W32,vz,vu,vv,eqS,eF_,↓c1_,↓c2_,tabs,reduceCtorEq,ι5,↓reduceIte,ν1,ν2,ν3,ν4,ν5,ι1,ι2,ι3,ι4]
 have hsum:∀i,((bs.take i).flatten).length≤bs.flatten.length:=fun i=>by
  have:=congrArg (fun l:List (List Int)=>l.flatten.length) (List.take_append_drop i bs)
  simp only [List.flatten_append,List.length_append] at this
  omega
 refine L32_0_rule (0:Nat) (fun i=>I ((bs.take i).flatten.length:Nat)) (fun i=>I i) (fun _=>H.set q0 []) (fun i=>i≤bs.length) (fun i=>bs.length - i) ⟨by omega,.refl _,.refl _,Heap.le_refl _⟩ ?_
 intro i hi
 have hs1:=hsum i
 have hs2:=hsum (i+1)
 (try simp (maxSteps:=1000000) (disch:=first | assumption | (apply ν6;assumption)) only [vz,vu,vv,eqS,eF_,↓c1_,↓c2_,tabs,reduceCtorEq,ι5,↓reduceIte,ν1,ν2,ν3,ν4,ν5,ι1,ι2,ι3,ι4,B32_0])
 refine ⟨fun h1=>⟨by omega,h1,fun h2=>?_,fun h2=>⟨i+1,by omega,by omega,?_,?_⟩⟩,fun h1=>?_⟩
 ·have e:(bs.take (i+1)).flatten.length=(bs.take i).flatten.length+(bs.getD i default).length:=by
   rw [tS_ (by omega:i < bs.length),List.flatten_append,List.length_append];simp
  rw [i6_ (by omega) (by omega)] at h2
  omega
 ·have e:(bs.take (i+1)).flatten.length=(bs.take i).flatten.length+(bs.getD i default).length:=by
   rw [tS_ (by omega:i < bs.length),List.flatten_append,List.length_append];simp
  rw [wk_int,i6_ (by omega) (by omega)];omega
 ·rw [wk_int,i6_ (by omega) (by omega)];simp
 have hi2:i=bs.length:=by omega
 subst hi2
 rw [List.take_length]
 have loop:∀(x:AV) (G:Heap),(∃q ex,H q=none∧AV.wk x (.sl q 1 0 0)∧Heap.le (H.set q ex) G)→L32_1 (wkK K) x (Ls bs) (I bs.length) (I 0) G:=by
  rintro x G ⟨q0,ex0,hq0,hx,hle⟩
  refine L32_1_rule ((0:Nat),q0,ex0) (fun s=>rowP s.2.1 (bs.take s.1).flatten) (fun s=>I s.1) (fun s=>H.set s.2.1 (cP fI (bs.take s.1).flatten++s.2.2))
   (fun s=>s.1≤bs.length∧H s.2.1=none) (fun s=>bs.length - s.1) ⟨⟨by simp,hq0⟩,hx,.refl _,by simpa [cP] using hle⟩ ?_
  rintro ⟨i,q,ex⟩ ⟨hi,hq⟩
  dsimp only at hi hq
  have hs1:=hsum i
  have hs2:=hsum (i+1)
  (try simp (maxSteps:=1000000) (disch:=first | assumption | (apply ν6;assumption)) only [vz,vu,vv,eqS,eF_,↓c1_,↓c2_,tabs,reduceCtorEq,ι5,↓reduceIte,ν1,ν2,ν3,ν4,ν5,ι1,ι2,ι3,ι4,B32_1])
  refine ⟨fun h1=>⟨by omega,h1,?_⟩,fun h1=>?_⟩
  ·have e:(bs.take (i+1)).flatten=(bs.take i).flatten++bs.getD i default:=by
    rw [tS_ (by omega:i < bs.length),List.flatten_append];simp
   have e2:=congrArg List.length e
   rw [List.length_append] at e2
   refine app_intsX (Heap.set_same _ _ _) (by omega) fun q' hq' hne=>?_
   rw [Heap.set_none] at hq'
   rw [← e]
   refine ⟨(i+1,q',[]),⟨by simp only;omega,hq'.2⟩,by simp only;omega,.refl _,?_,?_⟩
   ·rw [wk_int,i6_ (by omega) (by omega)];simp
   ·simp only [List.append_nil]
    generalize cP fI (bs.take (i+1)).flatten=z
    have:=hq'.2
    (intro y b hy;simp only [Heap.set,Heap.del] at hy ⊢;(repeat' split at hy)<;>(repeat' split)<;>simp_all [cells])
  ·have hi2:i=bs.length:=by omega
   subst hi2
   rw [List.take_length]
   refine ⟨_,_,.cell (cs':=cP fI bs.flatten) (Heap.set_same _ _ _) (by rw [List.length_append];omega) fun j a a' h1 h2=>?_,?_⟩
   ·rw [List.getElem?_append_left (List.getElem?_eq_some_iff.1 h2).1,h2] at h1
    cases h1;exact .refl _
   ·rw [Heap.set_set];exact h q hq
 refine GrowI_nil _ (by omega) (fun h0=>?_) (fun h0 q hq=>?_)
 ·exact loop _ _ ⟨q0,[],hq0,.nilo _ _ _,Heap.le_refl _⟩
 ·rw [Heap.set_none] at hq
  refine loop _ _ ⟨q,zA_ bs.flatten.length [I 0],hq.2,.refl _,?_⟩
  generalize zA_ bs.flatten.length [I 0]=z
  have:=hq.2
  (intro y b hy;simp only [Heap.set,Heap.del] at hy ⊢;(repeat' split at hy)<;>(repeat' split)<;>simp_all [cells])
def below (n:Nat):List Int:=(List.range n).map fun (i:Nat)=>(i:Int)
theorem below_len (n:Nat):(below n).length=n:=by simp [below]
def smI (l:List Int):Prop:=l.length≤10000∧∀x∈l,0≤x∧x≤100000
theorem fin_int {q:Nat} {xs:List Int} {H G:Heap} (hq:H q=none) (hG:Heap.le (H.set q (cP fI xs)) G):wkK (fun r H'=>r=Is xs∧H'=H) (rowP q xs) G:=by
 have:=fin_own (sz:=1) (es:=xs.map eI) (q:=q) (H:=H) (H':=G) (K:=fun r H'=>r=Is xs∧H'=H) (by omega) (szI _) hq (by
  have e:cells (xs.map eI)=cP fI xs:=cells_P fI xs
  rw [e];exact hG) ⟨rfl,rfl⟩
 simpa only [Go.Sep.own,List.length_map] using this
theorem l1Own_row (l:List Int) (hl:l.length≤100000) {H:Heap} {K:AV→Heap→Prop} (h:∀q,H q=none→K (rowP q l) (H.set q (cP fI l))):CallT Tryz.prog 38 [Is l] H K:=by
 refine CallT.fin ?_
 refine W38_ok ?_;simp (maxSteps:=1000000) (disch:=first | assumption | (apply ν6;assumption)) only [W38,vz,vu,vv,eqS,eF_,↓c1_,↓c2_,tabs,reduceCtorEq,ι5,↓reduceIte,ν1,ν2,ν3,ν4,ν5,ι1,ι2,ι3,ι4]
 refine lit0I fun q0 hq0=>?_
 refine app_topI (xs:=[]) (ys:=l) hq0 (by simp;omega) fun q hq=>?_
 rw [List.nil_append]
 exact wkK.keep (h q hq)
theorem LI_mk' {xs:List Int} {q:Nat} {G:Heap} (h:G q=some (cP fI xs)):LI xs (rowP q xs) G [q]:=LI_mk (by
 have e:cells (xs.map eI)=cP fI xs:=cells_P fI xs
 rw [e];exact h)
theorem lit_live1 {G:Heap} {K:AV→Heap→Prop} {q n:Nat} (h:∀ql,G ql=none→K (.sl ql 1 0 1) (G.set ql [.sl q 1 0 n])):bS_ tab 26 1 [(0,.sl q 1 0 n)] G (wkK K):=by
 simp only [bS_,tab_26,tab_24]
 refine ⟨by omega,?_⟩
 simp only [fillV,zA_,List.replicate_succ,List.replicate_zero,List.flatten_cons,List.flatten_nil,List.append_nil,AV.cells,splice]
 simp only [List.length_cons,List.length_nil,Nat.reduceAdd,Nat.zero_mul,Nat.zero_add,Nat.le_refl,and_self,if_true,List.take_zero,List.nil_append,List.drop_succ_cons,List.drop_zero,List.append_nil]
 exact fun r hr=>wkK.keep (h r hr)
theorem CloneI_row (xs:List Int) (hl:xs.length≤100000) {H:Heap} {K:AV→Heap→Prop} (h:∀q,H q=none→K (rowP q xs) (H.set q (cP fI xs))):CallT Tryz.prog 52 [Is xs] H K:=by
 refine CallT.fin ?_
 refine CallT.ghost W52_hb fun q0 hq0=>?_
 refine W52_ok ?_;simp (maxSteps:=1000000) (disch:=first | assumption | (apply ν6;assumption)) only [W52,vz,vu,vv,eqS,eF_,↓c1_,↓c2_,tabs,reduceCtorEq,ι5,↓reduceIte,ν1,ν2,ν3,ν4,ν5,ι1,ι2,ι3,ι4]
 have main:bS_ tab 24 0 [] (H.set q0 []) (wkK fun v5 H1=>aP_ tab 24 24 v5 (Is xs) H1 (wkK fun v7 H2=>wkK K v7 H2)):=by
  refine lit0I fun q1 hq1=>?_
  refine app_topI (xs:=[]) (ys:=xs) hq1 (by simp;omega) fun q2 hq2=>?_
  rw [Heap.set_none] at hq2
  rw [List.nil_append]
  refine fin_le ?_ (h q2 hq2.2)
  generalize cP fI xs=z
  have:=hq2.2
  have:=hq2.1
  (intro y b hy;simp only [Heap.set,Heap.del] at hy ⊢;(repeat' split at hy)<;>(repeat' split)<;>simp_all [cells])
 refine ⟨fun h0=>⟨?_,main⟩,fun _=>main⟩
 have hx:xs=[]:=List.map_eq_nil_iff.1 h0
 subst hx
 exact ⟨_,_,.val (.nilo q0 1 0),h q0 hq0⟩
theorem IndexI_spec (l:List Int) (x:Int) (hl:l.length≤1048576):Pu Tryz.prog 102 [Is l,I x] (I (if x∈l then (l.idxOf x:Int) else -1)):=by
 refine Pu.of fun H=>?_
 refine W102_ok ?_;simp (maxSteps:=1000000) (disch:=first | assumption | (apply ν6;assumption)) only [W102,vz,vu,vv,eqS,eF_,↓c1_,↓c2_,tabs,reduceCtorEq,ι5,↓reduceIte,ν1,ν2,ν3,ν4,ν5,ι1,ι2,ι3,ι4]
 refine L102_0_rule (0:Nat) (fun i=>I i) (fun _=>H) (fun i=>i≤l.length∧∀j,j < i→l.getD j default≠x) (fun i=>l.length - i) ⟨⟨by omega,by intros;omega⟩,.refl _,Heap.le_refl _⟩ ?_
 rintro i ⟨hi,ha⟩
 (try simp (maxSteps:=1000000) (disch:=first | assumption | (apply ν6;assumption)) only [vz,vu,vv,eqS,eF_,↓c1_,↓c2_,tabs,reduceCtorEq,ι5,↓reduceIte,ν1,ν2,ν3,ν4,ν5,ι1,ι2,ι3,ι4,B102_0])
 refine ⟨fun h1=>⟨by omega,h1,fun h2=>?_,fun h2=>⟨i+1,⟨by omega,fun j hj=>?_⟩,by omega,?_⟩⟩,fun h1=>?_⟩
 ·have hlt:i < l.length:=by omega
  have hm:x∈l:=by rw [h2];exact getD_all (p:=fun x=>x∈l) (fun _ h=>h) hlt
  rw [if_pos hm]
  refine congrArg (fun n:Int=>I n) ?_
  have:l.idxOf x=i:=by
   rw [List.idxOf,List.findIdx_eq hlt]
   refine ⟨by rw [← getD_lt (d:=default) hlt,← h2];simp,fun j hj=>?_⟩
   have:=ha j hj
   rw [getD_lt (by omega:j < l.length)] at this
   simpa using this
  omega
 ·rcases Nat.lt_succ_iff_lt_or_eq.1 hj with h | rfl
  ·exact ha j h
  ·exact fun e=>h2 e.symm
 ·rw [wk_int,i6_ (by omega) (by omega)];simp
 ·have hm:x∉l:=by
   intro hm
   obtain ⟨j,hj,e⟩:=List.mem_iff_getElem.1 hm
   exact ha j (by omega) (by rw [getD_lt hj];exact e)
  rw [if_neg hm]
end Go.Proofs.YtohkciilfkhomaaGreat
namespace Go.Proofs.YtohkciilfkhomaaGreat
open Go Go.Sep Go.Pt
attribute [local irreducible] CallT
abbrev rowE (q:Nat) (xs:List Ed):AV:=.sl q 3 0 xs.length
theorem lit_edge {x:Ed} {H:Heap} {K:AV→Heap→Prop} (h:K (Es [x]) H):bS_ tab 25 1 [(0,aE x)] H (wkK K):=by
 simp only [bS_,tab_25,tab_66]
 refine ⟨by omega,?_⟩
 simp only [fillV,zA_,List.replicate_succ,List.replicate_zero,List.flatten_cons,List.flatten_nil,List.append_nil,AV.cells,splice]
 simp only [List.length_cons,List.length_nil,Nat.reduceAdd,Nat.zero_mul,Nat.zero_add,Nat.le_refl,and_self,if_true,List.take_zero,List.nil_append,List.drop_succ_cons,List.drop_zero,List.append_nil]
 intro r hr
 refine ⟨_,_,Wk.trans (Wk.frz (r:=r) (sz:=3) (es:=[eE x]) (v:=.sl r 3 0 1) (v':=.p (.sl [eE x])) (by omega) ?_ (by simp) .here) (.forget ?_),h⟩
 ·rw [Heap.set_same];rfl
 ·rw [Heap.del_set hr];exact Heap.le_refl _
def GAt (x:AV) (gs:List (List Int)) (G:Heap) (D:List Nat):Prop:=∃cs D',LL LIc gs cs G D'∧((x=.p .nil∧cs=[]∧D=[])∨∃q,x=.sl q 1 0 gs.length∧G q=some cs∧D=q::D')
theorem GAt.nil (G:Heap):GAt (.p .nil) [] G []:=⟨[],[],⟨rfl,rfl⟩,.inl ⟨rfl,rfl,rfl⟩⟩
theorem GAt.local {x:AV} {gs:List (List Int)} {G G':Heap} {D:List Nat} (g:GAt x gs G D) (h:∀y∈D,∀b,G y=some b→G' y=some b):GAt x gs G' D:=by
 obtain ⟨cs,D',hl,h1⟩:=g
 rcases h1 with ⟨rfl,rfl,rfl⟩ | ⟨q,rfl,hq,rfl⟩
 ·cases gs with
  | nil=>obtain ⟨_,rfl⟩:=hl;exact ⟨[],[],⟨rfl,rfl⟩,.inl ⟨rfl,rfl,rfl⟩⟩
  | cons a gs=>obtain ⟨c1,c2,D1,D2,e,_,⟨z,rfl,_⟩,_⟩:=hl;simp at e
 ·exact ⟨cs,D',LL.local LIc.local hl (fun y hy b hb=>h y (List.mem_cons_of_mem _ hy) b hb),.inr ⟨q,rfl,h q (List.mem_cons_self ..) _ hq,rfl⟩⟩
theorem GAt.push {x:AV} {gs:List (List Int)} {G:Heap} {D:List Nat} {l:List Int} {qn ql:Nat} {K:AV→Heap→Prop} (g:GAt x gs G D) (hD:D.Nodup) (hl:G qn=some (cP fI l)) (hn:qn∉D) (hql:G ql=some [rowP qn l]) (hlen:gs.length≤1000)
  (h:∀q' G' D'',G q'=none→GAt (.sl q' 1 0 (gs.length+1)) (gs++[l]) G' D''→D''.Nodup→(∀y∈D'',y∈D∨y=qn∨y=q')→(∀y b,G y=some b→y∉D→G' y=some b)→K (.sl q' 1 0 (gs.length+1)) G') :
  aP_ tab 26 26 x (.sl ql 1 0 1) G (wkK K):=by
 obtain ⟨cs,D',hll,h1⟩:=g
 have hcl:cs.length=gs.length:=by rw [LL.size LIc.size hll,Nat.mul_one]
 have hqnN:∀{q'},G q'=none→q'≠qn:=fun hq' e=>by rw [e,hl] at hq';cases hq'
 simp only [aP_,tab_26,tab_24,srcV,hql]
 rcases h1 with ⟨rfl,rfl,rfl⟩ | ⟨q,rfl,hq,rfl⟩
 ·have hgs:gs=[]:=List.eq_nil_of_length_eq_zero hcl.symm
  subst hgs
  obtain ⟨_,rfl⟩:=hll
  simp only [baseV]
  refine ⟨trivial,by simp,by omega,by omega,rfl,fun q' hq'=>wkK.keep ?_⟩
  have hlL:LI l (rowP qn l) (G.set q' ([]++[rowP qn l])) [qn]:=LI_mk' (by rw [Heap.set_other (Ne.symm (hqnN hq'))];exact hl)
  refine h q' _ [q',qn] hq' ⟨[rowP qn l],[qn],?_,.inr ⟨q',rfl,Heap.set_same _ _ _,rfl⟩⟩ (by simp [hqnN hq']) (fun y hy=>by simp at hy;rcases hy with rfl | rfl<;>simp) (fun y b hb _=>by rw [Heap.set_other (fun e=>by rw [e,hq'] at hb;cases hb)];exact hb)
  exact ⟨[rowP qn l],[],[qn],[],rfl,by simp,⟨_,rfl,hlL⟩,⟨rfl,rfl⟩⟩
 ·rw [List.mem_cons,not_or] at hn
  rw [List.nodup_cons] at hD
  simp only [baseV,hq]
  have e1:List.take (gs.length*1) (List.drop 0 cs)=cs:=by rw [List.drop_zero,Nat.mul_one,← hcl,List.take_length]
  have e2:List.take (1*1) (List.drop 0 [rowP qn l])=[rowP qn l]:=rfl
  refine ⟨trivial,by simp,trivial,by omega,by omega,by omega,rfl,fun q' hq'=>wkK.keep ?_⟩
  rw [e1,e2]
  have nq:q'≠q:=fun e=>by rw [e,hq] at hq';cases hq'
  have old:∀y b,G y=some b→y≠q→((G.del q).set q' (cs++[rowP qn l])) y=some b:=fun y b hb hy=>by
   rw [Heap.set_other (fun e=>by rw [e,hq'] at hb;cases hb),Heap.del_other hy];exact hb
  have hlL:LI l (rowP qn l) ((G.del q).set q' (cs++[rowP qn l])) [qn]:=LI_mk' (old _ _ hl hn.1)
  have hnD:∀y∈D',y≠q:=fun y hy e=>hD.1 (e ▸ hy)
  refine h q' _ (q'::(D'++[qn])) hq' ⟨cs++[rowP qn l],D'++[qn],LL.snoc ⟨_,rfl,hlL⟩ (LL.local LIc.local hll fun y hy b hb=>old y b hb (hnD y hy)),.inr ⟨q',by simp,Heap.set_same _ _ _,rfl⟩⟩ ?_ ?_ ?_
  ·have hq'D:q'∉D':=fun hm=>LL.has LIc.has hll q' hm hq'
   rw [List.nodup_cons,List.nodup_append]
   refine ⟨by simp only [List.mem_append,List.mem_singleton,not_or];exact ⟨hq'D,hqnN hq'⟩,hD.2,by simp,fun a ha b hb e=>?_⟩
   rw [List.mem_singleton] at hb
   exact hn.2 (by rw [← hb,← e];exact ha)
  ·intro y hy
   simp only [List.mem_cons,List.mem_append,List.not_mem_nil,or_false] at hy ⊢
   rcases hy with rfl | hy | rfl
   ·exact .inr (.inr rfl)
   ·exact .inl (.inr hy)
   ·exact .inr (.inl rfl)
  ·intro y b hb hy
   rw [List.mem_cons,not_or] at hy
   exact old y b hb hy.1
end Go.Proofs.YtohkciilfkhomaaGreat
namespace Go.Sep
open Go Go.RowKit Go.Proofs.YtohkciilfkhomaaGreat
structure Th where
 D:List Nat
 P:Heap→Prop
 loc:∀{G G':Heap},P G→(∀y∈D,∀b,G y=some b→G' y=some b)→P G'
 has:∀{G:Heap},P G→∀y∈D,G y≠none
def cT_ (r:Nat) (b:List AV):Th:=⟨[r],fun G=>G r=some b,fun h f=>f r (List.mem_singleton.2 rfl) b h,fun h y hy=>by rw [List.mem_singleton.1 hy,h];simp⟩
structure St (H:Heap) (Ts:List Th) (G:Heap):Prop where
 le:Heap.le H G
 nd:(Ts.flatMap Th.D).Nodup
 fr:∀t∈Ts,∀y∈t.D,H y=none
 ok:∀t∈Ts,t.P G
theorem St.nil (H:Heap):St H [] H:=⟨Heap.le_refl _,List.nodup_nil,fun t ht=>(by cases ht),fun t ht=>(by cases ht)⟩
theorem St.get {H G:Heap} {Ts:List Th} {t:Th} (s:St H Ts G) (i:Nat) (h:Ts[i]?=some t):t.P G:=s.ok t (List.mem_of_getElem? h)
theorem St.ndT {H G:Heap} {Ts:List Th} {t:Th} (s:St H Ts G) (i:Nat) (h:Ts[i]?=some t):t.D.Nodup:=by
 obtain ⟨pre,post,e⟩:=List.append_of_mem (List.mem_of_getElem? h)
 have:=s.nd
 rw [e,List.flatMap_append,List.flatMap_cons,List.nodup_append,List.nodup_append] at this
 exact this.2.1.1
theorem St.push {H G G':Heap} {Ts:List Th} (s:St H Ts G) (t:Th) (hn:New G G' t.D) (hp:t.P G'):St H (t::Ts) G':=by
 refine ⟨Heap.le_trans s.le hn.le,?_,?_,?_⟩
 ·rw [List.flatMap_cons,List.nodup_append]
  refine ⟨hn.nd,s.nd,fun a ha b hb e=>?_⟩
  obtain ⟨u,hu,hbu⟩:=List.mem_flatMap.1 hb
  exact u.has (s.ok u hu) b hbu (by rw [← e];exact hn.fr a ha)
 ·intro u hu y hy
  rcases List.mem_cons.1 hu with rfl | hu
  ·cases hh:H y with
   | none=>rfl
   | some b=>rw [← hn.fr y hy,s.le y b hh]
  ·exact s.fr u hu y hy
 ·intro u hu
  rcases List.mem_cons.1 hu with rfl | hu
  ·exact hp
  ·exact u.loc (s.ok u hu) fun y _ b hb=>hn.le y b hb
theorem New.cell {G:Heap} {r:Nat} {b:List AV} (hr:G r=none):New G (G.set r b) [r]:=⟨by simp,by simpa using hr,Heap.le_set hr⟩
theorem St.cell {H G:Heap} {Ts:List Th} (s:St H Ts G) {r:Nat} (hr:G r=none) (b:List AV):St H (cT_ r b::Ts) (G.set r b):=s.push (cT_ r b) (New.cell hr) (Heap.set_same _ _ _)
theorem St.upd {H G G':Heap} {Ts:List Th} {t:Th} (s:St H Ts G) (i:Nat) (h:Ts[i]?=some t) (t':Th) (hD:t'.D=t.D) (hf:∀y,y∉t.D→G' y=G y) (hp:t'.P G'):St H (Ts.set i t') G':=by
 obtain ⟨hi,hti⟩:=List.getElem?_eq_some_iff.1 h
 have e:Ts=Ts.take i++t::Ts.drop (i+1):=by rw [← hti,List.getElem_cons_drop,List.take_append_drop]
 have e':Ts.set i t'=Ts.take i++t'::Ts.drop (i+1):=by rw [List.set_eq_take_append_cons_drop,if_pos hi]
 generalize Ts.take i=pre at e e'
 generalize Ts.drop (i+1)=post at e e'
 rw [e']
 subst e
 have hnd:=s.nd
 rw [List.flatMap_append,List.flatMap_cons] at hnd
 have hdis:∀u∈pre++post,∀y∈u.D,y∉t.D:=by
  intro u hu y hy hyt
  rw [List.nodup_append,List.nodup_append] at hnd
  rcases List.mem_append.1 hu with hu | hu
  ·exact hnd.2.2 y (List.mem_flatMap.2 ⟨u,hu,hy⟩) y (List.mem_append_left _ hyt) rfl
  ·exact hnd.2.1.2.2 y hyt y (List.mem_flatMap.2 ⟨u,hu,hy⟩) rfl
 refine ⟨fun y b hb=>?_,by rw [List.flatMap_append,List.flatMap_cons,hD];exact hnd,fun u hu y hy=>?_,fun u hu=>?_⟩
 ·rw [hf y (fun hy=>by have:=s.fr t (by simp) y hy;rw [this] at hb;cases hb)];exact s.le y b hb
 ·rcases List.mem_append.1 hu with hu | hu
  ·exact s.fr u (List.mem_append_left _ hu) y hy
  ·rcases List.mem_cons.1 hu with rfl | hu
   ·exact s.fr t (by simp) y (hD ▸ hy)
   ·exact s.fr u (by simp [hu]) y hy
 ·have old:∀u∈pre++post,u.P G':=fun u hu=>u.loc (s.ok u (by
   rcases List.mem_append.1 hu with hu | hu
   ·exact List.mem_append_left _ hu
   ·exact List.mem_append_right _ (List.mem_cons_of_mem _ hu))) fun y hy b hb=>by rw [hf y (hdis u hu y hy)];exact hb
  rcases List.mem_append.1 hu with hu | hu
  ·exact old u (List.mem_append_left _ hu)
  ·rcases List.mem_cons.1 hu with rfl | hu
   ·exact hp
   ·exact old u (List.mem_append_right _ hu)
theorem St.drop {H G:Heap} {t:Th} {Ts:List Th} (s:St H (t::Ts) G):St H Ts G:=⟨s.le,(by have:=s.nd;rw [List.flatMap_cons,List.nodup_append] at this;exact this.2.1),fun u hu=>s.fr u (List.mem_cons_of_mem _ hu),fun u hu=>s.ok u (List.mem_cons_of_mem _ hu)⟩
theorem St.perm {H G:Heap} {Ts Us:List Th} (s:St H Ts G) (h:List.Perm Ts Us):St H Us G:=
 ⟨s.le,(h.flatMap_right _).nodup s.nd,fun t ht=>s.fr t (h.mem_iff.2 ht),fun t ht=>s.ok t (h.mem_iff.2 ht)⟩
theorem St.disj {H G:Heap} {t u:Th} {Ts:List Th} (s:St H (t::u::Ts) G):∀y∈t.D,y∉u.D:=by
 have:=s.nd
 rw [List.flatMap_cons,List.flatMap_cons,List.nodup_append] at this
 exact fun y hy hu=>this.2.2 y hy y (List.mem_append_left _ hu) rfl
theorem Th.dis:∀{Ts:List Th} {t u:Th} {i j:Nat},(Ts.flatMap Th.D).Nodup→Ts[i]?=some t→Ts[j]?=some u→i < j→∀y∈t.D,y∉u.D
 | [],_,_,_,_,_,hi,_,_=>by simp at hi
 | a::Ts,t,u,0,j+1,nd,hi,hj,_=>by
  rw [List.flatMap_cons,List.nodup_append] at nd
  simp only [List.getElem?_cons_zero,Option.some.injEq] at hi
  subst hi
  exact fun y hy hu=>nd.2.2 y hy y (List.mem_flatMap.2 ⟨u,List.mem_of_getElem? (by simpa using hj),hu⟩) rfl
 | a::Ts,t,u,i+1,j+1,nd,hi,hj,h=>by
  rw [List.flatMap_cons,List.nodup_append] at nd
  exact Th.dis nd.2.1 (by simpa using hi) (by simpa using hj) (by omega)
theorem St.disjI {H G:Heap} {t u:Th} {Ts:List Th} (s:St H Ts G) (i j:Nat) (hi:Ts[i]?=some t) (hj:Ts[j]?=some u) (hij:i≠j):∀y∈t.D,y∉u.D:=by
 rcases Nat.lt_or_gt_of_ne hij with h | h
 ·exact Th.dis s.nd hi hj h
 ·exact fun y hy hu=>Th.dis s.nd hj hi h y hu hy
theorem St.fresh {H G:Heap} {Ts:List Th} {t:Th} (s:St H Ts G) (i:Nat) (h:Ts[i]?=some t) {q:Nat} (hq:G q=none):q∉t.D:=fun hm=>t.has (s.get i h) q hm hq
theorem perm_pick {α:Type}:∀(Ts:List α) (i:Nat) (hi:i < Ts.length),List.Perm Ts (Ts[i]::Ts.eraseIdx i)
 | a::Ts,0,_=>List.Perm.refl _
 | a::Ts,i+1,hi=>((perm_pick Ts i (by simpa using hi)).cons a).trans (List.Perm.swap _ _ _)
theorem perm_set {α:Type}:∀(Ts:List α) (i:Nat) (hi:i < Ts.length) (t:α),List.Perm (Ts.set i t) (t::Ts.eraseIdx i)
 | a::Ts,0,_,_=>List.Perm.refl _
 | a::Ts,i+1,hi,t=>((perm_set Ts i (by simpa using hi) t).cons a).trans (List.Perm.swap _ _ _)
theorem sub_flat {α β:Type} {f:α→List β} {l m:List α} (h:List.Sublist l m):List.Sublist (l.flatMap f) (m.flatMap f):=by
 induction h with
 | slnil=>exact List.Sublist.refl _
 | cons a _ ih=>rw [List.flatMap_cons];exact ih.trans (List.sublist_append_right _ _)
 | cons_cons a _ ih=>rw [List.flatMap_cons,List.flatMap_cons];exact List.Sublist.append_left ih _
theorem St.pick {H G:Heap} {Ts:List Th} {t:Th} (s:St H Ts G) (i:Nat) (h:Ts[i]?=some t):St H (t::Ts.eraseIdx i) G:=by
 obtain ⟨hi,rfl⟩:=List.getElem?_eq_some_iff.1 h
 exact s.perm (perm_pick Ts i hi)
theorem St.step {H G G':Heap} {old rest:List Th} (s:St H (old++rest) G) (new:List Th) (hnd:(new.flatMap Th.D).Nodup) (hfr:∀t∈new,∀y∈t.D,(∃u∈old,y∈u.D)∨G y=none)
  (hf:∀y b,G y=some b→(∀u∈old,y∉u.D)→G' y=some b) (hp:∀t∈new,t.P G'):St H (new++rest) G':=by
 have hs:=s.nd
 rw [List.flatMap_append,List.nodup_append] at hs
 have hdis:∀u∈rest,∀y∈u.D,∀t∈old,y∉t.D:=fun u hu y hy t ht hyt=>hs.2.2 y (List.mem_flatMap.2 ⟨t,ht,hyt⟩) y (List.mem_flatMap.2 ⟨u,hu,hy⟩) rfl
 refine ⟨fun y b hb=>?_,?_,fun u hu y hy=>?_,fun u hu=>?_⟩
 ·refine hf y b (s.le y b hb) fun u hu hy=>?_
  rw [s.fr u (List.mem_append_left _ hu) y hy] at hb;cases hb
 ·rw [List.flatMap_append,List.nodup_append]
  refine ⟨hnd,hs.2.1,fun a ha b hb e=>?_⟩
  subst e
  obtain ⟨t,ht,hat⟩:=List.mem_flatMap.1 ha
  obtain ⟨u,hu,hau⟩:=List.mem_flatMap.1 hb
  rcases hfr t ht a hat with ⟨v,hv,hav⟩ | hn
  ·exact hdis u hu a hau v hv hav
  ·exact u.has (s.ok u (List.mem_append_right _ hu)) a hau hn
 ·rcases List.mem_append.1 hu with hu | hu
  ·rcases hfr u hu y hy with ⟨v,hv,hav⟩ | hn
   ·exact s.fr v (List.mem_append_left _ hv) y hav
   ·cases hh:H y with
    | none=>rfl
    | some b=>rw [← hn,s.le y b hh]
  ·exact s.fr u (List.mem_append_right _ hu) y hy
 ·rcases List.mem_append.1 hu with hu | hu
  ·exact hp u hu
  ·exact u.loc (s.ok u (List.mem_append_right _ hu)) fun y hy b hb=>hf y b hb (hdis u hu y hy)
theorem St.repl {H G G':Heap} {Ts:List Th} {t:Th} (s:St H Ts G) (i:Nat) (h:Ts[i]?=some t) (t':Th) (hnd:t'.D.Nodup) (hfr:∀y∈t'.D,y∈t.D∨G y=none)
  (hf:∀y b,G y=some b→y∉t.D→G' y=some b) (hp:t'.P G'):St H (Ts.set i t') G':=by
 obtain ⟨hi,-⟩:=List.getElem?_eq_some_iff.1 h
 have:=St.step (old:=[t]) (s.pick i h) [t'] (by simpa using hnd) (fun u hu y hy=>by
  rw [List.mem_singleton] at hu;subst hu
  rcases hfr y hy with h1 | h1
  ·exact .inl ⟨t,by simp,h1⟩
  ·exact .inr h1) (fun y b hb hy=>hf y b hb (hy t (by simp))) (fun u hu=>by rw [List.mem_singleton] at hu;subst hu;exact hp)
 exact this.perm (perm_set Ts i hi t').symm
theorem St.moved {H G:Heap} {Ts:List Th} {q q':Nat} {b c:List AV} (s:St H Ts G) (i:Nat) (h:Ts[i]?=some (cT_ q b)) (hq:G q'=none):St H (Ts.set i (cT_ q' c)) ((G.del q).set q' c):=by
 have hg:G q=some b:=s.get i h
 refine s.repl i h (cT_ q' c) (by simp [cT_]) (fun y hy=>?_) (fun y bb hb hy=>?_) (Heap.set_same _ _ _)
 ·simp only [cT_,List.mem_singleton] at hy;subst hy;exact .inr hq
 ·simp only [cT_,List.mem_singleton] at hy
  rw [Heap.set_other (fun e=>by rw [e,hq] at hb;cases hb),Heap.del_other hy];exact hb
theorem St.put {H G:Heap} {Ts:List Th} {q:Nat} {b:List AV} (s:St H Ts G) (i:Nat) (h:Ts[i]?=some (cT_ q b)) (c:List AV):St H (Ts.set i (cT_ q c)) (G.set q c):=by
 refine s.repl i h (cT_ q c) (by simp [cT_]) (fun y hy=>.inl hy) (fun y bb hb hy=>?_) (Heap.set_same _ _ _)
 simp only [cT_,List.mem_singleton] at hy
 rw [Heap.set_other hy];exact hb
theorem St.sub {H G:Heap} {Ts Us:List Th} (s:St H Ts G) (h:List.Sublist Us Ts):St H Us G:=
 ⟨s.le,List.Nodup.sublist (sub_flat h) s.nd,fun t ht=>s.fr t (h.subset ht),fun t ht=>s.ok t (h.subset ht)⟩
theorem St.erase {H G:Heap} {Ts:List Th} (s:St H Ts G) (i:Nat):St H (Ts.eraseIdx i) G:=s.sub (List.eraseIdx_sublist Ts i)
theorem St.new {H G:Heap} {Ts:List Th} (s:St H Ts G):New H G (Ts.flatMap Th.D):=⟨s.nd,fun y hy=>by
 obtain ⟨t,ht,hyt⟩:=List.mem_flatMap.1 hy
 exact s.fr t ht y hyt,s.le⟩
theorem St.wkNone {H G:Heap} {Ts:List Th} (s:St H Ts G):∀y b,H y=some b→∀t∈Ts,y∉t.D:=fun y b hb t ht hy=>by rw [s.fr t ht y hy] at hb;cases hb
end Go.Sep
namespace Go.Proofs.YtohkciilfkhomaaGreat
open Go Go.Sep Go.Pt
attribute [local irreducible] CallT
def RZ {α:Type} (L:Lay α) (sz z:Nat) (x:AV) (xs:List α) (G:Heap) (D:List Nat):Prop:=(x=.p .nil∧xs=[]∧D=[z]∧G z=some [])∨LRow L sz xs x G D
theorem RZ.local {α:Type} {L:Lay α} {sz z:Nat} (hL:L.Local) {x:AV} {xs:List α} {G G':Heap} {D:List Nat} (h:RZ L sz z x xs G D) (hf:∀y∈D,∀b,G y=some b→G' y=some b):RZ L sz z x xs G' D:=by
 rcases h with ⟨h1,h2,rfl,h3⟩ | h
 ·exact .inl ⟨h1,h2,rfl,hf z (by simp) _ h3⟩
 ·exact .inr (h.local hL hf)
theorem RZ.has {α:Type} {L:Lay α} {sz z:Nat} (hL:L.Has) {x:AV} {xs:List α} {G:Heap} {D:List Nat} (h:RZ L sz z x xs G D):∀y∈D,G y≠none:=by
 rcases h with ⟨h1,h2,rfl,h3⟩ | h
 ·intro y hy;rw [List.mem_singleton.1 hy,h3];simp
 ·exact h.has hL
theorem RZ.row {α:Type} {L:Lay α} {sz z:Nat} {x:AV} {xs:List α} {G:Heap} {D:List Nat} (h:RZ L sz z x xs G D):∃x',AV.wk x x'∧LRow L sz xs x' G D:=by
 rcases h with ⟨rfl,rfl,rfl,h3⟩ | h
 ·exact ⟨.sl z sz 0 0,.nilo _ _ _,z,[],[],rfl,h3,⟨rfl,rfl⟩,rfl⟩
 ·exact ⟨x,.refl _,h⟩
theorem RZ.sl {α:Type} {L:Lay α} {sz z:Nat} {x:AV} {xs:List α} {G:Heap} {D:List Nat} (h:RZ L sz z x xs G D):x=.p .nil∨∃q,x=.sl q sz 0 xs.length:=by
 rcases h with ⟨h1,_⟩ | ⟨q,cs,D',h1,_⟩
 ·exact .inl h1
 ·exact .inr ⟨q,h1⟩
def rzT {α:Type} {L:Lay α} (hL:L.Local) (hh:L.Has) (sz z:Nat) (x:AV) (xs:List α) (D:List Nat):Th:=⟨D,fun G=>RZ L sz z x xs G D,fun h f=>h.local hL f,fun h=>h.has hh⟩
abbrev riT (z:Nat) (x:AV) (xs:List Int) (D:List Nat):Th:=rzT (LPl.local eI) (LPl.has eI) 1 z x xs D
abbrev reT (z:Nat) (x:AV) (xs:List Ed) (D:List Nat):Th:=rzT (LPl.local eE) (LPl.has eE) 3 z x xs D
abbrev rgT (z:Nat) (x:AV) (xs:List (List Int)) (D:List Nat):Th:=rzT LIc.local LIc.has 1 z x xs D
theorem lent {α:Type} {L:Lay α} (hL:L.Local) (hh:L.Has) (sz:Nat) {H G:Heap} {Ts:List Th} {z:Nat} (s:St H Ts G) (i:Nat) (h:Ts[i]?=some (cT_ z [])):St H (Ts.set i (rzT hL hh sz z (.p .nil) [] [z])) G:=
 s.repl i h _ (by simp [rzT]) (fun y hy=>.inl hy) (fun y b hb _=>hb) (.inl ⟨rfl,rfl,rfl,s.get i h⟩)
theorem owned_i {H G:Heap} {Ts:List Th} {q:Nat} {l:List Int} (s:St H Ts G) (i:Nat) (h:Ts[i]?=some (cT_ q (cP fI l))):St H (Ts.set i (riT 0 (rowP q l) l [q])) G:=
 s.repl i h _ (by simp [rzT]) (fun y hy=>.inl hy) (fun y b hb _=>hb) (.inr (LI_mk' (s.get i h)))
theorem RZ.app {tab:Tab} {t0 t1 e0 e1 sz z:Nat} {d d1 ed:TD} {α:Type} {e:α→List PV} (h1:tab t0=some d) (h2:d.k=.slice e0) (h3:tab e0=some ed) (h4:tab t1=some d1) (h5:d1.k=.slice e1) (h6:ed.size=sz) {bz:Nat} (h7:ed.bytes=bz)
  (hsz:∀a,(e a).length=sz) {H G:Heap} {Ts:List Th} {x y:AV} {xs ys:List α} {D:List Nat} {hL:(LPl e).Local} {hh:(LPl e).Has} (s:St H Ts G) (i:Nat) (hi:Ts[i]?=some (rzT hL hh sz z x xs D)) (hy:y=.p (.sl (ys.map e)))
  (hl:(xs.length+ys.length)*bz≤140737488355328) (hl2:xs.length+ys.length≤9223372036854775807) {K:AV→Heap→Prop}
  (h:∀q' G',G q'=none→St H (Ts.set i (rzT hL hh sz z (.sl q' sz 0 (xs++ys).length) (xs++ys) [q'])) G'→K (.sl q' sz 0 (xs++ys).length) G'):aP_ tab t0 t1 x y G (wkK K):=by
 subst hy
 have hrz:RZ (LPl e) sz z x xs G D:=s.get i hi
 rcases hrz with ⟨rfl,rfl,rfl,hz⟩ | ⟨q,cs,D',rfl,hq,hll,rfl⟩
 ·refine app_nil h1 h2 h3 h4 h5 h6 h7 (.inl rfl) (.inl rfl) (sized_map hsz ys) (by simpa using hl) (by simpa using hl2) fun q' hq'=>?_
  have:=h q' _ hq' (s.repl i hi (rzT hL hh sz z (.sl q' sz 0 ([]++ys).length) ([]++ys) [q']) (by simp [rzT]) (fun y hy=>by
   simp only [rzT,List.mem_singleton] at hy;subst hy;exact .inr hq') (G':=G.set q' (cells (ys.map e))) (fun y b hb _=>Heap.le_set hq' y b hb) (.inr ⟨q',_,[],rfl,Heap.set_same _ _ _,LL.plain _,rfl⟩))
  simpa [Go.Sep.own] using this
 ·have hq0:cs=cells (xs.map e)∧D'=[]:=by
   have key:∀(xs:List α) (cs:List AV) (D:List Nat),LL (LPl e) xs cs G D→cs=cells (xs.map e)∧D=[]:=by
    intro xs
    induction xs with
    | nil=>rintro cs D ⟨rfl,rfl⟩;exact ⟨rfl,rfl⟩
    | cons a xs ih=>
     rintro cs D ⟨c1,c2,D1,D2,rfl,rfl,⟨rfl,rfl⟩,h2⟩
     obtain ⟨rfl,rfl⟩:=ih _ _ h2
     exact ⟨by simp [cells],rfl⟩
   exact key _ _ _ hll
  obtain ⟨rfl,rfl⟩:=hq0
  have:=app_own (x:=.p (.sl (ys.map e))) (r:=q) (es:=xs.map e) (fs:=ys.map e) (H:=G) (K:=K) h1 h2 h3 h4 h5 h6 h7 (.inl rfl) hq (sized_map hsz xs) (sized_map hsz ys)
   (by simpa using hl) (by simpa using hl2) fun q' hq'=>by
    have:=h q' ((G.del q).set q' (cells ((xs++ys).map e))) hq' (s.repl i hi (rzT hL hh sz z (.sl q' sz 0 (xs++ys).length) (xs++ys) [q']) (by simp [rzT]) (fun y hy=>by
     simp only [rzT,List.mem_singleton] at hy;subst hy;exact .inr hq') (fun y b hb hy=>by
      simp only [rzT,List.mem_singleton] at hy
      rw [Heap.set_other (fun e=>by rw [e,hq'] at hb;cases hb),Heap.del_other hy];exact hb) (.inr ⟨q',_,[],rfl,Heap.set_same _ _ _,LL.plain _,rfl⟩))
    simpa only [Go.Sep.own,List.length_map,List.map_append,List.length_append] using this
  simpa only [Go.Sep.own,List.length_map] using this
theorem rz_appE {H G:Heap} {Ts:List Th} {z:Nat} {x:AV} {xs ys:List Ed} {D:List Nat} (s:St H Ts G) (i:Nat) (hi:Ts[i]?=some (reT z x xs D)) (hl:xs.length+ys.length≤1000000) {K:AV→Heap→Prop}
  (h:∀q' G',G q'=none→St H (Ts.set i (reT z (rowE q' (xs++ys)) (xs++ys) [q'])) G'→K (rowE q' (xs++ys)) G'):aP_ tab 25 25 x (Es ys) G (wkK K):=
 RZ.app (bz:=24) tab_25 rfl tab_66 tab_25 rfl rfl rfl (fun _=>rfl) s i hi rfl (by omega) (by omega) h
theorem rz_appI {H G:Heap} {Ts:List Th} {z:Nat} {x:AV} {xs ys:List Int} {D:List Nat} (s:St H Ts G) (i:Nat) (hi:Ts[i]?=some (riT z x xs D)) (hl:xs.length+ys.length≤1000000) {K:AV→Heap→Prop}
  (h:∀q' G',G q'=none→St H (Ts.set i (riT z (rowP q' (xs++ys)) (xs++ys) [q'])) G'→K (rowP q' (xs++ys)) G'):aP_ tab 24 24 x (Is ys) G (wkK K):=
 RZ.app (bz:=8) tab_24 rfl tab_3 tab_24 rfl rfl rfl (fun _=>rfl) s i hi rfl (by omega) (by omega) h
theorem rz_pushL {H G:Heap} {Ts:List Th} {z qn ql:Nat} {x:AV} {gs:List (List Int)} {l:List Int} {D:List Nat} (s:St H (cT_ ql [rowP qn l]::cT_ qn (cP fI l)::Ts) G) (i:Nat) (hi:Ts[i]?=some (rgT z x gs D)) (hlen:gs.length≤100000) {K:AV→Heap→Prop}
  (h:∀q' D' G',G q'=none→St H (Ts.set i (rgT z (.sl q' 1 0 (gs.length+1)) (gs++[l]) D')) G'→K (.sl q' 1 0 (gs.length+1)) G'):aP_ tab 26 26 x (.sl ql 1 0 1) G (wkK K):=by
 have s1:=(s.pick (i+2) hi).perm (Us:=[rgT z x gs D,cT_ ql [rowP qn l],cT_ qn (cP fI l)]++Ts.eraseIdx i) (List.Perm.refl _)
 have hrz:RZ LIc 1 z x gs G D:=s1.get 0 rfl
 have hql:G ql=some [rowP qn l]:=s1.get 1 rfl
 have hqn:G qn=some (cP fI l):=s1.get 2 rfl
 have fin:∀q' D' G',G q'=none→LRow LIc 1 (gs++[l]) (.sl q' 1 0 (gs.length+1)) G' D'→D'.Nodup→(∀y∈D',y∈D∨y=qn∨y=q')→(∀y b,G y=some b→y∉D→y≠ql→y≠qn→G' y=some b)→K (.sl q' 1 0 (gs.length+1)) G':=by
  intro q' D' G' hq' hrow hnd hsub hfr
  refine h q' D' G' hq' ?_
  have s2:=s1.step [rgT z (.sl q' 1 0 (gs.length+1)) (gs++[l]) D'] (by simpa [rzT] using hnd) (fun t ht y hy=>by
   rw [List.mem_singleton] at ht;subst ht
   rcases hsub y hy with h1 | h1 | h1
   ·exact .inl ⟨rgT z x gs D,by simp,h1⟩
   ·exact .inl ⟨cT_ qn (cP fI l),by simp,by rw [h1];simp [cT_]⟩
   ·exact .inr (by rw [h1];exact hq')) (fun y b hb hy=>hfr y b hb (hy (rgT z x gs D) (by simp)) (fun e=>hy (cT_ ql [rowP qn l]) (by simp) (by rw [e];simp [cT_])) (fun e=>hy (cT_ qn (cP fI l)) (by simp) (by rw [e];simp [cT_]))) (fun t ht=>by
   rw [List.mem_singleton] at ht;subst ht;exact .inr hrow)
  obtain ⟨hi',-⟩:=List.getElem?_eq_some_iff.1 hi
  exact s2.perm (perm_set Ts i hi' _).symm
 have nqn:∀{q'},G q'=none→q'≠qn:=fun hq' e=>by rw [e,hqn] at hq';cases hq'
 have nql:∀{q'},G q'=none→q'≠ql:=fun hq' e=>by rw [e,hql] at hq';cases hq'
 have dq:qn∉D:=fun hm=>(s1.disjI 0 2 rfl rfl (by decide)) qn hm (by simp [cT_])
 have nnl:qn≠ql:=fun e=>by
  have:=(s1.disjI 1 2 rfl rfl (by decide)) ql (by simp [cT_])
  exact this (by simp [cT_,e])
 have nd:=s1.ndT 0 rfl
 simp only [aP_,tab_26,tab_24,srcV,hql]
 rcases hrz with ⟨rfl,rfl,rfl,hz⟩ | ⟨q,cs,D',rfl,hq,hll,rfl⟩
 ·simp only [baseV]
  refine ⟨trivial,by simp,by omega,by omega,rfl,fun q' hq'=>wkK.keep ?_⟩
  refine fin q' [q',qn] _ hq' ⟨q',[rowP qn l],[qn],rfl,Heap.set_same _ _ _,⟨[rowP qn l],[],[qn],[],rfl,by simp,⟨_,rfl,LI_mk' (by rw [Heap.set_other (Ne.symm (nqn hq'))];exact hqn)⟩,⟨rfl,rfl⟩⟩,rfl⟩ (by simp [nqn hq']) (fun y hy=>?_) (fun y b hb _ _ _=>Heap.le_set hq' y b hb)
  simp only [List.mem_cons,List.not_mem_nil,or_false] at hy
  rcases hy with rfl | rfl<;>simp
 ·have hcl:cs.length=gs.length:=by rw [LL.size LIc.size hll,Nat.mul_one]
  simp only [baseV,hq]
  have e1:List.take (gs.length*1) (List.drop 0 cs)=cs:=by rw [List.drop_zero,Nat.mul_one,← hcl,List.take_length]
  have e2:List.take (1*1) (List.drop 0 [rowP qn l])=[rowP qn l]:=rfl
  refine ⟨trivial,by simp,trivial,by omega,by omega,by omega,rfl,fun q' hq'=>wkK.keep ?_⟩
  rw [e1,e2]
  have nq:q'≠q:=fun e=>by rw [e,hq] at hq';cases hq'
  have old:∀y b,G y=some b→y≠q→((G.del q).set q' (cs++[rowP qn l])) y=some b:=fun y b hb hy=>by
   rw [Heap.set_other (fun e=>by rw [e,hq'] at hb;cases hb),Heap.del_other hy];exact hb
  simp only [rzT,List.nodup_cons] at nd
  simp only [List.mem_cons,not_or] at dq
  have hq'D:q'∉D':=fun hm=>LL.has LIc.has hll q' hm hq'
  refine fin q' (q'::(D'++[qn])) _ hq' ⟨q',cs++[rowP qn l],D'++[qn],by simp,Heap.set_same _ _ _,LL.snoc ⟨_,rfl,LI_mk' (old _ _ hqn dq.1)⟩ (LL.local LIc.local hll fun y hy b hb=>old y b hb (fun e=>nd.1 (e ▸ hy))),rfl⟩ ?_ (fun y hy=>?_) (fun y b hb hy h5 h6=>?_)
  ·rw [List.nodup_cons,List.nodup_append]
   refine ⟨by simp only [List.mem_append,List.mem_singleton,not_or];exact ⟨hq'D,nqn hq'⟩,nd.2,by simp,fun a ha b hb e=>?_⟩
   rw [List.mem_singleton] at hb
   exact dq.2 (by rw [← hb,← e];exact ha)
  ·simp only [List.mem_cons,List.mem_append,List.not_mem_nil,or_false] at hy ⊢
   rcases hy with rfl | hy | rfl
   ·exact .inr (.inr rfl)
   ·exact .inl (.inr hy)
   ·exact .inr (.inl rfl)
  ·rw [List.mem_cons,not_or] at hy
   exact old y b hb hy.1
theorem mul_bd {a b A B:Int} (h1:0≤a∧a≤A) (h2:0≤b∧b≤B):0≤a*b∧a*b≤A*B:=⟨Int.mul_nonneg h1.1 h2.1,Int.mul_le_mul h1.2 h2.2 h2.1 (by omega)⟩
end Go.Proofs.YtohkciilfkhomaaGreat
namespace Go.Pt
def sc (zs:List Int):List Int:=Lib.compact (zs.mergeSort fun x y=>decide (x≤y))
theorem srt_perm (zs:List Int):List.Perm (zs.mergeSort fun x y=>decide (x≤y)) zs:=List.mergeSort_perm zs _
theorem srt_sorted (zs:List Int):(zs.mergeSort fun x y=>decide (x≤y)).Pairwise (·≤·):=by
 have:=List.pairwise_mergeSort (le:=fun x y:Int=>decide (x≤y)) (fun a b c h1 h2=>by simp only [decide_eq_true_eq] at *;omega) (fun a b=>by simp only [Bool.or_eq_true,decide_eq_true_eq];omega) zs
 exact this.imp fun h=>by simpa using h
theorem keeps_iff (ys:List Int) (j:Nat) (hj:j < ys.length):Lib.keeps ys.toArray j=true↔j=0∨ys[j - 1]'(by omega)≠ys[j]:=by
 unfold Lib.keeps
 by_cases h0:j=0
 ·simp [h0]
 ·have h1:j - 1 < ys.length:=by omega
  simp [h0,hj,h1]
  omega
theorem compact_mem {ys:List Int} (hs:ys.Pairwise (·≤·)) (x:Int):x∈Lib.compact ys↔x∈ys:=by
 unfold Lib.compact Lib.compactUpTo
 simp only [List.mem_map,List.mem_filter,List.mem_range]
 constructor
 ·rintro ⟨j,⟨hj,_⟩,rfl⟩
  simp [hj]
 ·intro hx
  obtain ⟨j,hj,rfl⟩:=List.mem_iff_getElem.1 hx
  have key:∀n j (hj:j < ys.length),j≤n→∃i,∃hi:i < ys.length,Lib.keeps ys.toArray i=true∧ys[i]=ys[j]:=by
   intro n
   induction n with
   | zero=>intro j hj h;exact ⟨j,hj,(keeps_iff ys j hj).2 (.inl (by omega)),rfl⟩
   | succ n ih=>
    intro j hj h
    by_cases hk:Lib.keeps ys.toArray j=true
    ·exact ⟨j,hj,hk,rfl⟩
    ·rw [keeps_iff ys j hj] at hk
     have h1:j≠0:=fun e=>hk (.inl e)
     have h2:ys[j - 1]'(by omega)=ys[j]:=by
      by_cases e:ys[j - 1]'(by omega)=ys[j]
      ·exact e
      ·exact absurd (.inr e) hk
     obtain ⟨i,hi,hki,e⟩:=ih (j - 1) (by omega) (by omega)
     exact ⟨i,hi,hki,by rw [e,h2]⟩
  obtain ⟨i,hi,hk,e⟩:=key j j hj (Nat.le_refl _)
  exact ⟨i,⟨hi,hk⟩,by simp [hi,e]⟩
theorem compact_lt {ys:List Int} (hs:ys.Pairwise (·≤·)):(Lib.compact ys).Pairwise (· < ·):=by
 unfold Lib.compact Lib.compactUpTo
 rw [List.pairwise_map]
 have hr:((List.range ys.length).filter (Lib.keeps ys.toArray)).Pairwise (· < ·):=List.Pairwise.filter _ List.pairwise_lt_range
 refine List.Pairwise.imp_of_mem ?_ hr
 intro i j hi hj hij
 rw [List.mem_filter,List.mem_range] at hi hj
 have hle:=List.pairwise_iff_getElem.1 hs
 have h1:=(keeps_iff ys j hj.1).1 hj.2
 have e1:ys.toArray[i]! = ys[i]'hi.1:=by simp [hi.1]
 have e2:ys.toArray[j]! = ys[j]'hj.1:=by simp [hj.1]
 rw [e1,e2]
 rcases h1 with h1 | h1
 ·omega
 ·have h2:=hle (j - 1) j (by omega) hj.1 (by omega)
  by_cases e:i=j - 1
  ·subst e
   omega
  ·have h3:=hle i (j - 1) hi.1 (by omega) (by omega)
   omega
theorem sc_mem (zs:List Int) (x:Int):x∈sc zs↔x∈zs:=by
 unfold sc
 rw [compact_mem (srt_sorted zs)]
 exact (srt_perm zs).mem_iff
theorem sc_lt (zs:List Int):(sc zs).Pairwise (· < ·):=compact_lt (srt_sorted zs)
theorem rise_ext:∀{xs ys:List Int},xs.Pairwise (· < ·)→ys.Pairwise (· < ·)→(∀x,x∈xs↔x∈ys)→xs=ys
 | [],[],_,_,_=>rfl
 | [],b::ys,_,_,h=>absurd ((h b).2 (by simp)) (by simp)
 | a::xs,[],_,_,h=>absurd ((h a).1 (by simp)) (by simp)
 | a::xs,b::ys,h1,h2,h=>by
  rw [List.pairwise_cons] at h1 h2
  have e:a=b:=by
   rcases List.mem_cons.1 ((h a).1 (by simp)) with e | e
   ·exact e
   ·have k1:=h2.1 a e
    rcases List.mem_cons.1 ((h b).2 (by simp)) with e' | e'
    ·omega
    ·have k2:=h1.1 b e';omega
  subst e
  refine congrArg _ (rise_ext h1.2 h2.2 fun x=>?_)
  constructor
  ·intro hx
   rcases List.mem_cons.1 ((h x).1 (by simp [hx])) with e | e
   ·have:=h1.1 x hx;omega
   ·exact e
  ·intro hx
   rcases List.mem_cons.1 ((h x).2 (by simp [hx])) with e | e
   ·have:=h2.1 x hx;omega
   ·exact e
theorem compact_len (ys:List Int):(Lib.compact ys).length≤ys.length:=by
 unfold Lib.compact Lib.compactUpTo
 rw [List.length_map]
 exact Nat.le_trans (List.length_filter_le _ _) (by simp)
theorem sc_len (zs:List Int):(sc zs).length≤zs.length:=by
 unfold sc
 exact Nat.le_trans (compact_len _) (by rw [List.length_mergeSort];exact Nat.le_refl _)
def put (l:List Int) (n:Int):List Int:=if n∈l then l else l.takeWhile (· < n)++n::l.dropWhile (· < n)
theorem put_mem (l:List Int) (n x:Int):x∈put l n↔x=n∨x∈l:=by
 unfold put
 split
 ·rename_i h
  exact ⟨.inr,fun h'=>by rcases h' with rfl | h';exact h;exact h'⟩
 ·rw [List.mem_append,List.mem_cons]
  have:x∈l↔x∈l.takeWhile (· < n)∨x∈l.dropWhile (· < n):=by
   rw [← List.mem_append,List.takeWhile_append_dropWhile]
  rw [this]
  constructor
  ·rintro (h | h | h)
   ·exact .inr (.inl h)
   ·exact .inl h
   ·exact .inr (.inr h)
  ·rintro (h | h | h)
   ·exact .inr (.inl h)
   ·exact .inl h
   ·exact .inr (.inr h)
theorem drop_ge {l:List Int} {n:Int} (hs:l.Pairwise (· < ·)):∀x∈l.dropWhile (· < n),n≤x:=by
 induction l with
 | nil=>intro x hx;simp at hx
 | cons a l ih=>
  rw [List.pairwise_cons] at hs
  intro x hx
  rw [List.dropWhile_cons] at hx
  split at hx
  ·exact ih hs.2 x hx
  ·rename_i h
   simp only [decide_eq_true_eq] at h
   rcases List.mem_cons.1 hx with rfl | hx
   ·omega
   ·have:=hs.1 x hx;omega
theorem take_lt {l:List Int} {n:Int}:∀x∈l.takeWhile (· < n),x < n:=by
 induction l with
 | nil=>intro x hx;simp at hx
 | cons a l ih=>
  intro x hx
  rw [List.takeWhile_cons] at hx
  split at hx
  ·rename_i h
   rcases List.mem_cons.1 hx with rfl | hx
   ·simpa using h
   ·exact ih x hx
  ·simp at hx
theorem put_lt {l:List Int} (n:Int) (hs:l.Pairwise (· < ·)):(put l n).Pairwise (· < ·):=by
 unfold put
 split
 ·exact hs
 ·rename_i hn
  rw [List.pairwise_append,List.pairwise_cons]
  have h2:=drop_ge (n:=n) hs
  have h3:∀x∈l.dropWhile (· < n),n < x:=fun x hx=>by
   have:=h2 x hx
   have hm:x∈l:=(List.dropWhile_suffix _).subset hx
   have:x≠n:=fun e=>hn (e ▸ hm)
   omega
  refine ⟨List.Pairwise.sublist (List.takeWhile_prefix _).sublist hs,⟨h3,List.Pairwise.sublist (List.dropWhile_suffix _).sublist hs⟩,fun a ha b hb=>?_⟩
  have h4:=take_lt a ha
  rcases List.mem_cons.1 hb with rfl | hb
  ·exact h4
  ·have:=h3 b hb;omega
theorem put_len (l:List Int) (n:Int):(put l n).length≤l.length+1:=by
 unfold put
 split
 ·omega
 ·have:(l.takeWhile (· < n)).length+(l.dropWhile (· < n)).length=l.length:=by rw [← List.length_append,List.takeWhile_append_dropWhile]
  rw [List.length_append,List.length_cons];omega
theorem foldl_put (xs:List Int):∀(l:List Int),l.Pairwise (· < ·)→(xs.foldl put l).Pairwise (· < ·)∧∀x,x∈xs.foldl put l↔x∈l∨x∈xs:=by
 induction xs with
 | nil=>intro l hl;exact ⟨hl,fun x=>by simp⟩
 | cons a xs ih=>
  intro l hl
  obtain ⟨h1,h2⟩:=ih (put l a) (put_lt a hl)
  refine ⟨h1,fun x=>?_⟩
  rw [List.foldl_cons,h2,put_mem,List.mem_cons]
  constructor
  ·rintro ((h | h) | h)
   ·exact .inr (.inl h)
   ·exact .inl h
   ·exact .inr (.inr h)
  ·rintro (h | h | h)
   ·exact .inl (.inr h)
   ·exact .inl (.inl h)
   ·exact .inr h
theorem puts_sc (xs:List Int):xs.foldl put []=sc xs:=by
 have:=foldl_put xs [] List.Pairwise.nil
 exact rise_ext this.1 (sc_lt xs) fun x=>by rw [this.2,sc_mem];simp
end Go.Pt
namespace Go.Proofs.YtohkciilfkhomaaGreat
open Go Go.Sep Go.Pt
attribute [local irreducible] CallT
theorem tw_split {l:List Int} {n:Int}:∀{k:Nat},k≤l.length→(∀j,j < k→l.getD j default < n)→(k=l.length∨¬l.getD k default < n)→l.takeWhile (· < n)=l.take k∧l.dropWhile (· < n)=l.drop k:=by
 induction l with
 | nil=>intro k hk _ _;simp
 | cons a l ih=>
  intro k hk h1 h2
  cases k with
  | zero=>
   have:¬a < n:=by
    rcases h2 with h2 | h2
    ·simp at h2
    ·simpa using h2
   simp [this]
  | succ k=>
   have h0:a < n:=by simpa using h1 0 (by omega)
   have:=ih (k:=k) (by simpa using hk) (fun j hj=>by simpa using h1 (j+1) (by omega)) (by
    rcases h2 with h2 | h2
    ·left;simpa using h2
    ·right;simpa using h2)
   simp [h0,this.1,this.2]
theorem l1Put_spec (l:List Int) (n:Int) (hs:l.Pairwise (· < ·)) (hl:l.length≤100000):Pu Tryz.prog 93 [Is l,I n] (Is (put l n)):=by
 refine ⟨fun H=>CallT.fin ?_⟩
 refine W93_ok ?_;simp (maxSteps:=1000000) (disch:=first | assumption | (apply ν6;assumption)) only [W93,vz,vu,vv,eqS,eF_,↓c1_,↓c2_,tabs,reduceCtorEq,ι5,↓reduceIte,ν1,ν2,ν3,ν4,ν5,ι1,ι2,ι3,ι4]
 refine L93_0_rule (0:Nat) (fun i=>I i) (fun _=>H) (fun k=>k≤l.length∧∀j,j < k→l.getD j default < n) (fun k=>l.length - k) ⟨⟨by omega,by intros;omega⟩,.refl _,Heap.le_refl _⟩ ?_
 rintro k ⟨hk,ha⟩
 have ins:((k=l.length∨¬l.getD k default < n)∧n∉l)→J93_1 (wkK fun r H'=>r=Is (put l n)∧H'=H) (Is l) (I n) (I k) H:=by
  rintro ⟨h2,hn⟩
  have ht:=tw_split hk ha h2
  (try simp (maxSteps:=1000000) (disch:=first | assumption | (apply ν6;assumption)) only [vz,vu,vv,eqS,eF_,↓c1_,↓c2_,tabs,reduceCtorEq,ι5,↓reduceIte,ν1,ν2,ν3,ν4,ν5,ι1,ι2,ι3,ι4,J93_1])
  refine lit0I fun q0 hq0=>?_
  (try simp (maxSteps:=1000000) (disch:=first | assumption | (apply ν6;assumption)) only [vz,vu,vv,eqS,eF_,↓c1_,↓c2_,tabs,reduceCtorEq,ι5,↓reduceIte,ν1,ν2,ν3,ν4,ν5,ι1,ι2,ι3,ι4,sliceV])
  refine ⟨by omega,by omega,by omega,szI l,?_⟩
  have hlt:(l.take k).length=k:=by rw [List.length_take,Nat.min_eq_left hk]
  refine app_topI (xs:=[]) (ys:=l.take k) hq0 (by simp only [List.length_nil,hlt];omega) fun q1 hq1=>?_
  rw [List.nil_append]
  refine push_topI hq1 (by omega) fun q2 hq2=>?_
  (try simp (maxSteps:=1000000) (disch:=first | assumption | (apply ν6;assumption)) only [vz,vu,vv,eqS,eF_,↓c1_,↓c2_,tabs,reduceCtorEq,ι5,↓reduceIte,ν1,ν2,ν3,ν4,ν5,ι1,ι2,ι3,ι4,sliceV])
  refine ⟨by omega,by omega,by omega,szI l,?_⟩
  have e1:List.take ((l.length:Int) - k).toNat (l.drop k)=l.drop k:=List.take_of_length_le (by rw [List.length_drop];omega)
  rw [e1]
  have e2:l.take k++[n]++l.drop k=put l n:=by rw [put,if_neg hn,ht.1,ht.2];simp
  refine app_topI (xs:=l.take k++[n]) (ys:=l.drop k) hq2 (by simp only [List.length_append,hlt,List.length_drop,List.length_singleton];omega) fun q3 hq3=>?_
  rw [e2]
  exact fin_int hq3 (Heap.le_refl _)
 have here:(k=l.length∨¬l.getD k default < n)→J93_2 (wkK fun r H'=>r=Is (put l n)∧H'=H) (Is l) (I n) (I k) H:=by
  intro h2
  have ht:=tw_split hk ha h2
  have ge:∀x∈l.drop k,n≤x:=by rw [← ht.2];exact drop_ge hs
  have lt:∀x∈l.take k,x < n:=by rw [← ht.1];exact take_lt
  (try simp (maxSteps:=1000000) (disch:=first | assumption | (apply ν6;assumption)) only [vz,vu,vv,eqS,eF_,↓c1_,↓c2_,tabs,reduceCtorEq,ι5,↓reduceIte,ν1,ν2,ν3,ν4,ν5,ι1,ι2,ι3,ι4,J93_2])
  refine ⟨fun h3=>⟨by omega,h3,fun h4=>?_,fun h4=>ins ⟨h2,fun hm=>?_⟩⟩,fun h3=>ins ⟨h2,fun hm=>?_⟩⟩
  ·have hkl:k < l.length:=by omega
   have hm:n∈l:=by rw [← h4];exact getD_all (p:=fun x=>x∈l) (fun _ h=>h) hkl
   exact wkK.keep ⟨by rw [put,if_pos hm],rfl⟩
  ·have hkl:k < l.length:=by omega
   rw [← List.take_append_drop k l] at hm
   rcases List.mem_append.1 hm with hm | hm
   ·have:=lt n hm;omega
   ·rw [drop_cons hkl] at hm ge
    rcases List.mem_cons.1 hm with hm | hm
    ·exact h4 hm.symm
    ·have h5:=ge _ (List.mem_cons_self ..)
     have h6:(l.drop k).Pairwise (· < ·):=List.Pairwise.sublist (List.drop_sublist k l) hs
     rw [drop_cons hkl,List.pairwise_cons] at h6
     have:=h6.1 n hm
     omega
  ·rw [← List.take_append_drop k l,List.drop_of_length_le (by omega),List.append_nil] at hm
   have:=lt n hm;omega
 (try simp (maxSteps:=1000000) (disch:=first | assumption | (apply ν6;assumption)) only [vz,vu,vv,eqS,eF_,↓c1_,↓c2_,tabs,reduceCtorEq,ι5,↓reduceIte,ν1,ν2,ν3,ν4,ν5,ι1,ι2,ι3,ι4,B93_0])
 refine ⟨fun h1=>⟨by omega,h1,fun h2=>⟨k+1,⟨by omega,fun j hj=>?_⟩,by omega,?_⟩,fun h2=>here (.inr h2)⟩,fun h1=>here (.inl (by omega))⟩
 ·rcases Nat.lt_succ_iff_lt_or_eq.1 hj with h | rfl
  ·exact ha j h
  ·exact h2
 ·rw [wk_int,i6_ (by omega) (by omega)];simp
end Go.Proofs.YtohkciilfkhomaaGreat
namespace Go.Proofs.YtohkciilfkhomaaGreat
open Go Go.Sep Go.Pt
attribute [local irreducible] CallT
theorem rising_at {l:List Int} {n:Int} (h:rising l n=true):∀i,i < l.length→(i:Int)≤l.getD i default∧l.getD i default < n:=by
 intro i
 induction i with
 | zero=>
  intro hi
  have:=riseAt_iff.1 (List.all_eq_true.1 h 0 (List.mem_range.2 hi))
  omega
 | succ i ih=>
  intro hi
  have h1:=ih (by omega)
  have:=riseAt_iff.1 (List.all_eq_true.1 h (i+1) (List.mem_range.2 hi))
  simp only [Nat.add_sub_cancel] at this
  omega
theorem rising_sm {l:List Int} {n:Int} (h:rising l n=true) (hn:n≤10000):smI l∧l.length≤n.toNat:=by
 have hl:l.length≤n.toNat:=by
  by_cases h0:l.length=0
  ·omega
  ·have:=rising_at h (l.length - 1) (by omega)
   omega
 refine ⟨⟨by omega,fun x hx=>?_⟩,hl⟩
 obtain ⟨i,hi,rfl⟩:=List.mem_iff_getElem.1 hx
 have:=rising_at h i hi
 rw [getD_lt hi] at this
 omega
structure GoodF (a:Au):Prop where
 st:1≤a.states∧a.states≤96
 fi:smI a.first∧a.first.length≤96
 ed:a.edges.length≤2400
 ei:∀e∈a.edges,edIn a.states e=true
 gl:a.goals.length≤6
 gi:∀g∈a.goals,smI g∧g.length≤96
theorem good_facts {a:Au} (h:goodA a=true):GoodF a:=by
 rw [goodA_def] at h
 simp only [goalsOk,Bool.and_eq_true,decide_eq_true_eq,List.all_eq_true] at h
 obtain ⟨h1,h2,h3,⟨h4,h5⟩,h6⟩:=h
 have f:=rising_sm h2 (by omega)
 refine ⟨h1,⟨f.1,by omega⟩,h3,fun e he=>?_,h4,fun g hg=>?_⟩
 ·obtain ⟨i,hi,rfl⟩:=List.mem_iff_getElem.1 he
  have:=(edAt_iff.1 (List.all_eq_true.1 h6 i (List.mem_range.2 hi))).1
  rwa [getD_lt hi] at this
 ·have:=rising_sm (h5 g hg) (by omega)
  exact ⟨this.1,by omega⟩
def zeroA:Au:=⟨0,[],[],[]⟩
end Go.Proofs.YtohkciilfkhomaaGreat
namespace Go.Proofs.YtohkciilfkhomaaGreat
open Go Go.Sep Go.Pt
attribute [local irreducible] CallT
end Go.Proofs.YtohkciilfkhomaaGreat
namespace Go.Proofs.YtohkciilfkhomaaGreat
open Go Go.Sep Go.Pt
attribute [local irreducible] CallT
theorem eI_gd:Lay.Gd (LPl eI):=LPl.gd fun a x hx=>by
 simp only [List.mem_singleton] at hx;subst hx;exact .int _ _
theorem eE_gd:Lay.Gd (LPl eE):=LPl.gd fun a x hx=>by
 simp only [List.mem_cons,List.not_mem_nil,or_false] at hx
 rcases hx with rfl | rfl | rfl<;>exact .int _ _
theorem LIc.gd:Lay.Gd LIc:=by
 rintro a cs G D ⟨x,rfl,h⟩
 obtain ⟨h1,h2⟩:=LRow.gd eI_gd h
 exact ⟨fun c hc=>by rw [List.mem_singleton] at hc;subst hc;exact h1,h2⟩
theorem LIc.sh:Lay.Sh LIc:=by
 rintro a cs G D n G0 h0 ⟨x,rfl,h⟩
 exact ⟨shC n x,rfl,LRow.sh (LPl.sh eI) h0 h⟩
theorem LAu.gd {a:Au} {v:AV} {G:Heap} {D:List Nat} (h:LAu a v G D):Gd1 v∧∀y∈D,∀bs,G y=some bs→∀c∈bs,GdC c:=by
 obtain ⟨x,y,z,D1,D2,D3,rfl,rfl,h1,h2,h3⟩:=h
 have a1:=LRow.gd eI_gd h1
 have a2:=LRow.gd eE_gd h2
 have a3:=LRow.gd LIc.gd h3
 refine ⟨.inl ⟨_,rfl,fun c hc=>?_⟩,fun u hu=>?_⟩
 ·simp only [List.mem_cons,List.not_mem_nil,or_false] at hc
  rcases hc with rfl | rfl | rfl | rfl
  ·exact .p (.int _ _)
  ·exact a1.1
  ·exact a2.1
  ·exact a3.1
 ·simp only [List.mem_append] at hu
  rcases hu with hu | hu | hu
  ·exact a1.2 u hu
  ·exact a2.2 u hu
  ·exact a3.2 u hu
theorem LAu.sh {a:Au} {v:AV} {G:Heap} {D:List Nat} {n:Nat} {G0:Heap} (h0:∀q,n≤q→G0 q=none) (h:LAu a v G D):LAu a (sh1 n v) (Heap.or G0 (shH n G)) (D.map (·+n)):=by
 obtain ⟨x,y,z,D1,D2,D3,rfl,rfl,h1,h2,h3⟩:=h
 exact ⟨shC n x,shC n y,shC n z,_,_,_,rfl,by rw [List.map_append,List.map_append],LRow.sh (LPl.sh eI) h0 h1,LRow.sh (LPl.sh eE) h0 h2,LRow.sh LIc.sh h0 h3⟩
end Go.Proofs.YtohkciilfkhomaaGreat
namespace Go.Proofs.YtohkciilfkhomaaGreat
open Go Go.Sep
attribute [local irreducible] CallT
abbrev cur (code:List Int) (k:Nat) (seed:Int):List AV:=[.p (.sl (code.map e8)),I k,U seed]
structure CodeC (code:List Int):Prop where
 byte:∀b∈code,0≤b∧b < 256
 len:code.length≤4194304
theorem and255 (x:Int):0≤bitsI .and .u64 x 255∧bitsI .and .u64 x 255 < 256:=by
 have h:(BitVec.ofInt IntKind.u64.bits x &&& BitVec.ofInt IntKind.u64.bits 255).toNat≤255:=by
  rw [BitVec.toNat_and];exact Nat.le_trans Nat.and_le_right (by decide)
 simp only [bitsI]
 rw [IntKind.wrap_u64];omega
theorem cnext_spec {code:List Int} (hc:CodeC code) {k:Nat} {seed:Int} (hk:k≤1000000000) {H:Heap} {r:Nat} (hr:H r=some (cur code k seed)) {K:AV→Heap→Prop}
  (h:∀b seed',0≤b→b < 256→K (I b) (H.set r (cur code (k+1) seed'))):CallT Tryz.prog 106 [.ptr r 0] H K:=by
 have hw:IntKind.i64.wrap (↑k+1)=((k+1:Nat):Int):=i6_ (by omega) (by omega)
 refine W106_ok ?_;simp (maxSteps:=1000000) (disch:=first | assumption | (apply ν6;assumption)) only [W106,vz,vu,vv,eqS,eF_,↓c1_,↓c2_,tabs,reduceCtorEq,ι5,↓reduceIte,ν1,ν2,ν3,ν4,ν5,ι1,ι2,ι3,ι4,J106_0,lA_ hr,sA_ hr,hw]
 have hb:∀x:Int,(0≤x∧x < 256)→0≤IntKind.i64.wrap x∧IntKind.i64.wrap x < 256:=fun x hx=>by rw [i6_ (by omega) (by omega)];exact hx
 refine ⟨fun h1=>⟨by omega,h1,fun _=>?_,fun _=>⟨by omega,?_⟩⟩,fun h1=>⟨fun _=>?_,fun _=>⟨by omega,?_⟩⟩⟩
 ·have:=hb _ (getD_all (d:=default) hc.byte (i:=k) (by omega))
  exact h _ _ this.1 this.2
 ·have:=hb _ (and255 ((IntKind.u64.wrap (IntKind.u64.wrap (IntKind.u64.wrap (seed*6364136223846793005)+IntKind.u64.wrap (IntKind.i64.wrap (code.getD k default)))+1442695040888963407)).fdiv (2^min 40 IntKind.u64.bits)))
  exact h _ _ this.1 this.2
 ·exact h _ _ (by omega) (by omega)
 ·have:=hb _ (and255 ((IntKind.u64.wrap (IntKind.u64.wrap (IntKind.u64.wrap (seed*6364136223846793005)+IntKind.u64.wrap 0)+1442695040888963407)).fdiv (2^min 40 IntKind.u64.bits)))
  exact h _ _ this.1 this.2
theorem pick_spec {code:List Int} (hc:CodeC code) {k:Nat} {seed:Int} (n:Int) (hn:n≤65536) (hk:k≤900000000) {H:Heap} {r:Nat} (hr:H r=some (cur code k seed)) {K:AV→Heap→Prop}
  (h:∀x k' seed',0≤x→(x=0∨x < n)→k≤k'→k'≤k+2→K (I x) (H.set r (cur code k' seed'))):CallT Tryz.prog 69 [.ptr r 0,I n] H K:=by
 have hs:H.set r (cur code k seed)=H:=by
  funext x;by_cases e:x=r
  ·subst e;rw [Heap.set_same,hr]
  ·rw [Heap.set_other e]
 refine W69_ok ?_;simp (maxSteps:=1000000) (disch:=first | assumption | (apply ν6;assumption)) only [W69,vz,vu,vv,eqS,eF_,↓c1_,↓c2_,tabs,reduceCtorEq,ι5,↓reduceIte,ν1,ν2,ν3,ν4,ν5,ι1,ι2,ι3,ι4]
 refine ⟨fun h1=>?_,fun h1=>?_⟩
 ·have:=h 0 k seed (by omega) (.inl rfl) (by omega) (by omega)
  rwa [hs] at this
 ·refine cnext_spec hc (by omega) hr fun b s1 hb0 hb1=>?_
  (try simp (maxSteps:=1000000) (disch:=first | assumption | (apply ν6;assumption)) only [vz,vu,vv,eqS,eF_,↓c1_,↓c2_,tabs,reduceCtorEq,ι5,↓reduceIte,ν1,ν2,ν3,ν4,ν5,ι1,ι2,ι3,ι4])
  refine ⟨fun h2=>?_,fun h2=>?_⟩
  ·refine cnext_spec hc (by omega) (Heap.set_same _ _ _) fun b2 s2 hb2 hb3=>?_
   (try simp (maxSteps:=1000000) (disch:=first | assumption | (apply ν6;assumption)) only [vz,vu,vv,eqS,eF_,↓c1_,↓c2_,tabs,reduceCtorEq,ι5,↓reduceIte,ν1,ν2,ν3,ν4,ν5,ι1,ι2,ι3,ι4])
   rw [i6_ (n:=b*256) (by omega) (by omega),i6_ (by omega) (by omega)]
   exact ⟨by omega,h _ _ _ (Int.tmod_nonneg _ (by omega)) (.inr (Int.tmod_lt_of_pos _ (by omega))) (by omega) (by omega)⟩
  ·exact ⟨by omega,h _ _ _ (Int.tmod_nonneg _ (by omega)) (.inr (Int.tmod_lt_of_pos _ (by omega))) (by omega) (by omega)⟩
theorem one_spec {code:List Int} (hc:CodeC code) {k:Nat} {seed:Int} (n:Int) (hn:n≤65536) (hk:k≤900000000) {H:Heap} {r:Nat} (hr:H r=some (cur code k seed)) {K:AV→Heap→Prop}
  (h:∀x k' seed',k≤k'→k'≤k+2→K (B x) (H.set r (cur code k' seed'))):CallT Tryz.prog 47 [.ptr r 0,I n] H K:=by
 refine W47_ok ?_;simp (maxSteps:=1000000) (disch:=first | assumption | (apply ν6;assumption)) only [W47,vz,vu,vv,eqS,eF_,↓c1_,↓c2_,tabs,reduceCtorEq,ι5,↓reduceIte,ν1,ν2,ν3,ν4,ν5,ι1,ι2,ι3,ι4]
 refine pick_spec hc n hn hk hr fun x k' s' _ _ h1 h2=>?_
 (try simp (maxSteps:=1000000) (disch:=first | assumption | (apply ν6;assumption)) only [vz,vu,vv,eqS,eF_,↓c1_,↓c2_,tabs,reduceCtorEq,ι5,↓reduceIte,ν1,ν2,ν3,ν4,ν5,ι1,ι2,ι3,ι4])
 exact h _ _ _ h1 h2
theorem among_spec {code:List Int} (hc:CodeC code) {k:Nat} {seed:Int} (l:List Int) (hl:0 < l.length) (hn:l.length≤65536) (hk:k≤900000000) {H:Heap} {r:Nat} (hr:H r=some (cur code k seed)) {K:AV→Heap→Prop}
  (h:∀x k' seed',x∈l→k≤k'→k'≤k+2→K (I x) (H.set r (cur code k' seed'))):CallT Tryz.prog 97 [.ptr r 0,Is l] H K:=by
 refine W97_ok ?_;simp (maxSteps:=1000000) (disch:=first | assumption | (apply ν6;assumption)) only [W97,vz,vu,vv,eqS,eF_,↓c1_,↓c2_,tabs,reduceCtorEq,ι5,↓reduceIte,ν1,ν2,ν3,ν4,ν5,ι1,ι2,ι3,ι4]
 refine pick_spec hc _ (by omega) hk hr fun x k' s' h0 hx h1 h2=>?_
 (try simp (maxSteps:=1000000) (disch:=first | assumption | (apply ν6;assumption)) only [vz,vu,vv,eqS,eF_,↓c1_,↓c2_,tabs,reduceCtorEq,ι5,↓reduceIte,ν1,ν2,ν3,ν4,ν5,ι1,ι2,ι3,ι4])
 refine ⟨h0,by omega,?_⟩
 exact h _ _ _ (getD_all (p:=fun b=>b∈l) (fun b hb=>hb) (by omega)) h1 h2
end Go.Proofs.YtohkciilfkhomaaGreat
