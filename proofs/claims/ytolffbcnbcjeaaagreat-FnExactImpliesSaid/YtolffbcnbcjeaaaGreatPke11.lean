/- The row of the law that Implies answers as the reference does: whatever the arguments, it answers true, and what it is told reads as it did. -/
import Derived.Test.YtolffbcnbcjeaaaGreatPke10
import Derived.Test.YtolffbcnbcjeaaaGreatRows
import Derived.WalkKit
import Derived.ProofKit
import Derived.OpenShut
set_option linter.unusedVariables false
set_option linter.unusedSimpArgs false
open Go.Sep.AV renaming any → Q_
open Nat renaming reduceAdd→ν1,reduceLeDiff→ν2,reduceLT→ν3,reduceMul→ν4,reduceSub→ν5
open Int renaming reduceToNat→ι1,reduceSub→ι2,reduceAdd→ι3,reduceNeg→ι4
open Array renaming toList→ι5
open Ne renaming symm→ν6
open List renaming forall_mem_cons→ν7
namespace Go.Proofs.YtolffbcnbcjeaaaGreat
open Go Go.Sep Go.Pt
def nF (f:List Sd):Nat:=2^(tr f).length
theorem nF_bd {f:List Sd} (h:(tr f).length≤5):1≤nF f∧nF f≤32:=by
 unfold nF
 rcases (by omega:(tr f).length=0∨(tr f).length=1∨(tr f).length=2∨(tr f).length=3∨(tr f).length=4∨(tr f).length=5) with h | h | h | h | h | h<;>rw [h]<;>decide
theorem nF_int (f:List Sd):(2:Int)^(tr f).length=(nF f:Int):=by
 unfold nF;rw [Int.natCast_pow];rfl
def rootP (f:List Sd) (g:Nat):Bool:=saysF (tr f) g ((f.length:Int) - 1)
def rooB (f:List Sd) (b:Bool) (g:Nat):Bool:=rootP f g==b
def goalP (f:List Sd) (i g:Nat):Bool:=
 (decide ((f.getD i default).op=7) && (!saysF (tr f) g i || saysF (tr f) g ((i:Int) - 1))) || (decide ((f.getD i default).op=8) && (saysF (tr f) g i || !saysF (tr f) g ((i:Int) - 1)))
def isUR (f:List Sd) (i:Nat):Bool:=decide ((f.getD i default).op=7) || decide ((f.getD i default).op=8)
def goalsK (f:List Sd) (i:Nat):List (List Int):=((List.range i).filter (isUR f)).map fun j=>gw (nF f) (goalP f j)
theorem goalsK_succ (f:List Sd) (i:Nat):goalsK f (i+1)=if isUR f i=true then goalsK f i++[gw (nF f) (goalP f i)] else goalsK f i:=by
 unfold goalsK
 rw [List.range_succ,List.filter_append,List.map_append]
 by_cases h:isUR f i=true
 ·simp [h]
 ·simp [h]
theorem goalsK_len (f:List Sd) (i:Nat):(goalsK f i).length≤i:=by
 unfold goalsK
 rw [List.length_map]
 have:=List.length_filter_le (isUR f) (List.range i)
 rwa [List.length_range] at this
theorem goalsK_tr (f:List Sd):(goalsK f f.length).length≤(tr f).length:=by
 unfold goalsK
 rw [List.length_map]
 have h1:(((List.range f.length).filter (isUR f)).map fun (i:Nat)=>(i:Int)).Nodup:=by
  unfold List.Nodup
  rw [List.pairwise_map]
  exact (List.pairwise_lt_range.filter _).imp fun h=>by omega
 have h2:=h1.length_le_of_subset (l₂:=tr f) fun x hx=>by
  obtain ⟨i,hi,rfl⟩:=List.mem_map.1 hx
  obtain ⟨h3,h4⟩:=List.mem_filter.1 hi
  rw [List.mem_range] at h3
  refine tr_mem0 h3 _ ?_
  unfold isUR at h4
  rw [Bool.or_eq_true,decide_eq_true_eq,decide_eq_true_eq] at h4
  rw [trAt,if_pos h4];simp
 rwa [List.length_map] at h2
theorem or_bd:∀j:Nat,j < 5→∀a:Nat,a < 2^j→0≤bitsI .or .i64 (a:Int) (IntKind.i64.wrap (1*2^(min j 64)))∧bitsI .or .i64 (a:Int) (IntKind.i64.wrap (1*2^(min j 64))) < 2^(j+1):=by
 decide +kernel
theorem guK_bd (vs:List Bool) (t:List Int):∀j:Nat,j≤5→0≤guK vs t j∧guK vs t j < 2^j:=by
 intro j
 induction j with
 | zero=>intro _;rw [guK];exact ⟨Int.le_refl _,by decide +kernel⟩
 | succ j ih=>
  intro hj
  have h1:=ih (by omega)
  rw [guK]
  split
  ·have h2:=or_bd j (by omega) (guK vs t j).toNat (by
    have:((guK vs t j).toNat:Int) < ((2^j:Nat):Int):=by rw [Int.toNat_of_nonneg h1.1,Int.natCast_pow];exact h1.2
    omega)
   rw [Int.toNat_of_nonneg h1.1] at h2
   exact h2
  ·have:(2:Int)^j≤2^(j+1):=by rw [Int.pow_succ];omega
   omega
theorem guF_bd {f:List Sd} (h:(tr f).length≤5) (lt nx:Int):0≤guF f lt nx∧guF f lt nx < nF f:=by
 have:=guK_bd (evL f (tr f) lt nx f.length) (tr f) _ h
 rw [← nF_int];exact this
def edI (f:List Sd) (l n:Nat):Ed:=⟨guF f l n,l,n⟩
def eI0 (f:List Sd) (l:Nat) (n:Nat):List Ed:=(List.range n).map (edI f l)
theorem eI0_succ (f:List Sd) (l n:Nat):eI0 f l (n+1)=eI0 f l n++[edI f l n]:=by simp [eI0,List.range_succ]
def eIs (f:List Sd) (l:Nat):List Ed:=(List.range l).flatMap fun k=>eI0 f k (nF f)
theorem eIs_succ (f:List Sd) (l:Nat):eIs f (l+1)=eIs f l++eI0 f l (nF f):=by simp [eIs,List.range_succ,List.flatMap_append]
theorem eI0_len (f:List Sd) (l n:Nat):(eI0 f l n).length=n:=by simp [eI0]
theorem eIs_len (f:List Sd) (l:Nat):(eIs f l).length=l*nF f:=by
 induction l with
 | zero=>simp [eIs]
 | succ l ih=>rw [eIs_succ,List.length_append,ih,eI0_len,Nat.add_mul,Nat.one_mul]
def cell0 (f:List Sd) (g l n:Nat):List Ed:=((List.range n).filter fun (k:Nat)=>decide (guF f l k=g)).map fun (k:Nat)=>⟨g,l,k⟩
theorem cell0_succ (f:List Sd) (g l n:Nat):cell0 f g l (n+1)=if guF f l n=g then cell0 f g l n++[⟨g,l,n⟩] else cell0 f g l n:=by
 unfold cell0
 rw [List.range_succ,List.filter_append,List.map_append]
 by_cases h:guF f l n=g
 ·simp [h]
 ·simp [h]
def row0 (f:List Sd) (g l:Nat):List Ed:=(List.range l).flatMap fun k=>cell0 f g k (nF f)
theorem row0_succ (f:List Sd) (g l:Nat):row0 f g (l+1)=row0 f g l++cell0 f g l (nF f):=by simp [row0,List.range_succ,List.flatMap_append]
def all0 (f:List Sd) (g:Nat):List Ed:=(List.range g).flatMap fun k=>row0 f k 8
theorem all0_succ (f:List Sd) (g:Nat):all0 f (g+1)=all0 f g++row0 f g 8:=by simp [all0,List.range_succ,List.flatMap_append]
theorem all0_lt (f:List Sd):(all0 f (nF f)).Pairwise (fun a b=>edLt a b=true):=by
 unfold all0
 rw [List.pairwise_flatMap]
 refine ⟨fun g hg=>?_,List.Pairwise.imp (fun hgh x hx y hy=>?_) List.pairwise_lt_range⟩
 ·unfold row0
  rw [List.pairwise_flatMap]
  refine ⟨fun l hl=>?_,List.Pairwise.imp (fun hlm x hx y hy=>?_) List.pairwise_lt_range⟩
  ·unfold cell0
   rw [List.pairwise_map]
   refine List.Pairwise.imp (fun h=>?_) (List.pairwise_lt_range.filter _)
   rw [edLt_iff];exact .inr ⟨rfl,.inr ⟨rfl,Int.ofNat_lt.2 h⟩⟩
  ·obtain ⟨k1,_,rfl⟩:=List.mem_map.1 hx
   obtain ⟨k2,_,rfl⟩:=List.mem_map.1 hy
   rw [edLt_iff];exact .inr ⟨rfl,.inl (Int.ofNat_lt.2 hlm)⟩
 ·obtain ⟨l1,_,hx⟩:=List.mem_flatMap.1 hx
  obtain ⟨l2,_,hy⟩:=List.mem_flatMap.1 hy
  obtain ⟨k1,_,rfl⟩:=List.mem_map.1 hx
  obtain ⟨k2,_,rfl⟩:=List.mem_map.1 hy
  rw [edLt_iff];exact .inl (Int.ofNat_lt.2 hgh)
theorem all0_mem {f:List Sd} (e:Ed):e∈all0 f (nF f)↔∃g l k:Nat,g < nF f∧l < 8∧k < nF f∧guF f l k=g∧e=⟨g,l,k⟩:=by
 simp only [all0,row0,cell0,List.mem_flatMap,List.mem_map,List.mem_filter,List.mem_range,decide_eq_true_eq]
 constructor
 ·rintro ⟨g,hg,l,hl,k,⟨hk,e1⟩,rfl⟩
  exact ⟨g,l,k,hg,hl,hk,e1,rfl⟩
 ·rintro ⟨g,l,k,hg,hl,hk,e1,rfl⟩
  exact ⟨g,hg,l,hl,k,⟨hk,e1⟩,rfl⟩
theorem eIs_nd (f:List Sd):(eIs f 8).Nodup:=by
 unfold eIs List.Nodup
 rw [List.pairwise_flatMap]
 refine ⟨fun l hl=>?_,List.Pairwise.imp (fun hlm x hx y hy e=>?_) List.pairwise_lt_range⟩
 ·unfold eI0
  rw [List.pairwise_map]
  refine List.Pairwise.imp (fun h e=>?_) List.pairwise_lt_range
  simp only [edI,Ed.mk.injEq] at e;omega
 ·obtain ⟨k1,_,rfl⟩:=List.mem_map.1 hx
  obtain ⟨k2,_,rfl⟩:=List.mem_map.1 hy
  simp only [edI,Ed.mk.injEq] at e;omega
theorem srt_eIs {f:List Sd} (h:(tr f).length≤5):srtE (eIs f 8)=all0 f (nF f):=by
 refine srtE_ext (eIs_nd f) (all0_lt f) fun e=>?_
 rw [all0_mem]
 simp only [eIs,eI0,List.mem_flatMap,List.mem_map,List.mem_range]
 constructor
 ·rintro ⟨l,hl,k,hk,rfl⟩
  have hb:=guF_bd h l k
  exact ⟨(guF f l k).toNat,l,k,by omega,hl,hk,by omega,by simp only [edI,Ed.mk.injEq,and_true];omega⟩
 ·rintro ⟨g,l,k,hg,hl,hk,e1,rfl⟩
  exact ⟨l,hl,k,hk,by simp only [edI,Ed.mk.injEq,and_true];omega⟩
def autoB (f:List Sd) (b:Bool):Au:=⟨nF f,gw (nF f) (rooB f b),all0 f (nF f),goalsK f f.length⟩
theorem all0_len {f:List Sd} (h:(tr f).length≤5):(all0 f (nF f)).length≤256:=by
 rw [← srt_eIs h,srtE_len,eIs_len]
 have:=nF_bd h
 omega
theorem autoB_good {f:List Sd} {b:Bool} (h:(tr f).length≤5):goodA (autoB f b)=true:=by
 have hb:=nF_bd h
 have h1:=all0_len h
 have h2:=goalsK_tr f
 unfold goodA autoB
 simp only [Bool.and_eq_true,decide_eq_true_eq,List.all_eq_true]
 refine ⟨⟨by omega,by omega⟩,gw_rising _ _,by omega,⟨by omega,fun g hg=>?_⟩,edsOk_of (all0_lt f) fun e he=>?_⟩
 ·obtain ⟨i,_,rfl⟩:=List.mem_map.1 hg
  exact gw_rising _ _
 ·obtain ⟨g,l,k,hg,hl,hk,_,rfl⟩:=(all0_mem e).1 he
  simp only [edIn,Bool.and_eq_true,decide_eq_true_eq]
  omega
end Go.Proofs.YtolffbcnbcjeaaaGreat
namespace Go.Proofs.YtolffbcnbcjeaaaGreat
open Go Go.Sep Go.Pt
attribute [local irreducible] CallT
theorem guessesWith_at (f:List Sd) (g:GoodFm f) (ht:(tr f).length≤5) (fn:Nat) (caps:List AV) (p:Nat→Bool) {H:Heap} (hp:∀x G,x < nF f→Heap.le H G→PuAt Tryz.prog fn (I x::caps) G (B (p x))) {K:AV→Heap→Prop}
  (h:∀q G,G q=some (cP fI (gw (nF f) p))→New H G [q]→K (rowP q (gw (nF f) p)) G):CallT Tryz.prog 129 [Ds f,.fn fn caps] H K:=by
 have hb:=nF_bd ht
 refine CallT.fin ?_
 refine W129_ok ?_;simp (maxSteps:=1000000) (disch:=first | assumption | (apply ν6;assumption)) only [W129,vz,vu,vv,eqS,eF_,↓c1_,↓c2_,tabs,reduceCtorEq,ι5,↓reduceIte,ν1,ν2,ν3,ν4,ν5,ι1,ι2,ι3,ι4]
 refine lit0I fun q0 hq0=>?_
 have st:=(St.nil H).cell hq0 (cP fI [])
 generalize H.set q0 (cP fI [])=G at st ⊢
 refine Pu.use (guesses_spec f g ht) ?_
 rw [nF_int]
 refine L129_0_rule ((0:Nat),q0,G) (fun s=>rowP s.2.1 (gw s.1 p)) (fun s=>I s.1) (fun s=>s.2.2)
  (fun s=>s.1≤nF f∧St H [cT_ s.2.1 (cP fI (gw s.1 p))] s.2.2) (fun s=>nF f - s.1) ⟨⟨by simp,st⟩,.refl _,.refl _,Heap.le_refl _⟩ ?_
 clear st
 rintro ⟨i,q,G⟩ ⟨hi,st⟩
 dsimp only at hi st
 have e5:IntKind.i64.wrap ((i:Int)+1)=((i+1:Nat):Int):=by rw [i6_ (by omega) (by omega)];simp
 (try simp (maxSteps:=1000000) (disch:=first | assumption | (apply ν6;assumption)) only [vz,vu,vv,eqS,eF_,↓c1_,↓c2_,tabs,reduceCtorEq,ι5,↓reduceIte,ν1,ν2,ν3,ν4,ν5,ι1,ι2,ι3,ι4,B129_0])
 refine ⟨fun h1=>?_,fun h1=>?_⟩
 ·have hlt:i < nF f:=by omega
  refine PuAt.use (hp i G hlt st.le) ?_
  have hgl:=gw_len i p
  have hsucc:=gw_succ i p
  (try simp (maxSteps:=1000000) (disch:=first | assumption | (apply ν6;assumption)) only [vz,vu,vv,eqS,eF_,↓c1_,↓c2_,tabs,reduceCtorEq,ι5,↓reduceIte,ν1,ν2,ν3,ν4,ν5,ι1,ι2,ι3,ι4,e5])
  refine ⟨fun h2=>?_,fun h2=>?_⟩
  ·rw [if_pos h2] at hsucc
   refine lit1 tab_22 rfl tab_3 ⟨rfl,rfl⟩ ?_
   refine st_appI (ys:=[(i:Int)]) st 0 rfl (by simp only [List.length_singleton];omega) fun q' G' hq' st=>?_
   rw [← hsucc] at st ⊢
   exact ⟨(i+1,q',G'),⟨by simp only;omega,st⟩,by simp only;omega,.refl _,.refl _,Heap.le_refl _⟩
  ·rw [if_neg (by rw [h2];simp)] at hsucc
   refine ⟨(i+1,q,G),⟨by simp only;omega,by rw [hsucc];exact st⟩,by simp only;omega,?_,.refl _,Heap.le_refl _⟩
   rw [hsucc];exact .refl _
 ·have:i=nF f:=by omega
  subst this
  exact wkK.keep (h q G (st.get 0 rfl) (by simpa [cT_] using st.new))
theorem tr_root {f:List Sd}:(f.length:Int) - 1∈tr f:=by rw [tr,sc_mem,trL];simp
theorem rooted1_at {f:List Sd} {b:Bool} (g:GoodFm f) {H:Heap} {r5 r2 r3:Nat} (h5:H r5=some [Is (tr f)]) (h2:H r2=some [Ds f]) (h3:H r3=some [B b]) (x:Nat) :
  PuAt Tryz.prog 130 [I x,.ptr r5 0,.ptr r2 0,.ptr r3 0] H (B (rooB f b x)):=by
 have hl:=g.l1
 have htl:=tr_len f
 intro K hK
 have e1:IntKind.i64.wrap ((f.length:Int) - 1)=(f.length:Int) - 1:=i6_ (by omega) (by omega)
 refine W130_ok ?_;simp (maxSteps:=1000000) (disch:=first | assumption | (apply ν6;assumption)) only [W130,vz,vu,vv,eqS,eF_,↓c1_,↓c2_,tabs,reduceCtorEq,ι5,↓reduceIte,ν1,ν2,ν3,ν4,ν5,ι1,ι2,ι3,ι4,lA_ h5,lA_ h2,lA_ h3,e1]
 refine Pu.use (assumes_spec (tr f) x _ (by omega) tr_root) ?_
 (try simp (maxSteps:=1000000) (disch:=first | assumption | (apply ν6;assumption)) only [vz,vu,vv,eqS,eF_,↓c1_,↓c2_,tabs,reduceCtorEq,ι5,↓reduceIte,ν1,ν2,ν3,ν4,ν5,ι1,ι2,ι3,ι4,lA_ h5,lA_ h2,lA_ h3])
 have e2:rooB f b x=(saysF (tr f) x ((f.length:Int) - 1)==b):=rfl
 rw [e2] at hK
 first | exact hK | simpa using hK
theorem rooted_row (f:List Sd) (b:Bool) (g:GoodFm f) (ht:(tr f).length≤5) {H:Heap} {K:AV→Heap→Prop}
  (h:∀q G,G q=some (cP fI (gw (nF f) (rooB f b)))→New H G [q]→K (rowP q (gw (nF f) (rooB f b))) G):CallT Tryz.prog 103 [Ds f,B b] H K:=by
 refine W103_ok ?_;simp (maxSteps:=1000000) (disch:=first | assumption | (apply ν6;assumption)) only [W103,vz,vu,vv,eqS,eF_,↓c1_,↓c2_,tabs,reduceCtorEq,ι5,↓reduceIte,ν1,ν2,ν3,ν4,ν5,ι1,ι2,ι3,ι4]
 intro r2 hr2 r3 n3 hr3
 have st:=((St.nil H).cell hr2 [Ds f]).cell (r:=r3) (by rw [Heap.set_other n3];exact hr3) [B b]
 generalize (H.set r2 [Ds f]).set r3 [B b]=G at st ⊢
 clear hr2 hr3 n3
 (try simp (maxSteps:=1000000) (disch:=first | assumption | (apply ν6;assumption)) only [vz,vu,vv,eqS,eF_,↓c1_,↓c2_,tabs,reduceCtorEq,ι5,↓reduceIte,ν1,ν2,ν3,ν4,ν5,ι1,ι2,ι3,ι4,lA_ (st.get 1 rfl)])
 refine Pu.use (tracked_spec f g) ?_
 (try simp (maxSteps:=1000000) (disch:=first | assumption | (apply ν6;assumption)) only [vz,vu,vv,eqS,eF_,↓c1_,↓c2_,tabs,reduceCtorEq,ι5,↓reduceIte,ν1,ν2,ν3,ν4,ν5,ι1,ι2,ι3,ι4])
 intro r5 hr5
 replace st:=st.cell hr5 [Is (tr f)]
 generalize G.set r5 [Is (tr f)]=G1 at st ⊢
 (try simp (maxSteps:=1000000) (disch:=first | assumption | (apply ν6;assumption)) only [vz,vu,vv,eqS,eF_,↓c1_,↓c2_,tabs,reduceCtorEq,ι5,↓reduceIte,ν1,ν2,ν3,ν4,ν5,ι1,ι2,ι3,ι4,lA_ (st.get 2 rfl)])
 refine guessesWith_at f g ht 130 _ (rooB f b) (fun x G2 hx hle=>rooted1_at g (hle _ _ (st.get 0 rfl)) (hle _ _ (st.get 2 rfl)) (hle _ _ (st.get 1 rfl)) x) fun q G2 hq hn=>?_
 have st2:=(st.push (cT_ q _) hn hq).sub (Us:=[cT_ q (cP fI (gw (nF f) (rooB f b)))]) (by simp)
 exact h q G2 hq (by simpa [cT_] using st2.new)
theorem goals1_at {f:List Sd} (g:GoodFm f) {i:Nat} (hi:i < f.length) (hop:isUR f i=true) {H:Heap} {r5 r6 r4 r7:Nat} (h5:H r5=some [Is (tr f)]) (h6:H r6=some [I i]) (h4:H r4=some [Ls (opsA f f.length)]) (h7:H r7=some [I (f.getD i default).op,I (f.getD i default).n]) (x:Nat) :
  PuAt Tryz.prog 132 [I x,.ptr r5 0,.ptr r6 0,.ptr r4 0,.ptr r7 0] H (B (goalP f i x)):=by
 have hl:=g.l1
 have htl:=tr_len f
 have hop':(f.getD i default).op=7∨(f.getD i default).op=8:=by
  unfold isUR at hop
  rwa [Bool.or_eq_true,decide_eq_true_eq,decide_eq_true_eq] at hop
 have hn2:need (f.getD i default).op=2:=by rcases hop' with h | h<;>rw [h]<;>rfl
 obtain ⟨a,b,c,_⟩:=tst2 g hi hn2
 have hog:=opsA_get f hi
 have hops:opsF f i=[(lft f i:Int),(i:Int) - 1]:=by rw [opsF,if_neg (by omega),if_neg (by omega),lft];congr 1;omega
 have hl2:(opsF f i).length=2:=by rw [hops];rfl
 have hg1:(opsF f i).getD 1 default=(i:Int) - 1:=by rw [hops];rfl
 clear hops
 generalize opsF f i=ops at hog hl2 hg1
 have hol:=opsA_len f f.length
 have m1:(i:Int)∈tr f:=tr_mem0 hi _ (by rw [trAt,if_pos hop'];simp)
 have m2:(i:Int) - 1∈tr f:=tr_mem0 hi _ (by rw [trAt,if_pos hop'];simp)
 have hg:goalP f i x=((decide ((f.getD i default).op=7) && (!saysF (tr f) x i || saysF (tr f) x ((i:Int) - 1))) || (decide ((f.getD i default).op=8) && (saysF (tr f) x i || !saysF (tr f) x ((i:Int) - 1)))):=rfl
 intro K hK
 rw [hg] at hK
 clear hg hn2
 generalize f.getD i default=y at h7 hop' hK
 refine W132_ok ?_;simp (maxSteps:=1000000) (disch:=first | assumption | (apply ν6;assumption)) only [W132,vz,vu,vv,eqS,eF_,↓c1_,↓c2_,tabs,reduceCtorEq,ι5,↓reduceIte,ν1,ν2,ν3,ν4,ν5,ι1,ι2,ι3,ι4,lA_ h5,lA_ h6,lA_ h4,lA_ h7,hog,hg1]
 refine ⟨by omega,by omega,by omega,by omega,?_⟩
 refine Pu.use (assumes_spec (tr f) x _ (by omega) m1) ?_
 (try simp (maxSteps:=1000000) (disch:=first | assumption | (apply ν6;assumption)) only [vz,vu,vv,eqS,eF_,↓c1_,↓c2_,tabs,reduceCtorEq,ι5,↓reduceIte,ν1,ν2,ν3,ν4,ν5,ι1,ι2,ι3,ι4,lA_ h5,lA_ h6,lA_ h4,lA_ h7,hog,hg1])
 refine Pu.use (assumes_spec (tr f) x _ (by omega) m2) ?_
 generalize saysF (tr f) x i=own at hK ⊢
 generalize saysF (tr f) x ((i:Int) - 1)=sec at hK ⊢
 (try simp (maxSteps:=1000000) (disch:=first | assumption | (apply ν6;assumption)) only [vz,vu,vv,eqS,eF_,↓c1_,↓c2_,tabs,reduceCtorEq,ι5,↓reduceIte,ν1,ν2,ν3,ν4,ν5,ι1,ι2,ι3,ι4,lA_ h7])
 rcases hop' with h | h<;>rw [h] at hK ⊢<;>cases own<;>cases sec<;>simpa using hK
theorem goalsOf_row (f:List Sd) (g:GoodFm f) (ht:(tr f).length≤5) {H:Heap} {K:AV→Heap→Prop}
  (h:∀q G D,LII (goalsK f f.length) (.sl q 1 0 (goalsK f f.length).length) G D→New H G D→K (.sl q 1 0 (goalsK f f.length).length) G):CallT Tryz.prog 104 [Ds f] H K:=by
 have hl:=g.l1
 refine CallT.fin ?_
 refine W104_ok ?_;simp (maxSteps:=1000000) (disch:=first | assumption | (apply ν6;assumption)) only [W104,vz,vu,vv,eqS,eF_,↓c1_,↓c2_,tabs,reduceCtorEq,ι5,↓reduceIte,ν1,ν2,ν3,ν4,ν5,ι1,ι2,ι3,ι4]
 refine lit0G fun q0 hq0=>?_
 have st:=rg_new (St.nil H) hq0
 generalize H.set q0 []=G at st ⊢
 refine Pu.use (operandIndexes_spec f g) ?_
 (try simp (maxSteps:=1000000) (disch:=first | assumption | (apply ν6;assumption)) only [vz,vu,vv,eqS,eF_,↓c1_,↓c2_,tabs,reduceCtorEq,ι5,↓reduceIte,ν1,ν2,ν3,ν4,ν5,ι1,ι2,ι3,ι4])
 refine Pu.use (tracked_spec f g) ?_
 (try simp (maxSteps:=1000000) (disch:=first | assumption | (apply ν6;assumption)) only [vz,vu,vv,eqS,eF_,↓c1_,↓c2_,tabs,reduceCtorEq,ι5,↓reduceIte,ν1,ν2,ν3,ν4,ν5,ι1,ι2,ι3,ι4])
 intro r4 hr4 r5 n5 hr5
 replace st:=(st.cell hr4 [.p .nil]).cell (r:=r5) (by rw [Heap.set_other n5];exact hr5) [.p .nil]
 generalize (G.set r4 [.p .nil]).set r5 [.p .nil]=G0 at st ⊢
 clear hr4 hr5 n5
 (try simp (maxSteps:=1000000) (disch:=first | assumption | (apply ν6;assumption)) only [vz,vu,vv,eqS,eF_,↓c1_,↓c2_,tabs,reduceCtorEq,ι5,↓reduceIte,ν1,ν2,ν3,ν4,ν5,ι1,ι2,ι3,ι4,sA_ (st.get 1 rfl)])
 replace st:=st.put 1 rfl [Ls (opsA f f.length)]
 generalize G0.set r4 [Ls (opsA f f.length)]=G0 at st ⊢
 (try simp (maxSteps:=1000000) (disch:=first | assumption | (apply ν6;assumption)) only [vz,vu,vv,eqS,eF_,↓c1_,↓c2_,tabs,reduceCtorEq,ι5,↓reduceIte,ν1,ν2,ν3,ν4,ν5,ι1,ι2,ι3,ι4,sA_ (st.get 0 rfl)])
 replace st:=st.put 0 rfl [Is (tr f)]
 generalize G0.set r5 [Is (tr f)]=G1 at st ⊢
 refine L104_0_rule ((0:Nat),(.sl q0 1 0 0:AV),[q0],G1) (fun s=>s.2.1) (fun s=>I s.1) (fun s=>s.2.2.2)
  (fun s=>s.1≤f.length∧(s.2.1≠.p .nil)∧St H [cT_ r5 [Is (tr f)],cT_ r4 [Ls (opsA f f.length)],rnG s.2.1 (goalsK f s.1) s.2.2.1] s.2.2.2) (fun s=>f.length - s.1)
  ⟨⟨by simp,by simp,st⟩,.refl _,.refl _,Heap.le_refl _⟩ ?_
 clear st
 rintro ⟨i,x,D,G⟩ ⟨hi,hx,st⟩
 dsimp only at hi st hx
 have e5:IntKind.i64.wrap ((i:Int)+1)=((i+1:Nat):Int):=by rw [i6_ (by omega) (by omega)];simp
 (try simp (maxSteps:=1000000) (disch:=first | assumption | (apply ν6;assumption)) only [vz,vu,vv,eqS,eF_,↓c1_,↓c2_,tabs,reduceCtorEq,ι5,↓reduceIte,ν1,ν2,ν3,ν4,ν5,ι1,ι2,ι3,ι4,B104_0])
 refine ⟨fun h1=>⟨by omega,h1,?_⟩,fun h1=>?_⟩
 ·have hlt:i < f.length:=by omega
  have hsucc:=goalsK_succ f i
  have hgl:=goalsK_len f i
  intro r6 hr6 r7 n7 hr7
  replace st:=(st.cell hr6 [I 0]).cell (r:=r7) (by rw [Heap.set_other n7];exact hr7) [I 0,I 0]
  generalize (G.set r6 [I 0]).set r7 [I 0,I 0]=G2 at st ⊢
  clear hr6 hr7 n7
  (try simp (maxSteps:=1000000) (disch:=first | assumption | (apply ν6;assumption)) only [vz,vu,vv,eqS,eF_,↓c1_,↓c2_,tabs,reduceCtorEq,ι5,↓reduceIte,ν1,ν2,ν3,ν4,ν5,ι1,ι2,ι3,ι4,sA_ (st.get 1 rfl)])
  replace st:=st.put 1 rfl [I i]
  generalize G2.set r6 [I i]=G2 at st ⊢
  (try simp (maxSteps:=1000000) (disch:=first | assumption | (apply ν6;assumption)) only [vz,vu,vv,eqS,eF_,↓c1_,↓c2_,tabs,reduceCtorEq,ι5,↓reduceIte,ν1,ν2,ν3,ν4,ν5,ι1,ι2,ι3,ι4,sA_ (st.get 0 rfl)])
  replace st:=st.put 0 rfl [I (f.getD i default).op,I (f.getD i default).n]
  generalize G2.set r7 [I (f.getD i default).op,I (f.getD i default).n]=G2 at st ⊢
  have key:∀N:AV→AV→Heap→Prop,isUR f i=true→(∀q' D' G',St H [cT_ r5 [Is (tr f)],cT_ r4 [Ls (opsA f f.length)],rnG (.sl q' 1 0 ((goalsK f i).length+1)) (goalsK f (i+1)) D'] G'→N (.sl q' 1 0 ((goalsK f i).length+1)) (I ((i+1:Nat):Int)) G')→
    J104_1 (wkK K) N (Ds f) x (.ptr r4 0) (.ptr r5 0) (.ptr r6 0) (.ptr r7 0) (Ds f) (I f.length) (I i) G2:=by
   intro N hur hN
   rw [if_pos hur] at hsucc
   (try simp (maxSteps:=1000000) (disch:=first | assumption | (apply ν6;assumption)) only [vz,vu,vv,eqS,eF_,↓c1_,↓c2_,tabs,reduceCtorEq,ι5,↓reduceIte,ν1,ν2,ν3,ν4,ν5,ι1,ι2,ι3,ι4,J104_1,e5])
   refine guessesWith_at f g ht 132 _ (goalP f i) (fun y G3 hy hle=>goals1_at g hlt hur (hle _ _ (st.get 2 rfl)) (hle _ _ (st.get 1 rfl)) (hle _ _ (st.get 3 rfl)) (hle _ _ (st.get 0 rfl)) y) fun qn G3 hqn hn=>?_
   replace st:=st.push (cT_ qn _) hn hqn
   refine lit_live1 fun ql hql=>?_
   replace st:=st.cell hql [rowP qn (gw (nF f) (goalP f i))]
   generalize G3.set ql [.sl qn 1 0 (gw (nF f) (goalP f i)).length]=G4 at st ⊢
   refine rn_pushL st 4 rfl (by omega) fun q' D' G5 hq' st=>?_
   rw [← hsucc] at st
   exact hN _ _ _ st.drop.drop
  have fin:isUR f i=true→J104_1 (wkK K) (fun w3 w15 H'=>∃s':Nat×AV×List Nat×Heap,(s'.1≤f.length∧¬(s'.2.1=.p .nil)∧St H [cT_ r5 [Is (tr f)],cT_ r4 [Ls (opsA f f.length)],rnG s'.2.1 (goalsK f s'.1) s'.2.2.1] s'.2.2.2)∧f.length - s'.1 < f.length - i∧AV.wk w3 s'.2.1∧AV.wk w15 (I s'.1)∧Heap.le s'.2.2.2 H') (Ds f) x (.ptr r4 0) (.ptr r5 0) (.ptr r6 0) (.ptr r7 0) (Ds f) (I f.length) (I i) G2:=
   fun hur=>key _ hur fun q' D' G' st=>⟨(i+1,_,D',G'),⟨by simp only;omega,by simp,st⟩,by simp only;omega,.refl _,.refl _,Heap.le_refl _⟩
  (try simp (maxSteps:=1000000) (disch:=first | assumption | (apply ν6;assumption)) only [vz,vu,vv,eqS,eF_,↓c1_,↓c2_,tabs,reduceCtorEq,ι5,↓reduceIte,ν1,ν2,ν3,ν4,ν5,ι1,ι2,ι3,ι4,lA_ (st.get 0 rfl),e5])
  refine ⟨fun h7=>⟨fun h8=>?_,fun h8=>fin (by unfold isUR;rw [h8];rfl)⟩,fun h7=>fin (by unfold isUR;rw [h7];rfl)⟩
  rw [if_neg (by unfold isUR;rw [decide_eq_false h7,decide_eq_false h8];decide)] at hsucc
  exact ⟨(i+1,x,D,G2),⟨by simp only;omega,hx,by rw [hsucc];exact st.drop.drop⟩,by simp only;omega,.refl _,.refl _,Heap.le_refl _⟩
 ·have:i=f.length:=by omega
  subst this
  have hr:RN LIc 1 x (goalsK f f.length) G D:=st.get 2 rfl
  rcases hr with ⟨h2,_⟩ | hr
  ·exact absurd h2 hx
  ·obtain ⟨q,rfl⟩:=LRow.sl hr
   have st2:=st.sub (Us:=[rnG (.sl q 1 0 (goalsK f f.length).length) (goalsK f f.length) D]) (by simp)
   exact wkK.keep (h q G D hr (by simpa [rnT] using st2.new))
theorem autoFor_live (f:List Sd) (b:Bool) (g:GoodFm f) (ht:(tr f).length≤5) {H:Heap} {K:AV→Heap→Prop}
  (h:∀v G D,LAu (autoB f b) v G D→New H G D→K v G):CallT Tryz.prog 62 [Ds f,B b] H K:=by
 have hb:=nF_bd ht
 refine CallT.fin ?_
 refine CallT.ghost W62_hb fun z hz=>?_
 have st:=lent (LPl.local eE) (LPl.has eE) 3 ((St.nil H).cell hz []) 0 rfl
 generalize H.set z []=G at st ⊢
 refine W62_ok ?_;simp (maxSteps:=1000000) (disch:=first | assumption | (apply ν6;assumption)) only [W62,vz,vu,vv,eqS,eF_,↓c1_,↓c2_,tabs,reduceCtorEq,ι5,↓reduceIte,ν1,ν2,ν3,ν4,ν5,ι1,ι2,ι3,ι4]
 intro r4 hr4
 replace st:=st.cell hr4 [I 0,.p .nil,.p .nil,.p .nil]
 generalize G.set r4 [I 0,.p .nil,.p .nil,.p .nil]=G1 at st ⊢
 refine Pu.use (guesses_spec f g ht) ?_
 rw [nF_int]
 (try simp (maxSteps:=1000000) (disch:=first | assumption | (apply ν6;assumption)) only [vz,vu,vv,eqS,eF_,↓c1_,↓c2_,tabs,reduceCtorEq,ι5,↓reduceIte,ν1,ν2,ν3,ν4,ν5,ι1,ι2,ι3,ι4])
 refine rooted_row f b g ht fun q1 G2 hq1 hn1=>?_
 replace st:=st.push (cT_ q1 _) hn1 hq1
 (try simp (maxSteps:=1000000) (disch:=first | assumption | (apply ν6;assumption)) only [vz,vu,vv,eqS,eF_,↓c1_,↓c2_,tabs,reduceCtorEq,ι5,↓reduceIte,ν1,ν2,ν3,ν4,ν5,ι1,ι2,ι3,ι4])
 refine goalsOf_row f g ht fun q3 G3 D3 hl3 hn3=>?_
 replace st:=st.push (rgT 0 _ (goalsK f f.length) D3) hn3 (.inr hl3)
 (try simp (maxSteps:=1000000) (disch:=first | assumption | (apply ν6;assumption)) only [vz,vu,vv,eqS,eF_,↓c1_,↓c2_,tabs,reduceCtorEq,ι5,↓reduceIte,ν1,ν2,ν3,ν4,ν5,ι1,ι2,ι3,ι4])
 intro r5 hr5
 replace st:=st.cell hr5 [I (nF f),rowP q1 (gw (nF f) (rooB f b)),.p .nil,.sl q3 1 0 (goalsK f f.length).length]
 generalize G3.set r5 _=G4 at st ⊢
 clear hr4 hq1 hn1 hl3 hn3 hr5
 refine L62_0_rule ((0:Nat),(.p .nil:AV),[z],G4) (fun s=>I s.1) (fun s=>s.2.2.2)
  (fun s=>s.1≤8∧St H [cT_ r5 [I (nF f),rowP q1 (gw (nF f) (rooB f b)),s.2.1,.sl q3 1 0 (goalsK f f.length).length],rgT 0 (.sl q3 1 0 (goalsK f f.length).length) (goalsK f f.length) D3,cT_ q1 (cP fI (gw (nF f) (rooB f b))),cT_ r4 [I 0,.p .nil,.p .nil,.p .nil],reT z s.2.1 (eIs f s.1) s.2.2.1] s.2.2.2) (fun s=>8 - s.1)
  ⟨⟨by simp,st⟩,.refl _,Heap.le_refl _⟩ ?_
 clear st
 rintro ⟨l,x,D,G⟩ ⟨hl,st⟩
 dsimp only at hl st
 have hel:=eIs_len f l
 have hlm:l*nF f≤8*32:=Nat.mul_le_mul hl hb.2
 have e5:IntKind.i64.wrap ((l:Int)+1)=((l+1:Nat):Int):=by rw [i6_ (by omega) (by omega)];simp
 (try simp (maxSteps:=1000000) (disch:=first | assumption | (apply ν6;assumption)) only [vz,vu,vv,eqS,eF_,↓c1_,↓c2_,tabs,reduceCtorEq,ι5,↓reduceIte,ν1,ν2,ν3,ν4,ν5,ι1,ι2,ι3,ι4,B62_0,lA_ (st.get 0 rfl)])
 refine ⟨fun h1=>?_,fun h1=>?_⟩
 ·refine L62_1_rule ((0:Nat),x,D,G) (fun s=>I s.1) (fun s=>s.2.2.2)
   (fun s=>s.1≤nF f∧St H [cT_ r5 [I (nF f),rowP q1 (gw (nF f) (rooB f b)),s.2.1,.sl q3 1 0 (goalsK f f.length).length],rgT 0 (.sl q3 1 0 (goalsK f f.length).length) (goalsK f f.length) D3,cT_ q1 (cP fI (gw (nF f) (rooB f b))),cT_ r4 [I 0,.p .nil,.p .nil,.p .nil],reT z s.2.1 (eIs f l++eI0 f l s.1) s.2.2.1] s.2.2.2) (fun s=>nF f - s.1)
   ⟨⟨by simp,by simpa [eI0] using st⟩,.refl _,Heap.le_refl _⟩ ?_
  clear st x D
  rintro ⟨n,x,D,G⟩ ⟨hn,st⟩
  dsimp only at hn st
  have e6:IntKind.i64.wrap ((n:Int)+1)=((n+1:Nat):Int):=by rw [i6_ (by omega) (by omega)];simp
  (try simp (maxSteps:=1000000) (disch:=first | assumption | (apply ν6;assumption)) only [vz,vu,vv,eqS,eF_,↓c1_,↓c2_,tabs,reduceCtorEq,ι5,↓reduceIte,ν1,ν2,ν3,ν4,ν5,ι1,ι2,ι3,ι4,B62_1,lA_ (st.get 0 rfl)])
  refine ⟨fun h2=>?_,fun h2=>?_⟩
  ·refine Pu.use (guessOf_spec f g l n (by omega)) ?_
   (try simp (maxSteps:=1000000) (disch:=first | assumption | (apply ν6;assumption)) only [vz,vu,vv,eqS,eF_,↓c1_,↓c2_,tabs,reduceCtorEq,ι5,↓reduceIte,ν1,ν2,ν3,ν4,ν5,ι1,ι2,ι3,ι4,lA_ (st.get 0 rfl)])
   refine lit_edge (x:=edI f l n) ?_
   have hl0:=eI0_len f l n
   (try simp (maxSteps:=1000000) (disch:=first | assumption | (apply ν6;assumption)) only [vz,vu,vv,eqS,eF_,↓c1_,↓c2_,tabs,reduceCtorEq,ι5,↓reduceIte,ν1,ν2,ν3,ν4,ν5,ι1,ι2,ι3,ι4,lA_ (st.get 0 rfl)])
   refine rz_appE (ys:=[edI f l n]) st 4 rfl (by simp only [List.length_cons,List.length_nil,List.length_append];omega) fun q' G' hq' st=>?_
   rw [List.append_assoc,← eI0_succ] at st ⊢
   obtain ⟨es',hes⟩:∃es',eIs f l++eI0 f l (n+1)=es':=⟨_,rfl⟩
   rw [hes] at st ⊢
   (try simp (maxSteps:=1000000) (disch:=first | assumption | (apply ν6;assumption)) only [vz,vu,vv,eqS,eF_,↓c1_,↓c2_,tabs,reduceCtorEq,ι5,↓reduceIte,ν1,ν2,ν3,ν4,ν5,ι1,ι2,ι3,ι4,sA_ (st.get 0 rfl),e6])
   replace st:=st.put 0 rfl [I (nF f),rowP q1 (gw (nF f) (rooB f b)),rowE q' es',.sl q3 1 0 (goalsK f f.length).length]
   rw [← hes] at st
   exact ⟨(n+1,_,[q'],_),⟨by simp only;omega,st⟩,by simp only;omega,.refl _,by rw [hes];exact Heap.le_refl _⟩
  ·have:n=nF f:=by omega
   subst this
   rw [← eIs_succ] at st
   (try simp (maxSteps:=1000000) (disch:=first | assumption | (apply ν6;assumption)) only [vz,vu,vv,eqS,eF_,↓c1_,↓c2_,tabs,reduceCtorEq,ι5,↓reduceIte,ν1,ν2,ν3,ν4,ν5,ι1,ι2,ι3,ι4,e5])
   exact ⟨(l+1,x,D,G),⟨by simp only;omega,st⟩,by simp only;omega,.refl _,Heap.le_refl _⟩
 ·have:l=8:=by omega
  subst this
  refine rz_sortE st 4 rfl (by omega) fun G' st=>?_
  rw [srt_eIs ht] at st
  have hx:=RZ.sl (st.get 4 rfl:RZ (LPl eE) 3 z x _ G' D)
  (try simp (maxSteps:=1000000) (disch:=first | assumption | (apply ν6;assumption)) only [vz,vu,vv,eqS,eF_,↓c1_,↓c2_,tabs,reduceCtorEq,ι5,↓reduceIte,ν1,ν2,ν3,ν4,ν5,ι1,ι2,ι3,ι4,lA_ (st.get 0 rfl),sA_ (st.get 3 rfl)])
  replace st:=st.put 3 rfl [I (nF f),rowP q1 (gw (nF f) (rooB f b)),x,.sl q3 1 0 (goalsK f f.length).length]
  obtain ⟨x',y',w',hw,hl,hn⟩:=rz_auto (nF f) (owned_i st 2 rfl) 2 4 1 rfl rfl rfl (by decide) (by decide) (by decide)
  refine ⟨by rcases hx with rfl | ⟨q,rfl⟩<;>rfl,?_⟩
  exact ⟨_,_,.val hw,h _ _ _ hl hn⟩
end Go.Proofs.YtolffbcnbcjeaaaGreat
namespace Go.Proofs.YtolffbcnbcjeaaaGreat
open Go Go.Sep Go.Pt
attribute [local irreducible] CallT
theorem l13Goals_spec (f:List Sd) (g:GoodFm f) (ht:(tr f).length≤5):Pu Tryz.prog 93 [Ds f,Is (tr f)] (Ls (goalsK f f.length)):=by
 have hl:=g.l1
 have hb:=nF_bd ht
 refine ⟨fun H=>CallT.fin ?_⟩
 refine W93_ok ?_;simp (maxSteps:=1000000) (disch:=first | assumption | (apply ν6;assumption)) only [W93,vz,vu,vv,eqS,eF_,↓c1_,↓c2_,tabs,reduceCtorEq,ι5,↓reduceIte,ν1,ν2,ν3,ν4,ν5,ι1,ι2,ι3,ι4]
 have st:=(St.nil H).push (rnG (.p .nil) [] []) (G':=H) ⟨by simp [rnT],fun y hy=>by simp [rnT] at hy,Heap.le_refl _⟩ (.inl ⟨rfl,rfl,rfl⟩)
 refine L93_0_ruleG ((0:Nat),(.p .nil:AV),([]:List Nat),H) (fun s=>s.2.1) (fun s=>I s.1) (fun s=>s.2.2.2)
  (fun s=>s.1≤f.length∧St H [rnG s.2.1 (goalsK f s.1) s.2.2.1] s.2.2.2) (fun s=>f.length - s.1)
  ⟨⟨by simp,st⟩,.refl _,.refl _,Heap.le_refl _⟩ ?_
 clear st
 rintro ⟨i,x,D,G⟩ ⟨hi,st⟩ z hz
 dsimp only at hi st hz ⊢
 replace st:=st.cell hz (cP fI [])
 change St H (cT_ z (cP fI [])::_) (G.set z []) at st
 generalize G.set z []=G at st ⊢
 have e5:IntKind.i64.wrap ((i:Int)+1)=((i+1:Nat):Int):=by rw [i6_ (by omega) (by omega)];simp
 have e6:IntKind.i64.wrap ((i:Int) - 1)=(i:Int) - 1:=i6_ (by omega) (by omega)
 (try simp (maxSteps:=1000000) (disch:=first | assumption | (apply ν6;assumption)) only [vz,vu,vv,eqS,eF_,↓c1_,↓c2_,tabs,reduceCtorEq,ι5,↓reduceIte,ν1,ν2,ν3,ν4,ν5,ι1,ι2,ι3,ι4,B93_0])
 refine ⟨fun h1=>⟨by omega,h1,?_⟩,fun h1=>?_⟩
 ·have hlt:i < f.length:=by omega
  have hsucc:=goalsK_succ f i
  have hgl:=goalsK_len f i
  have hur:isUR f i=(decide ((f.getD i default).op=7) || decide ((f.getD i default).op=8)):=rfl
  have hgp:∀y,goalP f i y=((decide ((f.getD i default).op=7) && (!saysF (tr f) y i || saysF (tr f) y ((i:Int) - 1))) || (decide ((f.getD i default).op=8) && (saysF (tr f) y i || !saysF (tr f) y ((i:Int) - 1)))):=fun y=>rfl
  generalize f.getD i default=y at hur hgp ⊢
  intro r7 hr7
  replace st:=st.cell hr7 [I y.op,I y.n]
  generalize G.set r7 [I y.op,I y.n]=G2 at st ⊢
  clear hr7
  have htl:(tr f).length≤1000:=by omega
  have eu:IntKind.u64.wrap ((tr f).length:Int)=(tr f).length:=by rw [IntKind.wrap_u64];omega
  have hN:=nF_int f
  have ew:IntKind.i64.wrap (1*2^(min (tr f).length IntKind.i64.bits))=(nF f:Int):=by
   rw [Nat.min_eq_left (by show (tr f).length≤64;omega),Int.one_mul,hN,i6_ (by omega) (by omega)]
  have key:∀N:AV→AV→Heap→Prop,y.op=7∨y.op=8→(∀q' D' G',St H [rnG (.sl q' 1 0 ((goalsK f i).length+1)) (goalsK f (i+1)) D'] G'→N (.sl q' 1 0 ((goalsK f i).length+1)) (I ((i+1:Nat):Int)) G')→
    L93_1 (wkK fun r H'=>r=Ls (goalsK f f.length)∧H'=H) N (Is (tr f)) x (I i) (.ptr r7 0) (.p .nil) (I 0) (Ds f) (I f.length) (I i) G2:=by
   intro N hop hN
   rw [if_pos (by rw [hur,Bool.or_eq_true,decide_eq_true_eq,decide_eq_true_eq];exact hop)] at hsucc
   generalize y.op=o at hop st hur hgp
   refine L93_1_rule ((0:Nat),z,G2) (fun s=>rowP s.2.1 (gw s.1 (goalP f i))) (fun s=>I s.1) (fun s=>s.2.2)
    (fun s=>s.1≤nF f∧St H [cT_ r7 [I o,I y.n],cT_ s.2.1 (cP fI (gw s.1 (goalP f i))),rnG x (goalsK f i) D] s.2.2) (fun s=>nF f - s.1) ⟨⟨by simp,st⟩,.nilo _ _ _,.refl _,Heap.le_refl _⟩ ?_
   clear st
   rintro ⟨n,q,G⟩ ⟨hn,st⟩
   dsimp only at hn st
   have e7:IntKind.i64.wrap ((n:Int)+1)=((n+1:Nat):Int):=by rw [i6_ (by omega) (by omega)];simp
   have hq:=gw_succ n (goalP f i)
   have hql:=gw_len n (goalP f i)
   rw [hgp n] at hq
   have yes:∀N2:AV→AV→Heap→Prop,(∀q' G',St H [cT_ r7 [I o,I y.n],cT_ q' (cP fI (gw n (goalP f i)++[(n:Int)])),rnG x (goalsK f i) D] G'→N2 (rowP q' (gw n (goalP f i)++[(n:Int)])) (I ((n+1:Nat):Int)) G')→
     J93_2 (wkK fun r H'=>r=Ls (goalsK f f.length)∧H'=H) N N2 (Is (tr f)) x (I i) (.ptr r7 0) (rowP q (gw n (goalP f i))) (I n) (Ds f) (I f.length) (I i) G:=by
    intro N2 h2
    (try simp (maxSteps:=1000000) (disch:=first | assumption | (apply ν6;assumption)) only [vz,vu,vv,eqS,eF_,↓c1_,↓c2_,tabs,reduceCtorEq,ι5,↓reduceIte,ν1,ν2,ν3,ν4,ν5,ι1,ι2,ι3,ι4,J93_2,e7])
    refine lit1 tab_22 rfl tab_3 ⟨rfl,rfl⟩ ?_
    exact st_appI (ys:=[(n:Int)]) st 1 rfl (by simp only [List.length_singleton];omega) fun q' G' hq' st=>h2 _ _ st
   (try simp (maxSteps:=1000000) (disch:=first | assumption | (apply ν6;assumption)) only [vz,vu,vv,eqS,eF_,↓c1_,↓c2_,tabs,reduceCtorEq,ι5,↓reduceIte,ν1,ν2,ν3,ν4,ν5,ι1,ι2,ι3,ι4,B93_1,eu,Int.toNat_natCast,ew])
   refine ⟨by omega,fun h2=>?_,fun h2=>?_⟩
   ·refine Pu.use (l13Says_spec (tr f) n i htl) ?_
    (try simp (maxSteps:=1000000) (disch:=first | assumption | (apply ν6;assumption)) only [vz,vu,vv,eqS,eF_,↓c1_,↓c2_,tabs,reduceCtorEq,ι5,↓reduceIte,ν1,ν2,ν3,ν4,ν5,ι1,ι2,ι3,ι4,e6])
    refine Pu.use (l13Says_spec (tr f) n ((i:Int) - 1) htl) ?_
    generalize saysF (tr f) n i=own at hq ⊢
    generalize saysF (tr f) n ((i:Int) - 1)=sec at hq ⊢
    have ok:gw (n+1) (goalP f i)=gw n (goalP f i)++[(n:Int)]→∀(q':Nat) (G':Heap),St H [cT_ r7 [I o,I y.n],cT_ q' (cP fI (gw n (goalP f i)++[(n:Int)])),rnG x (goalsK f i) D] G'→∃s':Nat×Nat×Heap,(s'.1≤nF f∧St H [cT_ r7 [I o,I y.n],cT_ s'.2.1 (cP fI (gw s'.1 (goalP f i))),rnG x (goalsK f i) D] s'.2.2)∧nF f - s'.1 < nF f - n∧AV.wk (rowP q' (gw n (goalP f i)++[(n:Int)])) (rowP s'.2.1 (gw s'.1 (goalP f i)))∧AV.wk (I ((n+1:Nat):Int)) (I s'.1)∧Heap.le s'.2.2 G':=fun e q' G' st=>by
     rw [← e] at st ⊢
     exact ⟨(n+1,q',G'),⟨by simp only;omega,st⟩,by simp only;omega,.refl _,.refl _,Heap.le_refl _⟩
    have no:gw (n+1) (goalP f i)=gw n (goalP f i)→∃s':Nat×Nat×Heap,(s'.1≤nF f∧St H [cT_ r7 [I o,I y.n],cT_ s'.2.1 (cP fI (gw s'.1 (goalP f i))),rnG x (goalsK f i) D] s'.2.2)∧nF f - s'.1 < nF f - n∧AV.wk (rowP q (gw n (goalP f i))) (rowP s'.2.1 (gw s'.1 (goalP f i)))∧AV.wk (I ((n+1:Nat):Int)) (I s'.1)∧Heap.le s'.2.2 G:=fun e=>
     ⟨(n+1,q,G),⟨by simp only;omega,by rw [e];exact st⟩,by simp only;omega,by rw [e];exact .refl _,.refl _,Heap.le_refl _⟩
    clear hur hgp
    have e78:((7:Int)=8)=False:=by simp
    have e87:((8:Int)=7)=False:=by simp
    rcases hop with rfl | rfl<;>cases own<;>cases sec<;>((try simp (maxSteps:=1000000) (disch:=first | assumption | (apply ν6;assumption)) only [vz,vu,vv,eqS,eF_,↓c1_,↓c2_,tabs,reduceCtorEq,ι5,↓reduceIte,ν1,ν2,ν3,ν4,ν5,ι1,ι2,ι3,ι4,e78,e87,lA_ (st.get 0 rfl),J93_3,e7]))
    ·exact yes _ (ok (hq.trans (if_pos rfl)))
    ·exact yes _ (ok (hq.trans (if_pos rfl)))
    ·exact no (hq.trans (if_neg (by decide)))
    ·exact yes _ (ok (hq.trans (if_pos rfl)))
    ·refine lit1 tab_22 rfl tab_3 ⟨rfl,rfl⟩ ?_
     exact st_appI (ys:=[(n:Int)]) st 1 rfl (by simp only [List.length_singleton];omega) fun q' G' hq' st=>ok (hq.trans (if_pos rfl)) _ _ st
    ·exact no (hq.trans (if_neg (by decide)))
    ·exact yes _ (ok (hq.trans (if_pos rfl)))
    ·exact yes _ (ok (hq.trans (if_pos rfl)))
   ·have:n=nF f:=by omega
    subst this
    clear yes
    (try simp (maxSteps:=1000000) (disch:=first | assumption | (apply ν6;assumption)) only [vz,vu,vv,eqS,eF_,↓c1_,↓c2_,tabs,reduceCtorEq,ι5,↓reduceIte,ν1,ν2,ν3,ν4,ν5,ι1,ι2,ι3,ι4,e5])
    refine lit_live1 fun ql hql=>?_
    replace st:=st.drop.cell hql [rowP q (gw (nF f) (goalP f i))]
    generalize G.set ql [.sl q 1 0 (gw (nF f) (goalP f i)).length]=G4 at st ⊢
    refine rn_pushL st 0 rfl (by omega) fun q' D' G5 hq' st=>?_
    rw [← hsucc] at st
    exact hN _ _ _ st
  have fin:y.op=7∨y.op=8→L93_1 (wkK fun r H'=>r=Ls (goalsK f f.length)∧H'=H) (fun w5 w14 H'=>∃s':Nat×AV×List Nat×Heap,(s'.1≤f.length∧St H [rnG s'.2.1 (goalsK f s'.1) s'.2.2.1] s'.2.2.2)∧f.length - s'.1 < f.length - i∧AV.wk w5 s'.2.1∧AV.wk w14 (I s'.1)∧Heap.le s'.2.2.2 H') (Is (tr f)) x (I i) (.ptr r7 0) (.p .nil) (I 0) (Ds f) (I f.length) (I i) G2:=
   fun hop=>key _ hop fun q' D' G' st=>⟨(i+1,_,D',G'),⟨by simp only;omega,st⟩,by simp only;omega,.refl _,.refl _,Heap.le_refl _⟩
  (try simp (maxSteps:=1000000) (disch:=first | assumption | (apply ν6;assumption)) only [vz,vu,vv,eqS,eF_,↓c1_,↓c2_,tabs,reduceCtorEq,ι5,↓reduceIte,ν1,ν2,ν3,ν4,ν5,ι1,ι2,ι3,ι4,lA_ (st.get 0 rfl),e5])
  refine ⟨fun h7=>⟨fun h8=>?_,fun h8=>fin (.inr h8)⟩,fun h7=>fin (.inl h7)⟩
  rw [if_neg (by rw [hur,decide_eq_false h7,decide_eq_false h8];decide)] at hsucc
  exact ⟨(i+1,x,D,G2),⟨by simp only;omega,by rw [hsucc];exact st.drop.drop⟩,by simp only;omega,.refl _,.refl _,Heap.le_refl _⟩
 ·have:i=f.length:=by omega
  subst this
  exact fin_rows st 1 rfl
theorem fin_au {H G:Heap} {Ts:List Th} {z1 z2:Nat} {x y:AV} {l:List Int} {es:List Ed} {gs:List (List Int)} {D1 D2:List Nat} {n:Int} (s:St H Ts G) (i j:Nat) (hi:Ts[i]?=some (riT z1 x l D1)) (hj:Ts[j]?=some (reT z2 y es D2)) (hij:i≠j) :
  wkK (fun r H'=>r=.agg [I n,Is l,Es es,Ls gs]∧H'=H) (.agg [I n,x,y,Ls gs]) G:=by
 obtain ⟨x',hx,lx⟩:=(s.get i hi:RZ (LPl eI) 1 z1 x l G D1).row
 obtain ⟨y',hy,ly⟩:=(s.get j hj:RZ (LPl eE) 3 z2 y es G D2).row
 obtain ⟨q1,c1,E1,rfl,hq1,ll1,rfl⟩:=lx
 obtain ⟨q2,c2,E2,rfl,hq2,ll2,rfl⟩:=ly
 obtain ⟨rfl,rfl⟩:=LL.plain' ll1
 obtain ⟨rfl,rfl⟩:=LL.plain' ll2
 have hne:q2≠q1:=fun e=>s.disjI i j hi hj hij q1 (by simp [rzT]) (by simp [rzT,e])
 have f1:FrzR q1 1 (l.map eI) (.agg [I n,.sl q1 1 0 l.length,.sl q2 3 0 es.length,Ls gs]) (.agg [I n,Is l,.sl q2 3 0 es.length,Ls gs]):=by
  have:FrzR q1 1 (l.map eI) (.sl q1 1 0 (l.map eI).length) (.p (.sl (l.map eI))):=.here
  rw [List.length_map] at this
  exact .agg (.cons (.same _) (.cons this (.cons (.same _) (.cons (.same _) .nil))))
 have f2:FrzR q2 3 (es.map eE) (.agg [I n,Is l,.sl q2 3 0 es.length,Ls gs]) (.agg [I n,Is l,Es es,Ls gs]):=by
  have:FrzR q2 3 (es.map eE) (.sl q2 3 0 (es.map eE).length) (.p (.sl (es.map eE))):=.here
  rw [List.length_map] at this
  exact .agg (.cons (.same _) (.cons (.same _) (.cons this (.cons (.same _) .nil))))
 have w1:Wk (.agg [I n,x,y,Ls gs]) G (.agg [I n,.sl q1 1 0 l.length,.sl q2 3 0 es.length,Ls gs]) G:=.val (wk_agg ⟨.refl _,hx,hy,.refl _,trivial⟩)
 have w2:=Wk.frz (sz:=1) (by omega) hq1 (sized_map (f:=eI) (fun _=>rfl) l) f1
 have w3:=Wk.frz (H:=G.del q1) (sz:=3) (by omega) (by rw [Heap.del_other hne];exact hq2) (szE es) f2
 refine ⟨_,_,.trans w1 (.trans w2 (.trans w3 (.forget (H':=H) fun y b hb=>?_))),rfl,rfl⟩
 have n1:y≠q1:=fun e=>by have:=s.fr _ (List.mem_of_getElem? hi) q1 (by simp [rzT]);rw [← e,hb] at this;cases this
 have n2:y≠q2:=fun e=>by have:=s.fr _ (List.mem_of_getElem? hj) q2 (by simp [rzT]);rw [← e,hb] at this;cases this
 rw [Heap.del_other n2,Heap.del_other n1]
 exact s.le y b hb
end Go.Proofs.YtolffbcnbcjeaaaGreat
namespace Go.Proofs.YtolffbcnbcjeaaaGreat
open Go Go.Sep Go.Pt
attribute [local irreducible] CallT
theorem row0_len {f:List Sd} (h:(tr f).length≤5) {g l n:Nat} (hg:g < nF f) (hl:l < 8) (hn:n≤nF f):(all0 f g++(row0 f g l++cell0 f g l n)).length≤32*256+512:=by
 have hb:=nF_bd h
 have c0:∀g l n,(cell0 f g l n).length≤n:=fun g l n=>by
  unfold cell0
  rw [List.length_map]
  have:=List.length_filter_le (fun (k:Nat)=>decide (guF f l k=g)) (List.range n)
  rwa [List.length_range] at this
 have r0:∀g l,(row0 f g l).length≤l*32:=fun g l=>by
  induction l with
  | zero=>simp [row0]
  | succ l ih=>rw [row0_succ,List.length_append];have:=c0 g l (nF f);omega
 have a0:∀g,(all0 f g).length≤g*256:=fun g=>by
  induction g with
  | zero=>simp [all0]
  | succ g ih=>rw [all0_succ,List.length_append];have:=r0 g 8;omega
 rw [List.length_append,List.length_append]
 have h1:=c0 g l n
 have h2:=r0 g l
 have h3:=a0 g
 omega
theorem l13Auto_spec (f:List Sd) (b:Bool) (g:GoodFm f) (ht:(tr f).length≤5):Pu Tryz.prog 53 [Ds f,B (!b)] (aAu (autoB f b)):=by
 have hl:=g.l1
 have hl0:=g.l0
 have hb:=nF_bd ht
 have htl:(tr f).length≤1000:=by omega
 have eu:IntKind.u64.wrap ((tr f).length:Int)=(tr f).length:=by rw [IntKind.wrap_u64];omega
 have hN:=nF_int f
 have ew:IntKind.i64.wrap (1*2^(min (tr f).length IntKind.i64.bits))=(nF f:Int):=by
  rw [Nat.min_eq_left (by show (tr f).length≤64;omega),Int.one_mul,hN,i6_ (by omega) (by omega)]
 have e1:IntKind.i64.wrap ((f.length:Int) - 1)=(f.length:Int) - 1:=i6_ (by omega) (by omega)
 refine ⟨fun H=>CallT.fin ?_⟩
 refine CallT.ghost W53_hb fun z1 hz1=>?_
 refine CallT.ghost W53_hb fun z2 hz2=>?_
 have st:=lent (LPl.local eE) (LPl.has eE) 3 (lent (LPl.local eI) (LPl.has eI) 1 (((St.nil H).cell hz1 []).cell hz2 []) 1 rfl) 0 rfl
 generalize (H.set z1 []).set z2 []=G at st ⊢
 clear hz1 hz2
 refine W53_ok ?_;simp (maxSteps:=1000000) (disch:=first | assumption | (apply ν6;assumption)) only [W53,vz,vu,vv,eqS,eF_,↓c1_,↓c2_,tabs,reduceCtorEq,ι5,↓reduceIte,ν1,ν2,ν3,ν4,ν5,ι1,ι2,ι3,ι4]
 intro r4 hr4
 replace st:=st.cell hr4 [I 0,.p .nil,.p .nil,.p .nil]
 generalize G.set r4 [I 0,.p .nil,.p .nil,.p .nil]=G1 at st ⊢
 refine Pu.use (l13Tracked_spec f g) ?_
 (try simp (maxSteps:=1000000) (disch:=first | assumption | (apply ν6;assumption)) only [vz,vu,vv,eqS,eF_,↓c1_,↓c2_,tabs,reduceCtorEq,ι5,↓reduceIte,ν1,ν2,ν3,ν4,ν5,ι1,ι2,ι3,ι4,eu,Int.toNat_natCast,ew])
 refine ⟨by omega,?_⟩
 refine Pu.use (l13Goals_spec f g ht) ?_
 (try simp (maxSteps:=1000000) (disch:=first | assumption | (apply ν6;assumption)) only [vz,vu,vv,eqS,eF_,↓c1_,↓c2_,tabs,reduceCtorEq,ι5,↓reduceIte,ν1,ν2,ν3,ν4,ν5,ι1,ι2,ι3,ι4])
 intro r7 hr7
 replace st:=st.cell hr7 [I (nF f),.p .nil,.p .nil,Ls (goalsK f f.length)]
 generalize G1.set r7 [I (nF f),.p .nil,.p .nil,Ls (goalsK f f.length)]=G2 at st ⊢
 clear hr4 hr7
 have st:=st.perm (Us:=[cT_ r7 [I (nF f),.p .nil,.p .nil,Ls (goalsK f f.length)],cT_ r4 [I 0,.p .nil,.p .nil,.p .nil],riT z1 (.p .nil) [] [z1],reT z2 (.p .nil) [] [z2]]) (((List.Perm.swap _ _ _).cons _).cons _)
 refine L53_0_rule ((0:Nat),(.p .nil:AV),[z1],(.p .nil:AV),[z2],G2) (fun s=>I s.1) (fun s=>s.2.2.2.2.2)
  (fun s=>s.1≤nF f∧St H [cT_ r7 [I (nF f),s.2.1,s.2.2.2.1,Ls (goalsK f f.length)],cT_ r4 [I 0,.p .nil,.p .nil,.p .nil],riT z1 s.2.1 (gw s.1 (rooB f b)) s.2.2.1,reT z2 s.2.2.2.1 (all0 f s.1) s.2.2.2.2.1] s.2.2.2.2.2) (fun s=>nF f - s.1) ⟨⟨by simp,st⟩,.refl _,Heap.le_refl _⟩ ?_
 clear st
 rintro ⟨g0,x,D1,y,D2,G⟩ ⟨hg,st⟩
 dsimp only at hg st
 have e5:IntKind.i64.wrap ((g0:Int)+1)=((g0+1:Nat):Int):=by rw [i6_ (by omega) (by omega)];simp
 (try simp (maxSteps:=1000000) (disch:=first | assumption | (apply ν6;assumption)) only [vz,vu,vv,eqS,eF_,↓c1_,↓c2_,tabs,reduceCtorEq,ι5,↓reduceIte,ν1,ν2,ν3,ν4,ν5,ι1,ι2,ι3,ι4,B53_0,e1])
 refine ⟨fun h1=>?_,fun h1=>?_⟩
 ·have hlt:g0 < nF f:=by omega
  refine Pu.use (l13Says_spec (tr f) g0 ((f.length:Int) - 1) htl) ?_
  have hsucc:=gw_succ g0 (rooB f b)
  have hgl:=gw_len g0 (rooB f b)
  have hrp:rooB f b g0=(saysF (tr f) g0 ((f.length:Int) - 1)==b):=rfl
  rw [hrp] at hsucc
  have key:∀x D1 G,St H [cT_ r7 [I (nF f),x,y,Ls (goalsK f f.length)],cT_ r4 [I 0,.p .nil,.p .nil,.p .nil],riT z1 x (gw (g0+1) (rooB f b)) D1,reT z2 y (all0 f g0) D2] G→∀K N1,(∀y D2 G,St H [cT_ r7 [I (nF f),x,y,Ls (goalsK f f.length)],cT_ r4 [I 0,.p .nil,.p .nil,.p .nil],riT z1 x (gw (g0+1) (rooB f b)) D1,reT z2 y (all0 f (g0+1)) D2] G→N1 (I ((g0+1:Nat):Int)) G)→
    L53_1 K N1 (Ds f) (B (!b)) (.ptr r4 0) (Is (tr f)) (I (nF f)) (.ptr r7 0) (I g0) (I 0) G:=by
   clear st hsucc
   intro x D1 G st K N1 hN1
   refine L53_1_rule ((0:Nat),y,D2,G) (fun s=>I s.1) (fun s=>s.2.2.2)
    (fun s=>s.1≤8∧St H [cT_ r7 [I (nF f),x,s.2.1,Ls (goalsK f f.length)],cT_ r4 [I 0,.p .nil,.p .nil,.p .nil],riT z1 x (gw (g0+1) (rooB f b)) D1,reT z2 s.2.1 (all0 f g0++row0 f g0 s.1) s.2.2.1] s.2.2.2) (fun s=>8 - s.1) ⟨⟨by simp,by simpa [row0] using st⟩,.refl _,Heap.le_refl _⟩ ?_
   clear st y D2
   rintro ⟨l,y,D2,G⟩ ⟨hl8,st⟩
   dsimp only at hl8 st
   have e6:IntKind.i64.wrap ((l:Int)+1)=((l+1:Nat):Int):=by rw [i6_ (by omega) (by omega)];simp
   (try simp (maxSteps:=1000000) (disch:=first | assumption | (apply ν6;assumption)) only [vz,vu,vv,eqS,eF_,↓c1_,↓c2_,tabs,reduceCtorEq,ι5,↓reduceIte,ν1,ν2,ν3,ν4,ν5,ι1,ι2,ι3,ι4,B53_1])
   refine ⟨fun h2=>?_,fun h2=>?_⟩
   ·refine L53_2_rule ((0:Nat),y,D2,G) (fun s=>I s.1) (fun s=>s.2.2.2)
     (fun s=>s.1≤nF f∧St H [cT_ r7 [I (nF f),x,s.2.1,Ls (goalsK f f.length)],cT_ r4 [I 0,.p .nil,.p .nil,.p .nil],riT z1 x (gw (g0+1) (rooB f b)) D1,reT z2 s.2.1 (all0 f g0++(row0 f g0 l++cell0 f g0 l s.1)) s.2.2.1] s.2.2.2) (fun s=>nF f - s.1) ⟨⟨by simp,by simpa [cell0] using st⟩,.refl _,Heap.le_refl _⟩ ?_
    clear st y D2
    rintro ⟨n,y,D2,G⟩ ⟨hn,st⟩
    dsimp only at hn st
    have e7:IntKind.i64.wrap ((n:Int)+1)=((n+1:Nat):Int):=by rw [i6_ (by omega) (by omega)];simp
    (try simp (maxSteps:=1000000) (disch:=first | assumption | (apply ν6;assumption)) only [vz,vu,vv,eqS,eF_,↓c1_,↓c2_,tabs,reduceCtorEq,ι5,↓reduceIte,ν1,ν2,ν3,ν4,ν5,ι1,ι2,ι3,ι4,B53_2])
    refine ⟨fun h3=>?_,fun h3=>?_⟩
    ·refine Pu.use (l13Guess_spec f g l n (by omega)) ?_
     have hc:=cell0_succ f g0 l n
     have hlen:=row0_len ht hlt (l:=l) (n:=n) (by omega) hn
     (try simp (maxSteps:=1000000) (disch:=first | assumption | (apply ν6;assumption)) only [vz,vu,vv,eqS,eF_,↓c1_,↓c2_,tabs,reduceCtorEq,ι5,↓reduceIte,ν1,ν2,ν3,ν4,ν5,ι1,ι2,ι3,ι4,lA_ (st.get 0 rfl),e7])
     refine ⟨fun h4=>?_,fun h4=>?_⟩
     ·rw [if_pos h4] at hc
      refine lit_edge (x:=⟨g0,l,n⟩) ?_
      refine rz_appE (ys:=[⟨g0,l,n⟩]) st 3 rfl (by simp only [List.length_cons,List.length_nil];omega) fun q' G' hq' st=>?_
      rw [List.append_assoc,List.append_assoc,← hc] at st ⊢
      obtain ⟨es',hes⟩:∃es',all0 f g0++(row0 f g0 l++cell0 f g0 l (n+1))=es':=⟨_,rfl⟩
      rw [hes] at st ⊢
      (try simp (maxSteps:=1000000) (disch:=first | assumption | (apply ν6;assumption)) only [vz,vu,vv,eqS,eF_,↓c1_,↓c2_,tabs,reduceCtorEq,ι5,↓reduceIte,ν1,ν2,ν3,ν4,ν5,ι1,ι2,ι3,ι4,sA_ (st.get 0 rfl),e7])
      replace st:=st.put 0 rfl [I (nF f),x,rowE q' es',Ls (goalsK f f.length)]
      rw [← hes] at st
      exact ⟨(n+1,_,[q'],_),⟨by simp only;omega,st⟩,by simp only;omega,.refl _,by rw [hes];exact Heap.le_refl _⟩
     ·rw [if_neg h4] at hc
      exact ⟨(n+1,y,D2,G),⟨by simp only;omega,by rw [hc];exact st⟩,by simp only;omega,.refl _,Heap.le_refl _⟩
    ·have:n=nF f:=by omega
     subst this
     rw [← row0_succ] at st
     (try simp (maxSteps:=1000000) (disch:=first | assumption | (apply ν6;assumption)) only [vz,vu,vv,eqS,eF_,↓c1_,↓c2_,tabs,reduceCtorEq,ι5,↓reduceIte,ν1,ν2,ν3,ν4,ν5,ι1,ι2,ι3,ι4,e6])
     exact ⟨(l+1,y,D2,G),⟨by simp only;omega,st⟩,by simp only;omega,.refl _,Heap.le_refl _⟩
   ·have:l=8:=by omega
    subst this
    rw [← all0_succ] at st
    (try simp (maxSteps:=1000000) (disch:=first | assumption | (apply ν6;assumption)) only [vz,vu,vv,eqS,eF_,↓c1_,↓c2_,tabs,reduceCtorEq,ι5,↓reduceIte,ν1,ν2,ν3,ν4,ν5,ι1,ι2,ι3,ι4,e5])
    exact hN1 _ _ _ st
  have fin:∀x D1 G,St H [cT_ r7 [I (nF f),x,y,Ls (goalsK f f.length)],cT_ r4 [I 0,.p .nil,.p .nil,.p .nil],riT z1 x (gw (g0+1) (rooB f b)) D1,reT z2 y (all0 f g0) D2] G→∀K,
    L53_1 K (fun w8 H'=>∃s:Nat×AV×List Nat×AV×List Nat×Heap,(s.1≤nF f∧St H [cT_ r7 [I (nF f),s.2.1,s.2.2.2.1,Ls (goalsK f f.length)],cT_ r4 [I 0,.p .nil,.p .nil,.p .nil],riT z1 s.2.1 (gw s.1 (rooB f b)) s.2.2.1,reT z2 s.2.2.2.1 (all0 f s.1) s.2.2.2.2.1] s.2.2.2.2.2)∧nF f - s.1 < nF f - g0∧AV.wk w8 (I s.1)∧Heap.le s.2.2.2.2.2 H') (Ds f) (B (!b)) (.ptr r4 0) (Is (tr f)) (I (nF f)) (.ptr r7 0) (I g0) (I 0) G:=
   fun x D1 G st K=>key x D1 G st K _ fun y D2 G st=>⟨(g0+1,x,D1,y,D2,G),⟨by simp only;omega,st⟩,by simp only;omega,.refl _,Heap.le_refl _⟩
  generalize saysF (tr f) g0 ((f.length:Int) - 1)=sy at hsucc ⊢
  have hb4:sy=b∨sy=!b:=by cases sy<;>cases b<;>simp
  rcases hb4 with hb4 | hb4
  ·subst sy
   rw [if_pos (by simp)] at hsucc
   obtain ⟨l',hl'⟩:∃l',gw (g0+1) (rooB f b)=l':=⟨_,rfl⟩
   cases b
   all_goals
    (try simp (maxSteps:=1000000) (disch:=first | assumption | (apply ν6;assumption)) only [vz,vu,vv,eqS,eF_,↓c1_,↓c2_,tabs,reduceCtorEq,ι5,↓reduceIte,ν1,ν2,ν3,ν4,ν5,ι1,ι2,ι3,ι4,lA_ (st.get 0 rfl)])
    refine lit1 tab_22 rfl tab_3 ⟨rfl,rfl⟩ ?_
    refine rz_appI (ys:=[(g0:Int)]) st 2 rfl (by simp only [List.length_singleton];omega) fun q' G' hq' st=>?_
    rw [← hsucc] at st ⊢
    rw [hl'] at st ⊢
    (try simp (maxSteps:=1000000) (disch:=first | assumption | (apply ν6;assumption)) only [vz,vu,vv,eqS,eF_,↓c1_,↓c2_,tabs,reduceCtorEq,ι5,↓reduceIte,ν1,ν2,ν3,ν4,ν5,ι1,ι2,ι3,ι4,sA_ (st.get 0 rfl)])
    replace st:=st.put 0 rfl [I (nF f),rowP q' l',y,Ls (goalsK f f.length)]
    rw [← hl'] at st
    have:=fin _ _ _ st
    rw [hl'] at this
    exact this _
  ·subst sy
   rw [if_neg (by cases b<;>simp)] at hsucc
   cases b
   all_goals
    (try simp (maxSteps:=1000000) (disch:=first | assumption | (apply ν6;assumption)) only [vz,vu,vv,eqS,eF_,↓c1_,↓c2_,tabs,reduceCtorEq,ι5,↓reduceIte,ν1,ν2,ν3,ν4,ν5,ι1,ι2,ι3,ι4])
    exact fin x D1 G (by rw [hsucc];exact st) _
 ·have:g0=nF f:=by omega
  subst this
  have hx:=RZ.sl (st.get 2 rfl:RZ (LPl eI) 1 z1 x _ G D1)
  have hy:=RZ.sl (st.get 3 rfl:RZ (LPl eE) 3 z2 y _ G D2)
  (try simp (maxSteps:=1000000) (disch:=first | assumption | (apply ν6;assumption)) only [vz,vu,vv,eqS,eF_,↓c1_,↓c2_,tabs,reduceCtorEq,ι5,↓reduceIte,ν1,ν2,ν3,ν4,ν5,ι1,ι2,ι3,ι4,lA_ (st.get 0 rfl),sA_ (st.get 1 rfl)])
  replace st:=st.put 1 rfl [I (nF f),x,y,Ls (goalsK f f.length)]
  have:=fin_au (gs:=goalsK f f.length) (n:=nF f) st 2 3 rfl rfl (by decide)
  refine ⟨?_,this⟩
  rcases hx with rfl | ⟨q,rfl⟩<;>rcases hy with rfl | ⟨q,rfl⟩<;>rfl
end Go.Proofs.YtolffbcnbcjeaaaGreat
namespace Go.Proofs.YtolffbcnbcjeaaaGreat
open Go Go.Sep Go.Pt
attribute [local irreducible] CallT
noncomputable def ipR (f:List Sd):Bool×Bool:=if goodT f then (fairA (autoB f true),true) else (false,false)
end Go.Proofs.YtolffbcnbcjeaaaGreat
namespace Go.Proofs.YtolffbcnbcjeaaaGreat
open Go Go.Sep Go.Pt
attribute [local irreducible] CallT
structure PrB (p:Au):Prop where
 x:GoodX p
 n:p.states≤1024
 fr:∀x∈p.first,0≤x∧x < p.states.toNat
 fl:p.first.length≤9216
 gl:p.goals.length≤12
 go:∀l∈p.goals,∀x∈l,0≤x∧x < p.states.toNat
 gs:∀l∈p.goals,l.length≤9216
def boU (a b:Au):Au:=⟨a.states*b.states,prs a.first b.first b.states,bE b.states a.edges b.edges,boGa a b a.goals.length++boGb a b b.goals.length⟩
theorem srtE_mem {xs:List Ed} {e:Ed}:e∈srtE xs↔e∈xs:=List.mem_mergeSort
theorem prs_bd {us vs:List Int} {n m:Int} (hu:∀x∈us,0≤x∧x < n) (hv:∀x∈vs,0≤x∧x < m):∀x∈prs us vs m,0≤x∧x < n*m:=by
 intro x hx
 obtain ⟨i,hi,j,hj,rfl⟩:=prs_mem.1 hx
 exact lex_bd (hu i hi) (hv j hj)
theorem boU_pr {a b:Au} (ga:goodA a=true) (gb:goodA b=true) (ha:a.states≤32) (hb:b.states≤32) (ea:a.edges.length≤256) (eb:b.edges.length≤256):PrB (boU a b):=by
 have fa:=good_facts ga
 have fb:=good_facts gb
 have na:=autoN ga
 have nb:=autoN gb
 have sa:=fa.st
 have sb:=fb.st
 have hm:=mul_bd (a:=a.states) (A:=32) (b:=b.states) (B:=32) (by omega) (by omega)
 have hpos:1≤a.states*b.states:=Int.mul_pos (by omega:0 < a.states) (by omega:0 < b.states)
 have hbl:∀{m:Int},1≤m→∀x∈below m.toNat,0≤x∧x < m:=fun hm x hx=>by have:=below_mem.1 hx;omega
 have hgo:∀l∈(boU a b).goals,(∀x∈l,0≤x∧x < a.states*b.states)∧∃us vs,l=prs us vs b.states∧((us∈a.goals∧vs=below b.states.toNat)∨(us=below a.states.toNat∧vs∈b.goals)):=by
  intro l hl
  change l∈boGa a b a.goals.length++boGb a b b.goals.length at hl
  rcases List.mem_append.1 hl with hl | hl
  ·obtain ⟨g,hg,rfl⟩:=List.mem_map.1 hl
   have hg:=List.mem_of_mem_take hg
   exact ⟨prs_bd (fun x hx=>by have:=na.go g hg x hx;omega) (hbl (by omega)),_,_,rfl,.inl ⟨hg,rfl⟩⟩
  ·obtain ⟨g,hg,rfl⟩:=List.mem_map.1 hl
   have hg:=List.mem_of_mem_take hg
   exact ⟨prs_bd (hbl (by omega)) (fun x hx=>by have:=nb.go g hg x hx;omega),_,_,rfl,.inr ⟨rfl,hg⟩⟩
 have hst:((boU a b).states.toNat:Int)=a.states*b.states:=by show ((a.states*b.states).toNat:Int)=_;omega
 refine ⟨⟨⟨hpos,by show a.states*b.states≤_;omega⟩,?_,fun e he=>?_⟩,by show a.states*b.states≤_;omega,fun x hx=>?_,?_,?_,fun l hl x hx=>?_,fun l hl=>?_⟩
 ·show (bE b.states a.edges b.edges).length≤_
  have:=bE_len b.states a.edges b.edges
  have:a.edges.length*b.edges.length≤256*256:=Nat.mul_le_mul ea eb
  omega
 ·simp only [boU,bE,bRow,List.mem_flatMap,List.mem_map,List.mem_filter] at he
  obtain ⟨e1,h1,e2,⟨h2,h3⟩,rfl⟩:=he
  have i1:=edIn_iff.1 (fa.ei e1 h1)
  have i2:=edIn_iff.1 (fb.ei e2 h2)
  have l1:=lex_bd (i:=e1.src) (n:=a.states) (j:=e2.src) (m:=b.states) (by omega) (by omega)
  have l2:=lex_bd (i:=e1.dst) (n:=a.states) (j:=e2.dst) (m:=b.states) (by omega) (by omega)
  refine edIn_iff.2 ?_
  refine ⟨⟨l1.1,l1.2⟩,⟨l2.1,l2.2⟩,i1.2.2⟩
 ·rw [hst]
  exact prs_bd (fun x hx=>by have:=na.fr x hx;omega) (fun x hx=>by have:=nb.fr x hx;omega) x hx
 ·show (prs a.first b.first b.states).length≤_
  rw [prs_len]
  exact Nat.mul_le_mul fa.fi.2 fb.fi.2
 ·show (boGa a b a.goals.length++boGb a b b.goals.length).length≤_
  have h1:=boGa_len a b a.goals.length
  have h2:=boGb_len a b b.goals.length
  have:=fa.gl
  have:=fb.gl
  rw [List.length_append];omega
 ·have:=(hgo l hl).1 x hx;omega
 ·obtain ⟨_,us,vs,rfl,h⟩:=hgo l hl
  rw [prs_len]
  rcases h with ⟨h1,rfl⟩ | ⟨rfl,h1⟩
  ·rw [below_len];exact Nat.mul_le_mul (fa.gi _ h1).2 (show b.states.toNat≤96 by omega)
  ·rw [below_len];exact Nat.mul_le_mul (show a.states.toNat≤96 by omega) (fb.gi _ h1).2
theorem boT_pr {a b:Au} (ga:goodA a=true) (gb:goodA b=true) (h:PrB (boU a b)):PrB (boT a b):=by
 have e:=srt_bE ga gb
 refine ⟨⟨h.x.st,?_,fun e' he=>?_⟩,h.n,h.fr,h.fl,h.gl,h.go,h.gs⟩
 ·show (sAll a b (a.states*b.states).toNat).length≤_
  rw [← e,srtE_len];exact h.x.ed
 ·change e'∈sAll a b (a.states*b.states).toNat at he
  rw [← e,srtE_mem] at he
  exact h.x.ei e' he
theorem PrB.gob {p:Au} (h:PrB p) {n:Nat} (hn:n=p.states.toNat):GoB (goN p.goals) n∧(∀l∈goN p.goals,l.length≤9216)∧((goN p.goals).length+1)*(n+9216+2)≤800000:=by
 have hgl:=h.gl
 have hst:=h.x.st
 have hs:=h.n
 have e:(goN p.goals).length=p.goals.length:=by simp [goN]
 have h96:∀l∈goN p.goals,l.length≤9216:=by
  intro l hl2
  obtain ⟨r,hr,rfl⟩:=List.mem_map.1 hl2
  rw [nN_len];exact h.gs r hr
 refine ⟨⟨fun l hl2 x hx=>?_,by omega,fun l hl2=>by have:=h96 l hl2;omega⟩,h96,?_⟩
 ·obtain ⟨r,hr,rfl⟩:=List.mem_map.1 hl2
  rw [hn];exact nN_lt (h.go r hr) x hx
 ·rw [e]
  exact Nat.le_trans (Nat.mul_le_mul (show p.goals.length+1≤13 by omega) (show n+9216+2≤10242 by omega)) (by decide)
noncomputable def impF (p:Au):Bool:=decide (meetF (rwF (gA p)) (gA p).length (nN p.first) (goN p.goals) < 0)
theorem meeting_P {p:Au} (h:PrB p):Pu Tryz.prog 56 [Ls (nextG p),Is p.first,Ls p.goals] (I (meetF (rwF (gA p)) (gA p).length (nN p.first) (goN p.goals))):=by
 have hl:=gA_len p
 obtain ⟨h1,h2,h3⟩:=h.gob hl
 have hf:=h.fl
 have hgI:gI (gA p)=nextG p:=gI_of (n:=p.states.toNat) fun l hl x hx=>by
  obtain ⟨s,hs,rfl⟩:=List.mem_map.1 hl
  exact outN_bd h.x x ((sc_mem _ _).1 hx)
 have:=meeting_spec (gA p) (gX_B h.x) (nN p.first) (by rw [hl];exact nN_lt h.fr) (by rw [nN_len];omega) (goN p.goals) h1
 rwa [hgI,nI_of h.fr,goN,gI_of h.go] at this
theorem lasso_P {p:Au} (h:PrB p):Pu Tryz.prog 30 [Ls (outR p p.edges.length),Is p.first,Ls p.goals] (lassoV (rwF (gO p)) (gO p).length (nN p.first) (goN p.goals)):=by
 have hl:=gO_len p
 obtain ⟨h1,h2,h3⟩:=h.gob hl
 have hf:=h.fl
 have hgI:gI (gO p)=outR p p.edges.length:=gI_of (n:=p.states.toNat) fun l hl x hx=>by
  obtain ⟨s,hs,rfl⟩:=List.mem_map.1 hl
  exact outN_bd h.x x hx
 have:=l11Lasso_spec (gO p) (gO_B h.x) (nN p.first) (by rw [hl];exact nN_lt h.fr) (by rw [nN_len];omega) (goN p.goals) 9216 h1 h2 h3
 rwa [hgI,nI_of h.fr,goN,gI_of h.go] at this
theorem arc_iff {p:Au} (h:GoodX p) {v w:Nat}:w∈rwF (gA p) v↔∃e∈p.edges,e.src=(v:Int)∧e.dst=(w:Int):=by
 have hst:=h.st
 by_cases hv:v < p.states.toNat
 ·rw [gA_row p hv]
  simp only [nN,List.mem_map,sc_mem,outN,List.take_length,List.mem_filter,decide_eq_true_eq]
  constructor
  ·rintro ⟨x,⟨e,⟨he,h1⟩,rfl⟩,h2⟩
   have:=edIn_iff.1 (h.ei e he)
   exact ⟨e,he,h1,by omega⟩
  ·rintro ⟨e,he,h1,h2⟩
   exact ⟨e.dst,⟨e,⟨he,h1⟩,rfl⟩,by omega⟩
 ·rw [rwF_out (by rw [gA_len];omega)]
  constructor
  ·intro hx;cases hx
  ·rintro ⟨e,he,h1,h2⟩
   have:=edIn_iff.1 (h.ei e he)
   omega
theorem imp_same {a b:Au} (ga:goodA a=true) (gb:goodA b=true) (h:PrB (boU a b)):decide (meetF (rwF (gO (boU a b))) (gO (boU a b)).length (nN (boU a b).first) (goN (boU a b).goals) < 0)=impF (boT a b):=by
 have hT:=boT_pr ga gb h
 have e:=srt_bE ga gb
 have hrow:∀v w,w∈rwF (gO (boU a b)) v↔w∈rwF (gA (boT a b)) v:=fun v w=>by
  rw [gO_gA,arc_iff h.x,arc_iff hT.x]
  show _↔∃e∈sAll a b (a.states*b.states).toNat,_
  rw [← e]
  simp only [srtE_mem]
  exact Iff.rfl
 have harc:aO_ (rwF (gO (boU a b)))=aO_ (rwF (gA (boT a b))):=funext fun v=>funext fun w=>propext (hrow v w)
 have hlU:=gO_len (boU a b)
 have hlT:=gA_len (boT a b)
 have h1:=meetF_iff (goals:=goN (boU a b).goals) (gO_B h.x).gr (some:=nN (boU a b).first) (by rw [hlU];exact nN_lt h.fr)
 have h2:=meetF_iff (goals:=goN (boT a b).goals) (gX_B hT.x).gr (some:=nN (boT a b).first) (by rw [hlT];exact nN_lt hT.fr)
 have hiff:(0≤meetF (rwF (gO (boU a b))) (gO (boU a b)).length (nN (boU a b).first) (goN (boU a b).goals))↔0≤meetF (rwF (gA (boT a b))) (gA (boT a b)).length (nN (boT a b).first) (goN (boT a b).goals):=by
  rw [h1,h2]
  unfold FairP
  simp only [harc,hrow]
  exact Iff.rfl
 rw [impF,decide_eq_decide]
 omega
end Go.Proofs.YtolffbcnbcjeaaaGreat
namespace Go.Proofs.YtolffbcnbcjeaaaGreat
open Go Go.Sep Go.Pt
attribute [local irreducible] CallT
theorem l12Pairs_row (us vs:List Int) (m:Int) (hu:smI us) (hv:smI vs) (hul:us.length≤96) (hvl:vs.length≤96) (hm:0≤m∧m≤96) {H:Heap} {K:AV→Heap→Prop} (h:∀q,H q=none→K (rowP q (prs us vs m)) (H.set q (cP fI (prs us vs m)))):CallT Tryz.prog 58 [Is us,Is vs,I m] H K:=by
 refine CallT.fin ?_
 refine CallT.ghost W58_hb fun q0 hq0=>?_
 refine W58_ok ?_;simp (maxSteps:=1000000) (disch:=first | assumption | (apply ν6;assumption)) only [W58,vz,vu,vv,eqS,eF_,↓c1_,↓c2_,tabs,reduceCtorEq,ι5,↓reduceIte,ν1,ν2,ν3,ν4,ν5,ι1,ι2,ι3,ι4]
 refine L58_0_rule ((0:Nat),q0) (fun s=>rowP s.2 (prs (us.take s.1) vs m)) (fun s=>I s.1) (fun s=>H.set s.2 (cP fI (prs (us.take s.1) vs m))) (fun s=>s.1≤us.length∧H s.2=none) (fun s=>us.length - s.1) ⟨⟨by simp,hq0⟩,.nilo _ _ _,.refl _,by simpa [prs,cP] using Heap.le_refl _⟩ ?_
 rintro ⟨i,q⟩ ⟨hi,hq⟩
 dsimp only at hi hq
 have hpl:=prs_len (us.take i) vs m
 rw [List.length_take,Nat.min_eq_left hi] at hpl
 have hml:i*vs.length≤96*96:=Nat.mul_le_mul (by omega) (by omega)
 (try simp (maxSteps:=1000000) (disch:=first | assumption | (apply ν6;assumption)) only [vz,vu,vv,eqS,eF_,↓c1_,↓c2_,tabs,reduceCtorEq,ι5,↓reduceIte,ν1,ν2,ν3,ν4,ν5,ι1,ι2,ι3,ι4,B58_0])
 refine ⟨fun h1=>⟨by omega,h1,?_⟩,fun h1=>?_⟩
 ·have hlti:i < us.length:=by omega
  have hps:=prs_succ us vs m hlti
  have hx:=getD_all (p:=fun x=>0≤x∧x≤100000) (d:=default) hu.2 hlti
  generalize us.getD i default=e at hps hx ⊢
  refine L58_1_rule ((0:Nat),q) (fun s=>rowP s.2 (prs (us.take i) vs m++(vs.take s.1).map fun j=>e*m+j)) (fun s=>I s.1) (fun s=>H.set s.2 (cP fI (prs (us.take i) vs m++(vs.take s.1).map fun j=>e*m+j))) (fun s=>s.1≤vs.length∧H s.2=none) (fun s=>vs.length - s.1) ⟨⟨by simp,hq⟩,by simp;exact .refl _,.refl _,by simpa using Heap.le_refl _⟩ ?_
  clear hq
  rintro ⟨j,q⟩ ⟨hj,hq⟩
  dsimp only at hj hq
  (try simp (maxSteps:=1000000) (disch:=first | assumption | (apply ν6;assumption)) only [vz,vu,vv,eqS,eF_,↓c1_,↓c2_,tabs,reduceCtorEq,ι5,↓reduceIte,ν1,ν2,ν3,ν4,ν5,ι1,ι2,ι3,ι4,B58_1])
  refine ⟨fun h2=>⟨by omega,h2,?_⟩,fun h2=>?_⟩
  ·have hltj:j < vs.length:=by omega
   have hy:=getD_all (p:=fun x=>0≤x∧x≤100000) (d:=default) hv.2 hltj
   have ht:(vs.take (j+1)).map (fun j=>e*m+j)=(vs.take j).map (fun j=>e*m+j)++[e*m+vs.getD j default]:=by
    rw [tS_ hltj,List.map_append];rfl
   have hlt:((vs.take j).map fun j=>e*m+j).length≤96:=by rw [List.length_map,List.length_take];omega
   generalize vs.getD j default=f at hy ht ⊢
   have m1:=mul_bd (a:=e) (A:=100000) (b:=m) (B:=96) (by omega) (by omega)
   have e1:IntKind.i64.wrap (e*m)=e*m:=i6_ (by omega) (by omega)
   have e2:IntKind.i64.wrap (e*m+f)=e*m+f:=i6_ (by omega) (by omega)
   have e3:IntKind.i64.wrap ((j:Int)+1)=((j+1:Nat):Int):=by rw [i6_ (by omega) (by omega)];simp
   (try simp (maxSteps:=1000000) (disch:=first | assumption | (apply ν6;assumption)) only [vz,vu,vv,eqS,eF_,↓c1_,↓c2_,tabs,reduceCtorEq,ι5,↓reduceIte,ν1,ν2,ν3,ν4,ν5,ι1,ι2,ι3,ι4,e1,e2,e3])
   refine push_topI hq (by rw [List.length_append];omega) fun q' hq'=>?_
   rw [List.append_assoc,← ht]
   exact ⟨(j+1,q'),⟨by simp only;omega,hq'⟩,by simp only;omega,.refl _,.refl _,Heap.le_refl _⟩
  ·have:j=vs.length:=by omega
   subst this
   rw [List.take_length,← hps]
   have e3:IntKind.i64.wrap ((i:Int)+1)=((i+1:Nat):Int):=by rw [i6_ (by omega) (by omega)];simp
   (try simp (maxSteps:=1000000) (disch:=first | assumption | (apply ν6;assumption)) only [vz,vu,vv,eqS,eF_,↓c1_,↓c2_,tabs,reduceCtorEq,ι5,↓reduceIte,ν1,ν2,ν3,ν4,ν5,ι1,ι2,ι3,ι4,e3])
   exact ⟨(i+1,q),⟨by simp only;omega,hq⟩,by simp only;omega,.refl _,.refl _,Heap.le_refl _⟩
 ·have:i=us.length:=by omega
  subst this
  rw [List.take_length]
  exact wkK.keep (h q hq)
theorem l12Pairs_spec (us vs:List Int) (m:Int) (hu:smI us) (hv:smI vs) (hul:us.length≤96) (hvl:vs.length≤96) (hm:0≤m∧m≤96):Pu Tryz.prog 58 [Is us,Is vs,I m] (Is (prs us vs m)):=
 ⟨fun H=>CallT.fin (l12Pairs_row us vs m hu hv hul hvl hm fun q hq=>fin_int hq (Heap.le_refl _))⟩
end Go.Proofs.YtolffbcnbcjeaaaGreat
namespace Go.Proofs.YtolffbcnbcjeaaaGreat
open Go Go.Sep Go.Pt
attribute [local irreducible] CallT
theorem au_val {f:Nat} {args:List AV} {a:Au} (h:∀{H:Heap} {K:AV→Heap→Prop},(∀v G D,LAu a v G D→New H G D→K v G)→CallT Tryz.prog f args H K):Pu Tryz.prog f args (aAu a):=by
 refine ⟨fun H=>CallT.fin (h fun v G D hv hn=>?_)⟩
 obtain ⟨G',w,fr⟩:=LAu.wk hv hn.nd (fun v=>v) (fun h=>h)
 refine ⟨_,H,.trans w (.forget fun y b hb=>?_),rfl,rfl⟩
 rw [fr y (fun hy=>by rw [hn.fr y hy] at hb;cases hb)]
 exact hn.le y b hb
theorem next_X (a:Au) (fa:GoodX a):Pu Tryz.prog 40 [aAu a] (Ls (nextG a)):=
 ⟨fun H=>CallT.fin (next_liveX a fa fun x G D hx hn=>lii_val hx hn)⟩
noncomputable def imR (f g:List Sd):Bool:=goodT f && (goodT g && impF (boT (autoB f true) (autoB g false)))
theorem autoB_n {f:List Sd} {b:Bool} (h:(tr f).length≤5):(autoB f b).states≤32∧(autoB f b).edges.length≤256:=⟨by have:=nF_bd h;show (nF f:Int)≤_;omega,all0_len h⟩
theorem im_pr {f g:List Sd} (h5:(tr f).length≤5) (k5:(tr g).length≤5):PrB (boU (autoB f true) (autoB g false)):=
 boU_pr (autoB_good h5) (autoB_good k5) (autoB_n h5).1 (autoB_n k5).1 (autoB_n h5).2 (autoB_n k5).2
theorem Implies_impl (f g:List Sd) (hl:f.length≤1048576) (kl:g.length≤1048576):Pu Tryz.prog 25 [Ds f,Ds g] (.tup [B (imR f g),B (goodT f && goodT g)]):=by
 refine Pu.of fun H=>?_
 refine W25_ok ?_;simp (maxSteps:=1000000) (disch:=first | assumption | (apply ν6;assumption)) only [W25,vz,vu,vv,eqS,eF_,↓c1_,↓c2_,tabs,reduceCtorEq,ι5,↓reduceIte,ν1,ν2,ν3,ν4,ν5,ι1,ι2,ι3,ι4]
 refine Pu.use (isTracked_spec f hl) ?_
 unfold imR
 cases ht:goodT f
 ·(try simp (maxSteps:=1000000) (disch:=first | assumption | (apply ν6;assumption)) only [vz,vu,vv,eqS,eF_,↓c1_,↓c2_,tabs,reduceCtorEq,ι5,↓reduceIte,ν1,ν2,ν3,ν4,ν5,ι1,ι2,ι3,ι4])
 (try simp (maxSteps:=1000000) (disch:=first | assumption | (apply ν6;assumption)) only [vz,vu,vv,eqS,eF_,↓c1_,↓c2_,tabs,reduceCtorEq,ι5,↓reduceIte,ν1,ν2,ν3,ν4,ν5,ι1,ι2,ι3,ι4])
 refine Pu.use (isTracked_spec g kl) ?_
 cases kt:goodT g
 ·(try simp (maxSteps:=1000000) (disch:=first | assumption | (apply ν6;assumption)) only [vz,vu,vv,eqS,eF_,↓c1_,↓c2_,tabs,reduceCtorEq,ι5,↓reduceIte,ν1,ν2,ν3,ν4,ν5,ι1,ι2,ι3,ι4])
 obtain ⟨gf,h5⟩:=goodT_facts ht
 obtain ⟨gg,k5⟩:=goodT_facts kt
 have hpr:=im_pr h5 k5
 have hT:=boT_pr (autoB_good h5) (autoB_good k5) hpr
 (try simp (maxSteps:=1000000) (disch:=first | assumption | (apply ν6;assumption)) only [vz,vu,vv,eqS,eF_,↓c1_,↓c2_,tabs,reduceCtorEq,ι5,↓reduceIte,ν1,ν2,ν3,ν4,ν5,ι1,ι2,ι3,ι4])
 refine Pu.use (au_val (autoFor_live f true gf h5)) ?_
 refine Pu.use (au_val (autoFor_live g false gg k5)) ?_
 refine Pu.use (au_val (both_live (autoB_good h5) (autoB_good k5))) ?_
 generalize boT (autoB f true) (autoB g false)=p at hT
 (try simp (maxSteps:=1000000) (disch:=first | assumption | (apply ν6;assumption)) only [vz,vu,vv,eqS,eF_,↓c1_,↓c2_,tabs,reduceCtorEq,ι5,↓reduceIte,ν1,ν2,ν3,ν4,ν5,ι1,ι2,ι3,ι4])
 intro r hr
 have hle:=Heap.le_set (b:=[I p.states,Is p.first,Es p.edges,Ls p.goals]) hr
 have gr:(H.set r [I p.states,Is p.first,Es p.edges,Ls p.goals]) r=some [I p.states,Is p.first,Es p.edges,Ls p.goals]:=Heap.set_same _ _ _
 generalize H.set r [I p.states,Is p.first,Es p.edges,Ls p.goals]=G at hle gr ⊢
 (try simp (maxSteps:=1000000) (disch:=first | assumption | (apply ν6;assumption)) only [vz,vu,vv,eqS,eF_,↓c1_,↓c2_,tabs,reduceCtorEq,ι5,↓reduceIte,ν1,ν2,ν3,ν4,ν5,ι1,ι2,ι3,ι4,lA_ gr])
 refine Pu.use (next_X p hT.x) ?_
 (try simp (maxSteps:=1000000) (disch:=first | assumption | (apply ν6;assumption)) only [vz,vu,vv,eqS,eF_,↓c1_,↓c2_,tabs,reduceCtorEq,ι5,↓reduceIte,ν1,ν2,ν3,ν4,ν5,ι1,ι2,ι3,ι4,lA_ gr])
 refine Pu.use (meeting_P hT) ?_
 (try simp (maxSteps:=1000000) (disch:=first | assumption | (apply ν6;assumption)) only [vz,vu,vv,eqS,eF_,↓c1_,↓c2_,tabs,reduceCtorEq,ι5,↓reduceIte,ν1,ν2,ν3,ν4,ν5,ι1,ι2,ι3,ι4])
 exact ⟨rfl,hle⟩
theorem LIn.frz:Lay.Frz LIn eL:=by
 rintro c cs G D v s pre post ⟨x,rfl,h⟩ hD hs hG
 rcases h with ⟨rfl,rfl,rfl⟩ | h
 ·refine ⟨G.set s (pre++([.p (.sl [])]++post)),.cell hG (by simp) (fun j a a' e1 e2=>?_),Heap.set_same _ _ _,fun y hy _=>Heap.set_other hy⟩
  rw [List.getElem?_append] at e1 e2
  split at e1
  ·rename_i hlt
   rw [if_pos hlt] at e2
   rw [e1] at e2;cases e2;exact .refl _
  ·rename_i hge
   rw [if_neg hge] at e2
   cases hj:j - pre.length with
   | zero=>
    rw [hj] at e1 e2
    simp at e1 e2
    subst e1;subst e2
    exact .nil
   | succ k=>
    rw [hj] at e1 e2
    simp at e1 e2
    rw [e1] at e2;cases e2;exact .refl _
 ·obtain ⟨G',w,k,f⟩:=LRow.frzIn (e:=eI) (sz:=1) (pre:=pre) (post:=post) (v:=v) (by omega) (fun _=>rfl) (LPl.local eI) (LPl.frz eI) h hD hs (by rw [hG])
  exact ⟨G',w,by rw [k];rfl,f⟩
def outL (n:Nat) (L:List Ed):List (List Int):=(List.range n).map fun s=>(L.filter fun e=>decide (e.src=((s:Nat):Int))).map (·.dst)
theorem outL_len (n:Nat) (L:List Ed):(outL n L).length=n:=by simp [outL]
theorem outL_nil (n:Nat):outL n []=List.replicate n []:=by
 apply List.ext_getElem
 ·simp [outL]
 ·intro i h1 h2;simp [outL]
theorem outL_get (n:Nat) (L:List Ed) {s:Nat} (h:s < n):(outL n L).getD s default=(L.filter fun e=>decide (e.src=(s:Int))).map (·.dst):=by simp [outL,List.getD,h]
theorem outL_push (n:Nat) (L:List Ed) (e:Ed) {w:Nat} (hw:e.src=(w:Int)) (h:w < n):outL n (L++[e])=(outL n L).set w ((outL n L).getD w default++[e.dst]):=by
 apply List.ext_getElem
 ·simp [outL]
 ·intro i h1 h2
  have hi:i < n:=by simpa [outL] using h1
  rw [List.getElem_set]
  by_cases e1:w=i
  ·subst e1
   rw [if_pos rfl,outL_get n L h]
   simp [outL,hw]
  ·rw [if_neg e1]
   have:¬e.src=(i:Int):=by omega
   simp [outL,this]
theorem outL_row (n:Nat) (L:List Ed) (s:Nat) (h:s < n):((outL n L).getD s default).length≤L.length:=by
 rw [outL_get n L h,List.length_map];exact List.length_filter_le ..
theorem Implies_ref (f g:List Sd) (hl:f.length≤1048576) (kl:g.length≤1048576):Pu Tryz.prog 24 [Ds f,Ds g] (.tup [B (imR f g),B (goodT f && goodT g)]):=by
 refine Pu.of fun H=>?_
 refine CallT.ghost W24_hb fun z hz=>?_
 have st:=lent LIc.local LIc.has 1 ((St.nil H).cell hz []) 0 rfl
 generalize H.set z []=G at st ⊢
 clear hz
 refine W24_ok ?_;simp (maxSteps:=1000000) (disch:=first | assumption | (apply ν6;assumption)) only [W24,vz,vu,vv,eqS,eF_,↓c1_,↓c2_,tabs,reduceCtorEq,ι5,↓reduceIte,ν1,ν2,ν3,ν4,ν5,ι1,ι2,ι3,ι4,mS_]
 refine Pu.use (l13Good_spec f hl) ?_
 unfold imR
 cases ht:goodT f
 ·(try simp (maxSteps:=1000000) (disch:=first | assumption | (apply ν6;assumption)) only [vz,vu,vv,eqS,eF_,↓c1_,↓c2_,tabs,reduceCtorEq,ι5,↓reduceIte,ν1,ν2,ν3,ν4,ν5,ι1,ι2,ι3,ι4])
  first | exact ⟨rfl,st.le⟩ | simpa using st.le
 (try simp (maxSteps:=1000000) (disch:=first | assumption | (apply ν6;assumption)) only [vz,vu,vv,eqS,eF_,↓c1_,↓c2_,tabs,reduceCtorEq,ι5,↓reduceIte,ν1,ν2,ν3,ν4,ν5,ι1,ι2,ι3,ι4])
 refine Pu.use (l13Good_spec g kl) ?_
 cases kt:goodT g
 ·(try simp (maxSteps:=1000000) (disch:=first | assumption | (apply ν6;assumption)) only [vz,vu,vv,eqS,eF_,↓c1_,↓c2_,tabs,reduceCtorEq,ι5,↓reduceIte,ν1,ν2,ν3,ν4,ν5,ι1,ι2,ι3,ι4])
  first | exact ⟨rfl,st.le⟩ | simpa using st.le
 obtain ⟨gf,h5⟩:=goodT_facts ht
 obtain ⟨gg,k5⟩:=goodT_facts kt
 (try simp (maxSteps:=1000000) (disch:=first | assumption | (apply ν6;assumption)) only [vz,vu,vv,eqS,eF_,↓c1_,↓c2_,tabs,reduceCtorEq,ι5,↓reduceIte,ν1,ν2,ν3,ν4,ν5,ι1,ι2,ι3,ι4])
 refine Pu.use (l13Auto_spec f true gf h5) ?_
 have hpr:=im_pr h5 k5
 have ga:=autoB_good (b:=true) h5
 have gb:=autoB_good (b:=false) k5
 have l13b:=l13Auto_spec g false gg k5
 have na:=autoB_n (b:=true) h5
 have nb:=autoB_n (b:=false) k5
 generalize autoB f true=a at *
 generalize autoB g false=b at *
 rw [← imp_same ga gb hpr]
 have fa:=good_facts ga
 have fb:=good_facts gb
 have sa:=fa.st
 have sb:=fb.st
 obtain ⟨na1,na2⟩:=na
 obtain ⟨nb1,nb2⟩:=nb
 have hm:=mul_bd (a:=a.states) (A:=32) (b:=b.states) (B:=32) (by omega) (by omega)
 have e0:IntKind.i64.wrap (a.states*b.states)=a.states*b.states:=i6_ (by omega) (by omega)
 (try simp (maxSteps:=1000000) (disch:=first | assumption | (apply ν6;assumption)) only [vz,vu,vv,eqS,eF_,↓c1_,↓c2_,tabs,reduceCtorEq,ι5,↓reduceIte,ν1,ν2,ν3,ν4,ν5,ι1,ι2,ι3,ι4])
 intro r6 hr6
 replace st:=st.cell hr6 [I a.states,Is a.first,Es a.edges,Ls a.goals]
 generalize G.set r6 [I a.states,Is a.first,Es a.edges,Ls a.goals]=G1 at st ⊢
 clear hr6
 refine Pu.use l13b ?_
 (try simp (maxSteps:=1000000) (disch:=first | assumption | (apply ν6;assumption)) only [vz,vu,vv,eqS,eF_,↓c1_,↓c2_,tabs,reduceCtorEq,ι5,↓reduceIte,ν1,ν2,ν3,ν4,ν5,ι1,ι2,ι3,ι4])
 intro r7 hr7
 replace st:=st.cell hr7 [I b.states,Is b.first,Es b.edges,Ls b.goals]
 have hfr:∀q,¬q=r7→G1 q=none→(G1.set r7 [I b.states,Is b.first,Es b.edges,Ls b.goals]) q=none:=fun q h1 h2=>by rw [Heap.set_other h1];exact h2
 generalize G1.set r7 [I b.states,Is b.first,Es b.edges,Ls b.goals]=G2 at st hfr ⊢
 clear hr7
 (try simp (maxSteps:=1000000) (disch:=first | assumption | (apply ν6;assumption)) only [vz,vu,vv,eqS,eF_,↓c1_,↓c2_,tabs,reduceCtorEq,ι5,↓reduceIte,ν1,ν2,ν3,ν4,ν5,ι1,ι2,ι3,ι4,lA_ (st.get 0 rfl),lA_ (st.get 1 rfl),e0])
 refine ⟨by omega,by omega,by omega,by omega,fun q hq1 hq=>?_⟩
 replace st:=tab_new (n:=(a.states*b.states).toNat) st (q:=q) (hfr q hq1 hq)
 clear hfr hq1 hq
 rw [← outL_nil] at st
 generalize G2.set q (zA_ (a.states*b.states).toNat [.p .nil])=G3 at st ⊢
 replace st:St H [tabT q (outL (a.states*b.states).toNat []) [q],cT_ r7 [I b.states,Is b.first,Es b.edges,Ls b.goals],cT_ r6 [I a.states,Is a.first,Es a.edges,Ls a.goals],rgT z (.p .nil) [] [z]] G3:=st
 (try simp (maxSteps:=1000000) (disch:=first | assumption | (apply ν6;assumption)) only [vz,vu,vv,eqS,eF_,↓c1_,↓c2_,tabs,reduceCtorEq,ι5,↓reduceIte,ν1,ν2,ν3,ν4,ν5,ι1,ι2,ι3,ι4,lA_ (st.get 2 rfl)])
 have hel:=fa.ed
 have hbl:∀i,i≤a.edges.length→∀e j,(bE b.states (a.edges.take i) b.edges++bRow b.states e (b.edges.take j)).length≤100000:=fun i hi e j=>by
  have h1:=bE_len b.states (a.edges.take i) b.edges
  have h2:=bRow_len b.states e (b.edges.take j)
  rw [List.length_take] at h1 h2
  have h3:min i a.edges.length*b.edges.length≤256*256:=Nat.mul_le_mul (by omega) nb2
  rw [List.length_append];omega
 refine L24_0_rule ((0:Nat),[q],G3) (fun s=>I s.1) (fun s=>s.2.2)
  (fun s=>s.1≤a.edges.length∧St H [tabT q (outL (a.states*b.states).toNat (bE b.states (a.edges.take s.1) b.edges)) s.2.1,cT_ r7 [I b.states,Is b.first,Es b.edges,Ls b.goals],cT_ r6 [I a.states,Is a.first,Es a.edges,Ls a.goals],rgT z (.p .nil) [] [z]] s.2.2) (fun s=>a.edges.length - s.1)
  ⟨⟨by simp,by simpa [bE] using st⟩,.refl _,Heap.le_refl _⟩ ?_
 clear st
 rintro ⟨i,D,G⟩ ⟨hi,st⟩
 dsimp only at hi st
 have hN:(((a.states*b.states).toNat:Nat):Int)=a.states*b.states:=by omega
 (try simp (maxSteps:=1000000) (disch:=first | assumption | (apply ν6;assumption)) only [vz,vu,vv,eqS,eF_,↓c1_,↓c2_,tabs,reduceCtorEq,ι5,↓reduceIte,ν1,ν2,ν3,ν4,ν5,ι1,ι2,ι3,ι4,B24_0])
 refine ⟨fun h1=>⟨by omega,h1,?_⟩,fun h1=>?_⟩
 ·have hlt:i < a.edges.length:=by omega
  have hei:=edIn_iff.1 (fa.ei _ (getD_all (p:=fun x=>x∈a.edges) (d:=default) (fun _ h=>h) hlt))
  have hsucc:=bE_succ b.states a.edges b.edges hlt
  have hbi:=hbl i hi (a.edges.getD i default)
  generalize a.edges.getD i default=e at hei hsucc hbi ⊢
  intro r10 hr10
  replace st:=st.cell hr10 [I e.src,I e.lt,I e.dst]
  generalize G.set r10 [I e.src,I e.lt,I e.dst]=G4 at st ⊢
  clear hr10
  (try simp (maxSteps:=1000000) (disch:=first | assumption | (apply ν6;assumption)) only [vz,vu,vv,eqS,eF_,↓c1_,↓c2_,tabs,reduceCtorEq,ι5,↓reduceIte,ν1,ν2,ν3,ν4,ν5,ι1,ι2,ι3,ι4,lA_ (st.get 2 rfl)])
  refine L24_1_rule ((0:Nat),D,G4) (fun s=>I s.1) (fun s=>s.2.2)
   (fun s=>s.1≤b.edges.length∧St H [cT_ r10 [I e.src,I e.lt,I e.dst],tabT q (outL (a.states*b.states).toNat (bE b.states (a.edges.take i) b.edges++bRow b.states e (b.edges.take s.1))) s.2.1,cT_ r7 [I b.states,Is b.first,Es b.edges,Ls b.goals],cT_ r6 [I a.states,Is a.first,Es a.edges,Ls a.goals],rgT z (.p .nil) [] [z]] s.2.2) (fun s=>b.edges.length - s.1)
   ⟨⟨by simp,by simpa [bRow] using st⟩,.refl _,Heap.le_refl _⟩ ?_
  clear st D
  rintro ⟨j,D,G⟩ ⟨hj,st⟩
  dsimp only at hj st
  (try simp (maxSteps:=1000000) (disch:=first | assumption | (apply ν6;assumption)) only [vz,vu,vv,eqS,eF_,↓c1_,↓c2_,tabs,reduceCtorEq,ι5,↓reduceIte,ν1,ν2,ν3,ν4,ν5,ι1,ι2,ι3,ι4,B24_1])
  refine ⟨fun h2=>⟨by omega,h2,?_⟩,fun h2=>?_⟩
  ·have hltj:j < b.edges.length:=by omega
   have hdi:=edIn_iff.1 (fb.ei _ (getD_all (p:=fun x=>x∈b.edges) (d:=default) (fun _ h=>h) hltj))
   have hs2:=bRow_succ b.states e b.edges hltj
   have hbj:=hbi j
   generalize b.edges.getD j default=d at hdi hs2 ⊢
   have e5:IntKind.i64.wrap ((j:Int)+1)=((j+1:Nat):Int):=by rw [i6_ (by omega) (by omega)];simp
   intro r12 hr12
   replace st:=st.cell hr12 [I d.src,I d.lt,I d.dst]
   generalize G.set r12 [I d.src,I d.lt,I d.dst]=G5 at st ⊢
   clear hr12
   (try simp (maxSteps:=1000000) (disch:=first | assumption | (apply ν6;assumption)) only [vz,vu,vv,eqS,eF_,↓c1_,↓c2_,tabs,reduceCtorEq,ι5,↓reduceIte,ν1,ν2,ν3,ν4,ν5,ι1,ι2,ι3,ι4,lA_ (st.get 0 rfl),lA_ (st.get 1 rfl),e5])
   refine ⟨fun h3=>?_,fun h3=>?_⟩
   ·rw [if_pos h3] at hs2
    have x1:=lex_bd (i:=e.src) (n:=a.states) (j:=d.src) (m:=b.states) (by omega) (by omega)
    have x2:=lex_bd (i:=e.dst) (n:=a.states) (j:=d.dst) (m:=b.states) (by omega) (by omega)
    have y1:0≤e.src*b.states:=Int.mul_nonneg (by omega) (by omega)
    have y2:0≤e.dst*b.states:=Int.mul_nonneg (by omega) (by omega)
    have w1:IntKind.i64.wrap (e.src*b.states)=e.src*b.states:=i6_ (by omega) (by omega)
    have w2:IntKind.i64.wrap (e.src*b.states+d.src)=e.src*b.states+d.src:=i6_ (by omega) (by omega)
    have w3:IntKind.i64.wrap (e.dst*b.states)=e.dst*b.states:=i6_ (by omega) (by omega)
    obtain ⟨xd,hxd⟩:∃xd,e.dst*b.states+d.dst=xd:=⟨_,rfl⟩
    have w4:IntKind.i64.wrap (e.dst*b.states+d.dst)=xd:=by rw [← hxd];exact i6_ (by omega) (by omega)
    obtain ⟨w,hw⟩:∃w:Nat,e.src*b.states+d.src=(w:Int):=⟨(e.src*b.states+d.src).toNat,by omega⟩
    have hwN:w < (a.states*b.states).toNat:=by omega
    have hpush:=outL_push (a.states*b.states).toNat (bE b.states (a.edges.take i) b.edges++bRow b.states e (b.edges.take j)) (mkE b.states e d) (w:=w) hw hwN
    rw [List.append_assoc,← hs2] at hpush
    have hrl:=outL_row (a.states*b.states).toNat (bE b.states (a.edges.take i) b.edges++bRow b.states e (b.edges.take j)) w hwN
    have htl:=outL_len (a.states*b.states).toNat (bE b.states (a.edges.take i) b.edges++bRow b.states e (b.edges.take j))
    have hdst:(mkE b.states e d).dst=e.dst*b.states+d.dst:=rfl
    rw [hdst,hxd] at hpush
    rw [hw] at w2
    obtain ⟨pre,c,post,Di,Dr,hpl,hpp,st⟩:=tab_take st 2 rfl (i:=w) (by omega)
    rw [htl] at hpp
    simp only [List.eraseIdx_cons_succ,List.eraseIdx_cons_zero] at st
    generalize outL (a.states*b.states).toNat (bE b.states (a.edges.take i) b.edges++bRow b.states e (b.edges.take j))=rows at st hpush hrl htl
    generalize hr0:rows.getD w default=row at st hpush hrl
    have hG:=(st.get 1 rfl:(holeT q pre c post _ _ Dr).P G5).1
    have hrd:=tab_rd (c:=c) (post:=post) hpl
    have hb:w*1+1≤pre.length+(post.length+1):=by omega
    have hsp:∀c',List.take (w*1) (pre++(c::post))++[c']++List.drop (w*1+1) (pre++(c::post))=pre++(c'::post):=fun c'=>tab_sp hpl
    (try simp (maxSteps:=1000000) (disch:=first | assumption | (apply ν6;assumption)) only [vz,vu,vv,eqS,eF_,↓c1_,↓c2_,tabs,reduceCtorEq,ι5,↓reduceIte,ν1,ν2,ν3,ν4,ν5,ι1,ι2,ι3,ι4,lA_ (st.get 4 rfl),w1,w2,w3,w4,hw,lA_ hG,hrd,Int.toNat_natCast])
    refine ⟨by omega,by omega,hb,?_⟩
    refine lit1 tab_22 rfl tab_3 ⟨rfl,rfl⟩ ?_
    (try simp (maxSteps:=1000000) (disch:=first | assumption | (apply ν6;assumption)) only [vz,vu,vv,eqS,eF_,↓c1_,↓c2_,tabs,reduceCtorEq,ι5,↓reduceIte,ν1,ν2,ν3,ν4,ν5,ι1,ι2,ι3,ι4,lA_ (st.get 2 rfl),lA_ (st.get 3 rfl),lA_ (st.get 4 rfl),lA_ hG,hrd])
    refine ⟨hb,?_⟩
    refine rn_appI (ys:=[xd]) st 0 rfl (by simp only [List.length_cons,List.length_nil];omega) fun q' G' hq' st=>?_
    simp only [List.set_cons_zero] at st
    have hG:=(st.get 1 rfl:(holeT q pre c post _ _ Dr).P G').1
    (try simp (maxSteps:=1000000) (disch:=first | assumption | (apply ν6;assumption)) only [vz,vu,vv,eqS,eF_,↓c1_,↓c2_,tabs,reduceCtorEq,ι5,↓reduceIte,ν1,ν2,ν3,ν4,ν5,ι1,ι2,ι3,ι4,lA_ (st.get 2 rfl),lA_ (st.get 3 rfl),lA_ (st.get 4 rfl),sA_ hG])
    refine ⟨by omega,by omega,hb,?_⟩
    obtain ⟨D',st⟩:=tab_put st (by omega)
    rw [← hpush] at st
    rw [hsp]
    simp only [rowP,List.length_append,List.length_singleton] at st
    exact ⟨(j+1,D',_),⟨by simp only;omega,(st.erase 1).perm (List.Perm.swap _ _ _)⟩,by simp only;omega,.refl _,Heap.le_refl _⟩
   ·rw [if_neg h3] at hs2
    exact ⟨(j+1,D,_),⟨by simp only;omega,by rw [hs2];exact st.drop⟩,by simp only;omega,.refl _,Heap.le_refl _⟩
  ·have:j=b.edges.length:=by omega
   subst this
   have e5:IntKind.i64.wrap ((i:Int)+1)=((i+1:Nat):Int):=by rw [i6_ (by omega) (by omega)];simp
   rw [List.take_length,← hsucc] at st
   (try simp (maxSteps:=1000000) (disch:=first | assumption | (apply ν6;assumption)) only [vz,vu,vv,eqS,eF_,↓c1_,↓c2_,tabs,reduceCtorEq,ι5,↓reduceIte,ν1,ν2,ν3,ν4,ν5,ι1,ι2,ι3,ι4,e5])
   exact ⟨(i+1,D,G),⟨by simp only;omega,st.drop⟩,by simp only;omega,.refl _,Heap.le_refl _⟩
 ·have:i=a.edges.length:=by omega
  subst this
  rw [List.take_length] at st
  have hag:=fa.gl
  have hbg:=fb.gl
  have hT0:outL (a.states*b.states).toNat (bE b.states a.edges b.edges)=outR (boU a b) (boU a b).edges.length:=by
   rw [outL,outR]
   show _=(List.range (a.states*b.states).toNat).map (outN (boU a b) (boU a b).edges.length)
   congr 1
   funext s
   rw [outN,List.take_length];rfl
  have htl:=outL_len (a.states*b.states).toNat (bE b.states a.edges b.edges)
  rw [hT0] at st htl
  have hlas:=lasso_P hpr
  generalize outR (boU a b) (boU a b).edges.length=T0 at st htl hlas
  have hallb:=l12All_spec b.states.toNat (by omega)
  have halla:=l12All_spec a.states.toNat (by omega)
  rw [show ((b.states.toNat:Nat):Int)=b.states by omega] at hallb
  rw [show ((a.states.toNat:Nat):Int)=a.states by omega] at halla
  have hbs:∀n:Nat,n≤96→smI (below n)∧(below n).length≤96:=fun n hn=>⟨⟨by rw [below_len];omega,fun x hx=>by have:=below_mem.1 hx;omega⟩,by rw [below_len];exact hn⟩
  have hbsb:=hbs b.states.toNat (by omega)
  have hbsa:=hbs a.states.toNat (by omega)
  (try simp (maxSteps:=1000000) (disch:=first | assumption | (apply ν6;assumption)) only [vz,vu,vv,eqS,eF_,↓c1_,↓c2_,tabs,reduceCtorEq,ι5,↓reduceIte,ν1,ν2,ν3,ν4,ν5,ι1,ι2,ι3,ι4,lA_ (st.get 2 rfl)])
  refine L24_2_rule ((0:Nat),(.p .nil:AV),[z],G) (fun s=>s.2.1) (fun s=>I s.1) (fun s=>s.2.2.2)
   (fun s=>s.1≤a.goals.length∧St H [tabT q T0 D,cT_ r7 [I b.states,Is b.first,Es b.edges,Ls b.goals],cT_ r6 [I a.states,Is a.first,Es a.edges,Ls a.goals],rgT z s.2.1 (boGa a b s.1) s.2.2.1] s.2.2.2) (fun s=>a.goals.length - s.1)
   ⟨⟨by simp,by simpa [boGa] using st⟩,.refl _,.refl _,Heap.le_refl _⟩ ?_
  clear st G
  rintro ⟨k,x,Dz,G⟩ ⟨hk,st⟩
  dsimp only at hk st
  have e5:IntKind.i64.wrap ((k:Int)+1)=((k+1:Nat):Int):=by rw [i6_ (by omega) (by omega)];simp
  have hgl:=boGa_len a b k
  (try simp (maxSteps:=1000000) (disch:=first | assumption | (apply ν6;assumption)) only [vz,vu,vv,eqS,eF_,↓c1_,↓c2_,tabs,reduceCtorEq,ι5,↓reduceIte,ν1,ν2,ν3,ν4,ν5,ι1,ι2,ι3,ι4,B24_2])
  refine ⟨fun h2=>⟨by omega,h2,?_⟩,fun h2=>?_⟩
  ·have hltk:k < a.goals.length:=by omega
   have hgk:=getD_all (p:=fun x=>smI x∧x.length≤96) (d:=default) fa.gi hltk
   have hsucc:=boGa_succ a b hltk
   generalize a.goals.getD k default=gk at hgk hsucc ⊢
   (try simp (maxSteps:=1000000) (disch:=first | assumption | (apply ν6;assumption)) only [vz,vu,vv,eqS,eF_,↓c1_,↓c2_,tabs,reduceCtorEq,ι5,↓reduceIte,ν1,ν2,ν3,ν4,ν5,ι1,ι2,ι3,ι4,lA_ (st.get 1 rfl)])
   refine Pu.use hallb ?_
   (try simp (maxSteps:=1000000) (disch:=first | assumption | (apply ν6;assumption)) only [vz,vu,vv,eqS,eF_,↓c1_,↓c2_,tabs,reduceCtorEq,ι5,↓reduceIte,ν1,ν2,ν3,ν4,ν5,ι1,ι2,ι3,ι4,lA_ (st.get 1 rfl)])
   refine l12Pairs_row gk (below b.states.toNat) b.states hgk.1 hbsb.1 hgk.2 hbsb.2 (by omega) fun qn hqn=>?_
   replace st:=st.cell hqn (cP fI (prs gk (below b.states.toNat) b.states))
   generalize G.set qn (cP fI (prs gk (below b.states.toNat) b.states))=G5 at st ⊢
   clear hqn
   refine lit_live1 fun ql hql=>?_
   replace st:=st.cell hql [rowP qn (prs gk (below b.states.toNat) b.states)]
   generalize G5.set ql [.sl qn 1 0 (prs gk (below b.states.toNat) b.states).length]=G6 at st ⊢
   clear hql
   refine rz_pushL st 3 rfl (by omega) fun q' D' G7 hq' st=>?_
   rw [← hsucc] at st
   (try simp (maxSteps:=1000000) (disch:=first | assumption | (apply ν6;assumption)) only [vz,vu,vv,eqS,eF_,↓c1_,↓c2_,tabs,reduceCtorEq,ι5,↓reduceIte,ν1,ν2,ν3,ν4,ν5,ι1,ι2,ι3,ι4,e5])
   exact ⟨(k+1,_,D',_),⟨by simp only;omega,st⟩,by simp only;omega,.refl _,.refl _,Heap.le_refl _⟩
  have:k=a.goals.length:=by omega
  subst this
  clear h2 e5
  (try simp (maxSteps:=1000000) (disch:=first | assumption | (apply ν6;assumption)) only [vz,vu,vv,eqS,eF_,↓c1_,↓c2_,tabs,reduceCtorEq,ι5,↓reduceIte,ν1,ν2,ν3,ν4,ν5,ι1,ι2,ι3,ι4,lA_ (st.get 1 rfl)])
  refine L24_3_rule ((0:Nat),x,Dz,G) (fun s=>s.2.1) (fun s=>I s.1) (fun s=>s.2.2.2)
   (fun s=>s.1≤b.goals.length∧St H [tabT q T0 D,cT_ r7 [I b.states,Is b.first,Es b.edges,Ls b.goals],cT_ r6 [I a.states,Is a.first,Es a.edges,Ls a.goals],rgT z s.2.1 (boGa a b a.goals.length++boGb a b s.1) s.2.2.1] s.2.2.2) (fun s=>b.goals.length - s.1)
   ⟨⟨by simp,by simpa [boGb] using st⟩,.refl _,.refl _,Heap.le_refl _⟩ ?_
  clear st G x Dz
  rintro ⟨k,x,Dz,G⟩ ⟨hk,st⟩
  dsimp only at hk st
  have e5:IntKind.i64.wrap ((k:Int)+1)=((k+1:Nat):Int):=by rw [i6_ (by omega) (by omega)];simp
  have hgl2:=boGb_len a b k
  (try simp (maxSteps:=1000000) (disch:=first | assumption | (apply ν6;assumption)) only [vz,vu,vv,eqS,eF_,↓c1_,↓c2_,tabs,reduceCtorEq,ι5,↓reduceIte,ν1,ν2,ν3,ν4,ν5,ι1,ι2,ι3,ι4,B24_3])
  refine ⟨fun h2=>⟨by omega,h2,?_⟩,fun h2=>?_⟩
  ·have hltk:k < b.goals.length:=by omega
   have hgk:=getD_all (p:=fun x=>smI x∧x.length≤96) (d:=default) fb.gi hltk
   have hsucc:=boGb_succ a b hltk
   generalize b.goals.getD k default=gk at hgk hsucc ⊢
   (try simp (maxSteps:=1000000) (disch:=first | assumption | (apply ν6;assumption)) only [vz,vu,vv,eqS,eF_,↓c1_,↓c2_,tabs,reduceCtorEq,ι5,↓reduceIte,ν1,ν2,ν3,ν4,ν5,ι1,ι2,ι3,ι4,lA_ (st.get 1 rfl),lA_ (st.get 2 rfl)])
   refine Pu.use halla ?_
   (try simp (maxSteps:=1000000) (disch:=first | assumption | (apply ν6;assumption)) only [vz,vu,vv,eqS,eF_,↓c1_,↓c2_,tabs,reduceCtorEq,ι5,↓reduceIte,ν1,ν2,ν3,ν4,ν5,ι1,ι2,ι3,ι4,lA_ (st.get 1 rfl)])
   refine l12Pairs_row (below a.states.toNat) gk b.states hbsa.1 hgk.1 hbsa.2 hgk.2 (by omega) fun qn hqn=>?_
   replace st:=st.cell hqn (cP fI (prs (below a.states.toNat) gk b.states))
   generalize G.set qn (cP fI (prs (below a.states.toNat) gk b.states))=G5 at st ⊢
   clear hqn
   refine lit_live1 fun ql hql=>?_
   replace st:=st.cell hql [rowP qn (prs (below a.states.toNat) gk b.states)]
   generalize G5.set ql [.sl qn 1 0 (prs (below a.states.toNat) gk b.states).length]=G6 at st ⊢
   clear hql
   refine rz_pushL st 3 rfl (by rw [List.length_append];omega) fun q' D' G7 hq' st=>?_
   rw [List.append_assoc,← hsucc] at st
   (try simp (maxSteps:=1000000) (disch:=first | assumption | (apply ν6;assumption)) only [vz,vu,vv,eqS,eF_,↓c1_,↓c2_,tabs,reduceCtorEq,ι5,↓reduceIte,ν1,ν2,ν3,ν4,ν5,ι1,ι2,ι3,ι4,e5])
   exact ⟨(k+1,_,D',_),⟨by simp only;omega,st⟩,by simp only;omega,by first | exact .refl _ | (rw [List.length_append];exact .refl _),.refl _,Heap.le_refl _⟩
  have:k=b.goals.length:=by omega
  subst this
  (try simp (maxSteps:=1000000) (disch:=first | assumption | (apply ν6;assumption)) only [vz,vu,vv,eqS,eF_,↓c1_,↓c2_,tabs,reduceCtorEq,ι5,↓reduceIte,ν1,ν2,ν3,ν4,ν5,ι1,ι2,ι3,ι4,lA_ (st.get 1 rfl),lA_ (st.get 2 rfl)])
  refine Pu.use (l12Pairs_spec a.first b.first b.states fa.fi.1 fb.fi.1 fa.fi.2 fb.fi.2 (by omega)) ?_
  obtain ⟨Gw,hwk,hfr⟩:∃G',Wk (.tup [.sl q 1 0 T0.length,Is (prs a.first b.first b.states),x]) G (.tup [Ls T0,Is (prs a.first b.first b.states),Ls (boGa a b a.goals.length++boGb a b b.goals.length)]) G'∧∀y,y∉D→y∉Dz→G' y=G y:=by
   obtain ⟨G1,w1,f1⟩:=LRow.frzV (e:=eL) (sz:=1) (v:=.tup [.sl q 1 0 T0.length,Is (prs a.first b.first b.states),x]) (v':=.tup [Ls T0,Is (prs a.first b.first b.states),x]) (by omega) (fun _=>rfl) LIn.local LIn.frz (st.get 0 rfl) (st.ndT 0 rfl) (fun q _ hr=>.tup (.cons hr (.cons (.same _) (.cons (.same _) .nil))))
   obtain ⟨x',hx,lx⟩:=(st.get 3 rfl:RZ LIc 1 z x _ G Dz).row
   have lx1:=LRow.local LIc.local lx (G':=G1) fun y hy bb hb=>by rw [f1 y (fun hm=>st.disjI 0 3 rfl rfl (by decide) y hm hy)];exact hb
   obtain ⟨G2,w2,f2⟩:=LRow.frzV (e:=eL) (sz:=1) (v:=.tup [Ls T0,Is (prs a.first b.first b.states),x']) (v':=.tup [Ls T0,Is (prs a.first b.first b.states),Ls (boGa a b a.goals.length++boGb a b b.goals.length)]) (by omega) (fun _=>rfl) LIc.local LIc.frz lx1 (st.ndT 3 rfl) (fun q _ hr=>.tup (.cons (.same _) (.cons (.same _) (.cons hr .nil))))
   exact ⟨G2,.trans w1 (.trans (.val (v':=.tup [Ls T0,Is (prs a.first b.first b.states),x']) (wk_tup ⟨.refl _,.refl _,hx,trivial⟩)) w2),fun y h1 h2=>by rw [f2 y h2,f1 y h1]⟩
  have hle:Heap.le H Gw:=fun v bb hb=>by
   rw [hfr v (st.wkNone v bb hb _ (List.mem_of_getElem? (i:=0) rfl)) (st.wkNone v bb hb _ (List.mem_of_getElem? (i:=3) rfl))];exact st.le v bb hb
  rw [htl] at hwk
  refine CallT.pre (Pu.use hlas ?_) hwk
  unfold lassoV laB
  (try simp (maxSteps:=1000000) (disch:=first | assumption | (apply ν6;assumption)) only [vz,vu,vv,eqS,eF_,↓c1_,↓c2_,tabs,reduceCtorEq,ι5,↓reduceIte,ν1,ν2,ν3,ν4,ν5,ι1,ι2,ι3,ι4])
  exact hle
theorem szR_nn {left:Int} {n:Nat} (h:¬szR left n < 0):(n:Int)≤left∧szR left n=left - n:=by
 unfold szR at h ⊢
 split at h
 ·rename_i h2;rw [if_pos h2];exact ⟨by omega,rfl⟩
 ·omega
theorem FnExactImplies_true {f g:List Sd} (ho:ok f.length) (ko:ok g.length):Pu Tryz.prog 6 [Ds f,Ds g] (B true):=by
 refine Pu.of fun H=>?_
 refine W6_ok ?_;simp (maxSteps:=1000000) (disch:=first | assumption | (apply ν6;assumption)) only [W6,vz,vu,vv,eqS,eF_,↓c1_,↓c2_,tabs,reduceCtorEq,ι5,↓reduceIte,ν1,ν2,ν3,ν4,ν5,ι1,ι2,ι3,ι4]
 refine Pu.use (szSaidS_spec f 1048576 (by omega) (by omega) ho) ?_
 (try simp (maxSteps:=1000000) (disch:=first | assumption | (apply ν6;assumption)) only [vz,vu,vv,eqS,eF_,↓c1_,↓c2_,tabs,reduceCtorEq,ι5,↓reduceIte,ν1,ν2,ν3,ν4,ν5,ι1,ι2,ι3,ι4])
 refine fun h1=>?_
 obtain ⟨t1,t2⟩:=szR_nn h1
 have hl:f.length≤1048576:=by omega
 rw [t2]
 refine Pu.use (szSaidS_spec g _ (by omega) (by omega) ko) ?_
 (try simp (maxSteps:=1000000) (disch:=first | assumption | (apply ν6;assumption)) only [vz,vu,vv,eqS,eF_,↓c1_,↓c2_,tabs,reduceCtorEq,ι5,↓reduceIte,ν1,ν2,ν3,ν4,ν5,ι1,ι2,ι3,ι4])
 refine fun k1=>?_
 obtain ⟨t3,t4⟩:=szR_nn k1
 have kl:g.length≤1048576:=by omega
 refine Pu.use (toSaidS_spec f hl) ?_
 refine Pu.use (toSaidS_spec g kl) ?_
 refine Pu.use (Implies_ref f g hl kl) ?_
 have hI:=Implies_impl f g hl kl
 generalize imR f g=o at hI ⊢
 generalize (goodT f && goodT g)=ok at hI ⊢
 (try simp (maxSteps:=1000000) (disch:=first | assumption | (apply ν6;assumption)) only [vz,vu,vv,eqS,eF_,↓c1_,↓c2_,tabs,reduceCtorEq,ι5,↓reduceIte,ν1,ν2,ν3,ν4,ν5,ι1,ι2,ι3,ι4])
 refine toSaidS_live f hl fun va G1 Da la na=>?_
 obtain ⟨qx,rfl,hqx,rfl⟩:=LD_row la
 have st:=(St.nil H).push (cT_ qx (cD f)) na hqx
 clear la na hqx
 refine toSaidS_live g kl fun va G2 Da la na=>?_
 obtain ⟨qy,rfl,hqy,rfl⟩:=LD_row la
 replace st:=st.push (cT_ qy (cD g)) na hqy
 clear la na hqy
 have hne:qy≠qx:=fun e=>st.disjI 0 1 rfl rfl (by decide) qx (by simp [cT_,e]) (by simp [cT_])
 have w1:=wkD (st.get 1 rfl) (fun v=>.tup [v,rowD qy g]) (fun h=>.tup (.cons h (.cons (.same _) .nil)))
 have w2:=wkD (G:=G2.del qx) (by rw [Heap.del_other hne];exact st.get 0 rfl) (fun v=>.tup [Ds f,v]) (fun h=>.tup (.cons (.same _) (.cons h .nil)))
 refine Pu.thaw hI (.tup2 (.bool _) (.bool _)) (.trans w1 w2) ?_
 (try simp (maxSteps:=1000000) (disch:=first | assumption | (apply ν6;assumption)) only [vz,vu,vv,eqS,eF_,↓c1_,↓c2_,tabs,reduceCtorEq,ι5,↓reduceIte,ν1,ν2,ν3,ν4,ν5,ι1,ι2,ι3,ι4])
 refine Pu.use (toSaidS_spec f hl) ?_
 refine eqD_row (st.get 1 rfl) hl ?_
 (try simp (maxSteps:=1000000) (disch:=first | assumption | (apply ν6;assumption)) only [vz,vu,vv,eqS,eF_,↓c1_,↓c2_,tabs,reduceCtorEq,ι5,↓reduceIte,ν1,ν2,ν3,ν4,ν5,ι1,ι2,ι3,ι4])
 refine Pu.use (toSaidS_spec g kl) ?_
 refine eqD_row (st.get 0 rfl) kl ?_
 (try simp (maxSteps:=1000000) (disch:=first | assumption | (apply ν6;assumption)) only [vz,vu,vv,eqS,eF_,↓c1_,↓c2_,tabs,reduceCtorEq,ι5,↓reduceIte,ν1,ν2,ν3,ν4,ν5,ι1,ι2,ι3,ι4])
 exact st.le
end Go.Proofs.YtolffbcnbcjeaaaGreat
namespace Go.Proofs.YtolffbcnbcjeaaaGreat.implies
open Go Go.Sep Go.ChangeShapes Go.WideShapes Go.ChangeAt Go.RowKit
theorem own:ownKnob Tryz.prog.godebug=none:=by kernel_rfl
theorem told (avs:List AV) (h:ArgsT Tryz.prog [41,41] avs):CallT Tryz.prog 6 avs (fun _=>none) (fun v _=>v=.p (.bool true)):=by
 obtain ⟨a,b,rfl,h1,h⟩:=args_cons h
 obtain ⟨b,c,rfl,h2,h⟩:=args_cons h
 cases args_nil h
 obtain ⟨x1,hx1,rfl⟩:=arg_saids h1
 obtain ⟨x2,hx2,rfl⟩:=arg_saids h2
 exact (FnExactImplies_true hx1 hx2).use rfl
set_option maxRecDepth 100000 in
theorem lifted (os:Os) (started:os.Started) (H:Type) (enc:TypeId×Value→H) :
  ReturnsInHanded {} Tryz.checked os 6 .any (Rows.fnExactImpliesSpec.pre6 enc Tryz.prog Tryz.f6 Rows.fnExactImpliesRow.domain false) (Rows.fnExactImpliesSpec.post enc Tryz.prog Tryz.f6 false true false false):=by
 refine returnsInHanded_of_change (C:=Tryz.checked) own started (by kernel_rfl) Tryz.func6
  (ChangeSpec.witness6 (enc:=enc) (C:=Tryz.checked) false ⟨#[],#[.slice none 0 0,.slice none 0 0],[]⟩ 12 (by kernel_rfl) (by kernel_rfl) (by kernel_rfl) (by kernel_rfl)) ?_
 intro W base args ds gs before hval hW _ _
 refine row_of_true (n:=12) (tb:=4) (by kernel_rfl) rfl (by kernel_rfl) (by kernel_rfl) ?_ ?_ ?_ hval hW
 ·have:(Tryz.f6.params.toList.all fun t=>Tryz.prog.readableRec t && decide (t < Tryz.prog.types.size) && plainB Tryz.prog 12 t)=true:=by kernel_rfl
  intro t ht
  have:=List.all_eq_true.1 this t ht
  rw [Bool.and_eq_true,Bool.and_eq_true,decide_eq_true_eq] at this
  exact ⟨this.1.1,this.1.2,this.2⟩
 ·intro ds hd
  rw [Tryz.params6] at hd
  match ds,hd with
  | [a,b],_=>rfl
 ·rw [Tryz.params6]
  exact told
theorem over:Rows.fnExactImpliesRow.holds Tryz.pinned (OpenSpec.ofChange Rows.fnExactImpliesSpec):=
 OpenClaim.holds_of_wide 6 Tryz.f6 rfl rfl rfl rfl rfl rfl rfl ⟨rfl,rfl,rfl,rfl,rfl⟩ rfl rfl rfl rfl rfl (by kernel_rfl) Tryz.func6 (by kernel_rfl)
  (of_decide_eq_true (by kernel_rfl)) (by unfold Func.isWrapper;first | (rw [if_pos (by decide +kernel)];kernel_rfl) | (rw [if_neg (by decide +kernel)];exact ⟨rfl,rfl⟩))
  (fun os started H enc _=>lifted os started H enc)
theorem proved:Rows.FnExactImpliesSaid:=
 over
#print axioms proved
end Go.Proofs.YtolffbcnbcjeaaaGreat.implies
