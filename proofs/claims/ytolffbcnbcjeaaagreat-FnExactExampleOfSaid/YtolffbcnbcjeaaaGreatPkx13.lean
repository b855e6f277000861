/- The row of the law that ExampleOf answers as the reference does: whatever the arguments, it answers true, and what it is told reads as it did. -/
import Derived.Test.YtolffbcnbcjeaaaGreatPkx12
import Derived.Test.YtolffbcnbcjeaaaGreatRows
import Derived.WalkKit
import Derived.ProofKit
import Derived.OpenShut
set_option linter.unusedVariables false
set_option linter.unusedSimpArgs false
open Go.Sep.AV renaming any → Q_
open Nat renaming reduceAdd→ν1,reduceLeDiff→ν2,reduceLT→ν3,reduceMul→ν4,reduceSub→ν5
open Int renaming reduceToNat→ι1,reduceSub→ι2,reduceAdd→ι3,reduceNeg→ι4
open Array renaming toList→ι5
open Ne renaming symm→ν6
open List renaming forall_mem_cons→ν7
namespace Go.Proofs.YtolffbcnbcjeaaaGreat
open Go Go.Sep Go.Pt
attribute [local irreducible] CallT
theorem tr_bd {f:List Sd} (g:GoodFm f):∀x∈tr f,0≤x∧x < f.length:=by
 intro x hx
 have hl0:=g.l0
 rw [tr,sc_mem,trL,List.mem_cons,List.mem_flatten] at hx
 rcases hx with rfl | ⟨l,hl,hx⟩
 ·omega
 ·obtain ⟨i,hi,rfl⟩:=List.mem_map.1 hl
  rw [List.mem_range] at hi
  unfold trAt at hx
  split at hx
  ·rename_i h
   have hn:need (f.getD i default).op=2:=by rcases h with h | h<;>rw [h]<;>rfl
   have:=(tst2 g hi hn).1
   simp only [List.mem_cons,List.not_mem_nil,or_false] at hx
   omega
  ·split at hx
   ·rename_i h
    have hn:need (f.getD i default).op=1:=by rw [h];rfl
    have:=(tst1 g hi hn).1
    simp only [List.mem_cons,List.not_mem_nil,or_false] at hx
    omega
   ·cases hx
def guK (vs:List Bool) (t:List Int):Nat→Int
 | 0=>0
 | k+1=>if vs.getD (t.getD k default).toNat default=true then bitsI .or .i64 (guK vs t k) (IntKind.i64.wrap (1*2^(min k 64))) else guK vs t k
def guF (f:List Sd) (lt nx:Int):Int:=guK (evL f (tr f) lt nx f.length) (tr f) (tr f).length
theorem guessOf_spec (f:List Sd) (g:GoodFm f) (lt nx:Int) (h0:0≤lt):Pu Tryz.prog 105 [Ds f,I lt,I nx] (I (guF f lt nx)):=by
 have hl:=g.l1
 have htl:=tr_len f
 refine Pu.of fun H=>?_
 refine W105_ok ?_;simp (maxSteps:=1000000) (disch:=first | assumption | (apply ν6;assumption)) only [W105,vz,vu,vv,eqS,eF_,↓c1_,↓c2_,tabs,reduceCtorEq,ι5,↓reduceIte,ν1,ν2,ν3,ν4,ν5,ι1,ι2,ι3,ι4]
 refine evalNow_row f g lt nx h0 fun q G hn hq=>?_
 (try simp (maxSteps:=1000000) (disch:=first | assumption | (apply ν6;assumption)) only [vz,vu,vv,eqS,eF_,↓c1_,↓c2_,tabs,reduceCtorEq,ι5,↓reduceIte,ν1,ν2,ν3,ν4,ν5,ι1,ι2,ι3,ι4])
 refine Pu.use (tracked_spec f g) ?_
 (try simp (maxSteps:=1000000) (disch:=first | assumption | (apply ν6;assumption)) only [vz,vu,vv,eqS,eF_,↓c1_,↓c2_,tabs,reduceCtorEq,ι5,↓reduceIte,ν1,ν2,ν3,ν4,ν5,ι1,ι2,ι3,ι4])
 have hel:=evL_len f (tr f) lt nx f.length
 unfold guF
 have hbd:=tr_bd g
 generalize evL f (tr f) lt nx f.length=vs at hq hel ⊢
 generalize tr f=t at htl hbd ⊢
 refine L105_0_rule (0:Nat) (fun i=>I (guK vs t i)) (fun i=>I i) (fun _=>G) (fun i=>i≤t.length) (fun i=>t.length - i) ⟨by omega,.refl _,.refl _,Heap.le_refl _⟩ ?_
 intro i hi
 (try simp (maxSteps:=1000000) (disch:=first | assumption | (apply ν6;assumption)) only [vz,vu,vv,eqS,eF_,↓c1_,↓c2_,tabs,reduceCtorEq,ι5,↓reduceIte,ν1,ν2,ν3,ν4,ν5,ι1,ι2,ι3,ι4,B105_0])
 refine ⟨fun h1=>⟨by omega,h1,?_⟩,fun h1=>?_⟩
 ·have hlt:i < t.length:=by omega
  have hb:=getD_all (p:=fun x=>0≤x∧x < (f.length:Int)) (d:=default) hbd hlt
  have hsucc:guK vs t (i+1)=if vs.getD (t.getD i default).toNat default=true then bitsI .or .i64 (guK vs t i) (IntKind.i64.wrap (1*2^(min i 64))) else guK vs t i:=rfl
  generalize t.getD i default=n at hb hsucc ⊢
  have hrd:=mapB_rd (l:=vs) (i:=n.toNat) (by omega)
  have hb2:n.toNat*1+1≤vs.length:=by omega
  have e5:IntKind.i64.wrap ((i:Int)+1)=((i+1:Nat):Int):=by rw [i6_ (by omega) (by omega)];simp
  (try simp (maxSteps:=1000000) (disch:=first | assumption | (apply ν6;assumption)) only [vz,vu,vv,eqS,eF_,↓c1_,↓c2_,tabs,reduceCtorEq,ι5,↓reduceIte,ν1,ν2,ν3,ν4,ν5,ι1,ι2,ι3,ι4,lA_ hq,hrd,e5])
  refine ⟨hb.1,by omega,hb2,fun h2=>⟨by omega,?_⟩,fun h2=>?_⟩
  ·rw [if_pos h2] at hsucc
   refine ⟨i+1,by omega,by omega,?_,.refl _⟩
   rw [hsucc];exact .refl _
  ·rw [if_neg (by rw [h2];simp)] at hsucc
   refine ⟨i+1,by omega,by omega,?_,.refl _⟩
   rw [hsucc];exact .refl _
 ·have:i=t.length:=by omega
  subst this
  exact ⟨rfl,hn.le⟩
theorem l13Guess_spec (f:List Sd) (g:GoodFm f) (lt nx:Int) (h0:0≤lt):Pu Tryz.prog 95 [Ds f,Is (tr f),I lt,I nx] (I (guF f lt nx)):=by
 have hl:=g.l1
 have htl:=tr_len f
 refine Pu.of fun H=>?_
 refine W95_ok ?_;simp (maxSteps:=1000000) (disch:=first | assumption | (apply ν6;assumption)) only [W95,vz,vu,vv,eqS,eF_,↓c1_,↓c2_,tabs,reduceCtorEq,ι5,↓reduceIte,ν1,ν2,ν3,ν4,ν5,ι1,ι2,ι3,ι4]
 refine l13Now_row f g (tr f) lt nx (by omega) h0 fun q G hn hq=>?_
 (try simp (maxSteps:=1000000) (disch:=first | assumption | (apply ν6;assumption)) only [vz,vu,vv,eqS,eF_,↓c1_,↓c2_,tabs,reduceCtorEq,ι5,↓reduceIte,ν1,ν2,ν3,ν4,ν5,ι1,ι2,ι3,ι4])
 have hel:=evL_len f (tr f) lt nx f.length
 unfold guF
 have hbd:=tr_bd g
 generalize evL f (tr f) lt nx f.length=vs at hq hel ⊢
 generalize tr f=t at htl hbd ⊢
 refine L95_0_rule (0:Nat) (fun i=>I (guK vs t i)) (fun i=>I i) (fun _=>G) (fun i=>i≤t.length) (fun i=>t.length - i) ⟨by omega,.refl _,.refl _,Heap.le_refl _⟩ ?_
 intro i hi
 (try simp (maxSteps:=1000000) (disch:=first | assumption | (apply ν6;assumption)) only [vz,vu,vv,eqS,eF_,↓c1_,↓c2_,tabs,reduceCtorEq,ι5,↓reduceIte,ν1,ν2,ν3,ν4,ν5,ι1,ι2,ι3,ι4,B95_0])
 refine ⟨fun h1=>⟨by omega,h1,?_⟩,fun h1=>?_⟩
 ·have hlt:i < t.length:=by omega
  have hb:=getD_all (p:=fun x=>0≤x∧x < (f.length:Int)) (d:=default) hbd hlt
  have hsucc:guK vs t (i+1)=if vs.getD (t.getD i default).toNat default=true then bitsI .or .i64 (guK vs t i) (IntKind.i64.wrap (1*2^(min i 64))) else guK vs t i:=rfl
  generalize t.getD i default=n at hb hsucc ⊢
  have hrd:=mapB_rd (l:=vs) (i:=n.toNat) (by omega)
  have hb2:n.toNat*1+1≤vs.length:=by omega
  have e5:IntKind.i64.wrap ((i:Int)+1)=((i+1:Nat):Int):=by rw [i6_ (by omega) (by omega)];simp
  have eu:IntKind.u64.wrap (i:Int)=i:=by rw [IntKind.wrap_u64];omega
  (try simp (maxSteps:=1000000) (disch:=first | assumption | (apply ν6;assumption)) only [vz,vu,vv,eqS,eF_,↓c1_,↓c2_,tabs,reduceCtorEq,ι5,↓reduceIte,ν1,ν2,ν3,ν4,ν5,ι1,ι2,ι3,ι4,lA_ hq,hrd,e5,eu])
  refine ⟨hb.1,by omega,hb2,fun h2=>⟨by omega,?_⟩,fun h2=>?_⟩
  ·rw [if_pos h2] at hsucc
   refine ⟨i+1,by omega,by omega,?_,.refl _⟩
   rw [hsucc];exact .refl _
  ·rw [if_neg (by rw [h2];simp)] at hsucc
   refine ⟨i+1,by omega,by omega,?_,.refl _⟩
   rw [hsucc];exact .refl _
 ·have:i=t.length:=by omega
  subst this
  exact ⟨rfl,hn.le⟩
theorem pow_small {k:Nat} (h:k≤5):(1:Int)≤2^k∧(2:Int)^k≤32:=by
 rcases (by omega:k=0∨k=1∨k=2∨k=3∨k=4∨k=5) with rfl | rfl | rfl | rfl | rfl | rfl<;>decide
theorem guesses_spec (f:List Sd) (g:GoodFm f) (ht:(tr f).length≤5):Pu Tryz.prog 102 [Ds f] (I (2^(tr f).length)):=by
 refine Pu.of fun H=>?_
 refine W102_ok ?_;simp (maxSteps:=1000000) (disch:=first | assumption | (apply ν6;assumption)) only [W102,vz,vu,vv,eqS,eF_,↓c1_,↓c2_,tabs,reduceCtorEq,ι5,↓reduceIte,ν1,ν2,ν3,ν4,ν5,ι1,ι2,ι3,ι4]
 refine Pu.use (tracked_spec f g) ?_
 (try simp (maxSteps:=1000000) (disch:=first | assumption | (apply ν6;assumption)) only [vz,vu,vv,eqS,eF_,↓c1_,↓c2_,tabs,reduceCtorEq,ι5,↓reduceIte,ν1,ν2,ν3,ν4,ν5,ι1,ι2,ι3,ι4])
 have hp:=pow_small ht
 refine ⟨by omega,?_⟩
 refine congrArg (fun n:Int=>I n) ?_
 rw [Nat.min_eq_left (by show (tr f).length≤64;omega),Int.one_mul,i6_ (by omega) (by omega)]
end Go.Proofs.YtolffbcnbcjeaaaGreat
namespace Go.Proofs.YtolffbcnbcjeaaaGreat
open Go Go.Sep Go.Pt
def nF (f:List Sd):Nat:=2^(tr f).length
theorem nF_bd {f:List Sd} (h:(tr f).length≤5):1≤nF f∧nF f≤32:=by
 unfold nF
 rcases (by omega:(tr f).length=0∨(tr f).length=1∨(tr f).length=2∨(tr f).length=3∨(tr f).length=4∨(tr f).length=5) with h | h | h | h | h | h<;>rw [h]<;>decide
theorem nF_int (f:List Sd):(2:Int)^(tr f).length=(nF f:Int):=by
 unfold nF;rw [Int.natCast_pow];rfl
def rootP (f:List Sd) (g:Nat):Bool:=saysF (tr f) g ((f.length:Int) - 1)
def rooB (f:List Sd) (b:Bool) (g:Nat):Bool:=rootP f g==b
def goalP (f:List Sd) (i g:Nat):Bool:=
 (decide ((f.getD i default).op=7) && (!saysF (tr f) g i || saysF (tr f) g ((i:Int) - 1))) || (decide ((f.getD i default).op=8) && (saysF (tr f) g i || !saysF (tr f) g ((i:Int) - 1)))
def isUR (f:List Sd) (i:Nat):Bool:=decide ((f.getD i default).op=7) || decide ((f.getD i default).op=8)
def goalsK (f:List Sd) (i:Nat):List (List Int):=((List.range i).filter (isUR f)).map fun j=>gw (nF f) (goalP f j)
theorem goalsK_succ (f:List Sd) (i:Nat):goalsK f (i+1)=if isUR f i=true then goalsK f i++[gw (nF f) (goalP f i)] else goalsK f i:=by
 unfold goalsK
 rw [List.range_succ,List.filter_append,List.map_append]
 by_cases h:isUR f i=true
 ·simp [h]
 ·simp [h]
theorem goalsK_len (f:List Sd) (i:Nat):(goalsK f i).length≤i:=by
 unfold goalsK
 rw [List.length_map]
 have:=List.length_filter_le (isUR f) (List.range i)
 rwa [List.length_range] at this
theorem goalsK_tr (f:List Sd):(goalsK f f.length).length≤(tr f).length:=by
 unfold goalsK
 rw [List.length_map]
 have h1:(((List.range f.length).filter (isUR f)).map fun (i:Nat)=>(i:Int)).Nodup:=by
  unfold List.Nodup
  rw [List.pairwise_map]
  exact (List.pairwise_lt_range.filter _).imp fun h=>by omega
 have h2:=h1.length_le_of_subset (l₂:=tr f) fun x hx=>by
  obtain ⟨i,hi,rfl⟩:=List.mem_map.1 hx
  obtain ⟨h3,h4⟩:=List.mem_filter.1 hi
  rw [List.mem_range] at h3
  refine tr_mem0 h3 _ ?_
  unfold isUR at h4
  rw [Bool.or_eq_true,decide_eq_true_eq,decide_eq_true_eq] at h4
  rw [trAt,if_pos h4];simp
 rwa [List.length_map] at h2
theorem or_bd:∀j:Nat,j < 5→∀a:Nat,a < 2^j→0≤bitsI .or .i64 (a:Int) (IntKind.i64.wrap (1*2^(min j 64)))∧bitsI .or .i64 (a:Int) (IntKind.i64.wrap (1*2^(min j 64))) < 2^(j+1):=by
 decide +kernel
theorem guK_bd (vs:List Bool) (t:List Int):∀j:Nat,j≤5→0≤guK vs t j∧guK vs t j < 2^j:=by
 intro j
 induction j with
 | zero=>intro _;rw [guK];exact ⟨Int.le_refl _,by decide +kernel⟩
 | succ j ih=>
  intro hj
  have h1:=ih (by omega)
  rw [guK]
  split
  ·have h2:=or_bd j (by omega) (guK vs t j).toNat (by
    have:((guK vs t j).toNat:Int) < ((2^j:Nat):Int):=by rw [Int.toNat_of_nonneg h1.1,Int.natCast_pow];exact h1.2
    omega)
   rw [Int.toNat_of_nonneg h1.1] at h2
   exact h2
  ·have:(2:Int)^j≤2^(j+1):=by rw [Int.pow_succ];omega
   omega
theorem guF_bd {f:List Sd} (h:(tr f).length≤5) (lt nx:Int):0≤guF f lt nx∧guF f lt nx < nF f:=by
 have:=guK_bd (evL f (tr f) lt nx f.length) (tr f) _ h
 rw [← nF_int];exact this
def edI (f:List Sd) (l n:Nat):Ed:=⟨guF f l n,l,n⟩
def eI0 (f:List Sd) (l:Nat) (n:Nat):List Ed:=(List.range n).map (edI f l)
theorem eI0_succ (f:List Sd) (l n:Nat):eI0 f l (n+1)=eI0 f l n++[edI f l n]:=by simp [eI0,List.range_succ]
def eIs (f:List Sd) (l:Nat):List Ed:=(List.range l).flatMap fun k=>eI0 f k (nF f)
theorem eIs_succ (f:List Sd) (l:Nat):eIs f (l+1)=eIs f l++eI0 f l (nF f):=by simp [eIs,List.range_succ,List.flatMap_append]
theorem eI0_len (f:List Sd) (l n:Nat):(eI0 f l n).length=n:=by simp [eI0]
theorem eIs_len (f:List Sd) (l:Nat):(eIs f l).length=l*nF f:=by
 induction l with
 | zero=>simp [eIs]
 | succ l ih=>rw [eIs_succ,List.length_append,ih,eI0_len,Nat.add_mul,Nat.one_mul]
def cell0 (f:List Sd) (g l n:Nat):List Ed:=((List.range n).filter fun (k:Nat)=>decide (guF f l k=g)).map fun (k:Nat)=>⟨g,l,k⟩
theorem cell0_succ (f:List Sd) (g l n:Nat):cell0 f g l (n+1)=if guF f l n=g then cell0 f g l n++[⟨g,l,n⟩] else cell0 f g l n:=by
 unfold cell0
 rw [List.range_succ,List.filter_append,List.map_append]
 by_cases h:guF f l n=g
 ·simp [h]
 ·simp [h]
def row0 (f:List Sd) (g l:Nat):List Ed:=(List.range l).flatMap fun k=>cell0 f g k (nF f)
theorem row0_succ (f:List Sd) (g l:Nat):row0 f g (l+1)=row0 f g l++cell0 f g l (nF f):=by simp [row0,List.range_succ,List.flatMap_append]
def all0 (f:List Sd) (g:Nat):List Ed:=(List.range g).flatMap fun k=>row0 f k 8
theorem all0_succ (f:List Sd) (g:Nat):all0 f (g+1)=all0 f g++row0 f g 8:=by simp [all0,List.range_succ,List.flatMap_append]
theorem all0_lt (f:List Sd):(all0 f (nF f)).Pairwise (fun a b=>edLt a b=true):=by
 unfold all0
 rw [List.pairwise_flatMap]
 refine ⟨fun g hg=>?_,List.Pairwise.imp (fun hgh x hx y hy=>?_) List.pairwise_lt_range⟩
 ·unfold row0
  rw [List.pairwise_flatMap]
  refine ⟨fun l hl=>?_,List.Pairwise.imp (fun hlm x hx y hy=>?_) List.pairwise_lt_range⟩
  ·unfold cell0
   rw [List.pairwise_map]
   refine List.Pairwise.imp (fun h=>?_) (List.pairwise_lt_range.filter _)
   rw [edLt_iff];exact .inr ⟨rfl,.inr ⟨rfl,Int.ofNat_lt.2 h⟩⟩
  ·obtain ⟨k1,_,rfl⟩:=List.mem_map.1 hx
   obtain ⟨k2,_,rfl⟩:=List.mem_map.1 hy
   rw [edLt_iff];exact .inr ⟨rfl,.inl (Int.ofNat_lt.2 hlm)⟩
 ·obtain ⟨l1,_,hx⟩:=List.mem_flatMap.1 hx
  obtain ⟨l2,_,hy⟩:=List.mem_flatMap.1 hy
  obtain ⟨k1,_,rfl⟩:=List.mem_map.1 hx
  obtain ⟨k2,_,rfl⟩:=List.mem_map.1 hy
  rw [edLt_iff];exact .inl (Int.ofNat_lt.2 hgh)
theorem all0_mem {f:List Sd} (e:Ed):e∈all0 f (nF f)↔∃g l k:Nat,g < nF f∧l < 8∧k < nF f∧guF f l k=g∧e=⟨g,l,k⟩:=by
 simp only [all0,row0,cell0,List.mem_flatMap,List.mem_map,List.mem_filter,List.mem_range,decide_eq_true_eq]
 constructor
 ·rintro ⟨g,hg,l,hl,k,⟨hk,e1⟩,rfl⟩
  exact ⟨g,l,k,hg,hl,hk,e1,rfl⟩
 ·rintro ⟨g,l,k,hg,hl,hk,e1,rfl⟩
  exact ⟨g,hg,l,hl,k,⟨hk,e1⟩,rfl⟩
theorem eIs_nd (f:List Sd):(eIs f 8).Nodup:=by
 unfold eIs List.Nodup
 rw [List.pairwise_flatMap]
 refine ⟨fun l hl=>?_,List.Pairwise.imp (fun hlm x hx y hy e=>?_) List.pairwise_lt_range⟩
 ·unfold eI0
  rw [List.pairwise_map]
  refine List.Pairwise.imp (fun h e=>?_) List.pairwise_lt_range
  simp only [edI,Ed.mk.injEq] at e;omega
 ·obtain ⟨k1,_,rfl⟩:=List.mem_map.1 hx
  obtain ⟨k2,_,rfl⟩:=List.mem_map.1 hy
  simp only [edI,Ed.mk.injEq] at e;omega
theorem srt_eIs {f:List Sd} (h:(tr f).length≤5):srtE (eIs f 8)=all0 f (nF f):=by
 refine srtE_ext (eIs_nd f) (all0_lt f) fun e=>?_
 rw [all0_mem]
 simp only [eIs,eI0,List.mem_flatMap,List.mem_map,List.mem_range]
 constructor
 ·rintro ⟨l,hl,k,hk,rfl⟩
  have hb:=guF_bd h l k
  exact ⟨(guF f l k).toNat,l,k,by omega,hl,hk,by omega,by simp only [edI,Ed.mk.injEq,and_true];omega⟩
 ·rintro ⟨g,l,k,hg,hl,hk,e1,rfl⟩
  exact ⟨l,hl,k,hk,by simp only [edI,Ed.mk.injEq,and_true];omega⟩
def autoB (f:List Sd) (b:Bool):Au:=⟨nF f,gw (nF f) (rooB f b),all0 f (nF f),goalsK f f.length⟩
theorem all0_len {f:List Sd} (h:(tr f).length≤5):(all0 f (nF f)).length≤256:=by
 rw [← srt_eIs h,srtE_len,eIs_len]
 have:=nF_bd h
 omega
theorem autoB_good {f:List Sd} {b:Bool} (h:(tr f).length≤5):goodA (autoB f b)=true:=by
 have hb:=nF_bd h
 have h1:=all0_len h
 have h2:=goalsK_tr f
 unfold goodA autoB
 simp only [Bool.and_eq_true,decide_eq_true_eq,List.all_eq_true]
 refine ⟨⟨by omega,by omega⟩,gw_rising _ _,by omega,⟨by omega,fun g hg=>?_⟩,edsOk_of (all0_lt f) fun e he=>?_⟩
 ·obtain ⟨i,_,rfl⟩:=List.mem_map.1 hg
  exact gw_rising _ _
 ·obtain ⟨g,l,k,hg,hl,hk,_,rfl⟩:=(all0_mem e).1 he
  simp only [edIn,Bool.and_eq_true,decide_eq_true_eq]
  omega
theorem autoB_sm {f:List Sd} {b:Bool} (h:(tr f).length≤5):smAu (autoB f b):=by
 have hb:=nF_bd h
 have h1:=all0_len h
 have h2:=goalsK_tr f
 refine ⟨?_,?_,?_,fun c hc=>?_⟩
 ·have:=gw_len (nF f) (rooB f b);show (gw (nF f) (rooB f b)).length≤_;omega
 ·show (all0 f (nF f)).length≤_;omega
 ·show (goalsK f f.length).length≤_;omega
 ·obtain ⟨i,_,rfl⟩:=List.mem_map.1 hc
  have:=gw_len (nF f) (goalP f i);omega
end Go.Proofs.YtolffbcnbcjeaaaGreat
namespace Go.Proofs.YtolffbcnbcjeaaaGreat
open Go Go.Sep Go.Pt
attribute [local irreducible] CallT
theorem guessesWith_at (f:List Sd) (g:GoodFm f) (ht:(tr f).length≤5) (fn:Nat) (caps:List AV) (p:Nat→Bool) {H:Heap} (hp:∀x G,x < nF f→Heap.le H G→PuAt Tryz.prog fn (I x::caps) G (B (p x))) {K:AV→Heap→Prop}
  (h:∀q G,G q=some (cP fI (gw (nF f) p))→New H G [q]→K (rowP q (gw (nF f) p)) G):CallT Tryz.prog 129 [Ds f,.fn fn caps] H K:=by
 have hb:=nF_bd ht
 refine CallT.fin ?_
 refine W129_ok ?_;simp (maxSteps:=1000000) (disch:=first | assumption | (apply ν6;assumption)) only [W129,vz,vu,vv,eqS,eF_,↓c1_,↓c2_,tabs,reduceCtorEq,ι5,↓reduceIte,ν1,ν2,ν3,ν4,ν5,ι1,ι2,ι3,ι4]
 refine lit0I fun q0 hq0=>?_
 have st:=(St.nil H).cell hq0 (cP fI [])
 generalize H.set q0 (cP fI [])=G at st ⊢
 refine Pu.use (guesses_spec f g ht) ?_
 rw [nF_int]
 refine L129_0_rule ((0:Nat),q0,G) (fun s=>rowP s.2.1 (gw s.1 p)) (fun s=>I s.1) (fun s=>s.2.2)
  (fun s=>s.1≤nF f∧St H [cT_ s.2.1 (cP fI (gw s.1 p))] s.2.2) (fun s=>nF f - s.1) ⟨⟨by simp,st⟩,.refl _,.refl _,Heap.le_refl _⟩ ?_
 clear st
 rintro ⟨i,q,G⟩ ⟨hi,st⟩
 dsimp only at hi st
 have e5:IntKind.i64.wrap ((i:Int)+1)=((i+1:Nat):Int):=by rw [i6_ (by omega) (by omega)];simp
 (try simp (maxSteps:=1000000) (disch:=first | assumption | (apply ν6;assumption)) only [vz,vu,vv,eqS,eF_,↓c1_,↓c2_,tabs,reduceCtorEq,ι5,↓reduceIte,ν1,ν2,ν3,ν4,ν5,ι1,ι2,ι3,ι4,B129_0])
 refine ⟨fun h1=>?_,fun h1=>?_⟩
 ·have hlt:i < nF f:=by omega
  refine PuAt.use (hp i G hlt st.le) ?_
  have hgl:=gw_len i p
  have hsucc:=gw_succ i p
  (try simp (maxSteps:=1000000) (disch:=first | assumption | (apply ν6;assumption)) only [vz,vu,vv,eqS,eF_,↓c1_,↓c2_,tabs,reduceCtorEq,ι5,↓reduceIte,ν1,ν2,ν3,ν4,ν5,ι1,ι2,ι3,ι4,e5])
  refine ⟨fun h2=>?_,fun h2=>?_⟩
  ·rw [if_pos h2] at hsucc
   refine lit1 tab_22 rfl tab_3 ⟨rfl,rfl⟩ ?_
   refine st_appI (ys:=[(i:Int)]) st 0 rfl (by simp only [List.length_singleton];omega) fun q' G' hq' st=>?_
   rw [← hsucc] at st ⊢
   exact ⟨(i+1,q',G'),⟨by simp only;omega,st⟩,by simp only;omega,.refl _,.refl _,Heap.le_refl _⟩
  ·rw [if_neg (by rw [h2];simp)] at hsucc
   refine ⟨(i+1,q,G),⟨by simp only;omega,by rw [hsucc];exact st⟩,by simp only;omega,?_,.refl _,Heap.le_refl _⟩
   rw [hsucc];exact .refl _
 ·have:i=nF f:=by omega
  subst this
  exact wkK.keep (h q G (st.get 0 rfl) (by simpa [cT_] using st.new))
theorem tr_root {f:List Sd}:(f.length:Int) - 1∈tr f:=by rw [tr,sc_mem,trL];simp
theorem rooted1_at {f:List Sd} {b:Bool} (g:GoodFm f) {H:Heap} {r5 r2 r3:Nat} (h5:H r5=some [Is (tr f)]) (h2:H r2=some [Ds f]) (h3:H r3=some [B b]) (x:Nat) :
  PuAt Tryz.prog 130 [I x,.ptr r5 0,.ptr r2 0,.ptr r3 0] H (B (rooB f b x)):=by
 have hl:=g.l1
 have htl:=tr_len f
 intro K hK
 have e1:IntKind.i64.wrap ((f.length:Int) - 1)=(f.length:Int) - 1:=i6_ (by omega) (by omega)
 refine W130_ok ?_;simp (maxSteps:=1000000) (disch:=first | assumption | (apply ν6;assumption)) only [W130,vz,vu,vv,eqS,eF_,↓c1_,↓c2_,tabs,reduceCtorEq,ι5,↓reduceIte,ν1,ν2,ν3,ν4,ν5,ι1,ι2,ι3,ι4,lA_ h5,lA_ h2,lA_ h3,e1]
 refine Pu.use (assumes_spec (tr f) x _ (by omega) tr_root) ?_
 (try simp (maxSteps:=1000000) (disch:=first | assumption | (apply ν6;assumption)) only [vz,vu,vv,eqS,eF_,↓c1_,↓c2_,tabs,reduceCtorEq,ι5,↓reduceIte,ν1,ν2,ν3,ν4,ν5,ι1,ι2,ι3,ι4,lA_ h5,lA_ h2,lA_ h3])
 have e2:rooB f b x=(saysF (tr f) x ((f.length:Int) - 1)==b):=rfl
 rw [e2] at hK
 first | exact hK | simpa using hK
theorem rooted_row (f:List Sd) (b:Bool) (g:GoodFm f) (ht:(tr f).length≤5) {H:Heap} {K:AV→Heap→Prop}
  (h:∀q G,G q=some (cP fI (gw (nF f) (rooB f b)))→New H G [q]→K (rowP q (gw (nF f) (rooB f b))) G):CallT Tryz.prog 103 [Ds f,B b] H K:=by
 refine W103_ok ?_;simp (maxSteps:=1000000) (disch:=first | assumption | (apply ν6;assumption)) only [W103,vz,vu,vv,eqS,eF_,↓c1_,↓c2_,tabs,reduceCtorEq,ι5,↓reduceIte,ν1,ν2,ν3,ν4,ν5,ι1,ι2,ι3,ι4]
 intro r2 hr2 r3 n3 hr3
 have st:=((St.nil H).cell hr2 [Ds f]).cell (r:=r3) (by rw [Heap.set_other n3];exact hr3) [B b]
 generalize (H.set r2 [Ds f]).set r3 [B b]=G at st ⊢
 clear hr2 hr3 n3
 (try simp (maxSteps:=1000000) (disch:=first | assumption | (apply ν6;assumption)) only [vz,vu,vv,eqS,eF_,↓c1_,↓c2_,tabs,reduceCtorEq,ι5,↓reduceIte,ν1,ν2,ν3,ν4,ν5,ι1,ι2,ι3,ι4,lA_ (st.get 1 rfl)])
 refine Pu.use (tracked_spec f g) ?_
 (try simp (maxSteps:=1000000) (disch:=first | assumption | (apply ν6;assumption)) only [vz,vu,vv,eqS,eF_,↓c1_,↓c2_,tabs,reduceCtorEq,ι5,↓reduceIte,ν1,ν2,ν3,ν4,ν5,ι1,ι2,ι3,ι4])
 intro r5 hr5
 replace st:=st.cell hr5 [Is (tr f)]
 generalize G.set r5 [Is (tr f)]=G1 at st ⊢
 (try simp (maxSteps:=1000000) (disch:=first | assumption | (apply ν6;assumption)) only [vz,vu,vv,eqS,eF_,↓c1_,↓c2_,tabs,reduceCtorEq,ι5,↓reduceIte,ν1,ν2,ν3,ν4,ν5,ι1,ι2,ι3,ι4,lA_ (st.get 2 rfl)])
 refine guessesWith_at f g ht 130 _ (rooB f b) (fun x G2 hx hle=>rooted1_at g (hle _ _ (st.get 0 rfl)) (hle _ _ (st.get 2 rfl)) (hle _ _ (st.get 1 rfl)) x) fun q G2 hq hn=>?_
 have st2:=(st.push (cT_ q _) hn hq).sub (Us:=[cT_ q (cP fI (gw (nF f) (rooB f b)))]) (by simp)
 exact h q G2 hq (by simpa [cT_] using st2.new)
theorem goals1_at {f:List Sd} (g:GoodFm f) {i:Nat} (hi:i < f.length) (hop:isUR f i=true) {H:Heap} {r5 r6 r4 r7:Nat} (h5:H r5=some [Is (tr f)]) (h6:H r6=some [I i]) (h4:H r4=some [Ls (opsA f f.length)]) (h7:H r7=some [I (f.getD i default).op,I (f.getD i default).n]) (x:Nat) :
  PuAt Tryz.prog 132 [I x,.ptr r5 0,.ptr r6 0,.ptr r4 0,.ptr r7 0] H (B (goalP f i x)):=by
 have hl:=g.l1
 have htl:=tr_len f
 have hop':(f.getD i default).op=7∨(f.getD i default).op=8:=by
  unfold isUR at hop
  rwa [Bool.or_eq_true,decide_eq_true_eq,decide_eq_true_eq] at hop
 have hn2:need (f.getD i default).op=2:=by rcases hop' with h | h<;>rw [h]<;>rfl
 obtain ⟨a,b,c,_⟩:=tst2 g hi hn2
 have hog:=opsA_get f hi
 have hops:opsF f i=[(lft f i:Int),(i:Int) - 1]:=by rw [opsF,if_neg (by omega),if_neg (by omega),lft];congr 1;omega
 have hl2:(opsF f i).length=2:=by rw [hops];rfl
 have hg1:(opsF f i).getD 1 default=(i:Int) - 1:=by rw [hops];rfl
 clear hops
 generalize opsF f i=ops at hog hl2 hg1
 have hol:=opsA_len f f.length
 have m1:(i:Int)∈tr f:=tr_mem0 hi _ (by rw [trAt,if_pos hop'];simp)
 have m2:(i:Int) - 1∈tr f:=tr_mem0 hi _ (by rw [trAt,if_pos hop'];simp)
 have hg:goalP f i x=((decide ((f.getD i default).op=7) && (!saysF (tr f) x i || saysF (tr f) x ((i:Int) - 1))) || (decide ((f.getD i default).op=8) && (saysF (tr f) x i || !saysF (tr f) x ((i:Int) - 1)))):=rfl
 intro K hK
 rw [hg] at hK
 clear hg hn2
 generalize f.getD i default=y at h7 hop' hK
 refine W132_ok ?_;simp (maxSteps:=1000000) (disch:=first | assumption | (apply ν6;assumption)) only [W132,vz,vu,vv,eqS,eF_,↓c1_,↓c2_,tabs,reduceCtorEq,ι5,↓reduceIte,ν1,ν2,ν3,ν4,ν5,ι1,ι2,ι3,ι4,lA_ h5,lA_ h6,lA_ h4,lA_ h7,hog,hg1]
 refine ⟨by omega,by omega,by omega,by omega,?_⟩
 refine Pu.use (assumes_spec (tr f) x _ (by omega) m1) ?_
 (try simp (maxSteps:=1000000) (disch:=first | assumption | (apply ν6;assumption)) only [vz,vu,vv,eqS,eF_,↓c1_,↓c2_,tabs,reduceCtorEq,ι5,↓reduceIte,ν1,ν2,ν3,ν4,ν5,ι1,ι2,ι3,ι4,lA_ h5,lA_ h6,lA_ h4,lA_ h7,hog,hg1])
 refine Pu.use (assumes_spec (tr f) x _ (by omega) m2) ?_
 generalize saysF (tr f) x i=own at hK ⊢
 generalize saysF (tr f) x ((i:Int) - 1)=sec at hK ⊢
 (try simp (maxSteps:=1000000) (disch:=first | assumption | (apply ν6;assumption)) only [vz,vu,vv,eqS,eF_,↓c1_,↓c2_,tabs,reduceCtorEq,ι5,↓reduceIte,ν1,ν2,ν3,ν4,ν5,ι1,ι2,ι3,ι4,lA_ h7])
 rcases hop' with h | h<;>rw [h] at hK ⊢<;>cases own<;>cases sec<;>simpa using hK
theorem goalsOf_row (f:List Sd) (g:GoodFm f) (ht:(tr f).length≤5) {H:Heap} {K:AV→Heap→Prop}
  (h:∀q G D,LII (goalsK f f.length) (.sl q 1 0 (goalsK f f.length).length) G D→New H G D→K (.sl q 1 0 (goalsK f f.length).length) G):CallT Tryz.prog 104 [Ds f] H K:=by
 have hl:=g.l1
 refine CallT.fin ?_
 refine W104_ok ?_;simp (maxSteps:=1000000) (disch:=first | assumption | (apply ν6;assumption)) only [W104,vz,vu,vv,eqS,eF_,↓c1_,↓c2_,tabs,reduceCtorEq,ι5,↓reduceIte,ν1,ν2,ν3,ν4,ν5,ι1,ι2,ι3,ι4]
 refine lit0G fun q0 hq0=>?_
 have st:=rg_new (St.nil H) hq0
 generalize H.set q0 []=G at st ⊢
 refine Pu.use (operandIndexes_spec f g) ?_
 (try simp (maxSteps:=1000000) (disch:=first | assumption | (apply ν6;assumption)) only [vz,vu,vv,eqS,eF_,↓c1_,↓c2_,tabs,reduceCtorEq,ι5,↓reduceIte,ν1,ν2,ν3,ν4,ν5,ι1,ι2,ι3,ι4])
 refine Pu.use (tracked_spec f g) ?_
 (try simp (maxSteps:=1000000) (disch:=first | assumption | (apply ν6;assumption)) only [vz,vu,vv,eqS,eF_,↓c1_,↓c2_,tabs,reduceCtorEq,ι5,↓reduceIte,ν1,ν2,ν3,ν4,ν5,ι1,ι2,ι3,ι4])
 intro r4 hr4 r5 n5 hr5
 replace st:=(st.cell hr4 [.p .nil]).cell (r:=r5) (by rw [Heap.set_other n5];exact hr5) [.p .nil]
 generalize (G.set r4 [.p .nil]).set r5 [.p .nil]=G0 at st ⊢
 clear hr4 hr5 n5
 (try simp (maxSteps:=1000000) (disch:=first | assumption | (apply ν6;assumption)) only [vz,vu,vv,eqS,eF_,↓c1_,↓c2_,tabs,reduceCtorEq,ι5,↓reduceIte,ν1,ν2,ν3,ν4,ν5,ι1,ι2,ι3,ι4,sA_ (st.get 1 rfl)])
 replace st:=st.put 1 rfl [Ls (opsA f f.length)]
 generalize G0.set r4 [Ls (opsA f f.length)]=G0 at st ⊢
 (try simp (maxSteps:=1000000) (disch:=first | assumption | (apply ν6;assumption)) only [vz,vu,vv,eqS,eF_,↓c1_,↓c2_,tabs,reduceCtorEq,ι5,↓reduceIte,ν1,ν2,ν3,ν4,ν5,ι1,ι2,ι3,ι4,sA_ (st.get 0 rfl)])
 replace st:=st.put 0 rfl [Is (tr f)]
 generalize G0.set r5 [Is (tr f)]=G1 at st ⊢
 refine L104_0_rule ((0:Nat),(.sl q0 1 0 0:AV),[q0],G1) (fun s=>s.2.1) (fun s=>I s.1) (fun s=>s.2.2.2)
  (fun s=>s.1≤f.length∧(s.2.1≠.p .nil)∧St H [cT_ r5 [Is (tr f)],cT_ r4 [Ls (opsA f f.length)],rnG s.2.1 (goalsK f s.1) s.2.2.1] s.2.2.2) (fun s=>f.length - s.1)
  ⟨⟨by simp,by simp,st⟩,.refl _,.refl _,Heap.le_refl _⟩ ?_
 clear st
 rintro ⟨i,x,D,G⟩ ⟨hi,hx,st⟩
 dsimp only at hi st hx
 have e5:IntKind.i64.wrap ((i:Int)+1)=((i+1:Nat):Int):=by rw [i6_ (by omega) (by omega)];simp
 (try simp (maxSteps:=1000000) (disch:=first | assumption | (apply ν6;assumption)) only [vz,vu,vv,eqS,eF_,↓c1_,↓c2_,tabs,reduceCtorEq,ι5,↓reduceIte,ν1,ν2,ν3,ν4,ν5,ι1,ι2,ι3,ι4,B104_0])
 refine ⟨fun h1=>⟨by omega,h1,?_⟩,fun h1=>?_⟩
 ·have hlt:i < f.length:=by omega
  have hsucc:=goalsK_succ f i
  have hgl:=goalsK_len f i
  intro r6 hr6 r7 n7 hr7
  replace st:=(st.cell hr6 [I 0]).cell (r:=r7) (by rw [Heap.set_other n7];exact hr7) [I 0,I 0]
  generalize (G.set r6 [I 0]).set r7 [I 0,I 0]=G2 at st ⊢
  clear hr6 hr7 n7
  (try simp (maxSteps:=1000000) (disch:=first | assumption | (apply ν6;assumption)) only [vz,vu,vv,eqS,eF_,↓c1_,↓c2_,tabs,reduceCtorEq,ι5,↓reduceIte,ν1,ν2,ν3,ν4,ν5,ι1,ι2,ι3,ι4,sA_ (st.get 1 rfl)])
  replace st:=st.put 1 rfl [I i]
  generalize G2.set r6 [I i]=G2 at st ⊢
  (try simp (maxSteps:=1000000) (disch:=first | assumption | (apply ν6;assumption)) only [vz,vu,vv,eqS,eF_,↓c1_,↓c2_,tabs,reduceCtorEq,ι5,↓reduceIte,ν1,ν2,ν3,ν4,ν5,ι1,ι2,ι3,ι4,sA_ (st.get 0 rfl)])
  replace st:=st.put 0 rfl [I (f.getD i default).op,I (f.getD i default).n]
  generalize G2.set r7 [I (f.getD i default).op,I (f.getD i default).n]=G2 at st ⊢
  have key:∀N:AV→AV→Heap→Prop,isUR f i=true→(∀q' D' G',St H [cT_ r5 [Is (tr f)],cT_ r4 [Ls (opsA f f.length)],rnG (.sl q' 1 0 ((goalsK f i).length+1)) (goalsK f (i+1)) D'] G'→N (.sl q' 1 0 ((goalsK f i).length+1)) (I ((i+1:Nat):Int)) G')→
    J104_1 (wkK K) N (Ds f) x (.ptr r4 0) (.ptr r5 0) (.ptr r6 0) (.ptr r7 0) (Ds f) (I f.length) (I i) G2:=by
   intro N hur hN
   rw [if_pos hur] at hsucc
   (try simp (maxSteps:=1000000) (disch:=first | assumption | (apply ν6;assumption)) only [vz,vu,vv,eqS,eF_,↓c1_,↓c2_,tabs,reduceCtorEq,ι5,↓reduceIte,ν1,ν2,ν3,ν4,ν5,ι1,ι2,ι3,ι4,J104_1,e5])
   refine guessesWith_at f g ht 132 _ (goalP f i) (fun y G3 hy hle=>goals1_at g hlt hur (hle _ _ (st.get 2 rfl)) (hle _ _ (st.get 1 rfl)) (hle _ _ (st.get 3 rfl)) (hle _ _ (st.get 0 rfl)) y) fun qn G3 hqn hn=>?_
   replace st:=st.push (cT_ qn _) hn hqn
   refine lit_live1 fun ql hql=>?_
   replace st:=st.cell hql [rowP qn (gw (nF f) (goalP f i))]
   generalize G3.set ql [.sl qn 1 0 (gw (nF f) (goalP f i)).length]=G4 at st ⊢
   refine rn_pushL st 4 rfl (by omega) fun q' D' G5 hq' st=>?_
   rw [← hsucc] at st
   exact hN _ _ _ st.drop.drop
  have fin:isUR f i=true→J104_1 (wkK K) (fun w3 w15 H'=>∃s':Nat×AV×List Nat×Heap,(s'.1≤f.length∧¬(s'.2.1=.p .nil)∧St H [cT_ r5 [Is (tr f)],cT_ r4 [Ls (opsA f f.length)],rnG s'.2.1 (goalsK f s'.1) s'.2.2.1] s'.2.2.2)∧f.length - s'.1 < f.length - i∧AV.wk w3 s'.2.1∧AV.wk w15 (I s'.1)∧Heap.le s'.2.2.2 H') (Ds f) x (.ptr r4 0) (.ptr r5 0) (.ptr r6 0) (.ptr r7 0) (Ds f) (I f.length) (I i) G2:=
   fun hur=>key _ hur fun q' D' G' st=>⟨(i+1,_,D',G'),⟨by simp only;omega,by simp,st⟩,by simp only;omega,.refl _,.refl _,Heap.le_refl _⟩
  (try simp (maxSteps:=1000000) (disch:=first | assumption | (apply ν6;assumption)) only [vz,vu,vv,eqS,eF_,↓c1_,↓c2_,tabs,reduceCtorEq,ι5,↓reduceIte,ν1,ν2,ν3,ν4,ν5,ι1,ι2,ι3,ι4,lA_ (st.get 0 rfl),e5])
  refine ⟨fun h7=>⟨fun h8=>?_,fun h8=>fin (by unfold isUR;rw [h8];rfl)⟩,fun h7=>fin (by unfold isUR;rw [h7];rfl)⟩
  rw [if_neg (by unfold isUR;rw [decide_eq_false h7,decide_eq_false h8];decide)] at hsucc
  exact ⟨(i+1,x,D,G2),⟨by simp only;omega,hx,by rw [hsucc];exact st.drop.drop⟩,by simp only;omega,.refl _,.refl _,Heap.le_refl _⟩
 ·have:i=f.length:=by omega
  subst this
  have hr:RN LIc 1 x (goalsK f f.length) G D:=st.get 2 rfl
  rcases hr with ⟨h2,_⟩ | hr
  ·exact absurd h2 hx
  ·obtain ⟨q,rfl⟩:=LRow.sl hr
   have st2:=st.sub (Us:=[rnG (.sl q 1 0 (goalsK f f.length).length) (goalsK f f.length) D]) (by simp)
   exact wkK.keep (h q G D hr (by simpa [rnT] using st2.new))
theorem autoFor_live (f:List Sd) (b:Bool) (g:GoodFm f) (ht:(tr f).length≤5) {H:Heap} {K:AV→Heap→Prop}
  (h:∀v G D,LAu (autoB f b) v G D→New H G D→K v G):CallT Tryz.prog 62 [Ds f,B b] H K:=by
 have hb:=nF_bd ht
 refine CallT.fin ?_
 refine CallT.ghost W62_hb fun z hz=>?_
 have st:=lent (LPl.local eE) (LPl.has eE) 3 ((St.nil H).cell hz []) 0 rfl
 generalize H.set z []=G at st ⊢
 refine W62_ok ?_;simp (maxSteps:=1000000) (disch:=first | assumption | (apply ν6;assumption)) only [W62,vz,vu,vv,eqS,eF_,↓c1_,↓c2_,tabs,reduceCtorEq,ι5,↓reduceIte,ν1,ν2,ν3,ν4,ν5,ι1,ι2,ι3,ι4]
 intro r4 hr4
 replace st:=st.cell hr4 [I 0,.p .nil,.p .nil,.p .nil]
 generalize G.set r4 [I 0,.p .nil,.p .nil,.p .nil]=G1 at st ⊢
 refine Pu.use (guesses_spec f g ht) ?_
 rw [nF_int]
 (try simp (maxSteps:=1000000) (disch:=first | assumption | (apply ν6;assumption)) only [vz,vu,vv,eqS,eF_,↓c1_,↓c2_,tabs,reduceCtorEq,ι5,↓reduceIte,ν1,ν2,ν3,ν4,ν5,ι1,ι2,ι3,ι4])
 refine rooted_row f b g ht fun q1 G2 hq1 hn1=>?_
 replace st:=st.push (cT_ q1 _) hn1 hq1
 (try simp (maxSteps:=1000000) (disch:=first | assumption | (apply ν6;assumption)) only [vz,vu,vv,eqS,eF_,↓c1_,↓c2_,tabs,reduceCtorEq,ι5,↓reduceIte,ν1,ν2,ν3,ν4,ν5,ι1,ι2,ι3,ι4])
 refine goalsOf_row f g ht fun q3 G3 D3 hl3 hn3=>?_
 replace st:=st.push (rgT 0 _ (goalsK f f.length) D3) hn3 (.inr hl3)
 (try simp (maxSteps:=1000000) (disch:=first | assumption | (apply ν6;assumption)) only [vz,vu,vv,eqS,eF_,↓c1_,↓c2_,tabs,reduceCtorEq,ι5,↓reduceIte,ν1,ν2,ν3,ν4,ν5,ι1,ι2,ι3,ι4])
 intro r5 hr5
 replace st:=st.cell hr5 [I (nF f),rowP q1 (gw (nF f) (rooB f b)),.p .nil,.sl q3 1 0 (goalsK f f.length).length]
 generalize G3.set r5 _=G4 at st ⊢
 clear hr4 hq1 hn1 hl3 hn3 hr5
 refine L62_0_rule ((0:Nat),(.p .nil:AV),[z],G4) (fun s=>I s.1) (fun s=>s.2.2.2)
  (fun s=>s.1≤8∧St H [cT_ r5 [I (nF f),rowP q1 (gw (nF f) (rooB f b)),s.2.1,.sl q3 1 0 (goalsK f f.length).length],rgT 0 (.sl q3 1 0 (goalsK f f.length).length) (goalsK f f.length) D3,cT_ q1 (cP fI (gw (nF f) (rooB f b))),cT_ r4 [I 0,.p .nil,.p .nil,.p .nil],reT z s.2.1 (eIs f s.1) s.2.2.1] s.2.2.2) (fun s=>8 - s.1)
  ⟨⟨by simp,st⟩,.refl _,Heap.le_refl _⟩ ?_
 clear st
 rintro ⟨l,x,D,G⟩ ⟨hl,st⟩
 dsimp only at hl st
 have hel:=eIs_len f l
 have hlm:l*nF f≤8*32:=Nat.mul_le_mul hl hb.2
 have e5:IntKind.i64.wrap ((l:Int)+1)=((l+1:Nat):Int):=by rw [i6_ (by omega) (by omega)];simp
 (try simp (maxSteps:=1000000) (disch:=first | assumption | (apply ν6;assumption)) only [vz,vu,vv,eqS,eF_,↓c1_,↓c2_,tabs,reduceCtorEq,ι5,↓reduceIte,ν1,ν2,ν3,ν4,ν5,ι1,ι2,ι3,ι4,B62_0,lA_ (st.get 0 rfl)])
 refine ⟨fun h1=>?_,fun h1=>?_⟩
 ·refine L62_1_rule ((0:Nat),x,D,G) (fun s=>I s.1) (fun s=>s.2.2.2)
   (fun s=>s.1≤nF f∧St H [cT_ r5 [I (nF f),rowP q1 (gw (nF f) (rooB f b)),s.2.1,.sl q3 1 0 (goalsK f f.length).length],rgT 0 (.sl q3 1 0 (goalsK f f.length).length) (goalsK f f.length) D3,cT_ q1 (cP fI (gw (nF f) (rooB f b))),cT_ r4 [I 0,.p .nil,.p .nil,.p .nil],reT z s.2.1 (eIs f l++eI0 f l s.1) s.2.2.1] s.2.2.2) (fun s=>nF f - s.1)
   ⟨⟨by simp,by simpa [eI0] using st⟩,.refl _,Heap.le_refl _⟩ ?_
  clear st x D
  rintro ⟨n,x,D,G⟩ ⟨hn,st⟩
  dsimp only at hn st
  have e6:IntKind.i64.wrap ((n:Int)+1)=((n+1:Nat):Int):=by rw [i6_ (by omega) (by omega)];simp
  (try simp (maxSteps:=1000000) (disch:=first | assumption | (apply ν6;assumption)) only [vz,vu,vv,eqS,eF_,↓c1_,↓c2_,tabs,reduceCtorEq,ι5,↓reduceIte,ν1,ν2,ν3,ν4,ν5,ι1,ι2,ι3,ι4,B62_1,lA_ (st.get 0 rfl)])
  refine ⟨fun h2=>?_,fun h2=>?_⟩
  ·refine Pu.use (guessOf_spec f g l n (by omega)) ?_
   (try simp (maxSteps:=1000000) (disch:=first | assumption | (apply ν6;assumption)) only [vz,vu,vv,eqS,eF_,↓c1_,↓c2_,tabs,reduceCtorEq,ι5,↓reduceIte,ν1,ν2,ν3,ν4,ν5,ι1,ι2,ι3,ι4,lA_ (st.get 0 rfl)])
   refine lit_edge (x:=edI f l n) ?_
   have hl0:=eI0_len f l n
   (try simp (maxSteps:=1000000) (disch:=first | assumption | (apply ν6;assumption)) only [vz,vu,vv,eqS,eF_,↓c1_,↓c2_,tabs,reduceCtorEq,ι5,↓reduceIte,ν1,ν2,ν3,ν4,ν5,ι1,ι2,ι3,ι4,lA_ (st.get 0 rfl)])
   refine rz_appE (ys:=[edI f l n]) st 4 rfl (by simp only [List.length_cons,List.length_nil,List.length_append];omega) fun q' G' hq' st=>?_
   rw [List.append_assoc,← eI0_succ] at st ⊢
   obtain ⟨es',hes⟩:∃es',eIs f l++eI0 f l (n+1)=es':=⟨_,rfl⟩
   rw [hes] at st ⊢
   (try simp (maxSteps:=1000000) (disch:=first | assumption | (apply ν6;assumption)) only [vz,vu,vv,eqS,eF_,↓c1_,↓c2_,tabs,reduceCtorEq,ι5,↓reduceIte,ν1,ν2,ν3,ν4,ν5,ι1,ι2,ι3,ι4,sA_ (st.get 0 rfl),e6])
   replace st:=st.put 0 rfl [I (nF f),rowP q1 (gw (nF f) (rooB f b)),rowE q' es',.sl q3 1 0 (goalsK f f.length).length]
   rw [← hes] at st
   exact ⟨(n+1,_,[q'],_),⟨by simp only;omega,st⟩,by simp only;omega,.refl _,by rw [hes];exact Heap.le_refl _⟩
  ·have:n=nF f:=by omega
   subst this
   rw [← eIs_succ] at st
   (try simp (maxSteps:=1000000) (disch:=first | assumption | (apply ν6;assumption)) only [vz,vu,vv,eqS,eF_,↓c1_,↓c2_,tabs,reduceCtorEq,ι5,↓reduceIte,ν1,ν2,ν3,ν4,ν5,ι1,ι2,ι3,ι4,e5])
   exact ⟨(l+1,x,D,G),⟨by simp only;omega,st⟩,by simp only;omega,.refl _,Heap.le_refl _⟩
 ·have:l=8:=by omega
  subst this
  refine rz_sortE st 4 rfl (by omega) fun G' st=>?_
  rw [srt_eIs ht] at st
  have hx:=RZ.sl (st.get 4 rfl:RZ (LPl eE) 3 z x _ G' D)
  (try simp (maxSteps:=1000000) (disch:=first | assumption | (apply ν6;assumption)) only [vz,vu,vv,eqS,eF_,↓c1_,↓c2_,tabs,reduceCtorEq,ι5,↓reduceIte,ν1,ν2,ν3,ν4,ν5,ι1,ι2,ι3,ι4,lA_ (st.get 0 rfl),sA_ (st.get 3 rfl)])
  replace st:=st.put 3 rfl [I (nF f),rowP q1 (gw (nF f) (rooB f b)),x,.sl q3 1 0 (goalsK f f.length).length]
  obtain ⟨x',y',w',hw,hl,hn⟩:=rz_auto (nF f) (owned_i st 2 rfl) 2 4 1 rfl rfl rfl (by decide) (by decide) (by decide)
  refine ⟨by rcases hx with rfl | ⟨q,rfl⟩<;>rfl,?_⟩
  exact ⟨_,_,.val hw,h _ _ _ hl hn⟩
end Go.Proofs.YtolffbcnbcjeaaaGreat
namespace Go.Proofs.YtolffbcnbcjeaaaGreat
open Go Go.Sep Go.Pt
attribute [local irreducible] CallT
def afR (f:List Sd):Au×Bool:=if goodT f then (autoB f true,true) else (zeroA,false)
theorem AutoFor_impl (f:List Sd) (hl:f.length≤1048576) {H:Heap} {K:AV→Heap→Prop} (h:∀v G D,LAu (afR f).1 v G D→New H G D→K (.tup [v,B (afR f).2]) G):CallT Tryz.prog 55 [Ds f] H K:=by
 refine CallT.fin ?_
 refine lend3 (St.nil H) W55_hb fun z1 z2 z3 G st=>?_
 refine W55_ok ?_;simp (maxSteps:=1000000) (disch:=first | assumption | (apply ν6;assumption)) only [W55,vz,vu,vv,eqS,eF_,↓c1_,↓c2_,tabs,reduceCtorEq,ι5,↓reduceIte,ν1,ν2,ν3,ν4,ν5,ι1,ι2,ι3,ι4]
 intro r hr
 replace st:=st.cell hr [I 0,.p .nil,.p .nil,.p .nil]
 generalize G.set r [I 0,.p .nil,.p .nil,.p .nil]=G at st ⊢
 refine Pu.use (isTracked_spec f hl) ?_
 cases ht:goodT f
 ·have er:afR f=(zeroA,false):=by simp [afR,ht]
  rw [er] at h
  (try simp (maxSteps:=1000000) (disch:=first | assumption | (apply ν6;assumption)) only [vz,vu,vv,eqS,eF_,↓c1_,↓c2_,tabs,reduceCtorEq,ι5,↓reduceIte,ν1,ν2,ν3,ν4,ν5,ι1,ι2,ι3,ι4,sA_ (st.get 0 rfl)])
  exact zero_st (st.put 0 rfl [I 0,.p .nil,.p .nil,.p .nil]) 1 2 3 rfl rfl rfl (by decide) (by decide) (by decide) h
 obtain ⟨g,h5⟩:=goodT_facts ht
 have er:afR f=(autoB f true,true):=by simp [afR,ht]
 rw [er] at h
 (try simp (maxSteps:=1000000) (disch:=first | assumption | (apply ν6;assumption)) only [vz,vu,vv,eqS,eF_,↓c1_,↓c2_,tabs,reduceCtorEq,ι5,↓reduceIte,ν1,ν2,ν3,ν4,ν5,ι1,ι2,ι3,ι4])
 refine autoFor_live f true g h5 fun v G1 D lv nv=>?_
 have hsm:=autoB_sm (b:=true) h5
 have hgo:=autoB_good (b:=true) h5
 dsimp only at h
 generalize autoB f true=a at h lv hsm hgo
 replace st:=st.push (auT a v D) nv lv
 refine checkedAuto_live (o:=a) (st.get 0 rfl) (st.ndT 0 rfl) hsm (fun _=>?_) (fun hg=>by rw [hgo] at hg;cases hg)
 obtain ⟨o1,o2,o3,rfl⟩:=aAu_cells lv
 (try simp (maxSteps:=1000000) (disch:=first | assumption | (apply ν6;assumption)) only [vz,vu,vv,eqS,eF_,↓c1_,↓c2_,tabs,reduceCtorEq,ι5,↓reduceIte,ν1,ν2,ν3,ν4,ν5,ι1,ι2,ι3,ι4,sA_ (st.get 1 rfl)])
 obtain ⟨hl,hn⟩:=au_new (st.put 1 rfl [I a.states,.sl o1 1 0 a.first.length,.sl o2 3 0 a.edges.length,.sl o3 1 0 a.goals.length]) 0 rfl
 exact wkK.keep (h _ _ _ hl hn)
theorem l13Goals_spec (f:List Sd) (g:GoodFm f) (ht:(tr f).length≤5):Pu Tryz.prog 93 [Ds f,Is (tr f)] (Ls (goalsK f f.length)):=by
 have hl:=g.l1
 have hb:=nF_bd ht
 refine ⟨fun H=>CallT.fin ?_⟩
 refine W93_ok ?_;simp (maxSteps:=1000000) (disch:=first | assumption | (apply ν6;assumption)) only [W93,vz,vu,vv,eqS,eF_,↓c1_,↓c2_,tabs,reduceCtorEq,ι5,↓reduceIte,ν1,ν2,ν3,ν4,ν5,ι1,ι2,ι3,ι4]
 have st:=(St.nil H).push (rnG (.p .nil) [] []) (G':=H) ⟨by simp [rnT],fun y hy=>by simp [rnT] at hy,Heap.le_refl _⟩ (.inl ⟨rfl,rfl,rfl⟩)
 refine L93_0_ruleG ((0:Nat),(.p .nil:AV),([]:List Nat),H) (fun s=>s.2.1) (fun s=>I s.1) (fun s=>s.2.2.2)
  (fun s=>s.1≤f.length∧St H [rnG s.2.1 (goalsK f s.1) s.2.2.1] s.2.2.2) (fun s=>f.length - s.1)
  ⟨⟨by simp,st⟩,.refl _,.refl _,Heap.le_refl _⟩ ?_
 clear st
 rintro ⟨i,x,D,G⟩ ⟨hi,st⟩ z hz
 dsimp only at hi st hz ⊢
 replace st:=st.cell hz (cP fI [])
 change St H (cT_ z (cP fI [])::_) (G.set z []) at st
 generalize G.set z []=G at st ⊢
 have e5:IntKind.i64.wrap ((i:Int)+1)=((i+1:Nat):Int):=by rw [i6_ (by omega) (by omega)];simp
 have e6:IntKind.i64.wrap ((i:Int) - 1)=(i:Int) - 1:=i6_ (by omega) (by omega)
 (try simp (maxSteps:=1000000) (disch:=first | assumption | (apply ν6;assumption)) only [vz,vu,vv,eqS,eF_,↓c1_,↓c2_,tabs,reduceCtorEq,ι5,↓reduceIte,ν1,ν2,ν3,ν4,ν5,ι1,ι2,ι3,ι4,B93_0])
 refine ⟨fun h1=>⟨by omega,h1,?_⟩,fun h1=>?_⟩
 ·have hlt:i < f.length:=by omega
  have hsucc:=goalsK_succ f i
  have hgl:=goalsK_len f i
  have hur:isUR f i=(decide ((f.getD i default).op=7) || decide ((f.getD i default).op=8)):=rfl
  have hgp:∀y,goalP f i y=((decide ((f.getD i default).op=7) && (!saysF (tr f) y i || saysF (tr f) y ((i:Int) - 1))) || (decide ((f.getD i default).op=8) && (saysF (tr f) y i || !saysF (tr f) y ((i:Int) - 1)))):=fun y=>rfl
  generalize f.getD i default=y at hur hgp ⊢
  intro r7 hr7
  replace st:=st.cell hr7 [I y.op,I y.n]
  generalize G.set r7 [I y.op,I y.n]=G2 at st ⊢
  clear hr7
  have htl:(tr f).length≤1000:=by omega
  have eu:IntKind.u64.wrap ((tr f).length:Int)=(tr f).length:=by rw [IntKind.wrap_u64];omega
  have hN:=nF_int f
  have ew:IntKind.i64.wrap (1*2^(min (tr f).length IntKind.i64.bits))=(nF f:Int):=by
   rw [Nat.min_eq_left (by show (tr f).length≤64;omega),Int.one_mul,hN,i6_ (by omega) (by omega)]
  have key:∀N:AV→AV→Heap→Prop,y.op=7∨y.op=8→(∀q' D' G',St H [rnG (.sl q' 1 0 ((goalsK f i).length+1)) (goalsK f (i+1)) D'] G'→N (.sl q' 1 0 ((goalsK f i).length+1)) (I ((i+1:Nat):Int)) G')→
    L93_1 (wkK fun r H'=>r=Ls (goalsK f f.length)∧H'=H) N (Is (tr f)) x (I i) (.ptr r7 0) (.p .nil) (I 0) (Ds f) (I f.length) (I i) G2:=by
   intro N hop hN
   rw [if_pos (by rw [hur,Bool.or_eq_true,decide_eq_true_eq,decide_eq_true_eq];exact hop)] at hsucc
   generalize y.op=o at hop st hur hgp
   refine L93_1_rule ((0:Nat),z,G2) (fun s=>rowP s.2.1 (gw s.1 (goalP f i))) (fun s=>I s.1) (fun s=>s.2.2)
    (fun s=>s.1≤nF f∧St H [cT_ r7 [I o,I y.n],cT_ s.2.1 (cP fI (gw s.1 (goalP f i))),rnG x (goalsK f i) D] s.2.2) (fun s=>nF f - s.1) ⟨⟨by simp,st⟩,.nilo _ _ _,.refl _,Heap.le_refl _⟩ ?_
   clear st
   rintro ⟨n,q,G⟩ ⟨hn,st⟩
   dsimp only at hn st
   have e7:IntKind.i64.wrap ((n:Int)+1)=((n+1:Nat):Int):=by rw [i6_ (by omega) (by omega)];simp
   have hq:=gw_succ n (goalP f i)
   have hql:=gw_len n (goalP f i)
   rw [hgp n] at hq
   have yes:∀N2:AV→AV→Heap→Prop,(∀q' G',St H [cT_ r7 [I o,I y.n],cT_ q' (cP fI (gw n (goalP f i)++[(n:Int)])),rnG x (goalsK f i) D] G'→N2 (rowP q' (gw n (goalP f i)++[(n:Int)])) (I ((n+1:Nat):Int)) G')→
     J93_2 (wkK fun r H'=>r=Ls (goalsK f f.length)∧H'=H) N N2 (Is (tr f)) x (I i) (.ptr r7 0) (rowP q (gw n (goalP f i))) (I n) (Ds f) (I f.length) (I i) G:=by
    intro N2 h2
    (try simp (maxSteps:=1000000) (disch:=first | assumption | (apply ν6;assumption)) only [vz,vu,vv,eqS,eF_,↓c1_,↓c2_,tabs,reduceCtorEq,ι5,↓reduceIte,ν1,ν2,ν3,ν4,ν5,ι1,ι2,ι3,ι4,J93_2,e7])
    refine lit1 tab_22 rfl tab_3 ⟨rfl,rfl⟩ ?_
    exact st_appI (ys:=[(n:Int)]) st 1 rfl (by simp only [List.length_singleton];omega) fun q' G' hq' st=>h2 _ _ st
   (try simp (maxSteps:=1000000) (disch:=first | assumption | (apply ν6;assumption)) only [vz,vu,vv,eqS,eF_,↓c1_,↓c2_,tabs,reduceCtorEq,ι5,↓reduceIte,ν1,ν2,ν3,ν4,ν5,ι1,ι2,ι3,ι4,B93_1,eu,Int.toNat_natCast,ew])
   refine ⟨by omega,fun h2=>?_,fun h2=>?_⟩
   ·refine Pu.use (l13Says_spec (tr f) n i htl) ?_
    (try simp (maxSteps:=1000000) (disch:=first | assumption | (apply ν6;assumption)) only [vz,vu,vv,eqS,eF_,↓c1_,↓c2_,tabs,reduceCtorEq,ι5,↓reduceIte,ν1,ν2,ν3,ν4,ν5,ι1,ι2,ι3,ι4,e6])
    refine Pu.use (l13Says_spec (tr f) n ((i:Int) - 1) htl) ?_
    generalize saysF (tr f) n i=own at hq ⊢
    generalize saysF (tr f) n ((i:Int) - 1)=sec at hq ⊢
    have ok:gw (n+1) (goalP f i)=gw n (goalP f i)++[(n:Int)]→∀(q':Nat) (G':Heap),St H [cT_ r7 [I o,I y.n],cT_ q' (cP fI (gw n (goalP f i)++[(n:Int)])),rnG x (goalsK f i) D] G'→∃s':Nat×Nat×Heap,(s'.1≤nF f∧St H [cT_ r7 [I o,I y.n],cT_ s'.2.1 (cP fI (gw s'.1 (goalP f i))),rnG x (goalsK f i) D] s'.2.2)∧nF f - s'.1 < nF f - n∧AV.wk (rowP q' (gw n (goalP f i)++[(n:Int)])) (rowP s'.2.1 (gw s'.1 (goalP f i)))∧AV.wk (I ((n+1:Nat):Int)) (I s'.1)∧Heap.le s'.2.2 G':=fun e q' G' st=>by
     rw [← e] at st ⊢
     exact ⟨(n+1,q',G'),⟨by simp only;omega,st⟩,by simp only;omega,.refl _,.refl _,Heap.le_refl _⟩
    have no:gw (n+1) (goalP f i)=gw n (goalP f i)→∃s':Nat×Nat×Heap,(s'.1≤nF f∧St H [cT_ r7 [I o,I y.n],cT_ s'.2.1 (cP fI (gw s'.1 (goalP f i))),rnG x (goalsK f i) D] s'.2.2)∧nF f - s'.1 < nF f - n∧AV.wk (rowP q (gw n (goalP f i))) (rowP s'.2.1 (gw s'.1 (goalP f i)))∧AV.wk (I ((n+1:Nat):Int)) (I s'.1)∧Heap.le s'.2.2 G:=fun e=>
     ⟨(n+1,q,G),⟨by simp only;omega,by rw [e];exact st⟩,by simp only;omega,by rw [e];exact .refl _,.refl _,Heap.le_refl _⟩
    clear hur hgp
    have e78:((7:Int)=8)=False:=by simp
    have e87:((8:Int)=7)=False:=by simp
    rcases hop with rfl | rfl<;>cases own<;>cases sec<;>((try simp (maxSteps:=1000000) (disch:=first | assumption | (apply ν6;assumption)) only [vz,vu,vv,eqS,eF_,↓c1_,↓c2_,tabs,reduceCtorEq,ι5,↓reduceIte,ν1,ν2,ν3,ν4,ν5,ι1,ι2,ι3,ι4,e78,e87,lA_ (st.get 0 rfl),J93_3,e7]))
    ·exact yes _ (ok (hq.trans (if_pos rfl)))
    ·exact yes _ (ok (hq.trans (if_pos rfl)))
    ·exact no (hq.trans (if_neg (by decide)))
    ·exact yes _ (ok (hq.trans (if_pos rfl)))
    ·refine lit1 tab_22 rfl tab_3 ⟨rfl,rfl⟩ ?_
     exact st_appI (ys:=[(n:Int)]) st 1 rfl (by simp only [List.length_singleton];omega) fun q' G' hq' st=>ok (hq.trans (if_pos rfl)) _ _ st
    ·exact no (hq.trans (if_neg (by decide)))
    ·exact yes _ (ok (hq.trans (if_pos rfl)))
    ·exact yes _ (ok (hq.trans (if_pos rfl)))
   ·have:n=nF f:=by omega
    subst this
    clear yes
    (try simp (maxSteps:=1000000) (disch:=first | assumption | (apply ν6;assumption)) only [vz,vu,vv,eqS,eF_,↓c1_,↓c2_,tabs,reduceCtorEq,ι5,↓reduceIte,ν1,ν2,ν3,ν4,ν5,ι1,ι2,ι3,ι4,e5])
    refine lit_live1 fun ql hql=>?_
    replace st:=st.drop.cell hql [rowP q (gw (nF f) (goalP f i))]
    generalize G.set ql [.sl q 1 0 (gw (nF f) (goalP f i)).length]=G4 at st ⊢
    refine rn_pushL st 0 rfl (by omega) fun q' D' G5 hq' st=>?_
    rw [← hsucc] at st
    exact hN _ _ _ st
  have fin:y.op=7∨y.op=8→L93_1 (wkK fun r H'=>r=Ls (goalsK f f.length)∧H'=H) (fun w5 w14 H'=>∃s':Nat×AV×List Nat×Heap,(s'.1≤f.length∧St H [rnG s'.2.1 (goalsK f s'.1) s'.2.2.1] s'.2.2.2)∧f.length - s'.1 < f.length - i∧AV.wk w5 s'.2.1∧AV.wk w14 (I s'.1)∧Heap.le s'.2.2.2 H') (Is (tr f)) x (I i) (.ptr r7 0) (.p .nil) (I 0) (Ds f) (I f.length) (I i) G2:=
   fun hop=>key _ hop fun q' D' G' st=>⟨(i+1,_,D',G'),⟨by simp only;omega,st⟩,by simp only;omega,.refl _,.refl _,Heap.le_refl _⟩
  (try simp (maxSteps:=1000000) (disch:=first | assumption | (apply ν6;assumption)) only [vz,vu,vv,eqS,eF_,↓c1_,↓c2_,tabs,reduceCtorEq,ι5,↓reduceIte,ν1,ν2,ν3,ν4,ν5,ι1,ι2,ι3,ι4,lA_ (st.get 0 rfl),e5])
  refine ⟨fun h7=>⟨fun h8=>?_,fun h8=>fin (.inr h8)⟩,fun h7=>fin (.inl h7)⟩
  rw [if_neg (by rw [hur,decide_eq_false h7,decide_eq_false h8];decide)] at hsucc
  exact ⟨(i+1,x,D,G2),⟨by simp only;omega,by rw [hsucc];exact st.drop.drop⟩,by simp only;omega,.refl _,.refl _,Heap.le_refl _⟩
 ·have:i=f.length:=by omega
  subst this
  exact fin_rows st 1 rfl
theorem fin_au {H G:Heap} {Ts:List Th} {z1 z2:Nat} {x y:AV} {l:List Int} {es:List Ed} {gs:List (List Int)} {D1 D2:List Nat} {n:Int} (s:St H Ts G) (i j:Nat) (hi:Ts[i]?=some (riT z1 x l D1)) (hj:Ts[j]?=some (reT z2 y es D2)) (hij:i≠j) :
  wkK (fun r H'=>r=.agg [I n,Is l,Es es,Ls gs]∧H'=H) (.agg [I n,x,y,Ls gs]) G:=by
 obtain ⟨x',hx,lx⟩:=(s.get i hi:RZ (LPl eI) 1 z1 x l G D1).row
 obtain ⟨y',hy,ly⟩:=(s.get j hj:RZ (LPl eE) 3 z2 y es G D2).row
 obtain ⟨q1,c1,E1,rfl,hq1,ll1,rfl⟩:=lx
 obtain ⟨q2,c2,E2,rfl,hq2,ll2,rfl⟩:=ly
 obtain ⟨rfl,rfl⟩:=LL.plain' ll1
 obtain ⟨rfl,rfl⟩:=LL.plain' ll2
 have hne:q2≠q1:=fun e=>s.disjI i j hi hj hij q1 (by simp [rzT]) (by simp [rzT,e])
 have f1:FrzR q1 1 (l.map eI) (.agg [I n,.sl q1 1 0 l.length,.sl q2 3 0 es.length,Ls gs]) (.agg [I n,Is l,.sl q2 3 0 es.length,Ls gs]):=by
  have:FrzR q1 1 (l.map eI) (.sl q1 1 0 (l.map eI).length) (.p (.sl (l.map eI))):=.here
  rw [List.length_map] at this
  exact .agg (.cons (.same _) (.cons this (.cons (.same _) (.cons (.same _) .nil))))
 have f2:FrzR q2 3 (es.map eE) (.agg [I n,Is l,.sl q2 3 0 es.length,Ls gs]) (.agg [I n,Is l,Es es,Ls gs]):=by
  have:FrzR q2 3 (es.map eE) (.sl q2 3 0 (es.map eE).length) (.p (.sl (es.map eE))):=.here
  rw [List.length_map] at this
  exact .agg (.cons (.same _) (.cons (.same _) (.cons this (.cons (.same _) .nil))))
 have w1:Wk (.agg [I n,x,y,Ls gs]) G (.agg [I n,.sl q1 1 0 l.length,.sl q2 3 0 es.length,Ls gs]) G:=.val (wk_agg ⟨.refl _,hx,hy,.refl _,trivial⟩)
 have w2:=Wk.frz (sz:=1) (by omega) hq1 (sized_map (f:=eI) (fun _=>rfl) l) f1
 have w3:=Wk.frz (H:=G.del q1) (sz:=3) (by omega) (by rw [Heap.del_other hne];exact hq2) (szE es) f2
 refine ⟨_,_,.trans w1 (.trans w2 (.trans w3 (.forget (H':=H) fun y b hb=>?_))),rfl,rfl⟩
 have n1:y≠q1:=fun e=>by have:=s.fr _ (List.mem_of_getElem? hi) q1 (by simp [rzT]);rw [← e,hb] at this;cases this
 have n2:y≠q2:=fun e=>by have:=s.fr _ (List.mem_of_getElem? hj) q2 (by simp [rzT]);rw [← e,hb] at this;cases this
 rw [Heap.del_other n2,Heap.del_other n1]
 exact s.le y b hb
end Go.Proofs.YtolffbcnbcjeaaaGreat
namespace Go.Proofs.YtolffbcnbcjeaaaGreat
open Go Go.Sep Go.Pt
attribute [local irreducible] CallT
theorem row0_len {f:List Sd} (h:(tr f).length≤5) {g l n:Nat} (hg:g < nF f) (hl:l < 8) (hn:n≤nF f):(all0 f g++(row0 f g l++cell0 f g l n)).length≤32*256+512:=by
 have hb:=nF_bd h
 have c0:∀g l n,(cell0 f g l n).length≤n:=fun g l n=>by
  unfold cell0
  rw [List.length_map]
  have:=List.length_filter_le (fun (k:Nat)=>decide (guF f l k=g)) (List.range n)
  rwa [List.length_range] at this
 have r0:∀g l,(row0 f g l).length≤l*32:=fun g l=>by
  induction l with
  | zero=>simp [row0]
  | succ l ih=>rw [row0_succ,List.length_append];have:=c0 g l (nF f);omega
 have a0:∀g,(all0 f g).length≤g*256:=fun g=>by
  induction g with
  | zero=>simp [all0]
  | succ g ih=>rw [all0_succ,List.length_append];have:=r0 g 8;omega
 rw [List.length_append,List.length_append]
 have h1:=c0 g l n
 have h2:=r0 g l
 have h3:=a0 g
 omega
theorem l13Auto_spec (f:List Sd) (b:Bool) (g:GoodFm f) (ht:(tr f).length≤5):Pu Tryz.prog 53 [Ds f,B (!b)] (aAu (autoB f b)):=by
 have hl:=g.l1
 have hl0:=g.l0
 have hb:=nF_bd ht
 have htl:(tr f).length≤1000:=by omega
 have eu:IntKind.u64.wrap ((tr f).length:Int)=(tr f).length:=by rw [IntKind.wrap_u64];omega
 have hN:=nF_int f
 have ew:IntKind.i64.wrap (1*2^(min (tr f).length IntKind.i64.bits))=(nF f:Int):=by
  rw [Nat.min_eq_left (by show (tr f).length≤64;omega),Int.one_mul,hN,i6_ (by omega) (by omega)]
 have e1:IntKind.i64.wrap ((f.length:Int) - 1)=(f.length:Int) - 1:=i6_ (by omega) (by omega)
 refine ⟨fun H=>CallT.fin ?_⟩
 refine CallT.ghost W53_hb fun z1 hz1=>?_
 refine CallT.ghost W53_hb fun z2 hz2=>?_
 have st:=lent (LPl.local eE) (LPl.has eE) 3 (lent (LPl.local eI) (LPl.has eI) 1 (((St.nil H).cell hz1 []).cell hz2 []) 1 rfl) 0 rfl
 generalize (H.set z1 []).set z2 []=G at st ⊢
 clear hz1 hz2
 refine W53_ok ?_;simp (maxSteps:=1000000) (disch:=first | assumption | (apply ν6;assumption)) only [W53,vz,vu,vv,eqS,eF_,↓c1_,↓c2_,tabs,reduceCtorEq,ι5,↓reduceIte,ν1,ν2,ν3,ν4,ν5,ι1,ι2,ι3,ι4]
 intro r4 hr4
 replace st:=st.cell hr4 [I 0,.p .nil,.p .nil,.p .nil]
 generalize G.set r4 [I 0,.p .nil,.p .nil,.p .nil]=G1 at st ⊢
 refine Pu.use (l13Tracked_spec f g) ?_
 (try simp (maxSteps:=1000000) (disch:=first | assumption | (apply ν6;assumption)) only [vz,vu,vv,eqS,eF_,↓c1_,↓c2_,tabs,reduceCtorEq,ι5,↓reduceIte,ν1,ν2,ν3,ν4,ν5,ι1,ι2,ι3,ι4,eu,Int.toNat_natCast,ew])
 refine ⟨by omega,?_⟩
 refine Pu.use (l13Goals_spec f g ht) ?_
 (try simp (maxSteps:=1000000) (disch:=first | assumption | (apply ν6;assumption)) only [vz,vu,vv,eqS,eF_,↓c1_,↓c2_,tabs,reduceCtorEq,ι5,↓reduceIte,ν1,ν2,ν3,ν4,ν5,ι1,ι2,ι3,ι4])
 intro r7 hr7
 replace st:=st.cell hr7 [I (nF f),.p .nil,.p .nil,Ls (goalsK f f.length)]
 generalize G1.set r7 [I (nF f),.p .nil,.p .nil,Ls (goalsK f f.length)]=G2 at st ⊢
 clear hr4 hr7
 have st:=st.perm (Us:=[cT_ r7 [I (nF f),.p .nil,.p .nil,Ls (goalsK f f.length)],cT_ r4 [I 0,.p .nil,.p .nil,.p .nil],riT z1 (.p .nil) [] [z1],reT z2 (.p .nil) [] [z2]]) (((List.Perm.swap _ _ _).cons _).cons _)
 refine L53_0_rule ((0:Nat),(.p .nil:AV),[z1],(.p .nil:AV),[z2],G2) (fun s=>I s.1) (fun s=>s.2.2.2.2.2)
  (fun s=>s.1≤nF f∧St H [cT_ r7 [I (nF f),s.2.1,s.2.2.2.1,Ls (goalsK f f.length)],cT_ r4 [I 0,.p .nil,.p .nil,.p .nil],riT z1 s.2.1 (gw s.1 (rooB f b)) s.2.2.1,reT z2 s.2.2.2.1 (all0 f s.1) s.2.2.2.2.1] s.2.2.2.2.2) (fun s=>nF f - s.1) ⟨⟨by simp,st⟩,.refl _,Heap.le_refl _⟩ ?_
 clear st
 rintro ⟨g0,x,D1,y,D2,G⟩ ⟨hg,st⟩
 dsimp only at hg st
 have e5:IntKind.i64.wrap ((g0:Int)+1)=((g0+1:Nat):Int):=by rw [i6_ (by omega) (by omega)];simp
 (try simp (maxSteps:=1000000) (disch:=first | assumption | (apply ν6;assumption)) only [vz,vu,vv,eqS,eF_,↓c1_,↓c2_,tabs,reduceCtorEq,ι5,↓reduceIte,ν1,ν2,ν3,ν4,ν5,ι1,ι2,ι3,ι4,B53_0,e1])
 refine ⟨fun h1=>?_,fun h1=>?_⟩
 ·have hlt:g0 < nF f:=by omega
  refine Pu.use (l13Says_spec (tr f) g0 ((f.length:Int) - 1) htl) ?_
  have hsucc:=gw_succ g0 (rooB f b)
  have hgl:=gw_len g0 (rooB f b)
  have hrp:rooB f b g0=(saysF (tr f) g0 ((f.length:Int) - 1)==b):=rfl
  rw [hrp] at hsucc
  have key:∀x D1 G,St H [cT_ r7 [I (nF f),x,y,Ls (goalsK f f.length)],cT_ r4 [I 0,.p .nil,.p .nil,.p .nil],riT z1 x (gw (g0+1) (rooB f b)) D1,reT z2 y (all0 f g0) D2] G→∀K N1,(∀y D2 G,St H [cT_ r7 [I (nF f),x,y,Ls (goalsK f f.length)],cT_ r4 [I 0,.p .nil,.p .nil,.p .nil],riT z1 x (gw (g0+1) (rooB f b)) D1,reT z2 y (all0 f (g0+1)) D2] G→N1 (I ((g0+1:Nat):Int)) G)→
    L53_1 K N1 (Ds f) (B (!b)) (.ptr r4 0) (Is (tr f)) (I (nF f)) (.ptr r7 0) (I g0) (I 0) G:=by
   clear st hsucc
   intro x D1 G st K N1 hN1
   refine L53_1_rule ((0:Nat),y,D2,G) (fun s=>I s.1) (fun s=>s.2.2.2)
    (fun s=>s.1≤8∧St H [cT_ r7 [I (nF f),x,s.2.1,Ls (goalsK f f.length)],cT_ r4 [I 0,.p .nil,.p .nil,.p .nil],riT z1 x (gw (g0+1) (rooB f b)) D1,reT z2 s.2.1 (all0 f g0++row0 f g0 s.1) s.2.2.1] s.2.2.2) (fun s=>8 - s.1) ⟨⟨by simp,by simpa [row0] using st⟩,.refl _,Heap.le_refl _⟩ ?_
   clear st y D2
   rintro ⟨l,y,D2,G⟩ ⟨hl8,st⟩
   dsimp only at hl8 st
   have e6:IntKind.i64.wrap ((l:Int)+1)=((l+1:Nat):Int):=by rw [i6_ (by omega) (by omega)];simp
   (try simp (maxSteps:=1000000) (disch:=first | assumption | (apply ν6;assumption)) only [vz,vu,vv,eqS,eF_,↓c1_,↓c2_,tabs,reduceCtorEq,ι5,↓reduceIte,ν1,ν2,ν3,ν4,ν5,ι1,ι2,ι3,ι4,B53_1])
   refine ⟨fun h2=>?_,fun h2=>?_⟩
   ·refine L53_2_rule ((0:Nat),y,D2,G) (fun s=>I s.1) (fun s=>s.2.2.2)
     (fun s=>s.1≤nF f∧St H [cT_ r7 [I (nF f),x,s.2.1,Ls (goalsK f f.length)],cT_ r4 [I 0,.p .nil,.p .nil,.p .nil],riT z1 x (gw (g0+1) (rooB f b)) D1,reT z2 s.2.1 (all0 f g0++(row0 f g0 l++cell0 f g0 l s.1)) s.2.2.1] s.2.2.2) (fun s=>nF f - s.1) ⟨⟨by simp,by simpa [cell0] using st⟩,.refl _,Heap.le_refl _⟩ ?_
    clear st y D2
    rintro ⟨n,y,D2,G⟩ ⟨hn,st⟩
    dsimp only at hn st
    have e7:IntKind.i64.wrap ((n:Int)+1)=((n+1:Nat):Int):=by rw [i6_ (by omega) (by omega)];simp
    (try simp (maxSteps:=1000000) (disch:=first | assumption | (apply ν6;assumption)) only [vz,vu,vv,eqS,eF_,↓c1_,↓c2_,tabs,reduceCtorEq,ι5,↓reduceIte,ν1,ν2,ν3,ν4,ν5,ι1,ι2,ι3,ι4,B53_2])
    refine ⟨fun h3=>?_,fun h3=>?_⟩
    ·refine Pu.use (l13Guess_spec f g l n (by omega)) ?_
     have hc:=cell0_succ f g0 l n
     have hlen:=row0_len ht hlt (l:=l) (n:=n) (by omega) hn
     (try simp (maxSteps:=1000000) (disch:=first | assumption | (apply ν6;assumption)) only [vz,vu,vv,eqS,eF_,↓c1_,↓c2_,tabs,reduceCtorEq,ι5,↓reduceIte,ν1,ν2,ν3,ν4,ν5,ι1,ι2,ι3,ι4,lA_ (st.get 0 rfl),e7])
     refine ⟨fun h4=>?_,fun h4=>?_⟩
     ·rw [if_pos h4] at hc
      refine lit_edge (x:=⟨g0,l,n⟩) ?_
      refine rz_appE (ys:=[⟨g0,l,n⟩]) st 3 rfl (by simp only [List.length_cons,List.length_nil];omega) fun q' G' hq' st=>?_
      rw [List.append_assoc,List.append_assoc,← hc] at st ⊢
      obtain ⟨es',hes⟩:∃es',all0 f g0++(row0 f g0 l++cell0 f g0 l (n+1))=es':=⟨_,rfl⟩
      rw [hes] at st ⊢
      (try simp (maxSteps:=1000000) (disch:=first | assumption | (apply ν6;assumption)) only [vz,vu,vv,eqS,eF_,↓c1_,↓c2_,tabs,reduceCtorEq,ι5,↓reduceIte,ν1,ν2,ν3,ν4,ν5,ι1,ι2,ι3,ι4,sA_ (st.get 0 rfl),e7])
      replace st:=st.put 0 rfl [I (nF f),x,rowE q' es',Ls (goalsK f f.length)]
      rw [← hes] at st
      exact ⟨(n+1,_,[q'],_),⟨by simp only;omega,st⟩,by simp only;omega,.refl _,by rw [hes];exact Heap.le_refl _⟩
     ·rw [if_neg h4] at hc
      exact ⟨(n+1,y,D2,G),⟨by simp only;omega,by rw [hc];exact st⟩,by simp only;omega,.refl _,Heap.le_refl _⟩
    ·have:n=nF f:=by omega
     subst this
     rw [← row0_succ] at st
     (try simp (maxSteps:=1000000) (disch:=first | assumption | (apply ν6;assumption)) only [vz,vu,vv,eqS,eF_,↓c1_,↓c2_,tabs,reduceCtorEq,ι5,↓reduceIte,ν1,ν2,ν3,ν4,ν5,ι1,ι2,ι3,ι4,e6])
     exact ⟨(l+1,y,D2,G),⟨by simp only;omega,st⟩,by simp only;omega,.refl _,Heap.le_refl _⟩
   ·have:l=8:=by omega
    subst this
    rw [← all0_succ] at st
    (try simp (maxSteps:=1000000) (disch:=first | assumption | (apply ν6;assumption)) only [vz,vu,vv,eqS,eF_,↓c1_,↓c2_,tabs,reduceCtorEq,ι5,↓reduceIte,ν1,ν2,ν3,ν4,ν5,ι1,ι2,ι3,ι4,e5])
    exact hN1 _ _ _ st
  have fin:∀x D1 G,St H [cT_ r7 [I (nF f),x,y,Ls (goalsK f f.length)],cT_ r4 [I 0,.p .nil,.p .nil,.p .nil],riT z1 x (gw (g0+1) (rooB f b)) D1,reT z2 y (all0 f g0) D2] G→∀K,
    L53_1 K (fun w8 H'=>∃s:Nat×AV×List Nat×AV×List Nat×Heap,(s.1≤nF f∧St H [cT_ r7 [I (nF f),s.2.1,s.2.2.2.1,Ls (goalsK f f.length)],cT_ r4 [I 0,.p .nil,.p .nil,.p .nil],riT z1 s.2.1 (gw s.1 (rooB f b)) s.2.2.1,reT z2 s.2.2.2.1 (all0 f s.1) s.2.2.2.2.1] s.2.2.2.2.2)∧nF f - s.1 < nF f - g0∧AV.wk w8 (I s.1)∧Heap.le s.2.2.2.2.2 H') (Ds f) (B (!b)) (.ptr r4 0) (Is (tr f)) (I (nF f)) (.ptr r7 0) (I g0) (I 0) G:=
   fun x D1 G st K=>key x D1 G st K _ fun y D2 G st=>⟨(g0+1,x,D1,y,D2,G),⟨by simp only;omega,st⟩,by simp only;omega,.refl _,Heap.le_refl _⟩
  generalize saysF (tr f) g0 ((f.length:Int) - 1)=sy at hsucc ⊢
  have hb4:sy=b∨sy=!b:=by cases sy<;>cases b<;>simp
  rcases hb4 with hb4 | hb4
  ·subst sy
   rw [if_pos (by simp)] at hsucc
   obtain ⟨l',hl'⟩:∃l',gw (g0+1) (rooB f b)=l':=⟨_,rfl⟩
   cases b
   all_goals
    (try simp (maxSteps:=1000000) (disch:=first | assumption | (apply ν6;assumption)) only [vz,vu,vv,eqS,eF_,↓c1_,↓c2_,tabs,reduceCtorEq,ι5,↓reduceIte,ν1,ν2,ν3,ν4,ν5,ι1,ι2,ι3,ι4,lA_ (st.get 0 rfl)])
    refine lit1 tab_22 rfl tab_3 ⟨rfl,rfl⟩ ?_
    refine rz_appI (ys:=[(g0:Int)]) st 2 rfl (by simp only [List.length_singleton];omega) fun q' G' hq' st=>?_
    rw [← hsucc] at st ⊢
    rw [hl'] at st ⊢
    (try simp (maxSteps:=1000000) (disch:=first | assumption | (apply ν6;assumption)) only [vz,vu,vv,eqS,eF_,↓c1_,↓c2_,tabs,reduceCtorEq,ι5,↓reduceIte,ν1,ν2,ν3,ν4,ν5,ι1,ι2,ι3,ι4,sA_ (st.get 0 rfl)])
    replace st:=st.put 0 rfl [I (nF f),rowP q' l',y,Ls (goalsK f f.length)]
    rw [← hl'] at st
    have:=fin _ _ _ st
    rw [hl'] at this
    exact this _
  ·subst sy
   rw [if_neg (by cases b<;>simp)] at hsucc
   cases b
   all_goals
    (try simp (maxSteps:=1000000) (disch:=first | assumption | (apply ν6;assumption)) only [vz,vu,vv,eqS,eF_,↓c1_,↓c2_,tabs,reduceCtorEq,ι5,↓reduceIte,ν1,ν2,ν3,ν4,ν5,ι1,ι2,ι3,ι4])
    exact fin x D1 G (by rw [hsucc];exact st) _
 ·have:g0=nF f:=by omega
  subst this
  have hx:=RZ.sl (st.get 2 rfl:RZ (LPl eI) 1 z1 x _ G D1)
  have hy:=RZ.sl (st.get 3 rfl:RZ (LPl eE) 3 z2 y _ G D2)
  (try simp (maxSteps:=1000000) (disch:=first | assumption | (apply ν6;assumption)) only [vz,vu,vv,eqS,eF_,↓c1_,↓c2_,tabs,reduceCtorEq,ι5,↓reduceIte,ν1,ν2,ν3,ν4,ν5,ι1,ι2,ι3,ι4,lA_ (st.get 0 rfl),sA_ (st.get 1 rfl)])
  replace st:=st.put 1 rfl [I (nF f),x,y,Ls (goalsK f f.length)]
  have:=fin_au (gs:=goalsK f f.length) (n:=nF f) st 2 3 rfl rfl (by decide)
  refine ⟨?_,this⟩
  rcases hx with rfl | ⟨q,rfl⟩<;>rcases hy with rfl | ⟨q,rfl⟩<;>rfl
end Go.Proofs.YtolffbcnbcjeaaaGreat
namespace Go.Proofs.YtolffbcnbcjeaaaGreat
open Go Go.Sep Go.Pt
attribute [local irreducible] CallT
theorem AutoFor_val (f:List Sd) (hl:f.length≤1048576):Pu Tryz.prog 55 [Ds f] (.tup [aAu (afR f).1,B (afR f).2]):=by
 refine ⟨fun H=>CallT.fin (AutoFor_impl f hl fun v G D hv hn=>?_)⟩
 obtain ⟨G',w,fr⟩:=LAu.wk hv hn.nd (fun v=>.tup [v,B (afR f).2]) (fun h=>.tup (.cons h (.cons (.same _) .nil)))
 refine ⟨_,H,.trans w (.forget fun y b hb=>?_),rfl,rfl⟩
 rw [fr y (fun hy=>by rw [hn.fr y hy] at hb;cases hb)]
 exact hn.le y b hb
noncomputable def ipR (f:List Sd):Bool×Bool:=if goodT f then (fairA (autoB f true),true) else (false,false)
end Go.Proofs.YtolffbcnbcjeaaaGreat
namespace Go.Proofs.YtolffbcnbcjeaaaGreat
open Go Go.Sep Go.Pt
attribute [local irreducible] CallT
noncomputable def exS (f:List Sd):List Int:=if goodT f then woS (autoB f true) else []
noncomputable def exL (f:List Sd):List Int:=if goodT f then woL (autoB f true) else []
noncomputable def exB (f:List Sd):Bool:=if goodT f then woB (autoB f true) else false
theorem ex_len (f:List Sd):(exS f).length≤24∧(exL f).length≤24:=by
 unfold exS exL
 by_cases h:goodT f=true
 ·rw [if_pos h,if_pos h];exact wo_len _
 ·rw [if_neg h,if_neg h];simp
theorem ExampleOf_ref (f:List Sd) (hl:f.length≤1048576):Pu Tryz.prog 21 [Ds f] (.tup [aL2 (exS f) (exL f),B (exB f)]):=by
 refine ⟨fun H=>CallT.fin ?_⟩
 refine W21_ok ?_;simp (maxSteps:=1000000) (disch:=first | assumption | (apply ν6;assumption)) only [W21,vz,vu,vv,eqS,eF_,↓c1_,↓c2_,tabs,reduceCtorEq,ι5,↓reduceIte,ν1,ν2,ν3,ν4,ν5,ι1,ι2,ι3,ι4]
 intro r hr
 have hle:=fun b=>Heap.le_set (b:=b) hr
 refine Pu.use (l13Good_spec f hl) ?_
 cases ht:goodT f
 ·(try simp (maxSteps:=1000000) (disch:=first | assumption | (apply ν6;assumption)) only [vz,vu,vv,eqS,eF_,↓c1_,↓c2_,tabs,reduceCtorEq,ι5,↓reduceIte,ν1,ν2,ν3,ν4,ν5,ι1,ι2,ι3,ι4])
  rw [exS,exL,exB,ht]
  exact ⟨_,_,.trans (.val (v':=.tup [aL2 [] [],B false]) (wk_tup ⟨wk_agg ⟨.nil,.nil,trivial⟩,.refl _,trivial⟩)) (.forget (hle _)),rfl,rfl⟩
 ·obtain ⟨g,h5⟩:=goodT_facts ht
  rw [exS,exL,exB,ht]
  (try simp (maxSteps:=1000000) (disch:=first | assumption | (apply ν6;assumption)) only [vz,vu,vv,eqS,eF_,↓c1_,↓c2_,tabs,reduceCtorEq,ι5,↓reduceIte,ν1,ν2,ν3,ν4,ν5,ι1,ι2,ι3,ι4])
  refine Pu.use (l13Auto_spec f true g h5) ?_
  refine Pu.use (WordOf_ref _ (autoB_sm h5)) ?_
  (try simp (maxSteps:=1000000) (disch:=first | assumption | (apply ν6;assumption)) only [vz,vu,vv,eqS,eF_,↓c1_,↓c2_,tabs,reduceCtorEq,ι5,↓reduceIte,ν1,ν2,ν3,ν4,ν5,ι1,ι2,ι3,ι4])
  exact ⟨_,_,.forget (hle _),rfl,rfl⟩
theorem ExampleOf_impl (f:List Sd) (hl:f.length≤1048576) {H:Heap} {K:AV→Heap→Prop} (hK:∀v G D,RS (exS f) (exL f) v G D→New H G D→K (.tup [v,B (exB f)]) G):CallT Tryz.prog 22 [Ds f] H K:=by
 refine CallT.fin ?_
 refine W22_ok ?_;simp (maxSteps:=1000000) (disch:=first | assumption | (apply ν6;assumption)) only [W22,vz,vu,vv,eqS,eF_,↓c1_,↓c2_,tabs,reduceCtorEq,ι5,↓reduceIte,ν1,ν2,ν3,ν4,ν5,ι1,ι2,ι3,ι4]
 intro r hr
 have st:=(St.nil H).cell hr [.p .nil,.p .nil]
 generalize H.set r [.p .nil,.p .nil]=G at st ⊢
 clear hr
 refine Pu.use (AutoFor_val f hl) ?_
 cases ht:goodT f
 ·have e:afR f=(zeroA,false):=by simp [afR,ht]
  rw [e]
  (try simp (maxSteps:=1000000) (disch:=first | assumption | (apply ν6;assumption)) only [vz,vu,vv,eqS,eF_,↓c1_,↓c2_,tabs,reduceCtorEq,ι5,↓reduceIte,ν1,ν2,ν3,ν4,ν5,ι1,ι2,ι3,ι4])
  intro r4 h4
  replace st:=st.cell h4 [I zeroA.states,Is zeroA.first,Es zeroA.edges,Ls zeroA.goals]
  generalize G.set r4 [I zeroA.states,Is zeroA.first,Es zeroA.edges,Ls zeroA.goals]=G1 at st ⊢
  (try simp (maxSteps:=1000000) (disch:=first | assumption | (apply ν6;assumption)) only [vz,vu,vv,eqS,eF_,↓c1_,↓c2_,tabs,reduceCtorEq,ι5,↓reduceIte,ν1,ν2,ν3,ν4,ν5,ι1,ι2,ι3,ι4,sA_ (st.get 1 rfl)])
  have:=hK (.agg [.p .nil,.p .nil]) H [] (.inl ⟨by rw [exS,ht];rfl,by rw [exL,ht];rfl,rfl,rfl⟩) ⟨List.nodup_nil,fun y hy=>(by cases hy),Heap.le_refl _⟩
  rw [exB,ht] at this
  exact fin_le (st.put 1 rfl _).le this
 ·obtain ⟨g,h5⟩:=goodT_facts ht
  have hsm:=autoB_sm (b:=true) h5
  have e:afR f=(autoB f true,true):=by simp [afR,ht]
  rw [exS,exL,exB,ht] at hK
  simp only [if_true] at hK
  rw [e]
  generalize autoB f true=a at hK hsm
  (try simp (maxSteps:=1000000) (disch:=first | assumption | (apply ν6;assumption)) only [vz,vu,vv,eqS,eF_,↓c1_,↓c2_,tabs,reduceCtorEq,ι5,↓reduceIte,ν1,ν2,ν3,ν4,ν5,ι1,ι2,ι3,ι4])
  intro r4 h4
  replace st:=st.cell h4 [I a.states,Is a.first,Es a.edges,Ls a.goals]
  generalize G.set r4 [I a.states,Is a.first,Es a.edges,Ls a.goals]=G1 at st ⊢
  (try simp (maxSteps:=1000000) (disch:=first | assumption | (apply ν6;assumption)) only [vz,vu,vv,eqS,eF_,↓c1_,↓c2_,tabs,reduceCtorEq,ι5,↓reduceIte,ν1,ν2,ν3,ν4,ν5,ι1,ι2,ι3,ι4,lA_ (st.get 0 rfl)])
  refine WordOf_impl a hsm fun v G2 D hv hn=>?_
  obtain ⟨x,y,rfl,hx,hy⟩:=hv.ag
  replace st:=st.push (tRS (woS a) (woL a) (.agg [x,y]) D) hn hv
  clear hv hn
  (try simp (maxSteps:=1000000) (disch:=first | assumption | (apply ν6;assumption)) only [vz,vu,vv,eqS,eF_,↓c1_,↓c2_,tabs,reduceCtorEq,ι5,↓reduceIte,ν1,ν2,ν3,ν4,ν5,ι1,ι2,ι3,ι4,sA_ (st.get 2 rfl)])
  replace st:=st.put 2 rfl [x,y]
  generalize G2.set r [x,y]=G3 at st ⊢
  have:=hK _ G3 D (st.get 0 rfl) ⟨st.ndT 0 rfl,st.fr _ (List.mem_of_getElem? (i:=0) rfl),st.le⟩
  exact ⟨by rw [hx,hy];rfl,wkK.keep this⟩
set_option maxRecDepth 20000 in
theorem FnExactExampleOf_true {f:List Sd} (ho:ok f.length):Pu Tryz.prog 5 [Ds f] (B true):=by
 refine Pu.of fun H=>?_
 refine W5_ok ?_;simp (maxSteps:=1000000) (disch:=first | assumption | (apply ν6;assumption)) only [W5,vz,vu,vv,eqS,eF_,↓c1_,↓c2_,tabs,reduceCtorEq,ι5,↓reduceIte,ν1,ν2,ν3,ν4,ν5,ι1,ι2,ι3,ι4]
 refine Pu.use (szSaidS_spec f 1048576 (by omega) (by omega) ho) ?_
 (try simp (maxSteps:=1000000) (disch:=first | assumption | (apply ν6;assumption)) only [vz,vu,vv,eqS,eF_,↓c1_,↓c2_,tabs,reduceCtorEq,ι5,↓reduceIte,ν1,ν2,ν3,ν4,ν5,ι1,ι2,ι3,ι4])
 refine fun h1=>?_
 have hl:f.length≤1048576:=by
  unfold szR at h1
  split at h1<;>omega
 refine Pu.use (toSaidS_spec f hl) ?_
 refine Pu.use (ExampleOf_ref f hl) ?_
 have hres:=ex_len f
 have hI:∀{H:Heap} {K:AV→Heap→Prop},(∀v G D,RS (exS f) (exL f) v G D→New H G D→K (.tup [v,B (exB f)]) G)→CallT Tryz.prog 22 [Ds f] H K:=ExampleOf_impl f hl
 generalize exS f=s at hres hI
 generalize exL f=l at hres hI
 generalize exB f=ok at hI
 obtain ⟨hs24,hl24⟩:=hres
 (try simp (maxSteps:=1000000) (disch:=first | assumption | (apply ν6;assumption)) only [vz,vu,vv,eqS,eF_,↓c1_,↓c2_,tabs,reduceCtorEq,ι5,↓reduceIte,ν1,ν2,ν3,ν4,ν5,ι1,ι2,ι3,ι4])
 intro w hw
 have st:=(St.nil H).cell hw [Is s,Is l]
 generalize H.set w [Is s,Is l]=G0 at st ⊢
 clear hw
 refine toSaidS_live f hl fun va G1 Da la na=>?_
 obtain ⟨qx,rfl,hqx,rfl⟩:=LD_row la
 replace st:=st.push (cT_ qx (cD f)) na hqx
 clear la na hqx
 refine thawU (RSt.res s l ok) (fun hK=>hI fun v G D h1 h2=>hK _ _ _ ⟨v,rfl,h1⟩ h2) (wkD (st.get 0 rfl) (fun v=>.tup [v]) (fun h=>.tup (.cons h .nil))) fun rr G7 D7 hr7 hn7=>?_
 obtain ⟨vr,rfl,hrs⟩:=hr7
 obtain ⟨xr,yr,rfl,hxr,hyr⟩:=hrs.ag
 replace st:=st.push (tRS s l (.agg [xr,yr]) D7) hn7 hrs
 clear hrs hn7
 (try simp (maxSteps:=1000000) (disch:=first | assumption | (apply ν6;assumption)) only [vz,vu,vv,eqS,eF_,↓c1_,↓c2_,tabs,reduceCtorEq,ι5,↓reduceIte,ν1,ν2,ν3,ν4,ν5,ι1,ι2,ι3,ι4])
 intro u hu
 replace st:=st.cell hu [xr,yr]
 (try simp (maxSteps:=1000000) (disch:=first | assumption | (apply ν6;assumption)) only [vz,vu,vv,eqS,eF_,↓c1_,↓c2_,tabs,reduceCtorEq,ι5,↓reduceIte,ν1,ν2,ν3,ν4,ν5,ι1,ι2,ι3,ι4,lA_ (st.get 0 rfl),lA_ (st.get 3 rfl)])
 generalize G7.set u [xr,yr]=G8 at st ⊢
 clear hu
 refine ⟨by rw [hxr,hyr];rfl,?_⟩
 refine RS.eq (st.get 1 rfl) (by omega) (by omega) ?_
 (try simp (maxSteps:=1000000) (disch:=first | assumption | (apply ν6;assumption)) only [vz,vu,vv,eqS,eF_,↓c1_,↓c2_,tabs,reduceCtorEq,ι5,↓reduceIte,ν1,ν2,ν3,ν4,ν5,ι1,ι2,ι3,ι4])
 refine Pu.use (toSaidS_spec f hl) ?_
 refine eqD_row (st.get 2 rfl) hl ?_
 (try simp (maxSteps:=1000000) (disch:=first | assumption | (apply ν6;assumption)) only [vz,vu,vv,eqS,eF_,↓c1_,↓c2_,tabs,reduceCtorEq,ι5,↓reduceIte,ν1,ν2,ν3,ν4,ν5,ι1,ι2,ι3,ι4])
 refine markSaidS_row f hl (by omega) (by omega) (st.get 2 rfl) ?_
 replace st:=st.put 2 rfl (cD (markD 1 f.length))
 generalize G8.set qx (cD (markD 1 f.length))=G3 at st ⊢
 (try simp (maxSteps:=1000000) (disch:=first | assumption | (apply ν6;assumption)) only [vz,vu,vv,eqS,eF_,↓c1_,↓c2_,tabs,reduceCtorEq,ι5,↓reduceIte,ν1,ν2,ν3,ν4,ν5,ι1,ι2,ι3,ι4])
 refine ⟨fun h=>by omega,fun _=>?_⟩
 (try simp (maxSteps:=1000000) (disch:=first | assumption | (apply ν6;assumption)) only [vz,vu,vv,eqS,eF_,↓c1_,↓c2_,tabs,reduceCtorEq,ι5,↓reduceIte,ν1,ν2,ν3,ν4,ν5,ι1,ι2,ι3,ι4,lA_ (st.get 0 rfl),lA_ (st.get 3 rfl)])
 refine RS.eq (st.get 1 rfl) (by omega) (by omega) ?_
 (try simp (maxSteps:=1000000) (disch:=first | assumption | (apply ν6;assumption)) only [vz,vu,vv,eqS,eF_,↓c1_,↓c2_,tabs,reduceCtorEq,ι5,↓reduceIte,ν1,ν2,ν3,ν4,ν5,ι1,ι2,ι3,ι4,lA_ (st.get 0 rfl)])
 refine RS.mark (st.get 1 rfl) (by omega) (by omega) (by omega) (by omega) fun G12 hrs hfr=>?_
 replace st:=st.upd 1 rfl (tRS (marked 1 s.length) (marked (1+s.length) l.length) (.agg [xr,yr]) D7) rfl hfr hrs
 clear hfr hrs
 (try simp (maxSteps:=1000000) (disch:=first | assumption | (apply ν6;assumption)) only [vz,vu,vv,eqS,eF_,↓c1_,↓c2_,tabs,reduceCtorEq,ι5,↓reduceIte,ν1,ν2,ν3,ν4,ν5,ι1,ι2,ι3,ι4,lA_ (st.get 0 rfl)])
 refine RS.held (st.get 1 rfl) (by omega) (by omega) ?_
 (try simp (maxSteps:=1000000) (disch:=first | assumption | (apply ν6;assumption)) only [vz,vu,vv,eqS,eF_,↓c1_,↓c2_,tabs,reduceCtorEq,ι5,↓reduceIte,ν1,ν2,ν3,ν4,ν5,ι1,ι2,ι3,ι4])
 refine ⟨fun h=>by omega,fun _=>?_⟩
 refine Pu.use (toSaidS_spec f hl) ?_
 refine hI fun v G13 E hrs hn13=>?_
 obtain ⟨xe,ye,rfl,hxe,hye⟩:=hrs.ag
 replace st:=st.push (tRS s l (.agg [xe,ye]) E) hn13 hrs
 clear hrs hn13
 (try simp (maxSteps:=1000000) (disch:=first | assumption | (apply ν6;assumption)) only [vz,vu,vv,eqS,eF_,↓c1_,↓c2_,tabs,reduceCtorEq,ι5,↓reduceIte,ν1,ν2,ν3,ν4,ν5,ι1,ι2,ι3,ι4])
 intro u2 hu2
 replace st:=st.cell hu2 [xe,ye]
 (try simp (maxSteps:=1000000) (disch:=first | assumption | (apply ν6;assumption)) only [vz,vu,vv,eqS,eF_,↓c1_,↓c2_,tabs,reduceCtorEq,ι5,↓reduceIte,ν1,ν2,ν3,ν4,ν5,ι1,ι2,ι3,ι4,lA_ (st.get 0 rfl),lA_ (st.get 5 rfl)])
 generalize G13.set u2 [xe,ye]=G14 at st ⊢
 clear hu2
 refine ⟨by rw [hxe,hye];rfl,?_⟩
 refine RS.eq (st.get 1 rfl) (by omega) (by omega) ?_
 (try simp (maxSteps:=1000000) (disch:=first | assumption | (apply ν6;assumption)) only [vz,vu,vv,eqS,eF_,↓c1_,↓c2_,tabs,reduceCtorEq,ι5,↓reduceIte,ν1,ν2,ν3,ν4,ν5,ι1,ι2,ι3,ι4,lA_ (st.get 2 rfl)])
 refine RS.held (st.get 3 rfl) (by omega) (by omega) ?_
 (try simp (maxSteps:=1000000) (disch:=first | assumption | (apply ν6;assumption)) only [vz,vu,vv,eqS,eF_,↓c1_,↓c2_,tabs,reduceCtorEq,ι5,↓reduceIte,ν1,ν2,ν3,ν4,ν5,ι1,ι2,ι3,ι4])
 exact ⟨fun h=>by omega,fun _=>st.le⟩
end Go.Proofs.YtolffbcnbcjeaaaGreat
namespace Go.Proofs.YtolffbcnbcjeaaaGreat.exampleOf
open Go Go.Sep Go.ChangeShapes Go.WideShapes Go.ChangeAt Go.RowKit
theorem own:ownKnob Tryz.prog.godebug=none:=by kernel_rfl
theorem told (avs:List AV) (h:ArgsT Tryz.prog [41] avs):CallT Tryz.prog 5 avs (fun _=>none) (fun v _=>v=.p (.bool true)):=by
 obtain ⟨a,b,rfl,h1,h⟩:=args_cons h
 cases args_nil h
 obtain ⟨x1,hx1,rfl⟩:=arg_saids h1
 exact (FnExactExampleOf_true hx1).use rfl
set_option maxRecDepth 100000 in
theorem lifted (os:Os) (started:os.Started) (H:Type) (enc:TypeId×Value→H) :
  ReturnsInHanded {} Tryz.checked os 5 .any (Rows.fnExactExampleOfSpec.pre6 enc Tryz.prog Tryz.f5 Rows.fnExactExampleOfRow.domain false) (Rows.fnExactExampleOfSpec.post enc Tryz.prog Tryz.f5 false true false false):=by
 refine returnsInHanded_of_change (C:=Tryz.checked) own started (by kernel_rfl) Tryz.func5
  (ChangeSpec.witness6 (enc:=enc) (C:=Tryz.checked) false ⟨#[],#[.slice none 0 0],[]⟩ 12 (by kernel_rfl) (by kernel_rfl) (by kernel_rfl) (by kernel_rfl)) ?_
 intro W base args ds gs before hval hW _ _
 refine row_of_true (n:=12) (tb:=4) (by kernel_rfl) rfl (by kernel_rfl) (by kernel_rfl) ?_ ?_ ?_ hval hW
 ·have:(Tryz.f5.params.toList.all fun t=>Tryz.prog.readableRec t && decide (t < Tryz.prog.types.size) && plainB Tryz.prog 12 t)=true:=by kernel_rfl
  intro t ht
  have:=List.all_eq_true.1 this t ht
  rw [Bool.and_eq_true,Bool.and_eq_true,decide_eq_true_eq] at this
  exact ⟨this.1.1,this.1.2,this.2⟩
 ·intro ds hd
  rw [Tryz.params5] at hd
  match ds,hd with
  | [a],_=>rfl
 ·rw [Tryz.params5]
  exact told
theorem over:Rows.fnExactExampleOfRow.holds Tryz.pinned (OpenSpec.ofChange Rows.fnExactExampleOfSpec):=
 OpenClaim.holds_of_wide 5 Tryz.f5 rfl rfl rfl rfl rfl rfl rfl ⟨rfl,rfl,rfl,rfl,rfl⟩ rfl rfl rfl rfl rfl (by kernel_rfl) Tryz.func5 (by kernel_rfl)
  (of_decide_eq_true (by kernel_rfl)) (by unfold Func.isWrapper;first | (rw [if_pos (by decide +kernel)];kernel_rfl) | (rw [if_neg (by decide +kernel)];exact ⟨rfl,rfl⟩))
  (fun os started H enc _=>lifted os started H enc)
theorem proved:Rows.FnExactExampleOfSaid:=
 over
#print axioms proved
end Go.Proofs.YtolffbcnbcjeaaaGreat.exampleOf
