/- Texts laid together: LayF Ss3 Ss4 Lf1 Ql1 Ql2 Tp2 Tw1 Tw2 Tw3 Tw4. -/
import Derived.Test.YtolffbcnbcjeaaaGreatPkx10
import Derived.Shelf.SlGeneric
import Derived.Shelf.SlLaysF0
import Derived.Test.YtolffbcnbcjeaaaGreatProg
import Derived.Shelf.SlSortCmp.NoneTotal
set_option linter.unusedVariables false
set_option linter.unusedSimpArgs false
open Go.Sep.AV renaming any → Q_
open Nat renaming reduceAdd→ν1,reduceLeDiff→ν2,reduceLT→ν3,reduceMul→ν4,reduceSub→ν5
open Int renaming reduceToNat→ι1,reduceSub→ι2,reduceAdd→ι3,reduceNeg→ι4
open Array renaming toList→ι5
open Ne renaming symm→ν6
open List renaming forall_mem_cons→ν7
/-
 DERIVED: THE SHELF's CONTRACTS AT THIS DUMP,IN PLAIN WORDS (tools/lay-plain.mjs out of 'YtolffbcnbcjeaaaGreatLayF.lean',which tools/lay-shelf.mjs wrote): THE SAME DECLARATIONS UNDER THE SAME NAMES: 'import','namespace','open','def','theorem' AND NOTHING ELSE: no command of the shelf's: FOR A HAND-IN. Each laying: the table of numbers ('.._ren') and one theorem,a field a fact of the dump's own or the kernel's comparison;each contract: ONE APPLICATION.
-/
namespace Go.Proofs
open Go.Shelf
def Tryz.laySF_ren:Go.Shelf.Ren:=⟨fun | 6=>101 | 15=>120 | 14=>128 | 28=>148 | 29=>149 | 20=>153 | 21=>154 | 22=>155 | 23=>156 | 24=>157 | 25=>158 | 26=>159 | 27=>160 | 46=>168 | 47=>164 | 48=>165 | 49=>169 | 50=>170 | 57=>172 | n=>n,fun | 22=>32 | 24=>84 | 25=>102 | 3=>3 | 39=>111 | 0=>0 | 53=>155 | 55=>157 | 4=>4 | 46=>148 | 45=>147 | 50=>152 | 5=>5 | 9=>9 | 66=>168 | 70=>172 | 76=>176 | 77=>177 | n=>n,fun | n=>n⟩
theorem Tryz.laySF:Go.Proofs.SlLaysF0.n6 Tryz.prog Tryz.laySF_ren:={
 mixed:=by kernel_rfl
 f6:=⟨Tryz.f101.name,by decide,Tryz.func101.trans (congrArg some (by kernel_rfl))⟩
 f14:=⟨Tryz.f128.name,by decide,Tryz.func128.trans (congrArg some (by kernel_rfl))⟩
 f15:=Tryz.func120.trans (congrArg some (by kernel_rfl))
 f20:=⟨Tryz.f153.name,by decide,Tryz.func153.trans (congrArg some (by kernel_rfl))⟩
 f21:=⟨Tryz.f154.name,by decide,Tryz.func154.trans (congrArg some (by kernel_rfl))⟩
 f22:=⟨Tryz.f155.name,by decide,Tryz.func155.trans (congrArg some (by kernel_rfl))⟩
 f23:=⟨Tryz.f156.name,by decide,Tryz.func156.trans (congrArg some (by kernel_rfl))⟩
 f24:=⟨Tryz.f157.name,by decide,Tryz.func157.trans (congrArg some (by kernel_rfl))⟩
 f25:=⟨Tryz.f158.name,by decide,Tryz.func158.trans (congrArg some (by kernel_rfl))⟩
 f26:=⟨Tryz.f159.name,by decide,Tryz.func159.trans (congrArg some (by kernel_rfl))⟩
 f27:=⟨Tryz.f160.name,by decide,Tryz.func160.trans (congrArg some (by kernel_rfl))⟩
 f28:=Tryz.func148.trans (congrArg some (by kernel_rfl))
 f29:=Tryz.func149.trans (congrArg some (by kernel_rfl))
 f46:=⟨Tryz.f168.name,by decide,Tryz.func168.trans (congrArg some (by kernel_rfl))⟩
 f47:=Tryz.func164.trans (congrArg some (by kernel_rfl))
 f48:=Tryz.func165.trans (congrArg some (by kernel_rfl))
 f49:=⟨Tryz.f169.name,by decide,Tryz.func169.trans (congrArg some (by kernel_rfl))⟩
 f50:=⟨Tryz.f170.name,by decide,Tryz.func170.trans (congrArg some (by kernel_rfl))⟩
 f57:=⟨Tryz.f172.name,by decide,Tryz.func172.trans (congrArg some (by kernel_rfl))⟩
 t0:=Tryz.underlying0
 a0:=Tryz.isAgg0
 z0:=Tryz.sizeOf0
 v0:=Tryz.zeroValue0
 t3:=Tryz.underlying3
 a3:=Tryz.isAgg3
 z3:=Tryz.sizeOf3
 v3:=Tryz.zeroValue3
 t4:=Tryz.underlying4
 a4:=Tryz.isAgg4
 z4:=Tryz.sizeOf4
 v4:=Tryz.zeroValue4
 t5:=Tryz.underlying5
 a5:=Tryz.isAgg5
 z5:=Tryz.sizeOf5
 v5:=Tryz.zeroValue5
 t9:=Tryz.underlying9
 a9:=Tryz.isAgg9
 z9:=Tryz.sizeOf9
 v9:=Tryz.zeroValue9
 t22:=Tryz.underlying32
 a22:=Tryz.isAgg32
 z22:=Tryz.sizeOf32
 v22:=Tryz.zeroValue32
 t25:=Tryz.underlying102
 a25:=Tryz.isAgg102
 z25:=Tryz.sizeOf102
 v25:=Tryz.zeroValue102
 t39:=Tryz.underlying111
 a39:=Tryz.isAgg111
 z39:=Tryz.sizeOf111
 v39:=Tryz.zeroValue111
 t45:=Tryz.underlying147
 a45:=Tryz.isAgg147
 z45:=Tryz.sizeOf147
 v45:=Tryz.zeroValue147
 t46:=Tryz.underlying148
 a46:=Tryz.isAgg148
 z46:=Tryz.sizeOf148
 v46:=Tryz.zeroValue148
 t50:=Tryz.underlying152
 a50:=Tryz.isAgg152
 z50:=Tryz.sizeOf152
 v50:=Tryz.zeroValue152
 t53:=Tryz.underlying155
 a53:=Tryz.isAgg155
 z53:=Tryz.sizeOf155
 v53:=Tryz.zeroValue155
 t55:=Tryz.underlying157
 a55:=Tryz.isAgg157
 z55:=Tryz.sizeOf157
 v55:=Tryz.zeroValue157
 t66:=Tryz.underlying168
 a66:=Tryz.isAgg168
 z66:=Tryz.sizeOf168
 v66:=Tryz.zeroValue168
 t70:=Tryz.underlying172
 a70:=Tryz.isAgg172
 z70:=Tryz.sizeOf172
 v70:=Tryz.zeroValue172
 t76:=Tryz.underlying176
 a76:=Tryz.isAgg176
 z76:=Tryz.sizeOf176
 v76:=Tryz.zeroValue176
 t77:=Tryz.underlying177
 a77:=Tryz.isAgg177
 z77:=Tryz.sizeOf177
 v77:=Tryz.zeroValue177 }
end Go.Proofs
namespace Go.Sep
open Go Go.RowKit Go.Sort Go.Proofs Go.Pt
theorem CallT.quiet {P:Program} {f:Nat} {args:List AV} {v:AV} (h:CallT P f args (fun _=>none) (fun r _=>r=v)) {xs:Array Value} (ha:∀Z φ,ArgsRel Z φ args xs) {x:Value} (hx:∀Z φ y,Cv Z φ v y→y=x) (w:World) :
  Calls P f xs w fun e w'=>e=.returned x∧∃q os',w'=Go.Sort.grow (w.drewN q) os':=by
 have hor:Heap.or (fun _=>none) (fun _=>none)=(fun _=>none:Heap):=by funext x;rfl
 have sim:Sim (fun _ _=>none) (fun _=>none) w.heap.size w (Heap.or (fun _=>none) (fun _=>none)) w:=by
  rw [hor]
  exact ⟨Nat.le_refl _,Bel.refl _ _,⟨0,fun _ _=>rfl⟩,fun r blk h=>(by simp at h),fun r r' pl pl' h=>absurd rfl h,fun b i v h=>(by cases h),fun b i v _ r pl h=>absurd rfl h⟩
 refine (h.2 w.heap.size w (fun _=>none) (fun _ _=>none) (fun _=>none) w xs (fun r h=>absurd rfl h) sim (ha _ _)).mono ?_
 rintro e w' ⟨y,rfl,v',H1,Z1,φ1,rfl,_,_,_,s1,hc⟩
 refine ⟨by rw [hx _ _ _ hc],w'.drawn - w.drawn,w'.heap.extract w.heap.size w'.heap.size,?_⟩
 obtain ⟨⟨h1,h2,h3,h4,h5⟩,h6⟩:=s1.below
 unfold DrawnLe at h6
 have hh:w'.heap=w.heap++w'.heap.extract w.heap.size w'.heap.size:=by
  apply Array.ext_getElem?
  intro k
  by_cases hk:k < w.heap.size
  ·rw [Array.getElem?_append_left hk];exact h5 k hk
  ·rw [Array.getElem?_append_right (by omega),Array.getElem?_extract]
   by_cases hk2:k < w'.heap.size
   ·rw [if_pos (by omega)];congr 1;omega
   ·rw [if_neg (by omega)];exact Array.getElem?_eq_none (by omega)
 cases w';cases w
 simp only [Go.Sort.grow,World.drewN] at *
 subst h1;subst h2;subst h3
 rw [← hh]
 congr 1
 omega
theorem holds_vals {w:World} {b o:Nat} {zs:List Int} (h:Holds (Value.int .i64) w b o zs.toArray):Holds id w b o (zs.map (Value.int .i64)).toArray:=by
 intro j hj
 have hj':j < zs.length:=by simpa using hj
 have:=h j (by simpa using hj')
 simpa [hj'] using this
theorem putRow_vals (w:World) (b o:Nat) (zs:List Int):putRow id w b o (zs.map (Value.int .i64)).toArray=putRow (Value.int .i64) w b o zs.toArray:=by
 unfold putRow
 congr 1
 funext c
 unfold putCells
 apply Array.ext_getElem?
 intro k
 simp only [Array.getElem?_mapIdx]
 cases c[k]? with
 | none=>rfl
 | some v=>
  simp only [Option.map_some,List.size_toArray,List.length_map]
  congr 1
  by_cases hk:o≤k∧k < o+zs.length
  ·rw [if_pos hk,if_pos hk]
   have:k - o < zs.length:=by omega
   simp [this]
  ·rw [if_neg hk,if_neg hk]
theorem flat_get {α:Type} (g:α→List Int) (hg:∀x,(g x).length=3):∀(xs:List α) (t:Nat),(xs.flatMap g)[t]?=(xs[t / 3]?).bind fun x=>(g x)[t % 3]?
 | [],t=>by simp
 | x::xs,t=>by
  rw [List.flatMap_cons,List.getElem?_append,hg]
  by_cases h:t < 3
  ·rw [if_pos h]
   have h1:t / 3=0:=by omega
   have h2:t % 3=t:=by omega
   rw [h1,h2];rfl
  ·rw [if_neg h,flat_get g hg xs (t - 3)]
   have h1:t / 3=(t - 3) / 3+1:=by omega
   have h2:(t - 3) % 3=t % 3:=by omega
   rw [h1,h2,List.getElem?_cons_succ]
abbrev iE (x:Ed):List Int:=[x.src,x.lt,x.dst]
abbrev vE (x:Ed):List Value:=[.int .i64 x.src,.int .i64 x.lt,.int .i64 x.dst]
theorem flatE_len (xs:List Ed):(xs.flatMap iE).length=xs.length*3:=by
 induction xs with
 | nil=>rfl
 | cons x xs ih=>rw [List.flatMap_cons,List.length_append,ih];simp only [List.length_cons,List.length_nil];omega
theorem flatE (xs:List Ed):flatK vE 3 xs.toArray=((xs.flatMap iE).map (Value.int .i64)).toArray:=by
 apply Array.ext_getElem?
 intro t
 have e0:∀l:List Value,(l.toArray)[t]?=l[t]?:=fun l=>by simp
 refine Eq.trans ?_ (e0 _).symm
 rw [List.getElem?_map,flat_get iE (fun _=>rfl)]
 by_cases ht:t < xs.length*3
 ·have h1:t / 3 < xs.length:=by omega
  have h2:t % 3 < 3:=by omega
  have h0:(flatK vE 3 xs.toArray)[t]?=some ((vE (xs.toArray[t / 3]!))[t % 3]!):=by
   have:=get_flatK vE 3 xs.toArray t (by simpa using ht)
   rw [← this]
   have hs:t < (flatK vE 3 xs.toArray).size:=by simpa using ht
   rw [Array.getElem?_eq_getElem hs,getElem!_pos (flatK vE 3 xs.toArray) t hs]
  rw [h0,List.getElem?_eq_getElem h1,Option.bind_some]
  have h3:xs.toArray[t / 3]! = xs[t / 3]:=by simp [h1]
  rw [h3]
  generalize xs[t / 3]=x
  have:t % 3=0∨t % 3=1∨t % 3=2:=by omega
  rcases this with e | e | e<;>rw [e]<;>rfl
 ·rw [Array.getElem?_eq_none (by simp;omega),List.getElem?_eq_none (by omega)];rfl
end Go.Sep
namespace Go.Proofs.YtolffbcnbcjeaaaGreat
open Go Go.Sep Go.Pt Go.RowKit Go.Sort
attribute [local irreducible] CallT
def cfE (x y:Ed):Int:=if edLt x y then -1 else if edLt y x then 1 else 0
theorem cfE_lt (x y:Ed):ltOf cfE x y=edLt x y:=by
 unfold ltOf cfE
 by_cases h1:edLt x y
 ·simp [h1]
 ·by_cases h2:edLt y x<;>simp [h1,h2]
theorem edLt_iff (x y:Ed):edLt x y=true↔(x.src < y.src∨x.src=y.src∧(x.lt < y.lt∨x.lt=y.lt∧x.dst < y.dst)):=by
 unfold edLt
 split
 ·split
  ·simp;omega
  ·simp;omega
 ·simp;omega
theorem edLt_iff' (x y:Ed):edLt x y=false↔¬(x.src < y.src∨x.src=y.src∧(x.lt < y.lt∨x.lt=y.lt∧x.dst < y.dst)):=by
 rw [← edLt_iff];simp
theorem cfE_swo:SWO (ltOf cfE) where
 irrefl x:=by rw [cfE_lt,edLt_iff'];omega
 trans x y z h1 h2:=by rw [cfE_lt,edLt_iff] at *;omega
 ntrans x y z h1 h2:=by rw [cfE_lt,edLt_iff'] at *;omega
theorem cfE_tot (x y:Ed) (h1:ltOf cfE x y=false) (h2:ltOf cfE y x=false):x=y:=by
 rw [cfE_lt,edLt_iff'] at *
 cases x;cases y
 simp only [Ed.mk.injEq] at *
 omega
abbrev srtE (xs:List Ed):List Ed:=xs.mergeSort fun x y=>!edLt y x
theorem cE_flat (xs:List Ed):cE xs=(xs.flatMap iE).map fun n=>AV.p (.int .i64 n):=by
 induction xs with
 | nil=>rfl
 | cons x xs ih=>simp only [List.map_cons,cells,List.flatMap_cons,List.map_append] at *;simp_all
theorem SF_hb:HasBody Tryz.prog 101:=⟨_,bO_ Tryz.f101,Tryz.func101,by kernel_rfl,rfl⟩
theorem ce_enters:∀args w,(callFunc 77 args).run Tryz.prog w=.ok (.enter 77 args) w:=Go.Proofs.enters_of Tryz.func77 (by kernel_rfl) rfl
theorem ce_lays (blk off size:Nat) (w:World):CmpLays Tryz.prog 77 #[] vE 3 cfE blk off size w:=by
 intro m os dk _ x y
 refine CallT.quiet (args:=[aE x,aE y]) (v:=I (cfE x y)) (((compareEdges_spec x y).all _).mono fun _ _ h=>h.1) (fun Z φ=>⟨rfl,?_⟩) ?_ _
 ·intro i av x' h1 h2
  have ag:∀z:Ed,Cv Z φ (aE z) (.agg (vE z).toArray):=fun z=>.agg _ _ rfl fun i av x h1 h2=>by
   match i,h1,h2 with
   | 0,h1,h2=>cases h1;cases h2;exact .p (.int _ _)
   | 1,h1,h2=>cases h1;cases h2;exact .p (.int _ _)
   | 2,h1,h2=>cases h1;cases h2;exact .p (.int _ _)
   | i+3,h1,h2=>cases h1
  match i,h1,h2 with
  | 0,h1,h2=>cases h1;cases h2;exact ag x
  | 1,h1,h2=>cases h1;cases h2;exact ag y
  | i+2,h1,h2=>cases h1
 ·intro Z φ y' h
  cases h with
  | p h=>cases h;rfl
theorem srtE_len (xs:List Ed):(srtE xs).length=xs.length:=List.length_mergeSort ..
theorem SF_row {H:Heap} {q:Nat} {xs:List Ed} {K:AV→Heap→Prop} (hq:H q=some (cE xs)) (hl:xs.length≤1000000000) (h:K (.tup []) (H.set q (cE (srtE xs)))) :
  CallT Tryz.prog 101 [rowE q xs,.fn 77 []] H K:=by
 unfold CallT
 refine ⟨SF_hb,?_⟩
 intro B0 w0 F Z φ w ys hd hs ha
 obtain ⟨hsz,hrel⟩:=ha
 obtain ⟨x,y,rfl⟩:∃x y,ys=#[x,y]:=by
  have h1:ys.size=2:=hsz
  refine ⟨ys[0],ys[1],Array.ext (by simp [h1]) fun i hi1 hi2=>?_⟩
  have:i=0∨i=1:=by simp at hi2;omega
  rcases this with rfl | rfl<;>rfl
 have hx:=hrel 0 (rowE q xs) x rfl rfl
 have hy:=hrel 1 (.fn 77 []) y rfl rfl
 have ey:y=.func (.func 77) #[] #[]:=by
  cases hy with
  | fn _ _ xs hs h=>
   have:xs=#[]:=by apply Array.eq_empty_of_size_eq_zero;exact hs
   rw [this]
 subst ey
 have hq':(H.or F) q=some ((xs.flatMap iE).map fun n=>AV.p (.int .i64 n)):=by rw [← cE_flat];exact Heap.or_left hq
 have hFq:F q=none:=hd q (by rw [hq];simp)
 have hfl:=flatE_len xs
 have empty:xs=[]→∀a c,x=.slice a 0 c→Calls Tryz.prog 101 #[x,.func (.func 77) #[] #[]] w (fun e w'=>∃x,e=.returned x∧UpV B0 w0 F Z φ K x w'):=by
  rintro rfl a c rfl
  refine (AnyF.slices_SortFunc_none Tryz.laySF a c _ w).mono ?_
  rintro e w' ⟨rfl,rfl⟩
  have hset:H.set q (cE (srtE []))=H:=by
   funext y
   by_cases e:y=q
   ·subst e;rw [Heap.set_same,show srtE []=[] from List.eq_nil_of_length_eq_zero (srtE_len [])];exact hq.symm
   ·rw [Heap.set_other e]
  rw [hset] at h
  exact ⟨_,rfl,.tup [],H,Z,φ,h,Fro.le_refl _,Pm.le_refl _,hd,hs,.tup [] #[] rfl (fun i av x h=>by simp at h)⟩
 unfold rowE at hx
 generalize hm:xs.length=m at hx
 cases hx with
 | slz _ _ _ a=>exact empty (List.eq_nil_of_length_eq_zero hm) a 0 rfl
 | sl hp hl' hC=>
  rename_i c pl
  subst hm
  by_cases h0:xs.length=0
  ·exact empty (List.eq_nil_of_length_eq_zero h0) _ _ (by rw [h0])
  have hh:=hs.holdsInts hq' (by omega) hp
  have hH:HoldsK vE 3 w pl.b pl.o xs.toArray:=by
   unfold HoldsK;rw [flatE];exact holds_vals hh.1
  have hcon:=AnyQ.slices_SortFunc_total Tryz.laySF 3 (fun w=>by kernel_rfl) (fun w=>by kernel_rfl) vE (fun _=>rfl) (fun x v hv=>by simp at hv;rcases hv with rfl | rfl | rfl<;>rfl) cfE cfE_swo 77 #[] pl.b pl.o c xs.toArray w ce_enters (ce_lays _ _ _ _) hH hh.2 (by simp;omega) cfE_tot
  rw [List.size_toArray] at hcon
  refine hcon.mono ?_
  rintro e w' ⟨rfl,n,os,rfl⟩
  have e1:(xs.toArray.toList.mergeSort fun x y=>!(ltOf cfE) y x)=srtE xs:=by
   have:(fun x y=>!(ltOf cfE) y x)=fun x y=>!edLt y x:=by funext x y;rw [cfE_lt]
   rw [this]
  have e2:sortWorldK vE 3 w pl.b pl.o n (srtE xs).toArray os=Go.Sort.grow (putRow (Value.int .i64) (Go.Sort.ahead w n) pl.b pl.o ((srtE xs).flatMap iE).toArray) os:=by
   unfold sortWorldK putRowK
   rw [flatE,putRow_vals]
  rw [e1,e2]
  have s2:=hs.putInts (zs':=(srtE xs).flatMap iE) hq' (by rw [flatE_len,flatE_len,srtE_len]) (by omega) hp n os
  rw [cE_flat] at h
  refine ⟨_,rfl,.tup [],_,Z,φ,h,Fro.le_refl _,Pm.le_refl _,hd.set hFq,?_,.tup [] #[] rfl (fun i av x h=>by simp at h)⟩
  rw [Heap.or_set];exact s2
theorem SF_nil {H:Heap} {K:AV→Heap→Prop} (h:K (.tup []) H):CallT Tryz.prog 101 [.p .nil,.fn 77 []] H K:=by
 unfold CallT
 refine ⟨SF_hb,?_⟩
 intro B0 w0 F Z φ w ys hd hs ha
 obtain ⟨hsz,hrel⟩:=ha
 obtain ⟨x,y,rfl⟩:∃x y,ys=#[x,y]:=by
  have h1:ys.size=2:=hsz
  refine ⟨ys[0],ys[1],Array.ext (by simp [h1]) fun i hi1 hi2=>?_⟩
  have:i=0∨i=1:=by simp at hi2;omega
  rcases this with rfl | rfl<;>rfl
 have hx:=hrel 0 (.p .nil) x rfl rfl
 have ex:x=.slice none 0 0:=by
  cases hx with
  | p h=>cases h;rfl
 subst ex
 refine (AnyF.slices_SortFunc_none Tryz.laySF none 0 _ w).mono ?_
 rintro e w' ⟨rfl,rfl⟩
 exact ⟨_,rfl,.tup [],H,Z,φ,h,Fro.le_refl _,Pm.le_refl _,hd,hs,.tup [] #[] rfl (fun i av x h=>by simp at h)⟩
end Go.Proofs.YtolffbcnbcjeaaaGreat
namespace Go.Proofs.YtolffbcnbcjeaaaGreat
open Go Go.Sep Go.Pt
attribute [local irreducible] CallT
theorem srtE_ext {xs ys:List Ed} (hn:xs.Nodup) (hs:ys.Pairwise (fun a b=>edLt a b=true)) (hm:∀e,e∈xs↔e∈ys):srtE xs=ys:=by
 have hny:ys.Nodup:=hs.imp fun h e=>by subst e;have:=(edLt_iff _ _).1 h;omega
 have hp:(srtE xs).Perm ys:=(List.mergeSort_perm xs _).trans ((List.perm_ext_iff_of_nodup hn hny).2 hm)
 have h1:(srtE xs).Pairwise (fun a b=>(!edLt b a)=true):=List.pairwise_mergeSort (le:=fun x y=>!edLt y x) (fun a b c h1 h2=>by
  simp only [Bool.not_eq_true',edLt_iff'] at *;omega) (fun a b=>by
  rw [Bool.or_eq_true];simp only [Bool.not_eq_true',edLt_iff'];omega) xs
 have h2:ys.Pairwise (fun a b=>(!edLt b a)=true):=hs.imp fun h=>by
  rw [edLt_iff] at h;rw [Bool.not_eq_true',edLt_iff'];omega
 refine hp.eq_of_pairwise (fun a b _ _ h1 h2=>?_) h1 h2
 rw [Bool.not_eq_true'] at h1 h2
 exact cfE_tot _ _ (by rw [cfE_lt];exact h2) (by rw [cfE_lt];exact h1)
theorem edsOk_of {n:Int} {es:List Ed} (hs:es.Pairwise (fun a b=>edLt a b=true)) (hi:∀e∈es,edIn n e=true):edsOk n es=true:=by
 unfold edsOk
 rw [List.all_eq_true]
 intro i hi'
 rw [List.mem_range] at hi'
 unfold edAt
 rw [Bool.and_eq_true,Bool.or_eq_true,decide_eq_true_eq]
 refine ⟨getD_all (p:=fun e=>edIn n e=true) hi hi',?_⟩
 by_cases h0:i=0
 ·exact .inl h0
 ·right
  rw [getD_lt hi',getD_lt (show i - 1 < es.length by omega)]
  exact List.pairwise_iff_getElem.1 hs (i - 1) i (by omega) hi' (by omega)
theorem rising_of {l:List Int} {n:Int} (hs:l.Pairwise (· < ·)) (hb:∀x∈l,0≤x∧x < n):rising l n=true:=by
 unfold rising
 rw [List.all_eq_true]
 intro i hi
 rw [List.mem_range] at hi
 have h1:=getD_all (p:=fun x=>0≤x∧x < n) (d:=default) hb hi
 unfold riseAt
 simp only [Bool.and_eq_true,Bool.or_eq_true,decide_eq_true_eq]
 refine ⟨h1,?_⟩
 by_cases h0:i=0
 ·exact .inl h0
 ·right
  rw [getD_lt hi,getD_lt (show i - 1 < l.length by omega)]
  exact List.pairwise_iff_getElem.1 hs (i - 1) i (by omega) hi (by omega)
theorem edsOk_pw {n:Int} {es:List Ed} (h:edsOk n es=true):es.Pairwise (fun a b=>edLt a b=true):=by
 unfold edsOk at h
 rw [List.all_eq_true] at h
 have key:∀d i,i+d+1 < es.length→edLt (es.getD i default) (es.getD (i+d+1) default)=true:=by
  intro d
  induction d with
  | zero=>
   intro i hi
   have h1:=h (i+1) (List.mem_range.2 (by omega))
   unfold edAt at h1
   rw [Bool.and_eq_true,Bool.or_eq_true,decide_eq_true_eq] at h1
   rcases h1.2 with h2 | h2
   ·omega
   ·exact h2
  | succ d ih=>
   intro i hi
   have h1:=ih i (by omega)
   have h2:=h (i+(d+1)+1) (List.mem_range.2 hi)
   unfold edAt at h2
   rw [Bool.and_eq_true,Bool.or_eq_true,decide_eq_true_eq] at h2
   rcases h2.2 with h3 | h3
   ·omega
   ·rw [show i+(d+1)+1 - 1=i+d+1 by omega] at h3
    rw [edLt_iff] at *
    omega
 rw [List.pairwise_iff_getElem]
 intro i j hi hj hij
 have:=key (j - i - 1) i (by omega)
 rw [show i+(j - i - 1)+1=j by omega,getD_lt hi,getD_lt hj] at this
 exact this
theorem rz_sortE {H G:Heap} {Ts:List Th} {z:Nat} {x:AV} {xs:List Ed} {D:List Nat} (s:St H Ts G) (i:Nat) (hi:Ts[i]?=some (reT z x xs D)) (hl:xs.length≤1000000000) {K:AV→Heap→Prop}
  (h:∀G',St H (Ts.set i (reT z x (srtE xs) D)) G'→K (.tup []) G'):CallT Tryz.prog 101 [x,.fn 77 []] G K:=by
 have hrz:RZ (LPl eE) 3 z x xs G D:=s.get i hi
 have he:=srtE_len xs
 rcases hrz with ⟨rfl,rfl,rfl,hz⟩ | ⟨q,cs,D',rfl,hq,hll,rfl⟩
 ·refine SF_nil (h G ?_)
  have:srtE []=[]:=List.eq_nil_of_length_eq_zero he
  rw [this]
  have e:Ts.set i (reT z (.p .nil) [] [z])=Ts:=by
   obtain ⟨h1,h2⟩:=List.getElem?_eq_some_iff.1 hi
   rw [← h2];exact List.set_getElem_self h1
  rw [e];exact s
 ·obtain ⟨rfl,rfl⟩:=LL.plain' hll
  refine SF_row hq (by omega) (h _ ?_)
  refine s.upd i hi (reT z (.sl q 3 0 xs.length) (srtE xs) [q]) rfl (fun y hy=>Heap.set_other (fun e=>hy (by simp [rzT,e]))) (.inr ?_)
  refine ⟨q,_,[],by rw [he],Heap.set_same _ _ _,LL.plain _,rfl⟩
def gw (n:Nat) (p:Nat→Bool):List Int:=((List.range n).filter p).map fun (g:Nat)=>(g:Int)
theorem gw_succ (n:Nat) (p:Nat→Bool):gw (n+1) p=if p n=true then gw n p++[(n:Int)] else gw n p:=by
 unfold gw
 rw [List.range_succ,List.filter_append,List.map_append]
 by_cases h:p n=true
 ·simp [h]
 ·simp [h]
theorem gw_len (n:Nat) (p:Nat→Bool):(gw n p).length≤n:=by
 unfold gw
 rw [List.length_map]
 have:=List.length_filter_le p (List.range n)
 rwa [List.length_range] at this
theorem gw_rising (n:Nat) (p:Nat→Bool):rising (gw n p) n=true:=by
 refine rising_of ?_ fun x hx=>?_
 ·unfold gw
  rw [List.pairwise_map]
  exact (List.pairwise_lt_range.filter p).imp fun h=>by omega
 ·obtain ⟨g,hg,rfl⟩:=List.mem_map.1 hx
  have:=List.mem_range.1 (List.mem_filter.1 hg).1
  omega
end Go.Proofs.YtolffbcnbcjeaaaGreat
namespace Go.Proofs.YtolffbcnbcjeaaaGreat
open Go Go.Sep
attribute [local irreducible] CallT
theorem IndexFunc_at (xs:List Int) (g:Nat) (caps:List AV) (p:Int→Bool) {H:Heap} (hl:xs.length≤1000000000) (hp:∀x∈xs,PuAt Tryz.prog g (I x::caps) H (B (p x))) :
  PuAt Tryz.prog 115 [Is xs,.fn g caps] H (I (if xs.any p then (xs.findIdx p:Int) else -1)):=by
 intro K hK
 refine CallT.fin ?_
 refine W115_ok ?_;simp (maxSteps:=1000000) (disch:=first | assumption | (apply ν6;assumption)) only [W115,vz,vu,vv,eqS,eF_,↓c1_,↓c2_,tabs,reduceCtorEq,ι5,↓reduceIte,ν1,ν2,ν3,ν4,ν5,ι1,ι2,ι3,ι4]
 refine L115_0_rule (0:Nat) (fun i=>I i) (fun _=>H) (fun i=>i≤xs.length∧∀j (hj:j < xs.length),j < i→p xs[j]=false) (fun i=>xs.length - i) ⟨⟨by omega,by intros;omega⟩,.refl _,Heap.le_refl _⟩ ?_
 rintro i ⟨hi1,ha⟩
 (try simp (maxSteps:=1000000) (disch:=first | assumption | (apply ν6;assumption)) only [vz,vu,vv,eqS,eF_,↓c1_,↓c2_,tabs,reduceCtorEq,ι5,↓reduceIte,ν1,ν2,ν3,ν4,ν5,ι1,ι2,ι3,ι4,B115_0])
 refine ⟨fun h=>⟨by omega,h,?_⟩,fun h=>?_⟩
 ·have hlt:i < xs.length:=by omega
  rw [getD_lt hlt]
  refine PuAt.use (hp _ (List.getElem_mem hlt)) ?_
  (try simp (maxSteps:=1000000) (disch:=first | assumption | (apply ν6;assumption)) only [vz,vu,vv,eqS,eF_,↓c1_,↓c2_,tabs,reduceCtorEq,ι5,↓reduceIte,ν1,ν2,ν3,ν4,ν5,ι1,ι2,ι3,ι4])
  refine ⟨fun h1=>?_,fun h1=>⟨i+1,⟨by omega,fun j hj hji=>?_⟩,by omega,?_⟩⟩
  ·have h2:xs.any p=true:=List.any_eq_true.2 ⟨xs[i],List.getElem_mem hlt,h1⟩
   have h3:xs.findIdx p=i:=by
    rw [List.findIdx_eq hlt];exact ⟨h1,fun j hj=>ha j (by omega) hj⟩
   rw [h2,h3] at hK;exact wkK.keep (by simpa using hK)
  ·rcases Nat.lt_succ_iff_lt_or_eq.1 hji with h2 | rfl
   ·exact ha j hj h2
   ·exact h1
  ·rw [wk_int,i6_ (by omega) (by omega)];simp
 ·have hi:i=xs.length:=by omega
  have h2:xs.any p=false:=by
   rw [List.any_eq_false]
   intro x hx
   obtain ⟨j,hj,rfl⟩:=List.mem_iff_getElem.1 hx
   rw [ha j hj (by omega)];simp
  rw [h2] at hK;exact wkK.keep (by simpa using hK)
theorem ContainsFunc_at (xs:List Int) (g:Nat) (caps:List AV) (p:Int→Bool) {H:Heap} (hl:xs.length≤1000000000) (hp:∀x∈xs,PuAt Tryz.prog g (I x::caps) H (B (p x))) :
  PuAt Tryz.prog 150 [Is xs,.fn g caps] H (B (xs.any p)):=by
 intro K hK
 refine W150_ok ?_;simp (maxSteps:=1000000) (disch:=first | assumption | (apply ν6;assumption)) only [W150,vz,vu,vv,eqS,eF_,↓c1_,↓c2_,tabs,reduceCtorEq,ι5,↓reduceIte,ν1,ν2,ν3,ν4,ν5,ι1,ι2,ι3,ι4]
 refine PuAt.use (IndexFunc_at xs g caps p hl hp) ?_
 (try simp (maxSteps:=1000000) (disch:=first | assumption | (apply ν6;assumption)) only [vz,vu,vv,eqS,eF_,↓c1_,↓c2_,tabs,reduceCtorEq,ι5,↓reduceIte,ν1,ν2,ν3,ν4,ν5,ι1,ι2,ι3,ι4])
 cases h:xs.any p<;>simp [h] at hK ⊢<;>exact hK
end Go.Proofs.YtolffbcnbcjeaaaGreat
namespace Go.Proofs.YtolffbcnbcjeaaaGreat
open Go Go.Sep Go.Pt
attribute [local irreducible] CallT
theorem l1In_BQ (a lo hi:Int):Pu Tryz.prog 63 [I a,I lo,I hi] (B (inB a lo hi)):=l1In_spec a lo hi
theorem l1AllQ (xs:List Int) (lo hi:Int) (hl:xs.length≤1000000000):Pu Tryz.prog 109 [Is xs,I lo,I hi] (B (xs.all fun a=>decide (lo≤a) && decide (a≤hi))):=by
 refine Pu.of fun H=>?_
 refine W109_ok ?_;simp (maxSteps:=1000000) (disch:=first | assumption | (apply ν6;assumption)) only [W109,vz,vu,vv,eqS,eF_,↓c1_,↓c2_,tabs,reduceCtorEq,ι5,↓reduceIte,ν1,ν2,ν3,ν4,ν5,ι1,ι2,ι3,ι4]
 refine L109_0_rule (0:Nat) (fun i=>I i) (fun _=>H) (fun i=>i≤xs.length∧(xs.take i).all (fun a=>decide (lo≤a) && decide (a≤hi))=true) (fun i=>xs.length - i) ⟨⟨by omega,by simp⟩,.refl _,Heap.le_refl _⟩ ?_
 rintro i ⟨hi1,ha⟩
 (try simp (maxSteps:=1000000) (disch:=first | assumption | (apply ν6;assumption)) only [vz,vu,vv,eqS,eF_,↓c1_,↓c2_,tabs,reduceCtorEq,ι5,↓reduceIte,ν1,ν2,ν3,ν4,ν5,ι1,ι2,ι3,ι4,B109_0])
 refine ⟨fun h=>⟨by omega,h,?_⟩,fun h=>?_⟩
 ·have hlt:i < xs.length:=by omega
  refine Pu.use (l1In_spec ..) ?_
  (try simp (maxSteps:=1000000) (disch:=first | assumption | (apply ν6;assumption)) only [vz,vu,vv,eqS,eF_,↓c1_,↓c2_,tabs,reduceCtorEq,ι5,↓reduceIte,ν1,ν2,ν3,ν4,ν5,ι1,ι2,ι3,ι4])
  have e:=take_all_succ (p:=fun a=>decide (lo≤a) && decide (a≤hi)) hlt
  rw [getD_lt hlt]
  refine ⟨fun h1=>?_,fun h1=>?_⟩
  ·congr 2
   symm
   rw [List.all_eq_false]
   exact ⟨xs[i],by simp,by simpa using h1⟩
  ·refine ⟨i+1,⟨by omega,by rw [e,ha];simpa using h1⟩,by omega,?_⟩
   rw [wk_int,i6_ (by omega) (by omega)];simp
 ·have:i=xs.length:=by omega
  subst this
  rw [List.take_length] at ha;simp [ha]
def letB (n:Int):Bool:=decide (0≤n) && decide (n≤7)
def goodL (s l:List Int):Bool:=(decide (s.length≤24) && (decide (1≤l.length) && decide (l.length≤24))) && (s.all letB && l.all letB)
theorem areLetters1Q (n:Int) {H:Heap}:PuAt Tryz.prog 151 [I n] H (B (!letB n)):=by
 intro K hK
 refine W151_ok ?_;simp (maxSteps:=1000000) (disch:=first | assumption | (apply ν6;assumption)) only [W151,vz,vu,vv,eqS,eF_,↓c1_,↓c2_,tabs,reduceCtorEq,ι5,↓reduceIte,ν1,ν2,ν3,ν4,ν5,ι1,ι2,ι3,ι4]
 refine ⟨fun h=>?_,fun h=>?_⟩
 ·have e:letB n=false:=by simp [letB];omega
  rw [e] at hK;exact hK
 ·by_cases h2:8≤n
  ·have e:letB n=false:=by simp [letB];omega
   have e2:decide (8≤n)=true:=by simpa using h2
   rw [e] at hK;simpa [e2] using hK
  ·have e:letB n=true:=by simp [letB];omega
   have e2:decide (8≤n)=false:=by simpa using h2
   rw [e] at hK;simpa [e2] using hK
theorem areLettersQ (xs:List Int) (hl:xs.length≤1000000000):Pu Tryz.prog 121 [Is xs] (B (xs.all letB)):=by
 refine Pu.of fun H=>?_
 refine W121_ok ?_;simp (maxSteps:=1000000) (disch:=first | assumption | (apply ν6;assumption)) only [W121,vz,vu,vv,eqS,eF_,↓c1_,↓c2_,tabs,reduceCtorEq,ι5,↓reduceIte,ν1,ν2,ν3,ν4,ν5,ι1,ι2,ι3,ι4]
 refine PuAt.use (ContainsFunc_at xs _ _ (fun n=>!letB n) hl fun x _=>areLetters1Q x) ?_
 (try simp (maxSteps:=1000000) (disch:=first | assumption | (apply ν6;assumption)) only [vz,vu,vv,eqS,eF_,↓c1_,↓c2_,tabs,reduceCtorEq,ι5,↓reduceIte,ν1,ν2,ν3,ν4,ν5,ι1,ι2,ι3,ι4])
 rw [List.all_eq_not_any_not]
theorem GoodLassoI (s l:List Int) (h1:s.length≤1000000000) (h2:l.length≤1000000000):Pu Tryz.prog 89 [.agg [Is s,Is l]] (B (goodL s l)):=by
 refine Pu.of fun H=>?_
 refine W89_ok ?_;simp (maxSteps:=1000000) (disch:=first | assumption | (apply ν6;assumption)) only [W89,vz,vu,vv,eqS,eF_,↓c1_,↓c2_,tabs,reduceCtorEq,ι5,↓reduceIte,ν1,ν2,ν3,ν4,ν5,ι1,ι2,ι3,ι4]
 intro r hr
 have hle:∀z,Heap.le H (H.set r z):=fun z=>Heap.le_set hr
 (try simp (maxSteps:=1000000) (disch:=first | assumption | (apply ν6;assumption)) only [vz,vu,vv,eqS,eF_,↓c1_,↓c2_,tabs,reduceCtorEq,ι5,↓reduceIte,ν1,ν2,ν3,ν4,ν5,ι1,ι2,ι3,ι4])
 have fls:(¬(s.length≤24∧1≤l.length∧l.length≤24))→goodL s l=false:=fun h=>by
  rw [Bool.eq_false_iff];intro hh
  simp only [goodL,Bool.and_eq_true,decide_eq_true_eq] at hh
  exact h ⟨hh.1.1,hh.1.2.1,hh.1.2.2⟩
 refine ⟨fun a1=>⟨fun a2=>⟨fun a3=>?_,fun a3=>⟨by rw [fls (by omega)],hle _⟩⟩,fun a2=>⟨by rw [fls (by omega)],hle _⟩⟩,fun a1=>⟨by rw [fls (by omega)],hle _⟩⟩
 have e:goodL s l=(s.all letB && l.all letB):=by
  have b1:s.length≤24:=by omega
  have b2:1≤l.length:=by omega
  have b3:l.length≤24:=by omega
  simp only [goodL,b1,b2,b3,decide_true,Bool.true_and]
 rw [e]
 refine Pu.use (areLettersQ s h1) ?_
 cases s.all letB
 ·(try simp (maxSteps:=1000000) (disch:=first | assumption | (apply ν6;assumption)) only [vz,vu,vv,eqS,eF_,↓c1_,↓c2_,tabs,reduceCtorEq,ι5,↓reduceIte,ν1,ν2,ν3,ν4,ν5,ι1,ι2,ι3,ι4])
  exact hle _
 ·(try simp (maxSteps:=1000000) (disch:=first | assumption | (apply ν6;assumption)) only [vz,vu,vv,eqS,eF_,↓c1_,↓c2_,tabs,reduceCtorEq,ι5,↓reduceIte,ν1,ν2,ν3,ν4,ν5,ι1,ι2,ι3,ι4])
  refine Pu.use (areLettersQ l h2) ?_
  (try simp (maxSteps:=1000000) (disch:=first | assumption | (apply ν6;assumption)) only [vz,vu,vv,eqS,eF_,↓c1_,↓c2_,tabs,reduceCtorEq,ι5,↓reduceIte,ν1,ν2,ν3,ν4,ν5,ι1,ι2,ι3,ι4])
  exact hle _
theorem GoodLassoR (s l:List Int) (h1:s.length≤1000000000) (h2:l.length≤1000000000):Pu Tryz.prog 73 [.agg [Is s,Is l]] (B (goodL s l)):=by
 refine Pu.of fun H=>?_
 refine W73_ok ?_;simp (maxSteps:=1000000) (disch:=first | assumption | (apply ν6;assumption)) only [W73,vz,vu,vv,eqS,eF_,↓c1_,↓c2_,tabs,reduceCtorEq,ι5,↓reduceIte,ν1,ν2,ν3,ν4,ν5,ι1,ι2,ι3,ι4]
 intro r hr
 have hle:∀z,Heap.le H (H.set r z):=fun z=>Heap.le_set hr
 (try simp (maxSteps:=1000000) (disch:=first | assumption | (apply ν6;assumption)) only [vz,vu,vv,eqS,eF_,↓c1_,↓c2_,tabs,reduceCtorEq,ι5,↓reduceIte,ν1,ν2,ν3,ν4,ν5,ι1,ι2,ι3,ι4])
 refine ⟨fun a1=>?_,fun a1=>?_⟩
 rotate_left
 ·refine ⟨?_,hle _⟩
  have:goodL s l=false:=by
   rw [Bool.eq_false_iff];intro hh
   simp only [goodL,Bool.and_eq_true,decide_eq_true_eq] at hh
   have:=hh.1.1;omega
  rw [this]
 refine Pu.use (l1In_BQ l.length 1 24) ?_
 cases hin:inB l.length 1 24
 ·(try simp (maxSteps:=1000000) (disch:=first | assumption | (apply ν6;assumption)) only [vz,vu,vv,eqS,eF_,↓c1_,↓c2_,tabs,reduceCtorEq,ι5,↓reduceIte,ν1,ν2,ν3,ν4,ν5,ι1,ι2,ι3,ι4])
  refine ⟨?_,hle _⟩
  have:goodL s l=false:=by
   rw [Bool.eq_false_iff];intro hh
   simp only [goodL,Bool.and_eq_true,decide_eq_true_eq] at hh
   rw [inB_iff.2 (by have:=hh.1.2;omega)] at hin;cases hin
  rw [this]
 rw [inB_iff] at hin
 have e:goodL s l=(s.all letB && l.all letB):=by
  have b1:s.length≤24:=by omega
  have b2:1≤l.length:=by omega
  have b3:l.length≤24:=by omega
  simp only [goodL,b1,b2,b3,decide_true,Bool.true_and]
 rw [e]
 (try simp (maxSteps:=1000000) (disch:=first | assumption | (apply ν6;assumption)) only [vz,vu,vv,eqS,eF_,↓c1_,↓c2_,tabs,reduceCtorEq,ι5,↓reduceIte,ν1,ν2,ν3,ν4,ν5,ι1,ι2,ι3,ι4])
 refine Pu.use (l1AllQ s 0 7 h1) ?_
 have e3:∀xs:List Int,(xs.all fun a=>decide (0≤a) && decide (a≤7))=xs.all letB:=fun xs=>rfl
 rw [e3]
 cases s.all letB
 ·(try simp (maxSteps:=1000000) (disch:=first | assumption | (apply ν6;assumption)) only [vz,vu,vv,eqS,eF_,↓c1_,↓c2_,tabs,reduceCtorEq,ι5,↓reduceIte,ν1,ν2,ν3,ν4,ν5,ι1,ι2,ι3,ι4])
  exact hle _
 ·(try simp (maxSteps:=1000000) (disch:=first | assumption | (apply ν6;assumption)) only [vz,vu,vv,eqS,eF_,↓c1_,↓c2_,tabs,reduceCtorEq,ι5,↓reduceIte,ν1,ν2,ν3,ν4,ν5,ι1,ι2,ι3,ι4])
  refine Pu.use (l1AllQ l 0 7 h2) ?_
  rw [e3]
  (try simp (maxSteps:=1000000) (disch:=first | assumption | (apply ν6;assumption)) only [vz,vu,vv,eqS,eF_,↓c1_,↓c2_,tabs,reduceCtorEq,ι5,↓reduceIte,ν1,ν2,ν3,ν4,ν5,ι1,ι2,ι3,ι4])
  exact hle _
abbrev aL2 (s l:List Int):AV:=.agg [Is s,Is l]
theorem l9Made_spec (s l:List Int) (h1:s.length≤1000000000) (h2:l.length≤1000000000):Pu Tryz.prog 34 [aL2 s l] (.tup [aL2 (if goodL s l then s else []) (if goodL s l then l else []),B (goodL s l)]):=by
 refine ⟨fun H=>CallT.fin ?_⟩
 refine W34_ok ?_;simp (maxSteps:=1000000) (disch:=first | assumption | (apply ν6;assumption)) only [W34,vz,vu,vv,eqS,eF_,↓c1_,↓c2_,tabs,reduceCtorEq,ι5,↓reduceIte,ν1,ν2,ν3,ν4,ν5,ι1,ι2,ι3,ι4]
 intro r1 hr1 r2 n21 hr2
 have n12:=Ne.symm n21
 have hle:∀z,Heap.le H ((H.set r1 [Is s,Is l]).set r2 z):=fun z=>Heap.le_setN (Heap.le_set hr1) hr2
 (try simp (maxSteps:=1000000) (disch:=first | assumption | (apply ν6;assumption)) only [vz,vu,vv,eqS,eF_,↓c1_,↓c2_,tabs,reduceCtorEq,ι5,↓reduceIte,ν1,ν2,ν3,ν4,ν5,ι1,ι2,ι3,ι4])
 refine Pu.use (GoodLassoR s l h1 h2) ?_
 cases h:goodL s l
 ·(try simp (maxSteps:=1000000) (disch:=first | assumption | (apply ν6;assumption)) only [vz,vu,vv,eqS,eF_,↓c1_,↓c2_,tabs,reduceCtorEq,ι5,↓reduceIte,ν1,ν2,ν3,ν4,ν5,ι1,ι2,ι3,ι4])
  exact ⟨_,_,.trans (.val (v':=.tup [aL2 [] [],B false]) (wk_tup ⟨wk_agg ⟨.nil,.nil,trivial⟩,.refl _,trivial⟩)) (.forget (hle _)),rfl,rfl⟩
 ·(try simp (maxSteps:=1000000) (disch:=first | assumption | (apply ν6;assumption)) only [vz,vu,vv,eqS,eF_,↓c1_,↓c2_,tabs,reduceCtorEq,ι5,↓reduceIte,ν1,ν2,ν3,ν4,ν5,ι1,ι2,ι3,ι4])
  exact ⟨_,_,.forget (hle _),rfl,rfl⟩
theorem wkL2 {s l:List Int} {q1 q2:Nat} {G:Heap} (hq1:G q1=some (cP fI s)) (hq2:G q2=some (cP fI l)) (hne:q1≠q2) (C:AV→AV) (hC:∀{r sz es a a'},FrzR r sz es a a'→FrzR r sz es (C a) (C a')):Wk (C (.agg [rowP q1 s,rowP q2 l])) G (C (aL2 s l)) ((G.del q1).del q2):=by
 have w1:=Wk.frz (v:=C (.agg [rowP q1 s,rowP q2 l])) (v':=C (.agg [Is s,rowP q2 l])) (H:=G) (r:=q1) (sz:=1) (es:=s.map fun n=>[fI n]) (by omega) (by rw [flat_P];exact hq1) (szP _ _) (hC (.agg (.cons frz_row (.cons (.same _) .nil))))
 have w2:=Wk.frz (v:=C (.agg [Is s,rowP q2 l])) (v':=C (aL2 s l)) (H:=G.del q1) (r:=q2) (sz:=1) (es:=l.map fun n=>[fI n]) (by omega) (by rw [flat_P,Heap.del_other (Ne.symm hne)];exact hq2) (szP _ _) (hC (.agg (.cons (.same _) (.cons frz_row .nil))))
 exact .trans w1 w2
def RL (s l:List Int) (v:AV) (G:Heap) (D:List Nat):Prop:=(s=[]∧l=[]∧v=.agg [.p .nil,.p .nil]∧D=[])∨∃q1 q2,v=.agg [rowP q1 s,rowP q2 l]∧G q1=some (cP fI s)∧G q2=some (cP fI l)∧D=[q1,q2]∧q1≠q2
end Go.Proofs.YtolffbcnbcjeaaaGreat
namespace Go.Proofs.YtolffbcnbcjeaaaGreat
open Go Go.Sep Go.Pt
attribute [local irreducible] CallT
theorem RL.local {s l:List Int} {v:AV} {G G':Heap} {D:List Nat} (h:RL s l v G D) (hf:∀y∈D,∀b,G y=some b→G' y=some b):RL s l v G' D:=by
 rcases h with h | ⟨q1,q2,rfl,h1,h2,rfl,hne⟩
 ·exact .inl h
 ·exact .inr ⟨q1,q2,rfl,hf q1 (by simp) _ h1,hf q2 (by simp) _ h2,rfl,hne⟩
theorem RL.has {s l:List Int} {v:AV} {G:Heap} {D:List Nat} (h:RL s l v G D):∀y∈D,G y≠none:=by
 rcases h with ⟨_,_,_,rfl⟩ | ⟨q1,q2,rfl,h1,h2,rfl,hne⟩
 ·intro y hy;cases hy
 ·intro y hy
  simp only [List.mem_cons,List.not_mem_nil,or_false] at hy
  rcases hy with rfl | rfl
  ·rw [h1];simp
  ·rw [h2];simp
theorem RL.ag {s l:List Int} {v:AV} {G:Heap} {D:List Nat} (h:RL s l v G D):∃x y,v=.agg [x,y]∧x.isCell=true∧y.isCell=true:=by
 rcases h with ⟨_,_,rfl,_⟩ | ⟨q1,q2,rfl,_⟩
 ·exact ⟨_,_,rfl,rfl,rfl⟩
 ·exact ⟨_,_,rfl,rfl,rfl⟩
def RLt (s l:List Int) (ok:Bool) (r:AV) (G:Heap) (D:List Nat):Prop:=∃v,r=.tup [v,B ok]∧RL s l v G D
theorem RLt.res (s l:List Int) (ok:Bool):ResU (RLt s l ok):=by
 have gdrow:∀{xs:List Int} {c:AV},c∈cP fI xs→GdC c:=fun {xs c} hc=>by
  obtain ⟨x,_,rfl⟩:=List.mem_map.1 hc
  exact .p (.int _ _)
 refine ⟨?_,?_,?_⟩
 ·rintro r G G' D ⟨v,rfl,h⟩ hf
  exact ⟨v,rfl,h.local hf⟩
 ·rintro r G D ⟨v,rfl,h⟩
  have gb:Gd1 (B ok):=.inr ⟨.p (.bool ok),fun _=>rfl⟩
  have gv:Gd1 v∧∀y∈D,∀bs,G y=some bs→∀c∈bs,GdC c:=by
   rcases h with ⟨_,_,rfl,rfl⟩ | ⟨q1,q2,rfl,h1,h2,rfl,hne⟩
   ·exact ⟨.inl ⟨_,rfl,fun c hc=>by
     simp only [List.mem_cons,List.not_mem_nil,or_false] at hc
     rcases hc with rfl | rfl<;>exact .p .nil⟩,fun y hy=>by cases hy⟩
   ·refine ⟨.inl ⟨_,rfl,fun c hc=>by
     simp only [List.mem_cons,List.not_mem_nil,or_false] at hc
     rcases hc with rfl | rfl<;>exact .inl ⟨_,_,_,_,rfl⟩⟩,fun y hy bs hb c hc=>?_⟩
    simp only [List.mem_cons,List.not_mem_nil,or_false] at hy
    rcases hy with rfl | rfl
    ·rw [h1] at hb;cases hb;exact gdrow hc
    ·rw [h2] at hb;cases hb;exact gdrow hc
  refine ⟨.inl ⟨_,rfl,fun u hu=>?_⟩,gv.2⟩
  rcases List.mem_cons.1 hu with rfl | hu
  ·exact gv.1
  ·rw [List.mem_singleton] at hu;rw [hu];exact gb
 ·rintro r G D n G0 h0 ⟨v,rfl,h⟩
  have e:∀xs:List Int,(cP fI xs).map (shC n)=cP fI xs:=fun xs=>by
   simp only [cP,List.map_map];rfl
  have sh:∀{q xs},G q=some (cP fI xs)→(Heap.or G0 (shH n G)) (q+n)=some (cP fI xs):=fun {q xs} hq=>by
   simp only [Heap.or,h0 (q+n) (by omega),shH,Nat.le_add_left,if_true,Nat.add_sub_cancel,hq,Option.map_some,e]
  rcases h with ⟨rfl,rfl,rfl,rfl⟩ | ⟨q1,q2,rfl,h1,h2,rfl,hne⟩
  ·exact ⟨_,rfl,.inl ⟨rfl,rfl,rfl,rfl⟩⟩
  ·exact ⟨_,rfl,.inr ⟨q1+n,q2+n,rfl,sh h1,sh h2,rfl,by omega⟩⟩
theorem eqLassoQ (s l:List Int) (h1:s.length≤1048576) (h2:l.length≤1048576):Pu Tryz.prog 11 [aL2 s l,aL2 s l] (B true):=by
 refine Pu.of fun H=>?_
 refine W11_ok ?_;simp (maxSteps:=1000000) (disch:=first | assumption | (apply ν6;assumption)) only [W11,vz,vu,vv,eqS,eF_,↓c1_,↓c2_,tabs,reduceCtorEq,ι5,↓reduceIte,ν1,ν2,ν3,ν4,ν5,ι1,ι2,ι3,ι4]
 intro r hr r2 n2 hr2
 have hle:=Heap.le_setN (b:=[Is s,Is l]) (Heap.le_set (b:=[Is s,Is l]) hr) hr2
 have nn2:=Ne.symm n2
 (try simp (maxSteps:=1000000) (disch:=first | assumption | (apply ν6;assumption)) only [vz,vu,vv,eqS,eF_,↓c1_,↓c2_,tabs,reduceCtorEq,ι5,↓reduceIte,ν1,ν2,ν3,ν4,ν5,ι1,ι2,ι3,ι4])
 refine Pu.use (eqIntS_spec s h1) ?_
 (try simp (maxSteps:=1000000) (disch:=first | assumption | (apply ν6;assumption)) only [vz,vu,vv,eqS,eF_,↓c1_,↓c2_,tabs,reduceCtorEq,ι5,↓reduceIte,ν1,ν2,ν3,ν4,ν5,ι1,ι2,ι3,ι4])
 refine Pu.use (eqIntS_spec l h2) ?_
 (try simp (maxSteps:=1000000) (disch:=first | assumption | (apply ν6;assumption)) only [vz,vu,vv,eqS,eF_,↓c1_,↓c2_,tabs,reduceCtorEq,ι5,↓reduceIte,ν1,ν2,ν3,ν4,ν5,ι1,ι2,ι3,ι4])
 exact hle
theorem RL.eq {s l:List Int} {v:AV} {G:Heap} {D:List Nat} (h:RL s l v G D) (hs:s.length≤1048576) (hl:l.length≤1048576) {K:AV→Heap→Prop} (k:K (B true) G):CallT Tryz.prog 11 [v,aL2 s l] G K:=by
 rcases h with ⟨rfl,rfl,rfl,rfl⟩ | ⟨q1,q2,rfl,h1,h2,rfl,hne⟩
 ·exact CallT.args (args':=[aL2 [] [],aL2 [] []]) ((eqLassoQ [] [] (by simp) (by simp)).use k) ⟨wk_agg ⟨.nil,.nil,trivial⟩,.refl _,trivial⟩
 ·exact Pu.thaw (eqLassoQ s l hs hl) (.bool _) (wkL2 h1 h2 hne (fun v=>.tup [v,aL2 s l]) (fun h=>.tup (.cons h (.cons (.same _) .nil)))) k
theorem RL.mark {s l:List Int} {v:AV} {G:Heap} {D:List Nat} (hx:RL s l v G D) (hs:s.length≤1048576) (hl:l.length≤1048576) {k:Int} (h0:0≤k) (hk:k≤900000000) {K:AV→Heap→Prop}
  (h:∀G',RL (marked k s.length) (marked (k+s.length) l.length) v G' D→(∀y,y∉D→G' y=G y)→K (I (k+s.length+l.length)) G'):CallT Tryz.prog 14 [v,I k] G K:=by
 refine CallT.fin ?_
 rcases hx with ⟨rfl,rfl,rfl,rfl⟩ | ⟨q1,q2,rfl,h1,h2,rfl,hne⟩
 ·refine W14_ok ?_;simp (maxSteps:=1000000) (disch:=first | assumption | (apply ν6;assumption)) only [W14,vz,vu,vv,eqS,eF_,↓c1_,↓c2_,tabs,reduceCtorEq,ι5,↓reduceIte,ν1,ν2,ν3,ν4,ν5,ι1,ι2,ι3,ι4]
  intro r hr
  refine markI0 ?_
  (try simp (maxSteps:=1000000) (disch:=first | assumption | (apply ν6;assumption)) only [vz,vu,vv,eqS,eF_,↓c1_,↓c2_,tabs,reduceCtorEq,ι5,↓reduceIte,ν1,ν2,ν3,ν4,ν5,ι1,ι2,ι3,ι4])
  refine markI0 ?_
  (try simp (maxSteps:=1000000) (disch:=first | assumption | (apply ν6;assumption)) only [vz,vu,vv,eqS,eF_,↓c1_,↓c2_,tabs,reduceCtorEq,ι5,↓reduceIte,ν1,ν2,ν3,ν4,ν5,ι1,ι2,ι3,ι4])
  have:=h G (.inl ⟨rfl,rfl,rfl,rfl⟩) (fun _ _=>rfl)
  simp only [List.length_nil,Int.ofNat_zero,Int.add_zero] at this
  exact fin_le (Heap.le_set hr) this
 ·refine W14_ok ?_;simp (maxSteps:=1000000) (disch:=first | assumption | (apply ν6;assumption)) only [W14,vz,vu,vv,eqS,eF_,↓c1_,↓c2_,tabs,reduceCtorEq,ι5,↓reduceIte,ν1,ν2,ν3,ν4,ν5,ι1,ι2,ι3,ι4]
  intro r hr
  have ne1:q1≠r:=fun e=>by rw [e,hr] at h1;cases h1
  have ne2:q2≠r:=fun e=>by rw [e,hr] at h2;cases h2
  have en1:=Ne.symm ne1
  have en2:=Ne.symm ne2
  have enq:=Ne.symm hne
  refine markIntS_live s hs h0 (by omega) (by rw [Heap.set_other ne1,h1,← cells_P]) ?_
  (try simp (maxSteps:=1000000) (disch:=first | assumption | (apply ν6;assumption)) only [vz,vu,vv,eqS,eF_,↓c1_,↓c2_,tabs,reduceCtorEq,ι5,↓reduceIte,ν1,ν2,ν3,ν4,ν5,ι1,ι2,ι3,ι4])
  refine markIntS_live l hl (by omega) (by omega) (by rw [Heap.set_other enq,Heap.set_other ne2,h2,← cells_P]) ?_
  (try simp (maxSteps:=1000000) (disch:=first | assumption | (apply ν6;assumption)) only [vz,vu,vv,eqS,eF_,↓c1_,↓c2_,tabs,reduceCtorEq,ι5,↓reduceIte,ν1,ν2,ν3,ν4,ν5,ι1,ι2,ι3,ι4])
  have hm1:=marked_len k s.length
  have hm2:=marked_len (k+s.length) l.length
  refine fin_le (H:=(G.set q1 (cells ((marked k s.length).map eI))).set q2 (cells ((marked (k+s.length) l.length).map eI))) ?_ (h _ (.inr ⟨q1,q2,by rw [rowP,rowP,rowP,rowP,hm1,hm2],by rw [Heap.set_other hne,Heap.set_same,← cells_P],by rw [Heap.set_same,← cells_P],rfl,hne⟩) fun z hz=>?_)
  ·generalize cells ((marked k s.length).map eI)=z
   generalize cells ((marked (k+s.length) l.length).map eI)=z2
   clear h
   (intro y b hy;simp only [Heap.set,Heap.del] at hy ⊢;(repeat' split at hy)<;>(repeat' split)<;>simp_all [cells])
  ·simp only [List.mem_cons,List.not_mem_nil,or_false,not_or] at hz
   rw [Heap.set_other hz.2,Heap.set_other hz.1]
theorem heldLassoQ (n m:Nat) (h1:n≤1048576) (h2:m≤1048576):Pu Tryz.prog 15 [aL2 (marked 1 n) (marked (1+n) m),I 1] (I (1+n+m)):=by
 refine Pu.of fun H=>?_
 refine W15_ok ?_;simp (maxSteps:=1000000) (disch:=first | assumption | (apply ν6;assumption)) only [W15,vz,vu,vv,eqS,eF_,↓c1_,↓c2_,tabs,reduceCtorEq,ι5,↓reduceIte,ν1,ν2,ν3,ν4,ν5,ι1,ι2,ι3,ι4]
 intro r hr
 refine Pu.use (heldIntS_spec n h1 (by omega) (by omega)) ?_
 (try simp (maxSteps:=1000000) (disch:=first | assumption | (apply ν6;assumption)) only [vz,vu,vv,eqS,eF_,↓c1_,↓c2_,tabs,reduceCtorEq,ι5,↓reduceIte,ν1,ν2,ν3,ν4,ν5,ι1,ι2,ι3,ι4])
 refine ⟨fun h=>by omega,fun _=>?_⟩
 refine Pu.use (heldIntS_spec m h2 (by omega) (by omega)) ?_
 (try simp (maxSteps:=1000000) (disch:=first | assumption | (apply ν6;assumption)) only [vz,vu,vv,eqS,eF_,↓c1_,↓c2_,tabs,reduceCtorEq,ι5,↓reduceIte,ν1,ν2,ν3,ν4,ν5,ι1,ι2,ι3,ι4])
 first | exact ⟨fun h=>by omega,fun _=>Heap.le_set hr⟩ | exact Heap.le_set hr
theorem RL.held {n m:Nat} {v:AV} {G:Heap} {D:List Nat} (h:RL (marked 1 n) (marked (1+n) m) v G D) (h1:n≤1048576) (h2:m≤1048576) {K:AV→Heap→Prop} (k:K (I (1+n+m)) G):CallT Tryz.prog 15 [v,I 1] G K:=by
 rcases h with ⟨e1,e2,rfl,rfl⟩ | ⟨q1,q2,rfl,g1,g2,rfl,hne⟩
 ·have:n=0:=by
   have:=congrArg List.length e1
   simpa [marked_len] using this
  subst this
  have:m=0:=by
   have:=congrArg List.length e2
   simpa [marked_len] using this
  subst this
  exact CallT.args (args':=[aL2 [] [],I 1]) ((heldLassoQ 0 0 h1 h2).use k) ⟨wk_agg ⟨.nil,.nil,trivial⟩,.refl _,trivial⟩
 ·exact Pu.thaw (heldLassoQ n m h1 h2) (.int _ _) (wkL2 g1 g2 hne (fun v=>.tup [v,I 1]) (fun h=>.tup (.cons h (.cons (.same _) .nil)))) k
end Go.Proofs.YtolffbcnbcjeaaaGreat
namespace Go.Proofs.YtolffbcnbcjeaaaGreat
open Go Go.Sep Go.Pt
attribute [local irreducible] CallT
def ltP (u w:Int) (e:Ed):Bool:=decide (e.src=u) && decide (e.dst=w)
def ltF (a:Au) (u w:Int):Int:=((a.edges.find? (ltP u w)).map Ed.lt).getD 0
theorem find_at {α:Type} {xs:List α} {p:α→Bool} {i:Nat} (hi:i < xs.length) (h1:p xs[i]=true) (h2:∀j (hj:j < xs.length),j < i→p xs[j]=false):xs.find? p=some xs[i]:=by
 rw [List.find?_eq_some_iff_getElem]
 exact ⟨h1,i,hi,rfl,fun j hj=>by rw [h2 j (by omega) hj];rfl⟩
theorem find_no {α:Type} {xs:List α} {p:α→Bool} (h2:∀j (hj:j < xs.length),p xs[j]=false):xs.find? p=none:=by
 rw [List.find?_eq_none]
 intro x hx
 obtain ⟨j,hj,rfl⟩:=List.mem_iff_getElem.1 hx
 rw [h2 j hj];simp
theorem l12Letter_spec (a:Au) (hl:a.edges.length≤1000000) (u w:Int):Pu Tryz.prog 33 [aAu a,I u,I w] (I (ltF a u w)):=by
 refine Pu.of fun H=>?_
 refine W33_ok ?_;simp (maxSteps:=1000000) (disch:=first | assumption | (apply ν6;assumption)) only [W33,vz,vu,vv,eqS,eF_,↓c1_,↓c2_,tabs,reduceCtorEq,ι5,↓reduceIte,ν1,ν2,ν3,ν4,ν5,ι1,ι2,ι3,ι4]
 intro r hr
 have hle:=Heap.le_set (b:=[I a.states,Is a.first,Es a.edges,Ls a.goals]) hr
 (try simp (maxSteps:=1000000) (disch:=first | assumption | (apply ν6;assumption)) only [vz,vu,vv,eqS,eF_,↓c1_,↓c2_,tabs,reduceCtorEq,ι5,↓reduceIte,ν1,ν2,ν3,ν4,ν5,ι1,ι2,ι3,ι4])
 generalize H.set r [I a.states,Is a.first,Es a.edges,Ls a.goals]=G at hle ⊢
 refine L33_0_rule (0:Nat) (fun i=>I i) (fun _=>G) (fun i=>i≤a.edges.length∧∀j (hj:j < a.edges.length),j < i→ltP u w a.edges[j]=false) (fun i=>a.edges.length - i) ⟨⟨by omega,by intros;omega⟩,.refl _,Heap.le_refl _⟩ ?_
 rintro i ⟨hi,ha⟩
 (try simp (maxSteps:=1000000) (disch:=first | assumption | (apply ν6;assumption)) only [vz,vu,vv,eqS,eF_,↓c1_,↓c2_,tabs,reduceCtorEq,ι5,↓reduceIte,ν1,ν2,ν3,ν4,ν5,ι1,ι2,ι3,ι4,B33_0])
 refine ⟨fun h=>?_,fun h=>?_⟩
 ·have hlt:i < a.edges.length:=by omega
  have hm:(a.edges.getD i default)=a.edges[i]:=getD_lt hlt
  rw [hm]
  have nx:ltP u w a.edges[i]=false→∀j (hj:j < a.edges.length),j < i+1→ltP u w a.edges[j]=false:=fun h1 j hj hji=>by
   rcases Nat.lt_succ_iff_lt_or_eq.1 hji with h2 | rfl
   ·exact ha j hj h2
   ·exact h1
  refine ⟨by omega,by omega,?_⟩
  intro r2 hr2
  have hle2:=Heap.le_trans hle (Heap.le_set (b:=[I a.edges[i].src,I a.edges[i].lt,I a.edges[i].dst]) hr2)
  have hle3:=Heap.le_set (b:=[I a.edges[i].src,I a.edges[i].lt,I a.edges[i].dst]) hr2
  (try simp (maxSteps:=1000000) (disch:=first | assumption | (apply ν6;assumption)) only [vz,vu,vv,eqS,eF_,↓c1_,↓c2_,tabs,reduceCtorEq,ι5,↓reduceIte,ν1,ν2,ν3,ν4,ν5,ι1,ι2,ι3,ι4])
  have hx:IntKind.i64.wrap ((i:Int)+1)=((i+1:Nat):Int):=by rw [i6_ (by omega) (by omega)];simp
  refine ⟨fun h1=>⟨fun h2=>⟨?_,hle2⟩,fun h2=>⟨i+1,⟨by omega,nx (by simp [ltP,h2])⟩,by omega,by rw [hx];exact .refl _,hle3⟩⟩,fun h1=>⟨i+1,⟨by omega,nx (by simp [ltP,h1])⟩,by omega,by rw [hx];exact .refl _,hle3⟩⟩
  rw [ltF,find_at hlt (by simp [ltP,h1,h2]) ha]
  rfl
 ·have e:i=a.edges.length:=by omega
  subst e
  refine ⟨?_,hle⟩
  rw [ltF,find_no fun j hj=>ha j hj hj]
  rfl
theorem IndexFuncE_at (xs:List Ed) (g:Nat) (caps:List AV) (p:Ed→Bool) {H:Heap} (hl:xs.length≤1000000000) (hp:∀x∈xs,PuAt Tryz.prog g (aE x::caps) H (B (p x))) :
  PuAt Tryz.prog 87 [Es xs,.fn g caps] H (I (if xs.any p then (xs.findIdx p:Int) else -1)):=by
 intro K hK
 refine CallT.fin ?_
 refine W87_ok ?_;simp (maxSteps:=1000000) (disch:=first | assumption | (apply ν6;assumption)) only [W87,vz,vu,vv,eqS,eF_,↓c1_,↓c2_,tabs,reduceCtorEq,ι5,↓reduceIte,ν1,ν2,ν3,ν4,ν5,ι1,ι2,ι3,ι4]
 refine L87_0_rule (0:Nat) (fun i=>I i) (fun _=>H) (fun i=>i≤xs.length∧∀j (hj:j < xs.length),j < i→p xs[j]=false) (fun i=>xs.length - i) ⟨⟨by omega,by intros;omega⟩,.refl _,Heap.le_refl _⟩ ?_
 rintro i ⟨hi1,ha⟩
 (try simp (maxSteps:=1000000) (disch:=first | assumption | (apply ν6;assumption)) only [vz,vu,vv,eqS,eF_,↓c1_,↓c2_,tabs,reduceCtorEq,ι5,↓reduceIte,ν1,ν2,ν3,ν4,ν5,ι1,ι2,ι3,ι4,B87_0])
 refine ⟨fun h=>?_,fun h=>?_⟩
 ·have hlt:i < xs.length:=by omega
  rw [getD_lt hlt]
  refine ⟨by omega,by omega,?_⟩
  (try simp (maxSteps:=1000000) (disch:=first | assumption | (apply ν6;assumption)) only [vz,vu,vv,eqS,eF_,↓c1_,↓c2_,tabs,reduceCtorEq,ι5,↓reduceIte,ν1,ν2,ν3,ν4,ν5,ι1,ι2,ι3,ι4,callF,List.cons_append,List.nil_append])
  refine PuAt.use (hp _ (List.getElem_mem hlt)) ?_
  (try simp (maxSteps:=1000000) (disch:=first | assumption | (apply ν6;assumption)) only [vz,vu,vv,eqS,eF_,↓c1_,↓c2_,tabs,reduceCtorEq,ι5,↓reduceIte,ν1,ν2,ν3,ν4,ν5,ι1,ι2,ι3,ι4])
  refine ⟨fun h1=>?_,fun h1=>⟨i+1,⟨by omega,fun j hj hji=>?_⟩,by omega,?_⟩⟩
  ·have h2:xs.any p=true:=List.any_eq_true.2 ⟨xs[i],List.getElem_mem hlt,h1⟩
   have h3:xs.findIdx p=i:=by
    rw [List.findIdx_eq hlt];exact ⟨h1,fun j hj=>ha j (by omega) hj⟩
   rw [h2,h3] at hK;exact wkK.keep (by simpa using hK)
  ·rcases Nat.lt_succ_iff_lt_or_eq.1 hji with h2 | rfl
   ·exact ha j hj h2
   ·exact h1
  ·rw [wk_int,i6_ (by omega) (by omega)];simp
 ·have hi:i=xs.length:=by omega
  have h2:xs.any p=false:=by
   rw [List.any_eq_false]
   intro x hx
   obtain ⟨j,hj,rfl⟩:=List.mem_iff_getElem.1 hx
   rw [ha j hj (by omega)];simp
  rw [h2] at hK;exact wkK.keep (by simpa using hK)
theorem letterOf1_at {u w:Int} {G:Heap} {r4 r5:Nat} (h4:G r4=some [I u]) (h5:G r5=some [I w]) (x:Ed):PuAt Tryz.prog 88 [aE x,.ptr r4 0,.ptr r5 0] G (B (ltP u w x)):=by
 intro K hK
 refine CallT.fin ?_
 refine W88_ok ?_;simp (maxSteps:=1000000) (disch:=first | assumption | (apply ν6;assumption)) only [W88,vz,vu,vv,eqS,eF_,↓c1_,↓c2_,tabs,reduceCtorEq,ι5,↓reduceIte,ν1,ν2,ν3,ν4,ν5,ι1,ι2,ι3,ι4]
 intro r hr
 have n4:r4≠r:=fun e=>by rw [e,hr] at h4;cases h4
 have n5:r5≠r:=fun e=>by rw [e,hr] at h5;cases h5
 have g4:(G.set r [I x.src,I x.lt,I x.dst]) r4=some [I u]:=by rw [Heap.set_other n4];exact h4
 have g5:(G.set r [I x.src,I x.lt,I x.dst]) r5=some [I w]:=by rw [Heap.set_other n5];exact h5
 have hle:=Heap.le_set (b:=[I x.src,I x.lt,I x.dst]) hr
 (try simp (maxSteps:=1000000) (disch:=first | assumption | (apply ν6;assumption)) only [vz,vu,vv,eqS,eF_,↓c1_,↓c2_,tabs,reduceCtorEq,ι5,↓reduceIte,ν1,ν2,ν3,ν4,ν5,ι1,ι2,ι3,ι4,lA_ g4,lA_ g5])
 refine ⟨fun h1=>fin_le hle ?_,fun h1=>fin_le hle ?_⟩
 ·by_cases h2:x.dst=w
  ·simpa [ltP,h1,h2] using hK
  ·simpa [ltP,h1,h2] using hK
 ·simpa [ltP,h1] using hK
theorem letterOf_spec (a:Au) (ga:goodA a=true) {u w:Int} (hu:a.edges.any (ltP u w)=true):Pu Tryz.prog 42 [aAu a,I u,I w] (I (ltF a u w)):=by
 refine Pu.of fun H=>?_
 have hl:=(good_facts ga).ed
 have hpw:a.edges.Pairwise (fun x y=>edLt x y=true):=by
  rw [goodA_def] at ga
  simp only [Bool.and_eq_true] at ga
  exact edsOk_pw ga.2.2.2.2
 have hk:a.edges.findIdx (ltP u w) < a.edges.length:=List.findIdx_lt_length_of_exists (by simpa using hu)
 obtain ⟨k,ek⟩:∃k,k=a.edges.findIdx (ltP u w):=⟨_,rfl⟩
 have hpk:ltP u w (a.edges[a.edges.findIdx (ltP u w)])=true:=List.findIdx_getElem (w:=hk)
 have hbefore:∀j (hj:j < a.edges.length),j < a.edges.findIdx (ltP u w)→ltP u w a.edges[j]=false:=fun j hj h=>by simpa using List.not_of_lt_findIdx h
 have hlt:ltF a u w=a.edges[a.edges.findIdx (ltP u w)].lt:=by rw [ltF,find_at hk hpk hbefore];rfl
 rw [hlt]
 simp only [← ek] at hk hpk hbefore ⊢
 have key:∀j (hj:j < a.edges.length),ltP u w a.edges[j]=true→¬a.edges[j].lt < a.edges[k].lt:=by
  intro j hj h1 h2
  rcases Nat.lt_trichotomy j k with h | h | h
  ·rw [hbefore j hj h] at h1;cases h1
  ·subst h;omega
  ·have:=List.pairwise_iff_getElem.1 hpw k j hk hj h
   simp only [ltP,Bool.and_eq_true,decide_eq_true_eq] at h1 hpk
   unfold edLt at this
   rw [if_pos (by omega)] at this
   split at this
   ·simp at this;omega
   ·simp at this;omega
 refine W42_ok ?_;simp (maxSteps:=1000000) (disch:=first | assumption | (apply ν6;assumption)) only [W42,vz,vu,vv,eqS,eF_,↓c1_,↓c2_,tabs,reduceCtorEq,ι5,↓reduceIte,ν1,ν2,ν3,ν4,ν5,ι1,ι2,ι3,ι4]
 intro r3 h3 r4 n43 h4 r5 n54 n53 h5
 have st:=(((St.nil H).cell h3 [I a.states,Is a.first,Es a.edges,Ls a.goals]).cell (r:=r4) (by rw [Heap.set_other n43];exact h4) [I u]).cell (r:=r5) (by rw [Heap.set_other n54,Heap.set_other n53];exact h5) [I w]
 have e:∀n:Int,AV.p (PV.int IntKind.i64 n)=I n:=fun _=>rfl
 simp only [e]
 generalize ((H.set r3 [I a.states,Is a.first,Es a.edges,Ls a.goals]).set r4 [I u]).set r5 [I w]=G at st ⊢
 clear h3 h4 h5 n43 n54 n53
 (try simp (maxSteps:=1000000) (disch:=first | assumption | (apply ν6;assumption)) only [vz,vu,vv,eqS,eF_,↓c1_,↓c2_,tabs,reduceCtorEq,ι5,↓reduceIte,ν1,ν2,ν3,ν4,ν5,ι1,ι2,ι3,ι4,lA_ (st.get 2 rfl)])
 refine PuAt.use (IndexFuncE_at a.edges _ _ (ltP u w) (by omega) fun x _=>letterOf1_at (st.get 1 rfl) (st.get 0 rfl) x) ?_
 simp only [if_pos hu,← ek]
 (try simp (maxSteps:=1000000) (disch:=first | assumption | (apply ν6;assumption)) only [vz,vu,vv,eqS,eF_,↓c1_,↓c2_,tabs,reduceCtorEq,ι5,↓reduceIte,ν1,ν2,ν3,ν4,ν5,ι1,ι2,ι3,ι4,lA_ (st.get 2 rfl)])
 refine L42_0_rule (0:Nat) (fun i=>I i) (fun _=>G) (fun i=>i≤a.edges.length) (fun i=>a.edges.length - i) ⟨by omega,.refl _,Heap.le_refl _⟩ ?_
 intro i hi
 have hkd:a.edges.getD k default=a.edges[k]:=getD_lt hk
 (try simp (maxSteps:=1000000) (disch:=first | assumption | (apply ν6;assumption)) only [vz,vu,vv,eqS,eF_,↓c1_,↓c2_,tabs,reduceCtorEq,ι5,↓reduceIte,ν1,ν2,ν3,ν4,ν5,ι1,ι2,ι3,ι4,B42_0,lA_ (st.get 2 rfl),hkd,Int.toNat_natCast])
 refine ⟨fun h=>?_,fun h=>?_⟩
 ·have hlt2:i < a.edges.length:=by omega
  have hm:(a.edges.getD i default)=a.edges[i]:=getD_lt hlt2
  rw [hm]
  refine ⟨by omega,by omega,?_⟩
  intro r2 hr2
  have hle3:=Heap.le_set (b:=[I a.edges[i].src,I a.edges[i].lt,I a.edges[i].dst]) hr2
  have g3:=hle3 _ _ (st.get 2 rfl)
  have g4:=hle3 _ _ (st.get 1 rfl)
  have g5:=hle3 _ _ (st.get 0 rfl)
  have hx:IntKind.i64.wrap ((i:Int)+1)=((i+1:Nat):Int):=by rw [i6_ (by omega) (by omega)];simp
  have hkey:=key i hlt2
  (try simp (maxSteps:=1000000) (disch:=first | assumption | (apply ν6;assumption)) only [vz,vu,vv,eqS,eF_,↓c1_,↓c2_,tabs,reduceCtorEq,ι5,↓reduceIte,ν1,ν2,ν3,ν4,ν5,ι1,ι2,ι3,ι4,lA_ g3,lA_ g4,lA_ g5,hkd,Int.toNat_natCast,hx])
  have nx:∃s':Nat,s'≤a.edges.length∧a.edges.length - s' < a.edges.length - i∧(AV.p (PV.int IntKind.i64 ((i+1:Nat):Int))).wk (I s')∧Heap.le G (G.set r2 [I a.edges[i].src,I a.edges[i].lt,I a.edges[i].dst]):=⟨i+1,by omega,by omega,.refl _,hle3⟩
  refine ⟨fun h1=>⟨fun h2=>⟨by omega,by omega,fun h3=>absurd h3 (hkey (by simp [ltP,h1,h2])),fun _=>nx⟩,fun _=>nx⟩,fun _=>nx⟩
 ·have hkn:0≤(k:Int)∧(k:Int) < a.edges.length:=⟨by omega,by omega⟩
  first | exact ⟨hkn.1,hkn.2,rfl,st.le⟩ | exact ⟨hkn.1,hkn.2,st.le⟩ | exact ⟨rfl,st.le⟩
end Go.Proofs.YtolffbcnbcjeaaaGreat
namespace Go.Proofs.YtolffbcnbcjeaaaGreat
open Go Go.Sep Go.Pt
attribute [local irreducible] CallT
theorem leastWay1_at {l:List Int} {v:Nat} {G:Heap} {r7 r12:Nat} (h7:G r7=some [Is l]) (h12:G r12=some [I v]) (hv:v < l.length) {w:Nat} (hw:w < l.length) (hb:∀u,u < l.length→-1≤l.getD u default∧l.getD u default≤1000000) :
  PuAt Tryz.prog 116 [I w,.ptr r7 0,.ptr r12 0] G (B (decide (l.getD w default=l.getD v default - 1))):=by
 intro K hK
 have hbv:=hb v hv
 have e6:IntKind.i64.wrap (l.getD v default - 1)=l.getD v default - 1:=i6_ (by omega) (by omega)
 refine W116_ok ?_;simp (maxSteps:=1000000) (disch:=first | assumption | (apply ν6;assumption)) only [W116,vz,vu,vv,eqS,eF_,↓c1_,↓c2_,tabs,reduceCtorEq,ι5,↓reduceIte,ν1,ν2,ν3,ν4,ν5,ι1,ι2,ι3,ι4,lA_ h7,lA_ h12,Int.toNat_natCast,e6]
 exact ⟨by omega,by omega,by omega,by omega,hK⟩
theorem nI_getE {l:List Nat} {i:Nat} (h:i < (nI l).length):(nI l)[i]=((l.getD i 0:Nat):Int):=by
 rw [nL_] at h
 simp [nI,List.getD,h]
theorem leastWay_row (g:List (List Nat)) (hg:GrB g) (some to:List Nat) (hs:∀v∈some,v < g.length) (hsl:some.length≤500000) (ht:∀v∈to,v < g.length) (htl:to.length≤100000)
  {H:Heap} {K:AV→Heap→Prop} (hK:∀x G D,RN (LPl eI) 1 x (nI (lwayF (rwF g) g.length some to)) G D→New H G D→K x G) :
  CallT Tryz.prog 78 [Ls (gI g),Is (nI some),Is (nI to)] H K:=by
 have hn:=hg.n
 have hg2:=turnG_B hg
 have hgl:=gI_len g
 have hsn:=nL_ some
 refine CallT.fin ?_
 refine W78_ok ?_;simp (maxSteps:=1000000) (disch:=first | assumption | (apply ν6;assumption)) only [W78,vz,vu,vv,eqS,eF_,↓c1_,↓c2_,tabs,reduceCtorEq,ι5,↓reduceIte,ν1,ν2,ν3,ν4,ν5,ι1,ι2,ι3,ι4,hsn]
 refine Pu.use (sp_impl.turned g hg) ?_
 have hfar:=sp_stepsFrom (turnG g) hg2 to (by rw [turnG_len];exact ht) htl
 rw [toF_turn hg,turnG_len] at hfar
 refine Pu.use hfar ?_
 have hnear:=toF_near hg.gr ht
 have hbd:=toF_bd hg.gr ht
 have hwl:lwayF (rwF g) g.length some to=if bestF (toF (rwF g) g.length to) some < 0 then [] else wayF (toF (rwF g) g.length to) (rwF g) (bestF (toF (rwF g) g.length to) some).toNat:=rfl
 have hbc:=bestF_cases (toF (rwF g) g.length to)
 generalize toF (rwF g) g.length to=far at hnear hbd hwl hbc
 have hml:=mpI_len far g.length
 have hmg:=fun v (h:v < g.length)=>mpI_get far h
 (try simp (maxSteps:=1000000) (disch:=first | assumption | (apply ν6;assumption)) only [vz,vu,vv,eqS,eF_,↓c1_,↓c2_,tabs,reduceCtorEq,ι5,↓reduceIte,ν1,ν2,ν3,ν4,ν5,ι1,ι2,ι3,ι4])
 intro r7 hr7
 have st:=(St.nil H).cell hr7 [Is (mpI far g.length)]
 (try simp (maxSteps:=1000000) (disch:=first | assumption | (apply ν6;assumption)) only [vz,vu,vv,eqS,eF_,↓c1_,↓c2_,tabs,reduceCtorEq,ι5,↓reduceIte,ν1,ν2,ν3,ν4,ν5,ι1,ι2,ι3,ι4])
 generalize H.set r7 [Is (mpI far g.length)]=G1 at st ⊢
 clear hr7
 have go:∀(v q r12:Nat) (G:Heap),v < g.length→0≤far v→bestF far some=(v:Int)→St H [cT_ r12 [I v],rnI (rowP q (nI [v])) (nI [v]) [q],cT_ r7 [Is (mpI far g.length)]] G→
   L78_1 (wkK K) (Ls (gI g)) (.ptr r7 0) (rowP q (nI [v])) (.ptr r12 0) G:=by
  intro v q r12 G hv h0 hb st
  have hvb:=hbd v
  refine L78_1_rule ((0:Nat),q,r12,G) (fun z=>rowP z.2.1 (nI ((List.range (z.1+1)).map (itF far (rwF g) v)))) (fun z=>.ptr z.2.2.1 0) (fun z=>z.2.2.2)
   (fun z=>(z.1:Int)≤far v∧St H [cT_ z.2.2.1 [I (itF far (rwF g) v z.1:Nat)],rnI (rowP z.2.1 (nI ((List.range (z.1+1)).map (itF far (rwF g) v)))) (nI ((List.range (z.1+1)).map (itF far (rwF g) v))) [z.2.1],cT_ r7 [Is (mpI far g.length)]] z.2.2.2) (fun z=>(far v).toNat - z.1)
   ⟨⟨by simpa using h0,st⟩,.refl _,.refl _,Heap.le_refl _⟩ ?_
  clear st q G r12
  rintro ⟨k,q,r12,G⟩ ⟨hk,st⟩
  dsimp only at hk st
  have hsk:=itF_s hnear (v:=v) k hk
  have hbk:=hbd (itF far (rwF g) v k)
  have hisc:=itK_succ far (rwF g) v k
  have hik:itF far (rwF g) v (k+1)=nxtF far (rwF g) (itF far (rwF g) v k):=rfl
  generalize hu:itF far (rwF g) v k=u at hsk hbk hisc hik st
  have hun:u < g.length:=hbk.2.2 (by omega)
  (try simp (maxSteps:=1000000) (disch:=first | assumption | (apply ν6;assumption)) only [vz,vu,vv,eqS,eF_,↓c1_,↓c2_,tabs,reduceCtorEq,ι5,↓reduceIte,ν1,ν2,ν3,ν4,ν5,ι1,ι2,ι3,ι4,B78_1,lA_ (st.get 0 rfl),lA_ (st.get 2 rfl),hml,Int.toNat_natCast])
  rw [hmg u hun]
  refine ⟨by omega,by omega,fun h1=>?_,fun h1=>?_⟩
  ·(try simp (maxSteps:=1000000) (disch:=first | assumption | (apply ν6;assumption)) only [vz,vu,vv,eqS,eF_,↓c1_,↓c2_,tabs,reduceCtorEq,ι5,↓reduceIte,ν1,ν2,ν3,ν4,ν5,ι1,ι2,ι3,ι4,lA_ (st.get 0 rfl),hgl,Int.toNat_natCast])
   refine ⟨by omega,by omega,?_⟩
   rw [gI_get hun]
   have hrl:=hg.row hun
   have hrn:=nL_ (rwF g u)
   obtain ⟨j0,hj0,hp0⟩:=near_at hnear (v:=u) h1
   have hif:=IndexFunc_at (nI (rwF g u)) 116 [.ptr r7 0,.ptr r12 0] (fun x=>decide ((mpI far g.length).getD x.toNat default=(mpI far g.length).getD u default - 1)) (H:=G) (by omega) (by
    intro x hx
    obtain ⟨w,hw,rfl⟩:=nI_mem.1 hx
    have hwn:=hg.gr.lt u w hw
    have:=leastWay1_at (l:=mpI far g.length) (v:=u) (w:=w) (st.get 2 rfl) (st.get 0 rfl) (by rw [mpI_len];exact hun) (by rw [mpI_len];exact hwn) (fun z hz=>by
     rw [mpI_len] at hz
     rw [hmg z hz]
     have:=hbd z
     omega)
    simpa using this)
   refine PuAt.use hif ?_
   have hany:((nI (rwF g u)).any fun x=>decide ((mpI far g.length).getD x.toNat default=(mpI far g.length).getD u default - 1))=true:=by
    rw [List.any_eq_true]
    refine ⟨((rwF g u).getD j0 0:Nat),nI_mem.2 ⟨_,by simp [List.getD,hj0],rfl⟩,?_⟩
    rw [decide_eq_true_eq,Int.toNat_natCast,hmg _ (hg.lt hj0),hmg u hun];exact hp0
   rw [if_pos hany]
   have hjl:(nI (rwF g u)).findIdx (fun x=>decide ((mpI far g.length).getD x.toNat default=(mpI far g.length).getD u default - 1)) < (nI (rwF g u)).length:=by
    rw [List.findIdx_lt_length]
    obtain ⟨x,h1,h2⟩:=List.any_eq_true.1 hany
    exact ⟨x,h1,h2⟩
   have hjp:=List.findIdx_getElem (w:=hjl)
   have hjn:=fun (i:Nat) (hi:i < (nI (rwF g u)).findIdx (fun x=>decide ((mpI far g.length).getD x.toNat default=(mpI far g.length).getD u default - 1)))=>List.not_of_lt_findIdx hi
   have hlj:(nI (rwF g u)).findIdx (fun x=>decide ((mpI far g.length).getD x.toNat default=(mpI far g.length).getD u default - 1)) < (rwF g u).length:=by rw [nL_] at hjl;exact hjl
   have hnx:nxtF far (rwF g) u=(rwF g u).getD ((nI (rwF g u)).findIdx (fun x=>decide ((mpI far g.length).getD x.toNat default=(mpI far g.length).getD u default - 1))) 0:=by
    refine nxt_at hlj (fun i hi he=>?_) ?_
    ·have hil:i < (rwF g u).length:=by omega
     have:=hjn i hi
     rw [nI_getE,Int.toNat_natCast,hmg _ (hg.lt hil),hmg u hun,decide_eq_false_iff_not] at this
     exact this he
    ·rw [decide_eq_true_eq] at hjp
     have h2:=hjp.trans (congrArg (fun z:Int=>z - 1) (hmg u hun))
     rw [nI_getE,Int.toNat_natCast,hmg _ (hg.lt hlj)] at h2
     exact h2
   clear hjl hjp hjn
   generalize (nI (rwF g u)).findIdx (fun x=>decide ((mpI far g.length).getD x.toNat default=(mpI far g.length).getD u default - 1))=j at hlj hnx
   have hw:=hg.lt hlj
   have hgj:=nI_get hlj
   rw [hnx] at hisc hik
   generalize (rwF g u).getD j 0=w at hw hgj hisc hik
   (try simp (maxSteps:=1000000) (disch:=first | assumption | (apply ν6;assumption)) only [vz,vu,vv,eqS,eF_,↓c1_,↓c2_,tabs,reduceCtorEq,ι5,↓reduceIte,ν1,ν2,ν3,ν4,ν5,ι1,ι2,ι3,ι4,lA_ (st.get 0 rfl),hgl,gI_get hun,hrn,hgj,sA_ (st.get 0 rfl),Int.toNat_natCast])
   refine ⟨by omega,by omega,by omega,by omega,?_⟩
   replace st:=st.put 0 rfl [I (w:Nat)]
   simp only [List.set_cons_zero] at st
   generalize G.set r12 [I (w:Nat)]=G2 at st ⊢
   (try simp (maxSteps:=1000000) (disch:=first | assumption | (apply ν6;assumption)) only [vz,vu,vv,eqS,eF_,↓c1_,↓c2_,tabs,reduceCtorEq,ι5,↓reduceIte,ν1,ν2,ν3,ν4,ν5,ι1,ι2,ι3,ι4,lA_ (st.get 0 rfl)])
   refine lit1 tab_22 rfl tab_3 ⟨rfl,rfl⟩ ?_
   refine rn_appI (ys:=[(w:Int)]) st 1 rfl (by rw [nL_,List.length_map,List.length_range];simp only [List.length_cons,List.length_nil];omega) fun q' G' hq' st=>?_
   simp only [List.set_cons_zero,List.set_cons_succ] at st
   rw [← nI_one,← nI_app,← hisc] at st ⊢
   (try simp (maxSteps:=1000000) (disch:=first | assumption | (apply ν6;assumption)) only [vz,vu,vv,eqS,eF_,↓c1_,↓c2_,tabs,reduceCtorEq,ι5,↓reduceIte,ν1,ν2,ν3,ν4,ν5,ι1,ι2,ι3,ι4,lA_ (st.get 0 rfl)])
   intro r' hr'
   (try simp (maxSteps:=1000000) (disch:=first | assumption | (apply ν6;assumption)) only [vz,vu,vv,eqS,eF_,↓c1_,↓c2_,tabs,reduceCtorEq,ι5,↓reduceIte,ν1,ν2,ν3,ν4,ν5,ι1,ι2,ι3,ι4])
   replace st:=(st.drop).cell hr' [I (w:Nat)]
   exact ⟨(k+1,q',r',_),⟨by simp only;omega,by simp only [hik];exact st⟩,by simp only;omega,.refl _,.refl _,Heap.le_refl _⟩
  ·have hek:(far v).toNat+1=k+1:=by omega
   have hway:lwayF (rwF g) g.length some to=(List.range (k+1)).map (itF far (rwF g) v):=by
    rw [hwl,if_neg (by omega),hb,Int.toNat_natCast,wayF,hek]
   have st2:=st.sub (Us:=[rnI (rowP q (nI ((List.range (k+1)).map (itF far (rwF g) v)))) (nI ((List.range (k+1)).map (itF far (rwF g) v))) [q]]) (.cons _ (.cons_cons _ (.cons _ .slnil)))
   exact wkK.keep (hK _ G [q] (by rw [hway];exact st.get 1 rfl) ⟨st2.ndT 0 rfl,st2.fr _ (List.mem_cons_self ..),st2.le⟩)
 refine L78_0_rule (0:Nat) (fun k=>I (bestF far (some.take k))) (fun k=>I k) (fun _=>G1) (fun k=>k≤some.length) (fun k=>some.length - k) ⟨by simp,.refl _,.refl _,Heap.le_refl _⟩ ?_
 intro k hk
 have e5:IntKind.i64.wrap ((k:Int)+1)=((k+1:Nat):Int):=by rw [i6_ (by omega) (by omega)];simp
 (try simp (maxSteps:=1000000) (disch:=first | assumption | (apply ν6;assumption)) only [vz,vu,vv,eqS,eF_,↓c1_,↓c2_,tabs,reduceCtorEq,ι5,↓reduceIte,ν1,ν2,ν3,ν4,ν5,ι1,ι2,ι3,ι4,B78_0,hsn,hml,e5,lA_ (st.get 0 rfl)])
 refine ⟨fun h1=>?_,fun h1=>?_⟩
 ·have hlt:k < some.length:=by omega
  refine ⟨by omega,h1,?_⟩
  rw [nI_get hlt,Int.toNat_natCast]
  have hv:=hs (some.getD k 0) (by simp [List.getD,hlt])
  have hsc:bestF far (some.take (k+1))=bput1 far (bestF far (some.take k)) (some.getD k 0):=by
   rw [tS_ hlt,bestF_snoc];rfl
  have hbk:bestF far (some.take k) < 0∨bestF far (some.take k) < g.length:=by
   rcases hbc (some.take k) with ⟨e,_⟩ | ⟨u,hu,e,_⟩
   ·omega
   ·have:=hs u (List.mem_of_mem_take hu)
    omega
  generalize some.getD k 0=w at hv hsc ⊢
  generalize bestF far (some.take k)=mk at hsc hbk ⊢
  have yes:bestF far (some.take (k+1))=(w:Int)→∃s':Nat,s'≤some.length∧some.length - s' < some.length - k∧(I (w:Int)).wk (I (bestF far (some.take s')))∧(I ((k+1:Nat):Int)).wk (I s'):=
   fun h=>⟨k+1,by omega,by omega,by rw [h];exact .refl _,.refl _⟩
  have no:bestF far (some.take (k+1))=mk→∃s':Nat,s'≤some.length∧some.length - s' < some.length - k∧(I mk).wk (I (bestF far (some.take s')))∧(I ((k+1:Nat):Int)).wk (I s'):=
   fun h=>⟨k+1,by omega,by omega,by rw [h];exact .refl _,.refl _⟩
  rw [hmg w hv]
  have hp:¬mk < 0→0≤mk∧mk < g.length∧mk.toNat < g.length:=by clear yes no;omega
  refine ⟨by clear yes no;omega,by clear yes no;omega,fun h3=>⟨fun h4=>?_,fun h4=>⟨by clear yes no;omega,by clear yes no;omega,(hp h4).1,(hp h4).2.1,?_⟩⟩,fun h3=>?_⟩
  ·exact yes (by rw [hsc,bput1,if_pos ⟨h3,.inl h4⟩])
  ·rw [hmg mk.toNat (hp h4).2.2]
   refine ⟨fun h5=>yes ?_,fun h5=>no ?_⟩
   ·rw [hsc,bput1,if_pos ⟨h3,.inr h5⟩]
   ·rw [hsc,bput1,if_neg (fun h=>h5 (h.2.resolve_left h4))]
  ·exact no (by rw [hsc,bput1,if_neg (fun h=>h3 h.1)])
 ·have:k=some.length:=by omega
  subst this
  rw [List.take_length]
  refine ⟨fun h2=>?_,fun h2=>?_⟩
  ·have hnil:lwayF (rwF g) g.length some to=[]:=by rw [hwl,if_pos h2]
   exact ⟨_,_,.forget st.le,hK (.p .nil) H [] (.inl ⟨rfl,by rw [hnil];rfl,rfl⟩) ⟨.nil,fun y hy=>(by cases hy),Heap.le_refl _⟩⟩
  ·rcases hbc some with ⟨e,_⟩ | ⟨v,hv,e,h0,_⟩
   ·omega
   ·rw [e] at h2 ⊢
    refine lit_row fun q hq=>?_
    have st:=st.push (rnI (rowP q (nI [v])) (nI [v]) [q]) (New.cell (b:=cP fI (nI [v])) hq) (rnI_mk (Heap.set_same _ _ _))
    generalize hG:G1.set q (cP fI (nI [v]))=G3 at st
    have hG':G1.set q (cP fI [(v:Int)])=G3:=hG
    rw [hG']
    (try simp (maxSteps:=1000000) (disch:=first | assumption | (apply ν6;assumption)) only [vz,vu,vv,eqS,eF_,↓c1_,↓c2_,tabs,reduceCtorEq,ι5,↓reduceIte,ν1,ν2,ν3,ν4,ν5,ι1,ι2,ι3,ι4])
    intro r12 hr12
    (try simp (maxSteps:=1000000) (disch:=first | assumption | (apply ν6;assumption)) only [vz,vu,vv,eqS,eF_,↓c1_,↓c2_,tabs,reduceCtorEq,ι5,↓reduceIte,ν1,ν2,ν3,ν4,ν5,ι1,ι2,ι3,ι4])
    have st:=st.cell hr12 [I (v:Nat)]
    exact go v q r12 _ (hs v hv) h0 e st
theorem leastWay_spec (g:List (List Nat)) (hg:GrB g) (some to:List Nat) (hs:∀v∈some,v < g.length) (hsl:some.length≤500000) (ht:∀v∈to,v < g.length) (htl:to.length≤100000) :
  Pu Tryz.prog 78 [Ls (gI g),Is (nI some),Is (nI to)] (Is (nI (lwayF (rwF g) g.length some to))):=by
 refine ⟨fun H=>CallT.fin (leastWay_row g hg some to hs hsl ht htl fun x G D hx hn=>?_)⟩
 have hle:∀y b,H y=Option.some b→y∉D:=fun y b hb hy=>by rw [hn.fr y hy] at hb;cases hb
 rcases rnI_cases hx with ⟨rfl,e,rfl⟩ | ⟨q,rfl,hq,rfl⟩
 ·rw [e];exact ⟨_,_,.trans (.val .nil) (.forget hn.le),rfl,rfl⟩
 ·refine ⟨_,H,.trans (Wk.frz (r:=q) (sz:=1) (es:=(nI (lwayF (rwF g) g.length some to)).map eI) (v':=Is (nI (lwayF (rwF g) g.length some to))) (by omega) (by have h:=hq;rw [← (cells_P fI (nI (lwayF (rwF g) g.length some to)):cells ((nI (lwayF (rwF g) g.length some to)).map eI)=_)] at h;exact h) (szI _) ?_) (.forget fun y b hb=>?_),rfl,rfl⟩
  ·have:FrzR q 1 ((nI (lwayF (rwF g) g.length some to)).map eI) (.sl q 1 0 ((nI (lwayF (rwF g) g.length some to)).map eI).length) (.p (.sl ((nI (lwayF (rwF g) g.length some to)).map eI))):=.here
   rwa [List.length_map] at this
  ·rw [Heap.del_other (fun e=>hle y b hb (by rw [e];simp))]
   exact hn.le y b hb
end Go.Proofs.YtolffbcnbcjeaaaGreat
namespace Go.Proofs.YtolffbcnbcjeaaaGreat
open Go Go.Sep Go.Pt
attribute [local irreducible] CallT
noncomputable def c1F (row:Nat→List Nat) (m v w:Nat):Bool:=decide (partF (aO_ row) v=partF (aO_ row) m) && decide (partF (aO_ row) w=partF (aO_ row) m)
theorem in1F_c (row:Nat→List Nat) (m v:Nat):in1F row m v=(row v).filter (c1F row m v):=by
 unfold in1F
 have hc:∀u,Con (aO_ row) m u↔partF (aO_ row) u=partF (aO_ row) m:=fun u=>⟨fun h=>partF_iff.2 h.symm,fun h=>(partF_iff.1 h).symm⟩
 by_cases h:Con (aO_ row) m v
 ·rw [if_pos h]
  apply List.filter_congr
  intro w _
  rw [c1F,decide_eq_true ((hc v).1 h),Bool.true_and,decide_eq_decide]
  exact hc w
 ·rw [if_neg h,eq_comm,List.filter_eq_nil_iff]
  intro w _
  rw [c1F,decide_eq_false (fun k=>h ((hc v).2 k))];simp
noncomputable def in1G (g:List (List Nat)) (m:Nat):List (List Nat):=(List.range g.length).map (in1F (rwF g) m)
theorem in1G_len (g:List (List Nat)) (m:Nat):(in1G g m).length=g.length:=by simp [in1G]
theorem in1G_row {g:List (List Nat)} (hg:GrB g) (m:Nat):rwF (in1G g m)=in1F (rwF g) m:=rwF_mapOk (in1F_ok hg.gr m)
theorem in1G_B {g:List (List Nat)} (hg:GrB g) (m:Nat):GrB (in1G g m):=by
 refine ⟨?_,by rw [in1G_len];exact hg.n,?_⟩
 ·intro l hl x hx
  obtain ⟨v,_,rfl⟩:=List.mem_map.1 hl
  rw [in1G_len]
  exact hg.gr.lt v x (in1F_mem.1 hx).2.1
 ·rw [prT_sum,in1G_len,in1G_row hg]
  refine Nat.le_trans (sumN_mono fun v=>?_) (by rw [← prT_sum];exact hg.arcs)
  rw [in1F_c];exact List.length_filter_le _ _
noncomputable def w1R (g:List (List Nat)) (m k j:Nat):List (List Nat):=(List.range g.length).map fun v=>if v < k then in1F (rwF g) m v else if v=k then ((rwF g k).take j).filter (c1F (rwF g) m k) else []
theorem w1R_len (g:List (List Nat)) (m k j:Nat):(w1R g m k j).length=g.length:=by simp [w1R]
theorem w1R_zero (g:List (List Nat)) (m:Nat):w1R g m 0 0=List.replicate g.length []:=by
 apply List.ext_getElem
 ·simp [w1R]
 ·intro i h1 h2;simp [w1R]
theorem w1R_next (g:List (List Nat)) (m k:Nat):w1R g m k (rwF g k).length=w1R g m (k+1) 0:=by
 unfold w1R
 apply List.map_congr_left
 intro v _
 rw [List.take_length,← in1F_c]
 by_cases h1:v < k
 ·rw [if_pos h1,if_pos (by omega)]
 ·by_cases h2:v=k
  ·subst h2;simp
  ·rw [if_neg h1,if_neg h2,if_neg (by omega)];simp
theorem w1R_all (g:List (List Nat)) (m:Nat):w1R g m g.length 0=in1G g m:=by
 unfold w1R in1G
 apply List.map_congr_left
 intro v hv
 rw [if_pos (List.mem_range.1 hv)]
theorem w1R_get {g:List (List Nat)} {m k j:Nat} (h:k < g.length):rwF (w1R g m k j) k=((rwF g k).take j).filter (c1F (rwF g) m k):=by simp [rwF,w1R,List.getD,h]
theorem w1R_succ {g:List (List Nat)} {m k j:Nat} (hj:j < (rwF g k).length):w1R g m k (j+1)=if c1F (rwF g) m k ((rwF g k).getD j 0)=true then (w1R g m k j).set k (((rwF g k).take j).filter (c1F (rwF g) m k)++[(rwF g k).getD j 0]) else w1R g m k j:=by
 have ht:(rwF g k).take (j+1)=(rwF g k).take j++[(rwF g k).getD j 0]:=tS_ hj
 generalize (rwF g k).getD j 0=w at ht ⊢
 by_cases hc:c1F (rwF g) m k w=true
 ·rw [if_pos hc]
  apply List.ext_getElem
  ·simp [w1R]
  ·intro v h1 h2
   simp only [w1R,List.getElem_map,List.getElem_range,List.getElem_set,ht,List.filter_append]
   by_cases e:k=v
   ·subst e;simp [hc]
   ·have:¬v=k:=fun h=>e h.symm
    simp [e,this]
 ·rw [if_neg hc]
  unfold w1R
  apply List.map_congr_left
  intro v _
  simp [ht,hc]
theorem inside_spec (g:List (List Nat)) (hg:GrB g) (m:Nat):Pu Tryz.prog 80 [Ls (gI g),Is (prtI g),I (partF (aO_ (rwF g)) m:Nat)] (Ls (gI (in1G g m))):=by
 refine ⟨fun H=>CallT.finish ?_⟩
 have hn:=hg.n
 have hgl:=gI_len g
 have hpl:=prtI_len g
 have hpg:=fun v (h:v < g.length)=>prtI_get h
 refine W80_ok ?_;simp (maxSteps:=1000000) (disch:=first | assumption | (apply ν6;assumption)) only [W80,vz,vu,vv,eqS,eF_,↓c1_,↓c2_,tabs,reduceCtorEq,ι5,↓reduceIte,ν1,ν2,ν3,ν4,ν5,ι1,ι2,ι3,ι4,mS_,hgl]
 refine ⟨by omega,by omega,by omega,by omega,fun q hq=>?_⟩
 have st:=tab_new (n:=g.length) (St.nil H) (q:=q) hq
 rw [← gI_nil,← w1R_zero g m] at st
 generalize H.set q (zA_ g.length [.p .nil])=G1 at st ⊢
 refine L80_0_rule ((0:Nat),[q],G1) (fun s=>I s.1) (fun s=>s.2.2) (fun s=>s.1≤g.length∧St H [tabT q (gI (w1R g m s.1 0)) s.2.1] s.2.2) (fun s=>g.length - s.1)
  ⟨⟨by simp,st⟩,.refl _,Heap.le_refl _⟩ ?_
 clear st
 rintro ⟨k,D,G⟩ ⟨hk,st⟩
 dsimp only at hk st
 have e5:IntKind.i64.wrap ((k:Int)+1)=((k+1:Nat):Int):=by rw [i6_ (by omega) (by omega)];simp
 (try simp (maxSteps:=1000000) (disch:=first | assumption | (apply ν6;assumption)) only [vz,vu,vv,eqS,eF_,↓c1_,↓c2_,tabs,reduceCtorEq,ι5,↓reduceIte,ν1,ν2,ν3,ν4,ν5,ι1,ι2,ι3,ι4,B80_0,hgl])
 refine ⟨fun h1=>?_,fun h1=>?_⟩
 ·have hlt:k < g.length:=by omega
  have hrl:=hg.row hlt
  refine ⟨by omega,h1,?_⟩
  rw [gI_get hlt]
  have hrn:=nL_ (rwF g k)
  (try simp (maxSteps:=1000000) (disch:=first | assumption | (apply ν6;assumption)) only [vz,vu,vv,eqS,eF_,↓c1_,↓c2_,tabs,reduceCtorEq,ι5,↓reduceIte,ν1,ν2,ν3,ν4,ν5,ι1,ι2,ι3,ι4,hrn])
  refine L80_1_rule ((0:Nat),D,G) (fun s=>I s.1) (fun s=>s.2.2) (fun s=>s.1≤(rwF g k).length∧St H [tabT q (gI (w1R g m k s.1)) s.2.1] s.2.2) (fun s=>(rwF g k).length - s.1)
   ⟨⟨by simp,st⟩,.refl _,Heap.le_refl _⟩ ?_
  clear st D
  rintro ⟨j,D,G⟩ ⟨hj,st⟩
  dsimp only at hj st
  have e6:IntKind.i64.wrap ((j:Int)+1)=((j+1:Nat):Int):=by rw [i6_ (by omega) (by omega)];simp
  (try simp (maxSteps:=1000000) (disch:=first | assumption | (apply ν6;assumption)) only [vz,vu,vv,eqS,eF_,↓c1_,↓c2_,tabs,reduceCtorEq,ι5,↓reduceIte,ν1,ν2,ν3,ν4,ν5,ι1,ι2,ι3,ι4,B80_1,hrn,hpl,e6])
  refine ⟨fun h2=>?_,fun h2=>?_⟩
  ·have hlj:j < (rwF g k).length:=by omega
   refine ⟨by omega,h2,?_⟩
   rw [nI_get hlj]
   have hw:=hg.lt hlj
   have hsc:=w1R_succ (m:=m) hlj
   generalize (rwF g k).getD j 0=w at hw hsc ⊢
   have htl:(gI (w1R g m k j)).length=g.length:=by rw [gI_len,w1R_len]
   have hget:(gI (w1R g m k j)).getD k default=nI (((rwF g k).take j).filter (c1F (rwF g) m k)):=by rw [gI_get (by rw [w1R_len];exact hlt),w1R_get hlt]
   have hfl:(((rwF g k).take j).filter (c1F (rwF g) m k)).length≤500000:=Nat.le_trans (List.length_filter_le _ _) (by rw [List.length_take];omega)
   rw [Int.toNat_natCast,hpg k hlt,hpg w hw]
   have no:c1F (rwF g) m k w=false→∃z:Nat×List Nat×Heap,(z.1≤(rwF g k).length∧St H [tabT q (gI (w1R g m k z.1)) z.2.1] z.2.2)∧(rwF g k).length - z.1 < (rwF g k).length - j∧(I ((j+1:Nat):Int)).wk (I z.1)∧z.2.2.le G:=by
    intro h
    rw [if_neg (by rw [h];simp)] at hsc
    exact ⟨(j+1,D,G),⟨by simp only;omega,by rw [hsc];exact st⟩,by simp only;omega,.refl _,Heap.le_refl _⟩
   refine ⟨by clear no;omega,by clear no;omega,fun h3=>⟨by clear no;omega,by clear no;omega,fun h4=>?_,fun h4=>?_⟩,fun h3=>?_⟩
   ·have ht:c1F (rwF g) m k w=true:=by
     rw [c1F,decide_eq_true (by omega),decide_eq_true (by omega)];rfl
    rw [if_pos ht] at hsc
    have:=fun (K:Heap→Prop)=>tab_push (K:=K) st 0 rfl htl hlt (w:Int) (by rw [hget,nL_];omega)
    refine this _ fun G' D' st=>?_
    rw [hget,← nI_one,← nI_app,← gI_set,← hsc] at st
    exact ⟨(j+1,D',G'),⟨by simp only;omega,st⟩,by simp only;omega,.refl _,Heap.le_refl _⟩
   ·exact no (by rw [c1F,decide_eq_false (by clear no;omega:¬partF (aO_ (rwF g)) w=partF (aO_ (rwF g)) m),Bool.and_false])
   ·exact no (by rw [c1F,decide_eq_false (by clear no;omega:¬partF (aO_ (rwF g)) k=partF (aO_ (rwF g)) m),Bool.false_and])
  ·have:j=(rwF g k).length:=by omega
   subst this
   rw [w1R_next] at st
   (try simp (maxSteps:=1000000) (disch:=first | assumption | (apply ν6;assumption)) only [vz,vu,vv,eqS,eF_,↓c1_,↓c2_,tabs,reduceCtorEq,ι5,↓reduceIte,ν1,ν2,ν3,ν4,ν5,ι1,ι2,ι3,ι4,e5])
   exact ⟨(k+1,D,G),⟨by simp only;omega,st⟩,by simp only;omega,.refl _,Heap.le_refl _⟩
 ·have:k=g.length:=by omega
  subst this
  rw [w1R_all] at st
  have e:(gI (in1G g m)).length=g.length:=by rw [gI_len,in1G_len]
  rw [← e]
  exact tab_whole (fun G D s=>.ofWkK (lii_val (s.get 0 rfl) ⟨s.ndT 0 rfl,s.fr _ (List.mem_cons_self ..),s.le⟩)) st
end Go.Proofs.YtolffbcnbcjeaaaGreat
namespace Go.Proofs.YtolffbcnbcjeaaaGreat
open Go Go.Sep Go.Pt
attribute [local irreducible] CallT
theorem take_filter_at {xs:List Int} {p:Int→Bool} {k:Nat} (h:k < xs.length) (h1:p xs[k]=true) (h2:∀i (hi:i < k),p (xs[i]'(by omega))=false):xs.take k=(xs.take (k+1)).filter fun x=>!p x:=by
 rw [List.take_succ_eq_append_getElem h,List.filter_append]
 have e1:([xs[k]]:List Int).filter (fun x=>!p x)=[]:=by simp [h1]
 rw [e1,List.append_nil,eq_comm,List.filter_eq_self]
 intro x hx
 obtain ⟨i,hi,rfl⟩:=List.getElem_of_mem hx
 rw [List.length_take] at hi
 rw [List.getElem_take]
 have:=h2 i (by omega)
 simp [this]
theorem findIdx_filter {xs:List Int} {p:Int→Bool} (h:xs.findIdx p < xs.length):xs.take (xs.findIdx p)=(xs.take (xs.findIdx p+1)).filter fun x=>!p x:=
 take_filter_at h (List.findIdx_getElem (w:=h)) fun i hi=>by simpa using List.not_of_lt_findIdx hi
theorem IndexFunc_live {xs:List Int} {q:Nat} (g:Nat) (caps:List AV) (p:Int→Bool) {H:Heap} (hq:H q=some (cP fI xs)) (hl:xs.length≤1000000000) (hp:∀x∈xs,PuAt Tryz.prog g (I x::caps) H (B (p x))) :
  PuAt Tryz.prog 115 [.sl q 1 0 xs.length,.fn g caps] H (I (if xs.any p then (xs.findIdx p:Int) else -1)):=by
 intro K hK
 refine CallT.fin ?_
 refine W115_ok ?_;simp (maxSteps:=1000000) (disch:=first | assumption | (apply ν6;assumption)) only [W115,vz,vu,vv,eqS,eF_,↓c1_,↓c2_,tabs,reduceCtorEq,ι5,↓reduceIte,ν1,ν2,ν3,ν4,ν5,ι1,ι2,ι3,ι4]
 refine L115_0_rule (0:Nat) (fun i=>I i) (fun _=>H) (fun i=>i≤xs.length∧∀j (hj:j < xs.length),j < i→p xs[j]=false) (fun i=>xs.length - i) ⟨⟨by omega,by intros;omega⟩,.refl _,Heap.le_refl _⟩ ?_
 rintro i ⟨hi1,ha⟩
 (try simp (maxSteps:=1000000) (disch:=first | assumption | (apply ν6;assumption)) only [vz,vu,vv,eqS,eF_,↓c1_,↓c2_,tabs,reduceCtorEq,ι5,↓reduceIte,ν1,ν2,ν3,ν4,ν5,ι1,ι2,ι3,ι4,B115_0])
 refine ⟨fun h=>?_,fun h=>?_⟩
 ·have hlt:i < xs.length:=by omega
  have hrd:=cI_rd (l:=xs) (i:=i) hlt
  rw [getD_lt hlt] at hrd
  (try simp (maxSteps:=1000000) (disch:=first | assumption | (apply ν6;assumption)) only [vz,vu,vv,eqS,eF_,↓c1_,↓c2_,tabs,reduceCtorEq,ι5,↓reduceIte,ν1,ν2,ν3,ν4,ν5,ι1,ι2,ι3,ι4,lA_ hq,hrd,cI_len,callF,List.cons_append,List.nil_append])
  refine ⟨by omega,by omega,by omega,?_⟩
  refine PuAt.use (hp _ (List.getElem_mem hlt)) ?_
  (try simp (maxSteps:=1000000) (disch:=first | assumption | (apply ν6;assumption)) only [vz,vu,vv,eqS,eF_,↓c1_,↓c2_,tabs,reduceCtorEq,ι5,↓reduceIte,ν1,ν2,ν3,ν4,ν5,ι1,ι2,ι3,ι4])
  refine ⟨fun h1=>?_,fun h1=>⟨i+1,⟨by omega,fun j hj hji=>?_⟩,by omega,?_⟩⟩
  ·have h2:xs.any p=true:=List.any_eq_true.2 ⟨xs[i],List.getElem_mem hlt,h1⟩
   have h3:xs.findIdx p=i:=by
    rw [List.findIdx_eq hlt];exact ⟨h1,fun j hj=>ha j (by omega) hj⟩
   rw [h2,h3] at hK;exact wkK.keep (by simpa using hK)
  ·rcases Nat.lt_succ_iff_lt_or_eq.1 hji with h2 | rfl
   ·exact ha j hj h2
   ·exact h1
  ·rw [wk_int,i6_ (by omega) (by omega)];simp
 ·have hi:i=xs.length:=by omega
  have h2:xs.any p=false:=by
   rw [List.any_eq_false]
   intro x hx
   obtain ⟨j,hj,rfl⟩:=List.mem_iff_getElem.1 hx
   rw [ha j hj (by omega)];simp
  rw [h2] at hK;exact wkK.keep (by simpa using hK)
theorem DeleteFunc_row {H G:Heap} {Ts:List Th} {q:Nat} {xs:List Int} (p:Int→Bool) (f:Nat) (caps:List AV) (s:St H (cT_ q (cP fI xs)::Ts) G) (hl:xs.length≤1000000)
  (hp:∀x∈xs,∀G',(∀y b,G y=some b→y≠q→G' y=some b)→PuAt Tryz.prog f (I x::caps) G' (B (p x))) {K:AV→Heap→Prop}
  (h:∀J G',(∀y b,G y=some b→y≠q→G' y=some b)→St H (cT_ q (cP fI ((xs.filter fun x=>!p x)++J))::Ts) G'→K (.sl q 1 0 (xs.filter fun x=>!p x).length) G'):CallT Tryz.prog 81 [.sl q 1 0 xs.length,.fn f caps] G K:=by
 have hq:G q=some (cP fI xs):=s.get 0 rfl
 refine W81_ok ?_;simp (maxSteps:=1000000) (disch:=first | assumption | (apply ν6;assumption)) only [W81,vz,vu,vv,eqS,eF_,↓c1_,↓c2_,tabs,reduceCtorEq,ι5,↓reduceIte,ν1,ν2,ν3,ν4,ν5,ι1,ι2,ι3,ι4]
 refine PuAt.use (IndexFunc_live f caps p hq (by omega) fun x hx=>hp x hx _ fun y b hb hy=>hb) ?_
 by_cases hany:xs.any p=true
 ·rw [if_pos hany]
  have hidx:xs.findIdx p < xs.length:=by
   rw [List.findIdx_lt_length]
   obtain ⟨x,h1,h2⟩:=List.any_eq_true.1 hany
   exact ⟨x,h1,h2⟩
  have hft:=findIdx_filter hidx
  generalize xs.findIdx p=k at hidx hft
  have hk1:¬(k:Int)=-1:=by omega
  have e5:IntKind.i64.wrap ((k:Int)+1)=((k+1:Nat):Int):=by rw [i6_ (by omega) (by omega)];simp
  (try simp (maxSteps:=1000000) (disch:=first | assumption | (apply ν6;assumption)) only [vz,vu,vv,eqS,eF_,↓c1_,↓c2_,tabs,reduceCtorEq,ι5,↓reduceIte,ν1,ν2,ν3,ν4,ν5,ι1,ι2,ι3,ι4,hk1,decide_false,e5])
  refine L81_0_rule (k,k+1,xs,G) (fun z=>I z.1) (fun z=>I z.2.1) (fun z=>z.2.2.2)
   (fun z=>z.1 < z.2.1∧z.2.1≤xs.length∧z.2.2.1.length=xs.length∧z.2.2.1.take z.1=(xs.take z.2.1).filter (fun x=>!p x)∧z.2.2.1.drop z.2.1=xs.drop z.2.1∧(∀y b,G y=some b→y≠q→z.2.2.2 y=some b)∧St H (cT_ q (cP fI z.2.2.1)::Ts) z.2.2.2) (fun z=>xs.length - z.2.1)
   ⟨⟨by simp only;omega,by simp only;omega,rfl,hft,rfl,fun y b hb _=>hb,s⟩,.refl _,.refl _,Heap.le_refl _⟩ ?_
  clear hft hk1 e5 hidx
  rintro ⟨i,j,Z,G2⟩ ⟨h1,h2,h3,h4,h5,h6,st⟩
  dsimp only at h1 h2 h3 h4 h5 h6 st
  have e6:IntKind.i64.wrap ((j:Int)+1)=((j+1:Nat):Int):=by rw [i6_ (by omega) (by omega)];simp
  have e7:IntKind.i64.wrap ((i:Int)+1)=((i+1:Nat):Int):=by rw [i6_ (by omega) (by omega)];simp
  have hZl:(cP fI Z).length=xs.length:=by rw [cI_len,h3]
  (try simp (maxSteps:=1000000) (disch:=first | assumption | (apply ν6;assumption)) only [vz,vu,vv,eqS,eF_,↓c1_,↓c2_,tabs,reduceCtorEq,ι5,↓reduceIte,ν1,ν2,ν3,ν4,ν5,ι1,ι2,ι3,ι4,B81_0])
  refine ⟨fun hj=>?_,fun hj=>?_⟩
  ·have hlj:j < xs.length:=by omega
   have hzj:Z.getD j default=xs.getD j default:=by
    have a:=congrArg (fun l:List Int=>l.getD 0 default) h5
    simpa [List.getD,List.getElem?_drop] using a
   have hrd:=cI_rd (l:=Z) (i:=j) (by omega)
   rw [hzj] at hrd
   have hmem:xs.getD j default∈xs:=getD_all (p:=fun z=>z∈xs) (fun _ k=>k) hlj
   have htk:xs.take (j+1)=xs.take j++[xs.getD j default]:=tS_ hlj
   have hd1:Z.drop (j+1)=xs.drop (j+1):=by
    have a:=congrArg (fun l:List Int=>l.drop 1) h5
    simpa [List.drop_drop,Nat.add_comm] using a
   generalize xs.getD j default=x at hrd hmem htk
   (try simp (maxSteps:=1000000) (disch:=first | assumption | (apply ν6;assumption)) only [vz,vu,vv,eqS,eF_,↓c1_,↓c2_,tabs,reduceCtorEq,ι5,↓reduceIte,ν1,ν2,ν3,ν4,ν5,ι1,ι2,ι3,ι4,lA_ (st.get 0 rfl),hrd,hZl,cI_len,h3,callF,List.cons_append,List.nil_append])
   refine ⟨by omega,by omega,by omega,?_⟩
   refine PuAt.use (hp x hmem _ h6) ?_
   cases hpx:p x
   ·have hset:=cI_set (l:=Z) (t:=i) (by omega) x
    (try simp (maxSteps:=1000000) (disch:=first | assumption | (apply ν6;assumption)) only [vz,vu,vv,eqS,eF_,↓c1_,↓c2_,tabs,reduceCtorEq,ι5,↓reduceIte,ν1,ν2,ν3,ν4,ν5,ι1,ι2,ι3,ι4,sA_ (st.get 0 rfl),hZl,cI_len,h3,e6,e7])
    repeat refine ⟨by omega,?_⟩
    rw [hset]
    refine ⟨(i+1,j+1,Z.set i x,_),⟨by simp only;omega,by simp only;omega,by simp only [List.length_set];exact h3,?_,?_,fun y b hb hy=>Eq.trans (Heap.set_other hy) (h6 y b hb hy),st.put 0 rfl (cP fI (Z.set i x))⟩,by simp only;omega,.refl _,.refl _,Heap.le_refl _⟩
    ·simp only [htk,List.filter_append,List.filter_cons,hpx,Bool.not_false,if_true,List.filter_nil]
     rw [← h4,List.take_succ_eq_append_getElem (by rw [List.length_set];omega),List.getElem_set_self,List.take_set_of_le (Nat.le_refl _)]
    ·simp only
     rw [List.drop_set_of_lt (by omega)];exact hd1
   ·(try simp (maxSteps:=1000000) (disch:=first | assumption | (apply ν6;assumption)) only [vz,vu,vv,eqS,eF_,↓c1_,↓c2_,tabs,reduceCtorEq,ι5,↓reduceIte,ν1,ν2,ν3,ν4,ν5,ι1,ι2,ι3,ι4,e6])
    refine ⟨(i,j+1,Z,G2),⟨by simp only;omega,by simp only;omega,h3,?_,hd1,h6,st⟩,by simp only;omega,.refl _,.refl _,Heap.le_refl _⟩
    simp only [htk,List.filter_append,List.filter_cons,hpx,Bool.not_true,Bool.false_eq_true,if_false,List.filter_nil,List.append_nil]
    exact h4
  ·have:j=xs.length:=by omega
   subst this
   rw [List.take_length] at h4
   have hfl:(xs.filter fun x=>!p x).length=i:=by
    have:=congrArg List.length h4
    rw [List.length_take] at this
    omega
   have em:((xs.length:Int) - (i:Int)).toNat=xs.length - i:=by omega
   have hz0:¬xs.length - i=0:=by omega
   (try simp (maxSteps:=1000000) (disch:=first | assumption | (apply ν6;assumption)) only [vz,vu,vv,eqS,eF_,↓c1_,↓c2_,tabs,reduceCtorEq,ι5,↓reduceIte,ν1,ν2,ν3,ν4,ν5,ι1,ι2,ι3,ι4,em])
   refine ⟨by omega,by omega,by omega,?_⟩
   have hq2:G2 q=some (cP fI Z):=st.get 0 rfl
   have hzz:zA_ (xs.length - i) [I 0]=cP fI (List.replicate (xs.length - i) 0):=cP_rep _
   have hzl:(cP fI (List.replicate (xs.length - i) 0)).length=xs.length - i:=by simp [cP]
   have hsp:splice (cP fI Z) (i*1) (cP fI (List.replicate (xs.length - i) 0))=cP fI ((xs.filter fun x=>!p x)++List.replicate (xs.length - i) 0):=by
    unfold splice
    rw [hzl,List.drop_of_length_le (by rw [cI_len];omega),List.append_nil,Nat.mul_one,cI_app,← h4,cP,← List.map_take]
   simp only [clearV,tab_22,tab_3,hq2]
   refine ⟨trivial,?_⟩
   rw [if_neg hz0,hzz,hsp,cI_len]
   refine ⟨by omega,cP_all _,by omega,by omega,by omega,?_⟩
   have:=h (List.replicate (xs.length - i) 0) (G2.set q (cP fI ((xs.filter fun x=>!p x)++List.replicate (xs.length - i) 0))) (fun y b hb hy=>Eq.trans (Heap.set_other hy) (h6 y b hb hy)) (st.put 0 rfl _)
   rwa [hfl] at this
 ·rw [if_neg hany]
  have hall:(xs.filter fun x=>!p x)=xs:=by
   rw [List.filter_eq_self]
   intro x hx
   rw [List.any_eq_true] at hany
   cases hpx:p x
   ·rfl
   ·exact absurd ⟨x,hx,hpx⟩ hany
  have:=h [] G (fun y b hb _=>hb) (by rw [hall,List.append_nil];exact s)
  rw [hall] at this
  have e1:((-1:Int)=-1)=True:=eq_true rfl
  (try simp (maxSteps:=1000000) (disch:=first | assumption | (apply ν6;assumption)) only [vz,vu,vv,eqS,eF_,↓c1_,↓c2_,tabs,reduceCtorEq,ι5,↓reduceIte,ν1,ν2,ν3,ν4,ν5,ι1,ι2,ι3,ι4,e1,decide_true])
  exact this
end Go.Proofs.YtolffbcnbcjeaaaGreat
namespace Go.Proofs.YtolffbcnbcjeaaaGreat
open Go Go.Sep Go.Pt
attribute [local irreducible] CallT
theorem buildN_1 (x:Int):buildN tab 22 1 [(0,I x)]=some (fun r=>.sl r 1 0 1,cP fI [x]):=by
 simp only [buildN,tab_22,tab_3]
 rfl
theorem fairLasso1_at {l:List Int} {v:Int} {G:Heap} {r11 r9:Nat} (h11:G r11=some [Is l]) (h9:G r9=some [I v]) (hv:0≤v∧v < l.length) {w:Int} (hw:0≤w∧w < l.length) :
  PuAt Tryz.prog 83 [I w,.ptr r11 0,.ptr r9 0] G (B (!decide (l.getD w.toNat default=l.getD v.toNat default))):=by
 intro K hK
 refine W83_ok ?_;simp (maxSteps:=1000000) (disch:=first | assumption | (apply ν6;assumption)) only [W83,vz,vu,vv,eqS,eF_,↓c1_,↓c2_,tabs,reduceCtorEq,ι5,↓reduceIte,ν1,ν2,ν3,ν4,ν5,ι1,ι2,ι3,ι4,lA_ h11,lA_ h9]
 refine ⟨by omega,by omega,by omega,by omega,?_⟩
 first | exact hK | simpa using hK
theorem RNr.res (l:List Int):ResU (fun r G D=>RN (LPl eI) 1 r l G D):=by
 refine ⟨?_,?_,?_⟩
 ·intro r G G' D h hf
  exact h.local (LPl.local eI) hf
 ·intro r G D h
  rcases rnI_cases h with ⟨rfl,_,rfl⟩ | ⟨q,rfl,hq,rfl⟩
  ·exact ⟨.inr ⟨.inr ⟨.p .nil,fun _=>rfl⟩,fun _=>rfl⟩,fun y hy=>by cases hy⟩
  ·refine ⟨.inr ⟨.inr ⟨.inl ⟨_,_,_,_,rfl⟩,fun _=>rfl⟩,fun _=>rfl⟩,fun y hy bs hb c hc=>?_⟩
   rw [List.mem_singleton.1 hy,hq] at hb;cases hb
   obtain ⟨z,_,rfl⟩:=List.mem_map.1 hc
   exact .p (.int _ _)
 ·intro r G D n G0 h0 h
  rcases rnI_cases h with ⟨rfl,hl,rfl⟩ | ⟨q,rfl,hq,rfl⟩
  ·exact .inl ⟨rfl,hl,rfl⟩
  ·refine rnI_mk ?_
   have em:(cP fI l).map (shC n)=cP fI l:=by rw [cP,List.map_map];rfl
   simp only [Heap.or,h0 (q+n) (by omega),shH,Nat.le_add_left,if_true,Nat.add_sub_cancel,hq,Option.map_some,em]
theorem fairLasso_spec (g:List (List Nat)) (hg:GrB g) (some:List Nat) (hs:∀v∈some,v < g.length) (hsl:some.length≤100000) (goals:List (List Nat)) (b:Nat) (hgo:GoB goals g.length) (hgb:∀l∈goals,l.length≤b) (hB:(goals.length+1)*(g.length+b+2)≤800000) :
  Pu Tryz.prog 39 [Ls (gI g),Is (nI some),Ls (gI goals)] (lassoV (rwF g) g.length some goals):=by
 refine ⟨fun H=>CallT.fin ?_⟩
 have hn:=hg.n
 have hgl:=gI_len g
 have hol:=gI_len goals
 have hon:=hgo.len
 refine W39_ok ?_;simp (maxSteps:=1000000) (disch:=first | assumption | (apply ν6;assumption)) only [W39,vz,vu,vv,eqS,eF_,↓c1_,↓c2_,tabs,reduceCtorEq,ι5,↓reduceIte,ν1,ν2,ν3,ν4,ν5,ι1,ι2,ι3,ι4]
 refine Pu.use (meeting_spec g hg some hs hsl goals hgo) ?_
 (try simp (maxSteps:=1000000) (disch:=first | assumption | (apply ν6;assumption)) only [vz,vu,vv,eqS,eF_,↓c1_,↓c2_,tabs,reduceCtorEq,ι5,↓reduceIte,ν1,ν2,ν3,ν4,ν5,ι1,ι2,ι3,ι4])
 intro r9 hr9
 (try simp (maxSteps:=1000000) (disch:=first | assumption | (apply ν6;assumption)) only [vz,vu,vv,eqS,eF_,↓c1_,↓c2_,tabs,reduceCtorEq,ι5,↓reduceIte,ν1,ν2,ν3,ν4,ν5,ι1,ι2,ι3,ι4])
 have st:=(St.nil H).cell hr9 [I (meetF (rwF g) g.length some goals)]
 refine ⟨fun h2=>?_,fun h2=>?_⟩
 ·have e:lassoV (rwF g) g.length some goals=.tup [Is [],Is [],B false]:=by
   rw [lassoV,laS,laL,laB,if_pos h2,if_pos h2,decide_eq_true h2];rfl
  rw [e]
  exact ⟨_,_,.trans (.val (v':=.tup [Is [],Is [],B false]) (wk_tup ⟨.nil,.nil,.refl _,trivial⟩)) (.forget st.le),rfl,rfl⟩
 ·obtain ⟨m,em,hm,hfair,hreach⟩:=meetF_pos hg.gr hs h2
  have e:lassoV (rwF g) g.length some goals=.tup [Is (nI (stemF (rwF g) g.length m some)),Is (nI (ringF (rwF g) g.length m goals)),B true]:=by
   rw [lassoV,laS,laL,laB,if_neg h2,if_neg h2,em,Int.toNat_natCast,decide_eq_false (by omega)];rfl
  rw [e]
  rw [em] at st ⊢
  generalize H.set r9 [I (m:Nat)]=G at st ⊢
  clear hr9
  obtain ⟨FL,hsl2,hrl2,hbst,hpos⟩:=fair_lasso (b:=b) hg.gr hm hfair (fun l hl=>⟨hgo.lt l hl,hgb l hl⟩) hreach
  have hinv:=loopF_inv (b:=b) hg.gr hm hfair (fun l hl=>⟨hgo.lt l hl,hgb l hl⟩)
  refine lit1 tab_22 rfl tab_3 ⟨rfl,rfl⟩ ?_
  have hmo:∀v∈[m],v < g.length:=fun v hv=>by rw [List.mem_singleton.1 hv];exact hm
  refine Pu.use (leastWay_spec g hg some [m] hs (by omega) hmo (by simp)) ?_
  refine Pu.use (parts_spec g hg) ?_
  have hpl:=prtI_len g
  have hpg:=fun v (h:v < g.length)=>prtI_get h
  have hpm:=hpg m hm
  (try simp (maxSteps:=1000000) (disch:=first | assumption | (apply ν6;assumption)) only [vz,vu,vv,eqS,eF_,↓c1_,↓c2_,tabs,reduceCtorEq,ι5,↓reduceIte,ν1,ν2,ν3,ν4,ν5,ι1,ι2,ι3,ι4])
  intro r11 hr11
  replace st:=st.cell hr11 [Is (prtI g)]
  (try simp (maxSteps:=1000000) (disch:=first | assumption | (apply ν6;assumption)) only [vz,vu,vv,eqS,eF_,↓c1_,↓c2_,tabs,reduceCtorEq,ι5,↓reduceIte,ν1,ν2,ν3,ν4,ν5,ι1,ι2,ι3,ι4])
  generalize G.set r11 [Is (prtI g)]=G1 at st ⊢
  clear hr11
  have hbn:=buildN_1 m
  (try simp (maxSteps:=1000000) (disch:=first | assumption | (apply ν6;assumption)) only [vz,vu,vv,eqS,eF_,↓c1_,↓c2_,tabs,reduceCtorEq,ι5,↓reduceIte,ν1,ν2,ν3,ν4,ν5,ι1,ι2,ι3,ι4,lA_ (st.get 1 rfl),lA_ (st.get 0 rfl),hpl,hpm,Int.toNat_natCast,hbn,safeV,newV])
  refine ⟨by omega,by omega,?_⟩
  refine Pu.use (inside_spec g hg m) ?_
  (try simp (maxSteps:=1000000) (disch:=first | assumption | (apply ν6;assumption)) only [vz,vu,vv,eqS,eF_,↓c1_,↓c2_,tabs,reduceCtorEq,ι5,↓reduceIte,ν1,ν2,ν3,ν4,ν5,ι1,ι2,ι3,ι4,lA_ (st.get 1 rfl),hbn,safeV,newV])
  intro q hq
  replace st:=st.cell hq (cP fI (nI [m]))
  generalize hG2:G1.set q (cP fI (nI [m]))=G2 at st
  have hst:nI (stemF (rwF g) g.length m some)=(nI (lwayF (rwF g) g.length some [m])).take ((nI (lwayF (rwF g) g.length some [m])).length - 1):=by
   rw [nI_take,nL_,stemF,List.dropLast_eq_take]
  rw [hst]
  have hstl:(nI (lwayF (rwF g) g.length some [m])).length=(lwayF (rwF g) g.length some [m]).length:=nL_ _
  have hlwl:(lwayF (rwF g) g.length some [m]).length≤g.length+2:=(lwayF_spec hg.gr hmo hbst).2
  generalize nI (lwayF (rwF g) g.length some [m])=stm at hstl ⊢
  have hG3:G1.set q [AV.p (fI (m:Int))]=G2:=hG2
  have st3:St H [cT_ q (cP fI (nI [m])),cT_ r11 [Is (prtI g)],cT_ r9 [I (m:Nat)]] G2:=st
  clear st hq
  have hil:=in1G_len g m
  have hirow:=in1G_row hg m
  have hgi:=in1G_B hg m
  have hilg:=gI_len (in1G g m)
  rw [hil] at hilg
  (try simp (maxSteps:=1000000) (disch:=first | assumption | (apply ν6;assumption)) only [vz,vu,vv,eqS,eF_,↓c1_,↓c2_,tabs,reduceCtorEq,ι5,↓reduceIte,ν1,ν2,ν3,ν4,ν5,ι1,ι2,ι3,ι4,hol,hG3])
  clear hG3 hG2
  have e0:loopF (rwF g) g.length m (goals.take 0)=[m]:=rfl
  refine L39_0_rule ((0:Nat),q,G2) (fun z=>rowP z.2.1 (nI (loopF (rwF g) g.length m (goals.take z.1)))) (fun z=>I z.1) (fun z=>z.2.2) (fun z=>z.1≤goals.length∧St H [cT_ z.2.1 (cP fI (nI (loopF (rwF g) g.length m (goals.take z.1)))),cT_ r11 [Is (prtI g)],cT_ r9 [I (m:Nat)]] z.2.2) (fun z=>goals.length - z.1)
   ⟨⟨by simp,st3⟩,.refl _,.refl _,Heap.le_refl _⟩ ?_
  clear st3 q G2
  rintro ⟨t,q,G⟩ ⟨ht,st⟩
  dsimp only at ht st
  have hli:=hinv t ht
  have hll:=hli.len
  have hlast:=hli.last
  have hne:=hli.ne
  have hmul:(goals.take t).length*(g.length+b)≤goals.length*(g.length+b):=Nat.mul_le_mul_right _ (by rw [List.length_take];omega)
  have hB2:(goals.length+1)*(g.length+b+2)=goals.length*(g.length+b)+goals.length*2+(g.length+b+2):=by rw [Nat.add_mul,Nat.one_mul,Nat.mul_add]
  have e5:IntKind.i64.wrap ((t:Int)+1)=((t+1:Nat):Int):=by rw [i6_ (by omega) (by omega)];simp
  generalize hacc:loopF (rwF g) g.length m (goals.take t)=acc at st hli hll hlast hne
  have hal:(nI acc).length=acc.length:=nL_ acc
  simp only [hacc]
  have e7:IntKind.i64.wrap ((acc.length:Int) - 1)=((acc.length - 1:Nat):Int):=by rw [i6_ (by omega) (by omega)];omega
  (try simp (maxSteps:=1000000) (disch:=first | assumption | (apply ν6;assumption)) only [vz,vu,vv,eqS,eF_,↓c1_,↓c2_,tabs,reduceCtorEq,ι5,↓reduceIte,ν1,ν2,ν3,ν4,ν5,ι1,ι2,ι3,ι4,B39_0,hol,hal])
  refine ⟨fun h3=>?_,fun h3=>?_⟩
  ·have hlt:t < goals.length:=by omega
   refine ⟨by omega,h3,?_⟩
   rw [gI_get hlt]
   obtain ⟨hsz,hxlt⟩:=hgo.get hlt
   have hnl:=nL_ (rwF goals t)
   have hmem:rwF goals t∈goals:=by simp [rwF,List.getD,hlt]
   refine CloneI_row (nI (rwF goals t)) (by omega) fun q4 hq4=>?_
   replace st:=st.cell hq4 (cP fI (nI (rwF goals t)))
   generalize G.set q4 (cP fI (nI (rwF goals t)))=G2 at st ⊢
   clear hq4
   have n11:r11≠q4:=fun e=>st.disjI 0 2 rfl rfl (by decide) q4 (by simp [cT_]) (by simp [cT_,e])
   have n9:r9≠q4:=fun e=>st.disjI 0 3 rfl rfl (by decide) q4 (by simp [cT_]) (by simp [cT_,e])
   refine DeleteFunc_row (fun x=>!decide ((prtI g).getD x.toNat default=(prtI g).getD m default)) 83 [.ptr r11 0,.ptr r9 0] st (by omega) (fun x hx G' hf=>?_) fun J G3 hf st=>?_
   ·obtain ⟨w,hw,rfl⟩:=nI_mem.1 hx
    have hwn:=hgo.lt _ hmem w hw
    have:=fairLasso1_at (l:=prtI g) (v:=(m:Int)) (w:=(w:Int)) (hf r11 _ (st.get 2 rfl) n11) (hf r9 _ (st.get 3 rfl) n9) (by rw [hpl];omega) (by rw [hpl];omega)
    simpa using this
   have hown':((nI (rwF goals t)).filter fun x=>!(!decide ((prtI g).getD x.toNat default=(prtI g).getD m default)))=nI (ownF (rwF g) m (rwF goals t)):=by
    rw [ownF_eq,nI,nI,List.filter_map]
    congr 1
    apply List.filter_congr
    intro w hw
    have hwn:=hgo.lt _ hmem w hw
    simp only [Function.comp_apply,Bool.not_not,Int.toNat_natCast,hpg w hwn,hpm,decide_eq_decide]
    omega
   rw [hown'] at st ⊢
   obtain ⟨hbest,hleg,hlp⟩:=loop_leg hg.gr hli (hfair.2 _ hmem) (hgo.lt _ hmem) (hgb _ hmem)
   have hown:∀v∈ownF (rwF g) m (rwF goals t),v < g.length:=fun v hv=>hgo.lt _ hmem v (ownF_mem.1 hv).1
   have hol2:(ownF (rwF g) m (rwF goals t)).length≤100000:=Nat.le_trans (List.length_filter_le _ _) hsz
   have hlegd:legF (rwF g) g.length m acc (rwF goals t)=acc++(lwayF (inF (rwF g)) g.length [lastF acc] (ownF (rwF g) m (rwF goals t))).tail:=rfl
   have hwl2:=(lwayF_spec (inF_ok hg.gr) hown hbest).2
   have hin1:=lway_in1 (n:=g.length) (m:=m) (some:=[lastF acc]) (to:=ownF (rwF g) m (rwF goals t)) hg.gr hown (fun v hv=>(ownF_mem.1 hv).2) (fun v hv=>by rw [List.mem_singleton.1 hv];exact hlast.1)
   have hnext:loopF (rwF g) g.length m (goals.take (t+1))=legF (rwF g) g.length m acc (rwF goals t):=by
    have:goals.take (t+1)=goals.take t++[rwF goals t]:=tS_ hlt
    rw [this,loopF_snoc,hacc]
   generalize ownF (rwF g) m (rwF goals t)=own at st hbest hleg hlp hown hol2 hlegd hwl2 hin1
   have e8:((acc.length:Int) - ((acc.length - 1:Nat):Int)).toNat=1:=by omega
   (try simp (maxSteps:=1000000) (disch:=first | assumption | (apply ν6;assumption)) only [vz,vu,vv,eqS,eF_,↓c1_,↓c2_,tabs,reduceCtorEq,ι5,↓reduceIte,ν1,ν2,ν3,ν4,ν5,ι1,ι2,ι3,ι4,hal,e7,e8,Int.toNat_natCast])
   refine ⟨by omega,by omega,by omega,?_⟩
   have hqa:G3 q=Option.some (cP fI (nI acc)):=st.get 1 rfl
   have hq4:G3 q4=Option.some (cP fI (nI own++J)):=st.get 0 rfl
   have hne4:q≠q4:=fun e=>st.disjI 0 1 rfl rfl (by decide) q4 (by simp [cT_]) (by simp [cT_,e])
   have hlastI:((nI acc).drop (acc.length - 1)).take 1=nI [lastF acc]:=by
    rw [nI_drop,nI_take]
    congr 1
    have:acc.length - 1 < acc.length:=by omega
    rw [drop_cons this];rfl
   have hwk:Wk (.tup [Ls (gI (in1G g m)),.sl q 1 ((acc.length - 1)*1) 1,.sl q4 1 0 (nI own).length]) G3 (.tup [Ls (gI (in1G g m)),Is (nI [lastF acc]),Is (nI own)]) ((G3.del q).del q4):=by
    refine .trans (Wk.frzS (r:=q) (es:=(nI acc).map fI) (v':=.tup [Ls (gI (in1G g m)),Is (nI [lastF acc]),.sl q4 1 0 (nI own).length]) (by rw [hqa,List.map_map];rfl) (.tup (.cons (.same _) (.cons ?_ (.cons (.same _) .nil)))))
     (Wk.frzS (r:=q4) (es:=(nI own++J).map fI) (by rw [Heap.del_other (Ne.symm hne4),hq4,List.map_map];rfl) (.tup (.cons (.same _) (.cons (.same _) (.cons ?_ .nil)))))
    ·have:=FrzS.part (r:=q) (es:=(nI acc).map fI) (acc.length - 1) 1 (by rw [List.length_map,nL_];omega)
     have e:((((nI acc).map fI).drop (acc.length - 1)).take 1).map (fun v=>[v])=(nI [lastF acc]).map eI:=by
      rw [← List.map_drop,← List.map_take,hlastI,List.map_map];rfl
     rw [e] at this
     rw [Nat.mul_one];exact this
    ·have:=FrzS.part (r:=q4) (es:=(nI own++J).map fI) 0 (nI own).length (by rw [List.length_map,List.length_append];omega)
     have e:((((nI own++J).map fI).drop 0).take (nI own).length).map (fun v=>[v])=(nI own).map eI:=by
      rw [List.drop_zero,← List.map_take,List.take_left' rfl,List.map_map];rfl
     rw [e] at this
     exact this
   have hrow:=fun {H:Heap} {K:AV→Heap→Prop}=>leastWay_row (in1G g m) hgi [lastF acc] own (fun v hv=>by rw [in1G_len,List.mem_singleton.1 hv];exact hlast.2) (by simp) (fun v hv=>by rw [in1G_len];exact hown v hv) hol2 (H:=H) (K:=K)
   rw [hirow,hil,← hin1] at hrow
   generalize lwayF (inF (rwF g)) g.length [lastF acc] own=leg at hrow hlegd hlp hwl2
   refine thawU (RNr.res (nI leg)) (fun hK=>hrow fun v G D h1 h2=>hK _ _ _ h1 h2) hwk fun vr G7 D7 hrs hn7=>?_
   replace st:=st.push (rnI vr (nI leg) D7) hn7 hrs
   rcases rnI_cases (st.get 0 rfl) with ⟨_,h0,_⟩ | ⟨q5,rfl,hq5,rfl⟩
   ·have:=congrArg List.length h0
    rw [nL_,List.length_nil] at this
    omega
   have hnleg:=nL_ leg
   have e9:((leg.length:Int) - 1).toNat=leg.length - 1:=by omega
   (try simp (maxSteps:=1000000) (disch:=first | assumption | (apply ν6;assumption)) only [vz,vu,vv,eqS,eF_,↓c1_,↓c2_,tabs,reduceCtorEq,ι5,↓reduceIte,ν1,ν2,ν3,ν4,ν5,ι1,ι2,ι3,ι4,hnleg,e9,e5])
   refine ⟨by omega,by omega,by omega,?_⟩
   refine st_appL st 2 rfl hq5 (by rw [nL_];omega) (by rw [nL_];omega) fun q' G' hq' st=>?_
   have et:((nI leg).drop 1).take (leg.length - 1)=nI leg.tail:=by
    rw [List.take_of_length_le (by rw [List.length_drop,nL_];omega),nI_drop,List.drop_one]
   rw [et,← nI_app,← hlegd,← hnext] at st ⊢
   exact ⟨(t+1,q',G'),⟨by simp only;omega,st.drop.drop⟩,by simp only;omega,.refl _,.refl _,Heap.le_refl _⟩
  ·have:t=goals.length:=by omega
   subst this
   rw [List.take_length] at hacc hli
   obtain ⟨hbest,hlw,hbl⟩:=loop_back hg.gr hli hfair.1
   have hin1:=lway_in1 (n:=g.length) (m:=m) (some:=inF (rwF g) (lastF acc)) (to:=[m]) hg.gr hmo (fun v hv=>by rw [List.mem_singleton.1 hv];exact .refl _) (fun v hv=>hlast.1.trans (inF_mem.1 hv).2)
   have e8:IntKind.i64.wrap ((stm.length:Int) - 1)=((stm.length - 1:Nat):Int):=by rw [i6_ (by omega) (by omega)];omega
   have hrl:=cI_rd (l:=nI acc) (i:=acc.length - 1) (by rw [nL_];omega)
   rw [nI_get (by omega)] at hrl
   have hlr:acc.getD (acc.length - 1) 0=lastF acc:=rfl
   rw [hlr] at hrl
   have hgl2:(gI (in1G g m)).getD (lastF acc) default=nI (inF (rwF g) (lastF acc)):=by rw [gI_get (by rw [in1G_len];exact hlast.2),hirow,in1F_eq hlast.1]
   (try simp (maxSteps:=1000000) (disch:=first | assumption | (apply ν6;assumption)) only [vz,vu,vv,eqS,eF_,↓c1_,↓c2_,tabs,reduceCtorEq,ι5,↓reduceIte,ν1,ν2,ν3,ν4,ν5,ι1,ι2,ι3,ι4,lA_ (st.get 0 rfl),lA_ (st.get 2 rfl),e7,e8,hrl,cI_len,hal,hilg,hgl2,Int.toNat_natCast])
   refine ⟨by omega,by omega,by omega,by omega,by omega,?_⟩
   refine lit1 tab_22 rfl tab_3 ⟨rfl,rfl⟩ ?_
   have hin:(inF (rwF g) (lastF acc)).length≤500000:=by
    rw [inF_cB];exact Nat.le_trans (List.length_filter_le _ _) (hg.row hlast.2)
   have hps:=leastWay_spec (in1G g m) hgi (inF (rwF g) (lastF acc)) [m] (fun v hv=>by rw [in1G_len];exact hg.gr.lt _ v (inF_mem.1 hv).1) hin (fun v hv=>by rw [in1G_len];exact hmo v hv) (by simp)
   rw [hirow,hil,← hin1] at hps
   have hring:ringF (rwF g) g.length m goals=acc++(backF (rwF g) g.length m acc).dropLast:=by rw [ringF,hacc]
   have hback:lwayF (inF (rwF g)) g.length (inF (rwF g) (lastF acc)) [m]=backF (rwF g) g.length m acc:=rfl
   rw [hring]
   rw [hback] at hps
   (try simp (maxSteps:=1000000) (disch:=first | assumption | (apply ν6;assumption)) only [vz,vu,vv,eqS,eF_,↓c1_,↓c2_,tabs,reduceCtorEq,ι5,↓reduceIte,ν1,ν2,ν3,ν4,ν5,ι1,ι2,ι3,ι4,lA_ (st.get 0 rfl),hrl,cI_len,hal,hgl2,hilg,Int.toNat_natCast])
   refine ⟨by omega,?_⟩
   refine Pu.use hps ?_
   have hbp:=hlw.pos
   generalize backF (rwF g) g.length m acc=back at hbp hbl
   have hbkl:=nL_ back
   have e9:IntKind.i64.wrap ((back.length:Int) - 1)=((back.length - 1:Nat):Int):=by rw [i6_ (by omega) (by omega)];omega
   (try simp (maxSteps:=1000000) (disch:=first | assumption | (apply ν6;assumption)) only [vz,vu,vv,eqS,eF_,↓c1_,↓c2_,tabs,reduceCtorEq,ι5,↓reduceIte,ν1,ν2,ν3,ν4,ν5,ι1,ι2,ι3,ι4,hbkl,e9,Int.toNat_natCast])
   refine ⟨by omega,by omega,by omega,fun e he=>?_,by omega,by omega,by omega,fun e he=>?_,?_⟩
   ·obtain ⟨x,_,rfl⟩:=List.mem_map.1 he;rfl
   ·obtain ⟨x,_,rfl⟩:=List.mem_map.1 he;rfl
   have ed:(nI back).take (back.length - 1)=nI back.dropLast:=by rw [nI_take,List.dropLast_eq_take]
   rw [ed]
   refine st_appI st 0 rfl (by rw [nL_,nL_,List.length_dropLast];omega) fun q' G' hq' st=>?_
   rw [← nI_app] at st ⊢
   simp only [List.set_cons_zero] at st
   have hg':G' q'=Option.some (cP fI (nI (acc++back.dropLast))):=st.get 0 rfl
   refine ⟨_,H,.trans (Wk.frzS (r:=q') (es:=(nI (acc++back.dropLast)).map fI) (v':=.tup [Is (stm.take (stm.length - 1)),Is (nI (acc++back.dropLast)),B true]) (by rw [hg',List.map_map];rfl) (.tup (.cons (.same _) (.cons ?_ (.cons (.same _) .nil))))) (.forget fun y z hz=>?_),rfl,rfl⟩
   ·have:=FrzS.part (r:=q') (es:=(nI (acc++back.dropLast)).map fI) 0 (nI (acc++back.dropLast)).length (by simp)
    have e:((((nI (acc++back.dropLast)).map fI).drop 0).take (nI (acc++back.dropLast)).length).map (fun v=>[v])=(nI (acc++back.dropLast)).map eI:=by
     rw [List.drop_zero,List.take_of_length_le (by simp),List.map_map];rfl
    rw [e] at this
    exact this
   ·have hfr:=st.fr _ (List.mem_cons_self ..) q' (by simp [cT_])
    rw [Heap.del_other (fun e=>by rw [e,hfr] at hz;cases hz)]
    exact st.le y z hz
end Go.Proofs.YtolffbcnbcjeaaaGreat
