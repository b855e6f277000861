/- Texts laid together: Mf5 Mf6 Pf2 Pf3 Pf4 Lf1 Ql1 Tv0 Ma6 Mb1 Mg1 Tj0 Tj1 Tj3 Tj4 Tj5 Tk0 Tj6 Tg0 Rb3 Hf1. -/
import Derived.Test.YtjdhigcefkihiaaPc5
import Derived.RangeFuncBox
import Derived.RangeFuncLeaves
import Derived.Shelf.Abstract
import Derived.WalkKit
import Derived.OwnWalkIn
import Derived.TacticsInMore
import Derived.LoopNIn
import Derived.LoopIn
import Derived.Test.YtjdhigcefkihiaaProg
set_option linter.unusedVariables false
set_option linter.unusedSimpArgs false
open Nat renaming reduceAdd→ν1,reduceLeDiff→ν2,reduceLT→ν3,reduceMul→ν4,reduceSub→ν5
open Int renaming reduceToNat→ι1,reduceSub→ι2,reduceAdd→ι3,reduceNeg→ι4
open Array renaming toList→ι5
open Ne renaming symm→ν6
open List renaming forall_mem_cons→ν7
namespace Go.Proofs.Ytjdhigcefkihiaa
open Go Go.Sep Go.Pt
attribute [local irreducible] CallT
def bitF (g:Int) (i:Nat):Bool:=decide (bitsI .and .i64 (Int.fdiv g (2^(min i 64))) 1=1)
abbrev rnB (x:AV) (l:List Bool) (D:List Nat):Th:=rnT (LPl.local eBo) (LPl.has eBo) 1 x l D
theorem rnB_cases {x:AV} {l:List Bool} {G:Heap} {D:List Nat} (h:RN (LPl eBo) 1 x l G D):(x=.p .nil∧l=[]∧D=[])∨∃q,x=rowP q l∧G q=some (cP fB l)∧D=[q]:=by
  rcases h with h | ⟨q,cs,D',rfl,hq,hll,rfl⟩
  · exact .inl h
  · obtain ⟨rfl,rfl⟩:=LL.plain' hll
    refine .inr ⟨q,rfl,?_,rfl⟩
    have e:cells (l.map eBo)=cP fB l:=cells_P fB l
    rw [← e];exact hq
theorem rn_appB {H G:Heap} {Ts:List Th} {x:AV} {xs ys:List Bool} {D:List Nat} (s:St H Ts G) (i:Nat) (hi:Ts[i]?=some (rnB x xs D)) (hl:xs.length+ys.length≤1000000) {K:AV→Heap→Prop}
    (h:∀q' G',G q'=none→St H (Ts.set i (rnB (rowP q' (xs++ys)) (xs++ys) [q'])) G'→K (rowP q' (xs++ys)) G'):appendV tab 76 76 x (.p (.sl (ys.map eBo))) G (wkK K):=
  RN.app (bz:=1) tab_76 rfl tab_4 tab_76 rfl rfl rfl (fun _=>rfl) s i hi rfl (by omega) (by omega) h
theorem lit0B {G:Heap} {K:AV→Heap→Prop} (h:∀q,G q=none→K (.sl q 1 0 0) (G.set q [])):buildSliceV tab 76 0 [] G (wkK K):=by
  simp only [buildSliceV,tab_76,tab_4]
  refine ⟨by omega,?_⟩
  simp only [fillV,zerosA,List.replicate_zero,List.flatten_nil]
  exact fun r hr=>wkK.keep (h r hr)
def frJ (f:List Sd) (k j:Nat):Nat:=if j=0 then k else if j=1 then tst f (k - 1) else tst f (tst f (k - 1) - 1)
theorem l10From_spec (f:List Sd) (g:GoodFm f):∀k,k < f.length→Pu Try.prog 121 [Ds f,I k] (I (tst f k)):=by
  intro k
  induction k using Nat.strongRecOn with
  | ind k ih=>
    intro hk
    have hl:=g.l1
    have hok:=g.ok k hk
    have hnd:=sdOk_need hok.1
    refine Pu.of fun H=>?_
    refine W121_ok ?_;simp (maxSteps:=1000000) (disch:=first | assumption | (apply ν6;assumption)) only [W121,vz,vu,vv,eqS,eF_,↓c1_,↓c2_,tabs,reduceCtorEq,ι5,↓reduceIte,ν1,ν2,ν3,ν4,ν5,ι1,ι2,ι3,ι4]
    refine ⟨by omega,by omega,?_⟩
    refine Pu.use (need_spec.l10Need_spec (f.getD k default).op) ?_
    have t0:need (f.getD k default).op=0→tst f k=k:=fun h=>tst0 h
    have t1:need (f.getD k default).op=1→1≤k∧tst f k=tst f (k - 1):=fun h=>tst1 g hk h
    have t2:need (f.getD k default).op=2→1≤k∧1≤tst f (k - 1)∧tst f (k - 1)≤k - 1∧tst f k=tst f (tst f (k - 1) - 1):=fun h=>by
      obtain ⟨a,b,c,d,_⟩:=tst2 g hk h;exact ⟨a,b,c,d⟩
    generalize need (f.getD k default).op=m at hnd t0 t1 t2 ⊢
    refine L121_0_rule (0:Nat) (fun j=>I (frJ f k j)) (fun j=>I (m - j)) (fun _=>H) (fun j=>(j:Int)≤m) (fun j=>m.toNat - j) ⟨by omega,.refl _,by rw [wk_int];omega,Heap.le_refl _⟩ ?_
    intro j hj
    (try simp (maxSteps:=1000000) (disch:=first | assumption | (apply ν6;assumption)) only [vz,vu,vv,eqS,eF_,↓c1_,↓c2_,tabs,reduceCtorEq,ι5,↓reduceIte,ν1,ν2,ν3,ν4,ν5,ι1,ι2,ι3,ι4,B121_0])
    refine ⟨fun h1=>?_,fun h1=>?_⟩
    · have e1:IntKind.i64.wrap ((frJ f k j:Int) - 1)=((frJ f k j - 1:Nat):Int)∧frJ f k j - 1 < k∧tst f (frJ f k j - 1)=frJ f k (j+1):=by
        rcases (by omega:(j=0∧m=1)∨(j=0∧m=2)∨(j=1∧m=2)) with ⟨rfl,hm⟩ | ⟨rfl,hm⟩ | ⟨rfl,hm⟩
        · have:=t1 hm
          simp only [frJ,if_true]
          rw [i64_id (by omega) (by omega)]
          exact ⟨by omega,by omega,rfl⟩
        · have:=t2 hm
          simp only [frJ,if_true]
          rw [i64_id (by omega) (by omega)]
          exact ⟨by omega,by omega,rfl⟩
        · have:=t2 hm
          have h9:frJ f k 1=tst f (k - 1):=by simp [frJ]
          have h8:frJ f k 2=tst f (tst f (k - 1) - 1):=by simp [frJ]
          rw [h9,h8,i64_id (by omega) (by omega)]
          exact ⟨by omega,by omega,rfl⟩
      rw [e1.1]
      refine Pu.use (ih _ e1.2.1 (by omega)) ?_
      rw [e1.2.2]
      (try simp (maxSteps:=1000000) (disch:=first | assumption | (apply ν6;assumption)) only [vz,vu,vv,eqS,eF_,↓c1_,↓c2_,tabs,reduceCtorEq,ι5,↓reduceIte,ν1,ν2,ν3,ν4,ν5,ι1,ι2,ι3,ι4])
      refine ⟨j+1,by omega,by omega,.refl _,?_⟩
      rw [wk_int,i64_id (by omega) (by omega)];omega
    · refine congrArg (fun n:Int=>I n) ?_
      rcases (by omega:(j=0∧m=0)∨(j=1∧m=1)∨(j=2∧m=2)) with ⟨rfl,hm⟩ | ⟨rfl,hm⟩ | ⟨rfl,hm⟩
      · rw [t0 hm];simp [frJ]
      · rw [(t1 hm).2];simp [frJ]
      · rw [(t2 hm).2.2.2];simp [frJ]
structure Rd (f:List Sd) (out:List Bool) (i:Nat):Prop where
  i1:1≤i
  il:i - 1 < out.length
end Go.Proofs.Ytjdhigcefkihiaa
namespace Go.Proofs.Ytjdhigcefkihiaa
open Go Go.Sep Go.Pt
attribute [local irreducible] CallT
def guK (vs:List Bool) (t:List Int):Nat→Int
  | 0=>0
  | k+1=>if vs.getD (t.getD k default).toNat default=true then bitsI .or .i64 (guK vs t k) (IntKind.i64.wrap (1*2^(min k 64))) else guK vs t k
end Go.Proofs.Ytjdhigcefkihiaa
namespace Go.Pt
def stepK (nx:Nat→Nat) (r:Nat→Bool→Bool) (row:List Bool) (k:Nat):List Bool:=row.set k (r k (row.getD (nx k) default))
def sweepK (nx:Nat→Nat) (r:Nat→Bool→Bool) (ks:List Nat) (row:List Bool):List Bool:=ks.foldl (stepK nx r) row
def dnK (n:Nat):List Nat:=(List.range n).map fun j=>n - 1 - j
def fixR (nx:Nat→Nat) (n:Nat) (b:Bool) (r:Nat→Bool→Bool):List Bool:=sweepK nx r (dnK n) (sweepK nx r (dnK n) (List.replicate n b))
theorem stepK_len (nx:Nat→Nat) (r:Nat→Bool→Bool) (row:List Bool) (k:Nat):(stepK nx r row k).length=row.length:=by simp [stepK]
theorem sweepK_len (nx:Nat→Nat) (r:Nat→Bool→Bool):∀(ks:List Nat) (row:List Bool),(sweepK nx r ks row).length=row.length
  | [],_=>rfl
  | k::ks,row=>by rw [sweepK,List.foldl_cons];exact (sweepK_len nx r ks _).trans (stepK_len nx r row k)
theorem sweepK_snoc (nx:Nat→Nat) (r:Nat→Bool→Bool) (ks:List Nat) (k:Nat) (row:List Bool):sweepK nx r (ks++[k]) row=stepK nx r (sweepK nx r ks row) k:=by simp [sweepK]
theorem fixR_len (nx:Nat→Nat) (n:Nat) (b:Bool) (r:Nat→Bool→Bool):(fixR nx n b r).length=n:=by simp [fixR,sweepK_len]
theorem sweepK_congr {nx:Nat→Nat} {r r':Nat→Bool→Bool}:∀(ks:List Nat) (row:List Bool),(∀k∈ks,∀b,r k b=r' k b)→sweepK nx r ks row=sweepK nx r' ks row
  | [],_,_=>rfl
  | k::ks,row,h=>by
    rw [sweepK,sweepK,List.foldl_cons,List.foldl_cons]
    have e:stepK nx r row k=stepK nx r' row k:=by rw [stepK,stepK,h k (by simp)]
    rw [e];exact sweepK_congr ks _ fun k hk=>h k (by simp [hk])
theorem mem_dnK {n k:Nat} (h:k∈dnK n):k < n:=by
  obtain ⟨j,hj,rfl⟩:=List.mem_map.1 h
  have:=List.mem_range.1 hj;omega
theorem fixR_congr {nx:Nat→Nat} {n:Nat} {b:Bool} {r r':Nat→Bool→Bool} (h:∀k,k < n→∀b,r k b=r' k b):fixR nx n b r=fixR nx n b r':=by
  rw [fixR,fixR,sweepK_congr _ _ fun k hk=>h k (mem_dnK hk),sweepK_congr (dnK n) (List.replicate n b) fun k hk=>h k (mem_dnK hk)]
theorem sweepK_const {nx:Nat→Nat} {g:Nat→Bool} {n:Nat}:∀(j:Nat) (row:List Bool),row.length=n→j≤n→∀k,k < n→(sweepK nx (fun k _=>g k) ((List.range j).map fun i=>n - 1 - i) row).getD k default=if n - 1 - k < j then g k else row.getD k default:=by
  intro j
  induction j with
  | zero=>intro row _ _ k _;simp [sweepK]
  | succ j ih=>
    intro row hr hj k hk
    rw [List.range_succ,List.map_append,List.map_singleton,sweepK_snoc,stepK]
    have h:=ih row hr (by omega) k hk
    have hlen:=sweepK_len nx (fun k _=>g k) ((List.range j).map fun i=>n - 1 - i) row
    by_cases e:n - 1 - j=k
    · subst e
      rw [if_pos (by omega)]
      simp [List.getD,hlen,hr,hk]
    · rw [List.getD,List.getElem?_set_ne e]
      rw [List.getD] at h
      rw [h]
      by_cases h2:n - 1 - k < j
      · rw [if_pos h2,if_pos (by omega)]
      · rw [if_neg h2,if_neg (by omega)]
theorem ext_getD {a b:List Bool} (hl:a.length=b.length) (h:∀k,k < a.length→a.getD k default=b.getD k default):a=b:=by
  refine List.ext_getElem hl fun k h1 h2=>?_
  have:=h k h1
  simpa [List.getD,h1,h2] using this
theorem fixR_const (nx:Nat→Nat) (n:Nat) (b:Bool) (g:Nat→Bool):fixR nx n b (fun k _=>g k)=(List.range n).map g:=by
  refine ext_getD (by rw [fixR_len,List.length_map,List.length_range]) fun k hk=>?_
  rw [fixR_len] at hk
  rw [fixR,dnK,sweepK_const n _ (by simp [sweepK_len]) (Nat.le_refl _) k hk,if_pos (by omega)]
  simp [List.getD,hk]
def cellV (bit:Int→Nat→Bool) (lt:Nat→Int) (nx:Nat→Nat) (x:Sd) (A Bz:List Bool) (k:Nat) (later:Bool):Bool:=
  if x.op=1 then bit (lt k) x.n.toNat
  else if x.op=2 then decide (x.n=1)
  else if x.op=3 then !Bz.getD k default
  else if x.op=4 then Bz.getD (nx k) default
  else if x.op=5 then A.getD k default && Bz.getD k default
  else if x.op=6 then A.getD k default || Bz.getD k default
  else if x.op=7 then Bz.getD k default || (A.getD k default && later)
  else Bz.getD k default && (A.getD k default || later)
structure Las where
  bit:Int→Nat→Bool
  lt:Nat→Int
  nx:Nat→Nat
  n:Nat
def rowV (w:Las) (x:Sd) (A Bz:List Bool):List Bool:=fixR w.nx w.n (decide (x.op=8)) (cellV w.bit w.lt w.nx x A Bz)
theorem rowV_len (w:Las) (x:Sd) (A Bz:List Bool):(rowV w x A Bz).length=w.n:=fixR_len ..
theorem rowV_0 (w:Las) {x:Sd} (h:need x.op=0) (A Bz A' Bz':List Bool):rowV w x A Bz=rowV w x A' Bz':=by
  have h1:x.op=1∨x.op=2:=by rcases need_cases x.op with h | h | h | h<;>first | exact h.2 | omega
  refine fixR_congr fun k _ b=>?_
  rcases h1 with h1 | h1<;>simp [cellV,h1]
theorem rowV_1 (w:Las) {x:Sd} (h:need x.op=1) (A A' Bz:List Bool):rowV w x A Bz=rowV w x A' Bz:=by
  have h1:x.op=3∨x.op=4:=by rcases need_cases x.op with h | h | h | h<;>first | exact h.2 | omega
  refine fixR_congr fun k _ b=>?_
  rcases h1 with h1 | h1<;>simp [cellV,h1]
def tabV (w:Las) (f:List Sd):Nat→List (List Bool)
  | 0=>[]
  | i+1=>tabV w f i++[rowV w (f.getD i default) ((tabV w f i).getD (tst f (i - 1) - 1) []) ((tabV w f i).getD (i - 1) [])]
theorem tabV_len (w:Las) (f:List Sd) (i:Nat):(tabV w f i).length=i:=by
  induction i with
  | zero=>rfl
  | succ i ih=>rw [tabV,List.length_append,ih];rfl
def rowF (w:Las) (f:List Sd) (k:Nat):List Bool:=(tabV w f (k+1)).getD k []
theorem tabV_get (w:Las) (f:List Sd) {k i:Nat} (h:k < i):(tabV w f i).getD k []=rowF w f k:=by
  induction i with
  | zero=>omega
  | succ i ih=>
    by_cases e:k=i
    · subst e;rfl
    · have h1:=ih (by omega)
      rw [tabV,List.getD,List.getElem?_append_left (by rw [tabV_len];omega)]
      exact h1
theorem rowF_eq (w:Las) (f:List Sd) (k:Nat):rowF w f k=rowV w (f.getD k default) ((tabV w f k).getD (tst f (k - 1) - 1) []) ((tabV w f k).getD (k - 1) []):=by
  rw [rowF,tabV,List.getD,List.getElem?_append_right (by rw [tabV_len];omega),tabV_len]
  simp
theorem tabV_succ (w:Las) (f:List Sd) (i:Nat):tabV w f (i+1)=tabV w f i++[rowF w f i]:=by rw [rowF_eq];rfl
theorem rowF_len (w:Las) (f:List Sd) (k:Nat):(rowF w f k).length=w.n:=by rw [rowF_eq,rowV_len]
theorem rowF_0 (w:Las) {f:List Sd} {k:Nat} (h:need (f.getD k default).op=0):rowF w f k=rowV w (f.getD k default) [] []:=by rw [rowF_eq];exact rowV_0 w h ..
theorem rowF_1 (w:Las) {f:List Sd} {k:Nat} (hk:1≤k) (h:need (f.getD k default).op=1):rowF w f k=rowV w (f.getD k default) [] (rowF w f (k - 1)):=by
  rw [rowF_eq,tabV_get w f (by omega:k - 1 < k)];exact rowV_1 w h ..
theorem rowF_2 (w:Las) {f:List Sd} {k:Nat} (hk:1≤k) (h1:1≤tst f (k - 1)) (h2:tst f (k - 1)≤k - 1):rowF w f k=rowV w (f.getD k default) (rowF w f (tst f (k - 1) - 1)) (rowF w f (k - 1)):=by
  rw [rowF_eq,tabV_get w f (by omega:k - 1 < k),tabV_get w f (by omega:tst f (k - 1) - 1 < k)]
def runV (w:Las) (g:List Sd):Nat→List (List Bool)
  | 0=>[]
  | i+1=>
    if need (g.getD i default).op=0 then rowV w (g.getD i default) [] []::runV w g i
    else if need (g.getD i default).op=1 then rowV w (g.getD i default) [] ((runV w g i).headD [])::(runV w g i).tail
    else rowV w (g.getD i default) ((runV w g i).tail.headD []) ((runV w g i).headD [])::(runV w g i).tail.tail
structure OkFm (g:List Sd):Prop where
  l:g.length≤16
  ok:∀i,i < g.length→sdOk (g.getD i default)=true∧need (g.getD i default).op≤vals g i
  one:vals g g.length=1
theorem GoodFm.okFm {f:List Sd} (g:GoodFm f):OkFm f:=⟨g.l1,g.ok,g.one⟩
theorem runV_len {w:Las} {g:List Sd} (h:OkFm g):∀i,i≤g.length→((runV w g i).length:Int)=vals g i:=by
  intro i
  induction i with
  | zero=>intro _;rfl
  | succ i ih=>
    intro hi
    have h1:=ih (by omega)
    have h2:=h.ok i (by omega)
    have h3:=sdOk_need h2.1
    have h4:=h2.2
    simp only [runV,vals]
    split
    · rename_i e;rw [List.length_cons];omega
    · split
      · rename_i e;rw [List.length_cons,List.length_tail];omega
      · rw [List.length_cons,List.length_tail,List.length_tail];omega
theorem runV_rows {w:Las} {g:List Sd} (h:OkFm g):∀i,i≤g.length→∀r∈runV w g i,r.length=w.n:=by
  intro i
  induction i with
  | zero=>intro _ r hr;cases hr
  | succ i ih=>
    intro hi r hr
    have h1:=ih (by omega)
    simp only [runV] at hr
    split at hr
    · rcases List.mem_cons.1 hr with rfl | hr
      · exact rowV_len ..
      · exact h1 r hr
    · split at hr
      · rcases List.mem_cons.1 hr with rfl | hr
        · exact rowV_len ..
        · exact h1 r (List.mem_of_mem_tail hr)
      · rcases List.mem_cons.1 hr with rfl | hr
        · exact rowV_len ..
        · exact h1 r (List.mem_of_mem_tail (List.mem_of_mem_tail hr))
theorem tst_in {f:List Sd} (g:GoodFm f):∀k,k < f.length→∀i,tst f k≤i→i≤k→tst f k≤tst f i:=by
  intro k
  induction k using Nat.strongRecOn with
  | ind k ih=>
    intro hk i h1 h2
    by_cases e:i=k
    · subst e;exact Nat.le_refl _
    have hok:=g.ok k hk
    have hnd:=sdOk_need hok.1
    rcases (by omega:need (f.getD k default).op=0∨need (f.getD k default).op=1∨need (f.getD k default).op=2) with h | h | h
    · rw [tst0 h] at h1;omega
    · have t:=tst1 g hk h
      rw [t.2] at h1 ⊢
      exact ih (k - 1) (by omega) (by omega) i h1 (by omega)
    · obtain ⟨t1,t2,t3,t4,_⟩:=tst2 g hk h
      rw [t4] at h1 ⊢
      by_cases hm:tst f (k - 1)≤i
      · have:=ih (k - 1) (by omega) (by omega) i hm (by omega)
        have h5:tst f (tst f (k - 1) - 1)≤tst f (k - 1) - 1:=by
          obtain ⟨r,_,e2,_⟩:=stk_top g (k:=tst f (k - 1)) (by omega) (by omega)
          exact e2
        omega
      · exact ih (tst f (k - 1) - 1) (by omega) (by omega) i h1 (by omega)
def subF (f:List Sd) (t k:Nat):List Sd:=(f.drop t).take (k+1 - t)
theorem subF_len {f:List Sd} {t k:Nat} (hk:k < f.length) (ht:t≤k):(subF f t k).length=k+1 - t:=by rw [subF,List.length_take,List.length_drop];omega
theorem subF_get {f:List Sd} {t k j:Nat} (hk:k < f.length) (ht:t≤k) (hj:j < k+1 - t):(subF f t k).getD j default=f.getD (t+j) default:=by
  simp [subF,List.getD,List.getElem?_take,hj]
theorem tst_le {f:List Sd} (g:GoodFm f) {k:Nat} (hk:k < f.length):tst f k≤k:=by
  obtain ⟨r,_,e,_⟩:=stk_top g (k:=k+1) (by omega) (by omega)
  exact e
theorem cont_top {i:Nat} {s k:Nat} {r:List (Nat×Nat)} (h:Cont i ((s,k)::r)):k+1=i:=h.1
theorem run_sub {w:Las} {f:List Sd} (g:GoodFm f) {k:Nat} (hk:k < f.length):∀j,j≤k+1 - tst f k→
    ∃X,stk f (tst f k+j)=X++stk f (tst f k)∧runV w (subF f (tst f k) k) j=X.map (fun x=>rowF w f x.2)∧vals (subF f (tst f k) k) j=X.length∧
      (j < k+1 - tst f k→need (f.getD (tst f k+j) default).op≤X.length):=by
  have htk:=tst_le g hk
  generalize ht:tst f k=t at htk ⊢
  intro j
  have need_ok:∀j X,j < k+1 - t→stk f (t+j)=X++stk f t→need (f.getD (t+j) default).op≤(X.length:Int):=by
    intro j X hj hX
    have hi:t+j < f.length:=by omega
    have hok:=g.ok (t+j) hi
    have hnd:=sdOk_need hok.1
    have hin:t≤tst f (t+j):=by have:=tst_in g k hk (t+j) (by omega) (by omega);omega
    have hct:=stk_cont g t (by omega)
    rcases (by omega:need (f.getD (t+j) default).op=0∨need (f.getD (t+j) default).op=1∨need (f.getD (t+j) default).op=2) with h | h | h
    · omega
    · have t1:=tst1 g hi h
      obtain ⟨r,e,e1,_⟩:=stk_top g (k:=t+j) (by omega) (by omega)
      cases X with
      | nil=>
        rw [List.nil_append,e] at hX
        rw [← hX] at hct
        have:=cont_top hct
        omega
      | cons a X=>simp only [List.length_cons];omega
    · obtain ⟨t1,t2,t3,t4,r,e⟩:=tst2 g hi h
      have h5:tst f (tst f (t+j - 1) - 1)≤tst f (t+j - 1) - 1:=tst_le g (by omega)
      cases X with
      | nil=>
        rw [List.nil_append,e] at hX
        rw [← hX] at hct
        have:=cont_top hct
        omega
      | cons a X=>
        cases X with
        | nil=>
          rw [e] at hX
          injection hX with _ hX
          change _=stk f t at hX
          rw [← hX] at hct
          have:=cont_top hct
          omega
        | cons b X=>simp only [List.length_cons];omega
  induction j with
  | zero=>intro _;exact ⟨[],rfl,rfl,rfl,fun hj=>need_ok 0 [] hj rfl⟩
  | succ j ih=>
    intro hj
    obtain ⟨X,h1,h2,h3,h4⟩:=ih (by omega)
    have h4:=h4 (by omega)
    have hi:t+j < f.length:=by omega
    have hok:=g.ok (t+j) hi
    have hnd:=sdOk_need hok.1
    have hg:=subF_get (f:=f) (t:=t) (k:=k) (j:=j) hk htk (by omega)
    have hin:t≤tst f (t+j):=by have:=tst_in g k hk (t+j) (by omega) (by omega);omega
    have fin:∀X',stk f (t+j+1)=X'++stk f t→runV w (subF f t k) (j+1)=X'.map (fun x=>rowF w f x.2)→vals (subF f t k) (j+1)=X'.length→
        ∃X,stk f (t+(j+1))=X++stk f t∧runV w (subF f t k) (j+1)=X.map (fun x=>rowF w f x.2)∧vals (subF f t k) (j+1)=X.length∧(j+1 < k+1 - t→need (f.getD (t+(j+1)) default).op≤X.length):=
      fun X' a b c=>⟨X',a,b,c,fun h=>need_ok (j+1) X' h a⟩
    rcases (by omega:need (f.getD (t+j) default).op=0∨need (f.getD (t+j) default).op=1∨need (f.getD (t+j) default).op=2) with h | h | h
    · refine fin ((t+j,t+j)::X) ?_ ?_ ?_
      · rw [stk,if_pos h,h1];rfl
      · rw [runV,hg,if_pos h,h2,List.map_cons,rowF_0 w h]
      · rw [vals,hg,h,h3];simp
    · have t1:=tst1 g hi h
      obtain ⟨r,e,e1,_⟩:=stk_top g (k:=t+j) (by omega) (by omega)
      cases X with
      | nil => have h4' : need (f.getD (t + j) default).op ≤ 0 := h4
               omega
      | cons a X=>
        have ha:a=(tst f (t+j - 1),t+j - 1):=by
          rw [e] at h1;injection h1 with h1 _;exact h1.symm
        refine fin ((a.1,t+j)::X) ?_ ?_ ?_
        · rw [stk,if_neg (by omega),if_pos h,h1];rfl
        · rw [runV,hg,if_neg (by omega),if_pos h,h2,List.map_cons,List.map_cons,List.headD_cons,List.tail_cons,rowF_1 w t1.1 h,ha]
        · rw [vals,hg,h,h3];simp
    · obtain ⟨t1,t2,t3,t4,r,e⟩:=tst2 g hi h
      cases X with
      | nil => have h4' : need (f.getD (t + j) default).op ≤ 0 := h4
               omega
      | cons a X=>
        cases X with
        | nil => have h4' : need (f.getD (t + j) default).op ≤ 1 := h4
                 omega
        | cons b X=>
          have hab:a=(tst f (t+j - 1),t+j - 1)∧b=(tst f (tst f (t+j - 1) - 1),tst f (t+j - 1) - 1):=by
            rw [e] at h1;injection h1 with h1 h5;injection h5 with h5 _;exact ⟨h1.symm,h5.symm⟩
          refine fin ((b.1,t+j)::X) ?_ ?_ ?_
          · rw [stk,if_neg (by omega),if_neg (by omega),h1];rfl
          · rw [runV,hg,if_neg (by omega),if_neg (by omega),h2,List.map_cons,List.map_cons,List.map_cons,List.headD_cons,List.tail_cons,List.headD_cons,List.tail_cons,rowF_2 w t1 t2 t3,hab.1,hab.2]
          · rw [vals,hg,h,h3];simp;omega
theorem run_tree {w:Las} {f:List Sd} (g:GoodFm f) {k:Nat} (hk:k < f.length):runV w (subF f (tst f k) k) (subF f (tst f k) k).length=[rowF w f k]:=by
  have htk:=tst_le g hk
  have hl:=subF_len (f:=f) hk htk
  obtain ⟨X,h1,h2,h3,h4⟩:=run_sub (w:=w) g hk (k+1 - tst f k) (by omega)
  obtain ⟨r,e,_,e2⟩:=stk_top g (k:=k+1) (by omega) (by omega)
  rw [Nat.add_sub_cancel] at e e2
  rw [show tst f k+(k+1 - tst f k)=k+1 by omega,e,e2] at h1
  have hX:X=[(tst f k,k)]:=by
    have h5:=congrArg List.length h1
    simp at h5
    cases X with
    | nil=>simp at h5
    | cons a X=>
      injection h1 with h6 h7
      cases X with
      | nil=>rw [← h6]
      | cons b X=>simp at h5;omega
  rw [hl,h2,hX];rfl
theorem tst_last {f:List Sd} (g:GoodFm f):tst f (f.length - 1)=0:=by
  have h0:=g.l0
  have h1:=stk_len g f.length (Nat.le_refl _)
  rw [g.one] at h1
  obtain ⟨r,e,_,e2⟩:=stk_top g (k:=f.length) (Nat.le_refl _) (by omega)
  have h2:r=[]:=by
    rw [e] at h1;simp at h1
    cases r with
    | nil=>rfl
    | cons a r=>simp at h1;omega
  have hc:=stk_cont g (tst f (f.length - 1)) (by have:=tst_le g (k:=f.length - 1) (by omega);omega)
  rw [e2,h2] at hc
  exact hc
theorem subF_all {f:List Sd} (g:GoodFm f):subF f (tst f (f.length - 1)) (f.length - 1)=f:=by
  have:=g.l0
  rw [tst_last g,subF,List.drop_zero,List.take_of_length_le (by omega)]
theorem run_all {w:Las} {f:List Sd} (g:GoodFm f):runV w f f.length=[rowF w f (f.length - 1)]:=by
  have h:=run_tree (w:=w) g (k:=f.length - 1) (by have:=g.l0;omega)
  rwa [subF_all g] at h
end Go.Pt
namespace Go.Pt
structure NxOk (nx:Nat→Nat) (n st:Nat):Prop where
  step:∀k,k+1 < n→nx k=k+1
  back:nx (n - 1)=st
  lt:st < n
structure Las.Ok (w:Las) (st:Nat):Prop where
  nx:NxOk w.nx w.n st
theorem runV_left (w:Las) (a b:List Sd):∀i,i≤a.length→runV w (a++b) i=runV w a i:=by
  intro i
  induction i with
  | zero=>intro _;rfl
  | succ i ih=>
    intro hi
    have e:(a++b).getD i default=a.getD i default:=by
      rw [List.getD,List.getD,List.getElem?_append_left (by omega)]
    simp only [runV,e,ih (by omega)]
theorem runV_right {w:Las} {a b:List Sd} (hb:∀i,i < b.length→sdOk (b.getD i default)=true∧need (b.getD i default).op≤vals b i):∀i,i≤b.length→runV w (a++b) (a.length+i)=runV w b i++runV w a a.length∧((runV w b i).length:Int)=vals b i:=by
  intro i
  induction i with
  | zero=>intro _;exact ⟨by rw [Nat.add_zero,runV_left w a b _ (Nat.le_refl _)];rfl,rfl⟩
  | succ i ih=>
    intro hi
    obtain ⟨h1,h2⟩:=ih (by omega)
    obtain ⟨o1,o2⟩:=hb i (by omega)
    have hnd:=sdOk_need o1
    have e:(a++b).getD (a.length+i) default=b.getD i default:=by
      rw [List.getD,List.getD,List.getElem?_append_right (by omega),Nat.add_sub_cancel_left]
    rw [← Nat.add_assoc]
    simp only [runV,vals,e,h1]
    rcases (by omega:need (b.getD i default).op=0∨need (b.getD i default).op=1∨need (b.getD i default).op=2) with hn | hn | hn
    · rw [if_pos hn,if_pos hn,hn];simp;omega
    · rw [if_neg (by omega),if_pos hn,if_neg (by omega),if_pos hn,hn]
      cases hs:runV w b i with
      | nil=>rw [hs] at h2;simp at h2;omega
      | cons x r=>rw [hs] at h2;simp at h2 ⊢;omega
    · rw [if_neg (by omega),if_neg (by omega),if_neg (by omega),if_neg (by omega),hn]
      cases hs:runV w b i with
      | nil=>rw [hs] at h2;simp at h2;omega
      | cons x r=>
        cases r with
        | nil=>rw [hs] at h2;simp at h2;omega
        | cons y r=>rw [hs] at h2;simp at h2 ⊢;omega
def rootV (w:Las) (f:List Sd):List Bool:=rowF w f (f.length - 1)
theorem root_run {w:Las} {f:List Sd} (g:GoodFm f):runV w f f.length=[rootV w f]:=run_all g
end Go.Pt
namespace Go.Pt
structure WfS (g:List Sd):Prop where
  l0:1≤g.length
  ok:∀i,i < g.length→sdOk (g.getD i default)=true∧need (g.getD i default).op≤vals g i
  one:vals g g.length=1
theorem GoodFm.wf {f:List Sd} (g:GoodFm f):WfS f:=⟨g.l0,g.ok,g.one⟩
theorem WfS.good {f:List Sd} (g:WfS f) (h:f.length≤16):GoodFm f:=⟨g.l0,h,g.ok,g.one⟩
theorem getD_left {a b:List Sd} {i:Nat} (h:i < a.length):(a++b).getD i default=a.getD i default:=by rw [List.getD,List.getD,List.getElem?_append_left h]
theorem getD_right {a b:List Sd} (i:Nat):(a++b).getD (a.length+i) default=b.getD i default:=by rw [List.getD,List.getD,List.getElem?_append_right (by omega),Nat.add_sub_cancel_left]
theorem vals_left (a b:List Sd):∀i,i≤a.length→vals (a++b) i=vals a i
  | 0,_=>rfl
  | i+1,h=>by rw [vals,vals,vals_left a b i (by omega),getD_left (by omega)]
theorem vals_right (a b:List Sd):∀i,vals (a++b) (a.length+i)=vals a a.length+vals b i
  | 0=>by rw [Nat.add_zero,vals_left a b _ (Nat.le_refl _)];simp [vals]
  | i+1=>by rw [← Nat.add_assoc,vals,vals_right a b i,getD_right,vals];omega
theorem WfS.leaf {x:Sd} (h:sdOk x=true) (hn:need x.op=0):WfS [x]:=by
  refine ⟨by simp,fun i hi=>?_,?_⟩
  · have:i=0:=by simp at hi;exact hi
    subst this
    exact ⟨h,by simp [vals,hn]⟩
  · simp [vals,hn]
theorem WfS.un {a:List Sd} {x:Sd} (ha:WfS a) (h:sdOk x=true) (hn:need x.op=1):WfS (a++[x]):=by
  have e0:=getD_right (a:=a) (b:=[x]) 0
  rw [Nat.add_zero] at e0
  refine ⟨by simp,fun i hi=>?_,?_⟩
  · rw [List.length_append] at hi
    by_cases hl:i < a.length
    · rw [getD_left hl,vals_left a [x] i (by omega)];exact ha.ok i hl
    · have:i=a.length:=by simp at hi;omega
      subst this
      rw [e0,vals_left a [x] _ (Nat.le_refl _),ha.one]
      exact ⟨h,by show need x.op≤1;omega⟩
  · rw [List.length_append,vals_right,ha.one]
    show 1+(0+(1 - need x.op))=1
    omega
theorem WfS.bi {a b:List Sd} {x:Sd} (ha:WfS a) (hb:WfS b) (h:sdOk x=true) (hn:need x.op=2):WfS (a++b++[x]):=by
  have e0:=getD_right (a:=a++b) (b:=[x]) 0
  rw [Nat.add_zero] at e0
  have hab:∀i,i≤b.length→vals (a++b) (a.length+i)=1+vals b i:=fun i _=>by rw [vals_right,ha.one]
  refine ⟨by simp;omega,fun i hi=>?_,?_⟩
  · rw [List.length_append,List.length_append] at hi
    by_cases hl:i < (a++b).length
    · rw [getD_left hl,vals_left (a++b) [x] i (by omega)]
      by_cases hl2:i < a.length
      · rw [getD_left hl2,vals_left a b i (by omega)];exact ha.ok i hl2
      · obtain ⟨j,rfl⟩:∃j,i=a.length+j:=⟨i - a.length,by omega⟩
        rw [List.length_append] at hl
        have:=hb.ok j (by omega)
        rw [getD_right,hab j (by omega)]
        exact ⟨this.1,by omega⟩
    · have:i=(a++b).length:=by rw [List.length_append] at hl ⊢;simp at hi;omega
      subst this
      rw [e0,vals_left (a++b) [x] _ (Nat.le_refl _),List.length_append,hab _ (Nat.le_refl _),hb.one]
      exact ⟨h,by show need x.op≤1+1;omega⟩
  · rw [List.length_append,vals_right,List.length_append,hab _ (Nat.le_refl _),hb.one]
    show 1+1+(0+(1 - need x.op))=1
    omega
def rootR (w:Las) (g:List Sd):List Bool:=(runV w g g.length).headD []
theorem runV_wf {w:Las} {g:List Sd} (h:WfS g):∀i,i≤g.length→((runV w g i).length:Int)=vals g i:=by
  have:=(fun i hi=>(runV_right (w:=w) (a:=[]) (b:=g) h.ok i hi).2)
  exact this
theorem run_root {w:Las} {g:List Sd} (h:WfS g):runV w g g.length=[rootR w g]:=by
  have hl:=runV_wf (w:=w) h g.length (Nat.le_refl _)
  rw [h.one] at hl
  unfold rootR
  cases hs:runV w g g.length with
  | nil=>rw [hs] at hl;cases hl
  | cons a r=>
    cases r with
    | nil=>rfl
    | cons b r=>rw [hs] at hl;simp at hl;omega
theorem rootR_V {w:Las} {f:List Sd} (g:GoodFm f):rootR w f=rootV w f:=by rw [rootR,root_run g];rfl
theorem rootR_0 {w:Las} {x:Sd} (hn:need x.op=0):rootR w [x]=rowV w x [] []:=by
  have e:[x].getD 0 default=x:=rfl
  simp only [rootR,List.length_singleton,runV,e,if_pos hn];rfl
theorem rootR_1 {w:Las} {a:List Sd} {x:Sd} (ha:WfS a) (hn:need x.op=1):rootR w (a++[x])=rowV w x [] (rootR w a):=by
  have e0:=getD_right (a:=a) (b:=[x]) 0
  rw [Nat.add_zero] at e0
  have ex:[x].getD 0 default=x:=rfl
  rw [rootR,List.length_append,List.length_singleton,runV,e0,ex,if_neg (by omega),if_pos hn,runV_left w a [x] _ (Nat.le_refl _),run_root ha];rfl
theorem rootR_2 {w:Las} {a b:List Sd} {x:Sd} (ha:WfS a) (hb:WfS b) (hn:need x.op=2):rootR w (a++b++[x])=rowV w x (rootR w a) (rootR w b):=by
  have e0:=getD_right (a:=a++b) (b:=[x]) 0
  rw [Nat.add_zero] at e0
  have ex:[x].getD 0 default=x:=rfl
  have h2:=(runV_right (w:=w) (a:=a) hb.ok b.length (Nat.le_refl _)).1
  rw [← List.length_append,run_root hb,run_root ha] at h2
  rw [rootR,show (a++b++[x]).length=(a++b).length+1 by rw [List.length_append];rfl,runV,e0,ex,if_neg (by omega),if_neg (by omega),runV_left w (a++b) [x] _ (Nat.le_refl _),h2];rfl
theorem rootR_len {w:Las} {g:List Sd} (h:WfS g):(rootR w g).length=w.n:=by
  have h1:=run_root (w:=w) h
  have:∀i,i≤g.length→∀r∈runV w g i,r.length=w.n:=by
    intro i
    induction i with
    | zero=>intro _ r hr;cases hr
    | succ i ih=>
      intro hi r hr
      have h1:=ih (by omega)
      simp only [runV] at hr
      split at hr
      · rcases List.mem_cons.1 hr with rfl | hr
        · exact rowV_len ..
        · exact h1 r hr
      · split at hr
        · rcases List.mem_cons.1 hr with rfl | hr
          · exact rowV_len ..
          · exact h1 r (List.mem_of_mem_tail hr)
        · rcases List.mem_cons.1 hr with rfl | hr
          · exact rowV_len ..
          · exact h1 r (List.mem_of_mem_tail (List.mem_of_mem_tail hr))
  exact this g.length (Nat.le_refl _) _ (by rw [h1];exact List.mem_singleton.2 rfl)
theorem getD_not {l:List Bool} {k:Nat} (h:k < l.length):(l.map (!·)).getD k default=!l.getD k default:=by simp [List.getD,h]
theorem step_not {nx:Nat→Nat} {r r':Nat→Bool→Bool} {row:List Bool} {k n:Nat} (hn:row.length=n) (hx:nx k < n) (h:∀b,r' k (!b)=!(r k b)):stepK nx r' (row.map (!·)) k=(stepK nx r row k).map (!·):=by
  rw [stepK,stepK,getD_not (by omega),h,List.map_set]
theorem sweep_not {nx:Nat→Nat} {r r':Nat→Bool→Bool} {n:Nat} (hx:∀k,k < n→nx k < n) (h:∀k,k < n→∀b,r' k (!b)=!(r k b)):∀(ks:List Nat) (row:List Bool),(∀k∈ks,k < n)→row.length=n→sweepK nx r' ks (row.map (!·))=(sweepK nx r ks row).map (!·)
  | [],row,_,_=>rfl
  | k::ks,row,hk,hr=>by
    rw [sweepK,sweepK,List.foldl_cons,List.foldl_cons,step_not hr (hx k (hk k (by simp))) (h k (hk k (by simp)))]
    exact sweep_not hx h ks _ (fun k hk'=>hk k (by simp [hk'])) (by rw [stepK_len,hr])
theorem fixR_not {nx:Nat→Nat} {r r':Nat→Bool→Bool} {n:Nat} (hx:∀k,k < n→nx k < n) (h:∀k,k < n→∀b,r' k (!b)=!(r k b)) (b:Bool):fixR nx n (!b) r'=(fixR nx n b r).map (!·):=by
  have e:List.replicate n (!b)=(List.replicate n b).map (!·):=by simp
  rw [fixR,fixR,e,sweep_not hx h _ _ (fun k hk=>mem_dnK hk) (by simp),sweep_not hx h _ _ (fun k hk=>mem_dnK hk) (by simp [sweepK_len])]
def oppF (op:Int):Int:=if op=5 then 6 else if op=6 then 5 else if op=7 then 8 else if op=8 then 7 else op
theorem row_opp {w:Las} (hx:∀k,k < w.n→w.nx k < w.n) {x:Sd} (h:need x.op=2) {A Bz:List Bool} (hA:A.length=w.n) (hB:Bz.length=w.n) (m:Int):rowV w ⟨oppF x.op,m⟩ (A.map (!·)) (Bz.map (!·))=(rowV w x A Bz).map (!·):=by
  have hop:x.op=5∨x.op=6∨x.op=7∨x.op=8:=by
    rcases need_cases x.op with h | h | h | h<;>omega
  have hc:∀k,k < w.n→∀b,cellV w.bit w.lt w.nx ⟨oppF x.op,m⟩ (A.map (!·)) (Bz.map (!·)) k (!b)=!(cellV w.bit w.lt w.nx x A Bz k b):=by
    intro k hk b
    have ha:=getD_not (l:=A) (k:=k) (by omega)
    have hb:=getD_not (l:=Bz) (k:=k) (by omega)
    simp only [cellV,ha,hb]
    generalize A.getD k default=a
    generalize Bz.getD k default=c
    rcases hop with e | e | e | e<;>rw [e]<;>simp [oppF]<;>cases a<;>cases c<;>cases b<;>rfl
  have:=fixR_not hx hc (decide (x.op=8))
  rw [rowV,rowV,← this]
  rcases hop with e | e | e | e
  · have e1:decide ((⟨oppF x.op,m⟩:Sd).op=8)=false:=by rw [e];rfl
    have e2:decide (x.op=8)=false:=by rw [e];rfl
    rw [e1,e2]
    have c1:∀k,k < w.n→∀b,cellV w.bit w.lt w.nx ⟨oppF x.op,m⟩ (A.map (!·)) (Bz.map (!·)) k b=cellV w.bit w.lt w.nx ⟨oppF x.op,m⟩ (A.map (!·)) (Bz.map (!·)) k false:=fun k _ b=>by rw [e];simp [cellV,oppF]
    rw [fixR_congr c1,fixR_congr (b:=!false) c1,fixR_const,fixR_const]
  · have e1:decide ((⟨oppF x.op,m⟩:Sd).op=8)=false:=by rw [e];rfl
    have e2:decide (x.op=8)=false:=by rw [e];rfl
    rw [e1,e2]
    have c1:∀k,k < w.n→∀b,cellV w.bit w.lt w.nx ⟨oppF x.op,m⟩ (A.map (!·)) (Bz.map (!·)) k b=cellV w.bit w.lt w.nx ⟨oppF x.op,m⟩ (A.map (!·)) (Bz.map (!·)) k false:=fun k _ b=>by rw [e];simp [cellV,oppF]
    rw [fixR_congr c1,fixR_congr (b:=!false) c1,fixR_const,fixR_const]
  · have e1:decide ((⟨oppF x.op,m⟩:Sd).op=8)=true:=by rw [e];rfl
    have e2:decide (x.op=8)=false:=by rw [e];rfl
    rw [e1,e2];rfl
  · have e1:decide ((⟨oppF x.op,m⟩:Sd).op=8)=false:=by rw [e];rfl
    have e2:decide (x.op=8)=true:=by rw [e];rfl
    rw [e1,e2];rfl
theorem row_const {w:Las} {x:Sd} (h:x.op≠7∧x.op≠8∧(x.op=1∨x.op=2∨x.op=3∨x.op=4)) (A Bz:List Bool):rowV w x A Bz=(List.range w.n).map fun k=>cellV w.bit w.lt w.nx x A Bz k false:=by
  have c1:∀k,k < w.n→∀b,cellV w.bit w.lt w.nx x A Bz k b=cellV w.bit w.lt w.nx x A Bz k false:=fun k _ b=>by
    rcases h.2.2 with e | e | e | e<;>simp [cellV,e]
  rw [rowV,fixR_congr c1,fixR_const]
theorem row_next {w:Las} (hx:∀k,k < w.n→w.nx k < w.n) {x:Sd} (h:x.op=4) {A A' Bz:List Bool} (hB:Bz.length=w.n):rowV w x A (Bz.map (!·))=(rowV w x A' Bz).map (!·):=by
  rw [row_const ⟨by omega,by omega,by omega⟩,row_const ⟨by omega,by omega,by omega⟩,List.map_map]
  refine List.map_congr_left fun k hk=>?_
  have hk:=hx k (List.mem_range.1 hk)
  simp only [Function.comp,cellV,h]
  simp only [Int.reduceEq,if_false,if_true]
  exact getD_not (by omega)
theorem row_not {w:Las} {x:Sd} (h:x.op=3) {A Bz:List Bool} (hB:Bz.length=w.n):rowV w x A Bz=Bz.map (!·):=by
  rw [row_const ⟨by omega,by omega,by omega⟩]
  refine List.ext_getElem (by simp [hB]) fun k h1 h2=>?_
  simp at h1
  simp [cellV,h,List.getD,hB,h1]
theorem row_yes {w:Las} {x:Sd} (h:x.op=2) (hn:x.n=0∨x.n=1) {A Bz A' Bz':List Bool}:rowV w ⟨2,1 - x.n⟩ A Bz=(rowV w x A' Bz').map (!·):=by
  rw [row_const ⟨by simp,by simp,by simp⟩,row_const ⟨by omega,by omega,by omega⟩,List.map_map]
  refine List.map_congr_left fun k hk=>?_
  simp only [Function.comp,cellV,h]
  rcases hn with e | e<;>rw [e]<;>simp
def psF (f:List Sd):Nat→Nat→Bool→List Sd
  | 0,_,_=>[]
  | m+1,k,n=>
    if (f.getD k default).op=3 then psF f m (k - 1) (!n)
    else if (f.getD k default).op=1 then (if n then [f.getD k default,⟨3,0⟩] else [f.getD k default])
    else if (f.getD k default).op=2 then (if n then [⟨2,1 - (f.getD k default).n⟩] else [f.getD k default])
    else if (f.getD k default).op=4 then psF f m (k - 1) n++[f.getD k default]
    else psF f m (tst f (k - 1) - 1) n++psF f m (k - 1) n++[⟨if n then oppF (f.getD k default).op else (f.getD k default).op,0⟩]
def notP (g:List Sd):Prop:=∀i,i < g.length→(g.getD i default).op=3→1≤i∧(g.getD (i - 1) default).op=1
def atL (g:List Sd):List Int:=g.flatMap fun x=>if x.op=1 then [x.n] else []
theorem atL_app (a b:List Sd):atL (a++b)=atL a++atL b:=by simp [atL]
theorem take1 {f:List Sd} {k:Nat} (hk:k < f.length):(f.drop k).take 1=[f.getD k default]:=by
  have:f.getD k default=f[k]:=by simp [List.getD,hk]
  rw [this,List.drop_eq_getElem_cons hk];rfl
theorem subF_cut {f:List Sd} {t m k:Nat} (h1:t≤m) (h2:m≤k) (hk:k < f.length):(f.drop t).take (k+1 - t)=(f.drop t).take (m - t)++(f.drop m).take (k - m)++[f.getD k default]:=by
  have e1:k+1 - t=(m - t)+((k - m)+1):=by omega
  rw [e1,List.take_add,List.drop_drop,show t+(m - t)=m by omega,List.append_assoc]
  congr 1
  rw [List.take_add,List.drop_drop,show m+(k - m)=k by omega,take1 hk]
theorem sub_0 {f:List Sd} {k:Nat} (hk:k < f.length) (h:need (f.getD k default).op=0):subF f (tst f k) k=[f.getD k default]:=by
  rw [tst0 h,subF,show k+1 - k=1 by omega,take1 hk]
theorem sub_1 {f:List Sd} (g:GoodFm f) {k:Nat} (hk:k < f.length) (h:need (f.getD k default).op=1):subF f (tst f k) k=subF f (tst f (k - 1)) (k - 1)++[f.getD k default]:=by
  obtain ⟨t1,t2⟩:=tst1 g hk h
  have ht:=tst_le g (k:=k - 1) (by omega)
  rw [t2,subF,subF_cut (m:=k) (by omega) (Nat.le_refl _) hk,Nat.sub_self,List.take_zero,List.append_nil,subF,show k - 1+1 - tst f (k - 1)=k - tst f (k - 1) by omega]
theorem sub_2 {f:List Sd} (g:GoodFm f) {k:Nat} (hk:k < f.length) (h:need (f.getD k default).op=2):subF f (tst f k) k=subF f (tst f (tst f (k - 1) - 1)) (tst f (k - 1) - 1)++subF f (tst f (k - 1)) (k - 1)++[f.getD k default]:=by
  obtain ⟨t1,t2,t3,t4,_⟩:=tst2 g hk h
  have ht:=tst_le g (k:=tst f (k - 1) - 1) (by omega)
  rw [t4,subF,subF_cut (m:=tst f (k - 1)) (by omega) (by omega) hk,subF,subF,show tst f (k - 1) - 1+1 - tst f (tst f (k - 1) - 1)=tst f (k - 1) - tst f (tst f (k - 1) - 1) by omega,show k - 1+1 - tst f (k - 1)=k - tst f (k - 1) by omega]
theorem notP_app {a b:List Sd} (ha:notP a) (hb:notP b) (h0:(b.getD 0 default).op≠3∨b=[]):notP (a++b):=by
  intro i hi h3
  rw [List.length_append] at hi
  by_cases hl:i < a.length
  · rw [getD_left hl] at h3
    obtain ⟨h1,h2⟩:=ha i hl h3
    exact ⟨h1,by rw [getD_left (by omega)];exact h2⟩
  · obtain ⟨j,rfl⟩:∃j,i=a.length+j:=⟨i - a.length,by omega⟩
    rw [getD_right] at h3
    obtain ⟨h1,h2⟩:=hb j (by omega) h3
    refine ⟨by omega,?_⟩
    rw [show a.length+j - 1=a.length+(j - 1) by omega,getD_right];exact h2
theorem notP_one {x:Sd} (h:x.op≠3):notP [x]:=by
  intro i hi h3
  have:i=0:=by simp at hi;exact hi
  subst this
  exact absurd h3 h
theorem wf_first {g:List Sd} (h:WfS g):(g.getD 0 default).op≠3:=by
  intro e
  have:=(h.ok 0 h.l0).2
  rw [e] at this
  exact absurd (show (1:Int)≤0 from this) (by omega)
theorem oppF_need {op:Int} (h:need op=2):need (oppF op)=2:=by
  have hop:op=5∨op=6∨op=7∨op=8:=by
    rcases need_cases op with h | h | h | h<;>omega
  rcases hop with rfl | rfl | rfl | rfl<;>rfl
theorem sdOk_bin {op:Int} (h:need op=2):sdOk ⟨op,0⟩=true:=by
  have hop:op=5∨op=6∨op=7∨op=8:=by
    rcases need_cases op with h | h | h | h<;>omega
  rcases hop with rfl | rfl | rfl | rfl<;>rfl
structure PsOk (w:Las) (f:List Sd) (k:Nat) (n:Bool) (r:List Sd):Prop where
  wf:WfS r
  len:r.length≤2*(k+1 - tst f k)
  row:rootR w r=(rowF w f k).map (xor n)
  not3:notP r
  at_:atL r=atL (subF f (tst f k) k)
theorem map_false (l:List Bool):l.map (xor false)=l:=(List.map_congr_left fun b _=>by cases b<;>rfl).trans (List.map_id l)
theorem map_true (l:List Bool):l.map (xor true)=l.map (!·):=List.map_congr_left fun b _=>by cases b<;>rfl
theorem psF_ok {w:Las} (hx:∀k,k < w.n→w.nx k < w.n) {f:List Sd} (g:GoodFm f):∀m k n,k < m→k < f.length→PsOk w f k n (psF f m k n):=by
  intro m
  induction m with
  | zero=>intro k n h _;omega
  | succ m ih=>
    intro k n hkm hk
    have hok:=g.ok k hk
    have hnd:=sdOk_need hok.1
    have htk:=tst_le g hk
    have hlen:∀k,(rowF w f k).length=w.n:=fun k=>rowF_len w f k
    generalize hxx:f.getD k default=x at hok hnd
    have hcase:x.op=1∨x.op=2∨x.op=3∨x.op=4∨need x.op=2:=by
      rcases need_cases x.op with h | h | h | h<;>omega
    rw [psF,hxx]
    rcases hcase with h | h | h | h | h
    · have hn0:need (f.getD k default).op=0:=by rw [hxx,h];rfl
      have hs:=sub_0 hk hn0
      have hr:=rowF_0 w hn0
      rw [hxx] at hs hr
      have hn0':need x.op=0:=by rw [h];rfl
      have hl:WfS [x]:=WfS.leaf hok.1 hn0'
      rw [if_neg (by omega),if_pos h]
      cases n
      · refine ⟨hl,by simp;omega,?_,notP_one (by omega),by rw [hs];rfl⟩
        rw [map_false];exact (rootR_0 hn0').trans hr.symm
      · have hw2:WfS ([x]++[⟨3,0⟩]):=hl.un rfl rfl
        refine ⟨hw2,by simp;omega,?_,?_,?_⟩
        · rw [map_true,hr,← rootR_0 (w:=w) hn0']
          exact (rootR_1 hl rfl).trans (row_not rfl (rootR_len hl))
        · intro i hi h3
          have:i=0∨i=1:=by simp at hi;omega
          rcases this with rfl | rfl
          · have:x.op=3:=h3
            omega
          · exact ⟨Nat.le_refl _,h⟩
        · rw [hs];simp [atL]
    · have hn0:need (f.getD k default).op=0:=by rw [hxx,h];rfl
      have hs:=sub_0 hk hn0
      have hr:=rowF_0 w hn0
      rw [hxx] at hs hr
      have hn0':need x.op=0:=by rw [h];rfl
      have hx01:x.n=0∨x.n=1:=by
        have:=hok.1
        rw [sdOk,if_neg (by omega),if_pos h,Bool.or_eq_true,decide_eq_true_eq,decide_eq_true_eq] at this;exact this
      rw [if_neg (by omega),if_neg (by omega),if_pos h]
      cases n
      · refine ⟨WfS.leaf hok.1 hn0',by simp;omega,?_,notP_one (by omega),by rw [hs];rfl⟩
        rw [map_false];exact (rootR_0 hn0').trans hr.symm
      · have hok2:sdOk ⟨2,1 - x.n⟩=true:=by
          rcases hx01 with e | e<;>rw [e]<;>rfl
        refine ⟨WfS.leaf hok2 rfl,by simp;omega,?_,notP_one (by simp),by rw [hs];simp [atL,h]⟩
        rw [map_true,hr]
        exact (rootR_0 rfl).trans (row_yes h hx01)
    · have hn1:need (f.getD k default).op=1:=by rw [hxx,h];rfl
      obtain ⟨t1,t2⟩:=tst1 g hk hn1
      have hs:=sub_1 g hk hn1
      have hr:=rowF_1 w t1 hn1
      rw [hxx] at hs hr
      obtain ⟨i1,i2,i3,i4,i5⟩:=ih (k - 1) (!n) (by omega) (by omega)
      rw [if_pos h]
      refine ⟨i1,by omega,?_,i4,?_⟩
      · rw [i3,hr,row_not h (hlen _),List.map_map]
        refine List.map_congr_left fun b _=>?_
        cases b<;>cases n<;>rfl
      · rw [i5,hs,atL_app];simp [atL,h]
    · have hn1:need (f.getD k default).op=1:=by rw [hxx,h];rfl
      obtain ⟨t1,t2⟩:=tst1 g hk hn1
      have hs:=sub_1 g hk hn1
      have hr:=rowF_1 w t1 hn1
      rw [hxx] at hs hr
      have hn1':need x.op=1:=by rw [h];rfl
      obtain ⟨i1,i2,i3,i4,i5⟩:=ih (k - 1) n (by omega) (by omega)
      rw [if_neg (by omega),if_neg (by omega),if_neg (by omega),if_pos h]
      refine ⟨i1.un hok.1 hn1',by rw [List.length_append];simp;omega,?_,notP_app i4 (notP_one (by omega)) (.inl (by simp [h])),?_⟩
      · rw [rootR_1 i1 hn1',i3,hr]
        cases n
        · rw [map_false,map_false]
        · rw [map_true,map_true,row_next hx h (hlen _)]
      · rw [atL_app,i5,hs,atL_app]
    · have hn2:need (f.getD k default).op=2:=by rw [hxx];exact h
      obtain ⟨t1,t2,t3,t4,_⟩:=tst2 g hk hn2
      have hs:=sub_2 g hk hn2
      have hr:=rowF_2 w t1 t2 t3
      rw [hxx] at hs hr
      have hop:x.op=5∨x.op=6∨x.op=7∨x.op=8:=by
        rcases need_cases x.op with h | h | h | h<;>omega
      obtain ⟨a1,a2,a3,a4,a5⟩:=ih (tst f (k - 1) - 1) n (by omega) (by omega)
      obtain ⟨b1,b2,b3,b4,b5⟩:=ih (k - 1) n (by omega) (by omega)
      have htA:=tst_le g (k:=tst f (k - 1) - 1) (by omega)
      rw [if_neg (by omega),if_neg (by omega),if_neg (by omega),if_neg (by omega)]
      have hn2':need (if n then oppF x.op else x.op)=2:=by
        cases n
        · exact h
        · exact oppF_need h
      have hne:(if n then oppF x.op else x.op)≠3∧(if n then oppF x.op else x.op)≠1:=by
        constructor<;>intro e<;>rw [e] at hn2'<;>exact absurd hn2' (by decide)
      refine ⟨a1.bi b1 (sdOk_bin hn2') hn2',by rw [List.length_append,List.length_append];simp;omega,?_,notP_app (notP_app a4 b4 (.inl (wf_first b1))) (notP_one hne.1) (.inl (by simpa using hne.1)),?_⟩
      · rw [rootR_2 a1 b1 hn2',a3,b3,hr]
        cases n
        · rw [map_false,map_false,map_false]
          refine fixR_congr (b:=decide (x.op=8)) fun k _ b=>?_
          rcases hop with e | e | e | e<;>simp [cellV,e]
        · rw [map_true,map_true,map_true]
          exact row_opp hx h (hlen _) (hlen _) 0
      · rw [atL_app,atL_app,a5,b5,hs,atL_app,atL_app]
        have e1:x.op≠1:=by omega
        simp only [atL,List.flatMap_cons,List.flatMap_nil,if_neg hne.2,if_neg e1]
end Go.Pt
namespace Go.Proofs.Ytjdhigcefkihiaa
open Go Go.Sep
attribute [local irreducible] CallT
theorem IndexFunc_at (xs:List Int) (g:Nat) (caps:List AV) (p:Int→Bool) {H:Heap} (hl:xs.length≤1000000000) (hp:∀x∈xs,PuAt Try.prog g (I x::caps) H (B (p x))) :
    PuAt Try.prog 137 [Is xs,.fn g caps] H (I (if xs.any p then (xs.findIdx p:Int) else -1)):=by
  intro K hK
  refine CallT.fin ?_
  refine W137_ok ?_;simp (maxSteps:=1000000) (disch:=first | assumption | (apply ν6;assumption)) only [W137,vz,vu,vv,eqS,eF_,↓c1_,↓c2_,tabs,reduceCtorEq,ι5,↓reduceIte,ν1,ν2,ν3,ν4,ν5,ι1,ι2,ι3,ι4]
  refine L137_0_rule (0:Nat) (fun i=>I i) (fun _=>H) (fun i=>i≤xs.length∧∀j (hj:j < xs.length),j < i→p xs[j]=false) (fun i=>xs.length - i) ⟨⟨by omega,by intros;omega⟩,.refl _,Heap.le_refl _⟩ ?_
  rintro i ⟨hi1,ha⟩
  (try simp (maxSteps:=1000000) (disch:=first | assumption | (apply ν6;assumption)) only [vz,vu,vv,eqS,eF_,↓c1_,↓c2_,tabs,reduceCtorEq,ι5,↓reduceIte,ν1,ν2,ν3,ν4,ν5,ι1,ι2,ι3,ι4,B137_0])
  refine ⟨fun h=>⟨by omega,h,?_⟩,fun h=>?_⟩
  · have hlt:i < xs.length:=by omega
    rw [getD_lt hlt]
    refine PuAt.use (hp _ (List.getElem_mem hlt)) ?_
    (try simp (maxSteps:=1000000) (disch:=first | assumption | (apply ν6;assumption)) only [vz,vu,vv,eqS,eF_,↓c1_,↓c2_,tabs,reduceCtorEq,ι5,↓reduceIte,ν1,ν2,ν3,ν4,ν5,ι1,ι2,ι3,ι4])
    refine ⟨fun h1=>?_,fun h1=>⟨i+1,⟨by omega,fun j hj hji=>?_⟩,by omega,?_⟩⟩
    · have h2:xs.any p=true:=List.any_eq_true.2 ⟨xs[i],List.getElem_mem hlt,h1⟩
      have h3:xs.findIdx p=i:=by
        rw [List.findIdx_eq hlt];exact ⟨h1,fun j hj=>ha j (by omega) hj⟩
      rw [h2,h3] at hK;exact wkK.keep (by simpa using hK)
    · rcases Nat.lt_succ_iff_lt_or_eq.1 hji with h2 | rfl
      · exact ha j hj h2
      · exact h1
    · rw [wk_int,i64_id (by omega) (by omega)];simp
  · have hi:i=xs.length:=by omega
    have h2:xs.any p=false:=by
      rw [List.any_eq_false]
      intro x hx
      obtain ⟨j,hj,rfl⟩:=List.mem_iff_getElem.1 hx
      rw [ha j hj (by omega)];simp
    rw [h2] at hK;exact wkK.keep (by simpa using hK)
theorem ContainsFunc_at (xs:List Int) (g:Nat) (caps:List AV) (p:Int→Bool) {H:Heap} (hl:xs.length≤1000000000) (hp:∀x∈xs,PuAt Try.prog g (I x::caps) H (B (p x))) :
    PuAt Try.prog 124 [Is xs,.fn g caps] H (B (xs.any p)):=by
  intro K hK
  refine W124_ok ?_;simp (maxSteps:=1000000) (disch:=first | assumption | (apply ν6;assumption)) only [W124,vz,vu,vv,eqS,eF_,↓c1_,↓c2_,tabs,reduceCtorEq,ι5,↓reduceIte,ν1,ν2,ν3,ν4,ν5,ι1,ι2,ι3,ι4]
  refine PuAt.use (IndexFunc_at xs g caps p hl hp) ?_
  (try simp (maxSteps:=1000000) (disch:=first | assumption | (apply ν6;assumption)) only [vz,vu,vv,eqS,eF_,↓c1_,↓c2_,tabs,reduceCtorEq,ι5,↓reduceIte,ν1,ν2,ν3,ν4,ν5,ι1,ι2,ι3,ι4])
  cases h:xs.any p<;>simp [h] at hK ⊢<;>exact hK
end Go.Proofs.Ytjdhigcefkihiaa
namespace Go.Proofs.Ytjdhigcefkihiaa
open Go Go.Sep Go.Pt
attribute [local irreducible] CallT
theorem l1In_BQ (a lo hi:Int):Pu Try.prog 77 [I a,I lo,I hi] (B (inB a lo hi)):=l1In_spec a lo hi
theorem l1AllQ (xs:List Int) (lo hi:Int) (hl:xs.length≤1000000000):Pu Try.prog 78 [Is xs,I lo,I hi] (B (xs.all fun a=>decide (lo≤a) && decide (a≤hi))):=by
  refine Pu.of fun H=>?_
  refine W78_ok ?_;simp (maxSteps:=1000000) (disch:=first | assumption | (apply ν6;assumption)) only [W78,vz,vu,vv,eqS,eF_,↓c1_,↓c2_,tabs,reduceCtorEq,ι5,↓reduceIte,ν1,ν2,ν3,ν4,ν5,ι1,ι2,ι3,ι4]
  refine L78_0_rule (0:Nat) (fun i=>I i) (fun _=>H) (fun i=>i≤xs.length∧(xs.take i).all (fun a=>decide (lo≤a) && decide (a≤hi))=true) (fun i=>xs.length - i) ⟨⟨by omega,by simp⟩,.refl _,Heap.le_refl _⟩ ?_
  rintro i ⟨hi1,ha⟩
  (try simp (maxSteps:=1000000) (disch:=first | assumption | (apply ν6;assumption)) only [vz,vu,vv,eqS,eF_,↓c1_,↓c2_,tabs,reduceCtorEq,ι5,↓reduceIte,ν1,ν2,ν3,ν4,ν5,ι1,ι2,ι3,ι4,B78_0])
  refine ⟨fun h=>⟨by omega,h,?_⟩,fun h=>?_⟩
  · have hlt:i < xs.length:=by omega
    refine Pu.use (l1In_spec ..) ?_
    (try simp (maxSteps:=1000000) (disch:=first | assumption | (apply ν6;assumption)) only [vz,vu,vv,eqS,eF_,↓c1_,↓c2_,tabs,reduceCtorEq,ι5,↓reduceIte,ν1,ν2,ν3,ν4,ν5,ι1,ι2,ι3,ι4])
    have e:=take_all_succ (p:=fun a=>decide (lo≤a) && decide (a≤hi)) hlt
    rw [getD_lt hlt]
    refine ⟨fun h1=>?_,fun h1=>?_⟩
    · congr 2
      symm
      rw [List.all_eq_false]
      exact ⟨xs[i],by simp,by simpa using h1⟩
    · refine ⟨i+1,⟨by omega,by rw [e,ha];simpa using h1⟩,by omega,?_⟩
      rw [wk_int,i64_id (by omega) (by omega)];simp
  · have:i=xs.length:=by omega
    subst this
    rw [List.take_length] at ha;simp [ha]
def letB (n:Int):Bool:=decide (0≤n) && decide (n≤7)
def goodL (s l:List Int):Bool:=(decide (s.length≤24) && (decide (1≤l.length) && decide (l.length≤24))) && (s.all letB && l.all letB)
theorem areLetters1Q (n:Int) {H:Heap}:PuAt Try.prog 125 [I n] H (B (!letB n)):=by
  intro K hK
  refine W125_ok ?_;simp (maxSteps:=1000000) (disch:=first | assumption | (apply ν6;assumption)) only [W125,vz,vu,vv,eqS,eF_,↓c1_,↓c2_,tabs,reduceCtorEq,ι5,↓reduceIte,ν1,ν2,ν3,ν4,ν5,ι1,ι2,ι3,ι4]
  refine ⟨fun h=>?_,fun h=>?_⟩
  · have e:letB n=false:=by simp [letB];omega
    rw [e] at hK;exact hK
  · by_cases h2:8≤n
    · have e:letB n=false:=by simp [letB];omega
      have e2:decide (8≤n)=true:=by simpa using h2
      rw [e] at hK;simpa [e2] using hK
    · have e:letB n=true:=by simp [letB];omega
      have e2:decide (8≤n)=false:=by simpa using h2
      rw [e] at hK;simpa [e2] using hK
theorem areLettersQ (xs:List Int) (hl:xs.length≤1000000000):Pu Try.prog 103 [Is xs] (B (xs.all letB)):=by
  refine Pu.of fun H=>?_
  refine W103_ok ?_;simp (maxSteps:=1000000) (disch:=first | assumption | (apply ν6;assumption)) only [W103,vz,vu,vv,eqS,eF_,↓c1_,↓c2_,tabs,reduceCtorEq,ι5,↓reduceIte,ν1,ν2,ν3,ν4,ν5,ι1,ι2,ι3,ι4]
  refine PuAt.use (ContainsFunc_at xs _ _ (fun n=>!letB n) hl fun x _=>areLetters1Q x) ?_
  (try simp (maxSteps:=1000000) (disch:=first | assumption | (apply ν6;assumption)) only [vz,vu,vv,eqS,eF_,↓c1_,↓c2_,tabs,reduceCtorEq,ι5,↓reduceIte,ν1,ν2,ν3,ν4,ν5,ι1,ι2,ι3,ι4])
  rw [List.all_eq_not_any_not]
theorem GoodLassoI (s l:List Int) (h1:s.length≤1000000000) (h2:l.length≤1000000000):Pu Try.prog 61 [.agg [Is s,Is l]] (B (goodL s l)):=by
  refine Pu.of fun H=>?_
  refine W61_ok ?_;simp (maxSteps:=1000000) (disch:=first | assumption | (apply ν6;assumption)) only [W61,vz,vu,vv,eqS,eF_,↓c1_,↓c2_,tabs,reduceCtorEq,ι5,↓reduceIte,ν1,ν2,ν3,ν4,ν5,ι1,ι2,ι3,ι4]
  intro r hr
  have hle:∀z,Heap.le H (H.set r z):=fun z=>Heap.le_set hr
  (try simp (maxSteps:=1000000) (disch:=first | assumption | (apply ν6;assumption)) only [vz,vu,vv,eqS,eF_,↓c1_,↓c2_,tabs,reduceCtorEq,ι5,↓reduceIte,ν1,ν2,ν3,ν4,ν5,ι1,ι2,ι3,ι4])
  have fls:(¬(s.length≤24∧1≤l.length∧l.length≤24))→goodL s l=false:=fun h=>by
    rw [Bool.eq_false_iff];intro hh
    simp only [goodL,Bool.and_eq_true,decide_eq_true_eq] at hh
    exact h ⟨hh.1.1,hh.1.2.1,hh.1.2.2⟩
  refine ⟨fun a1=>⟨fun a2=>⟨fun a3=>?_,fun a3=>⟨by rw [fls (by omega)],hle _⟩⟩,fun a2=>⟨by rw [fls (by omega)],hle _⟩⟩,fun a1=>⟨by rw [fls (by omega)],hle _⟩⟩
  have e:goodL s l=(s.all letB && l.all letB):=by
    have b1:s.length≤24:=by omega
    have b2:1≤l.length:=by omega
    have b3:l.length≤24:=by omega
    simp only [goodL,b1,b2,b3,decide_true,Bool.true_and]
  rw [e]
  refine Pu.use (areLettersQ s h1) ?_
  cases s.all letB
  · (try simp (maxSteps:=1000000) (disch:=first | assumption | (apply ν6;assumption)) only [vz,vu,vv,eqS,eF_,↓c1_,↓c2_,tabs,reduceCtorEq,ι5,↓reduceIte,ν1,ν2,ν3,ν4,ν5,ι1,ι2,ι3,ι4])
    exact hle _
  · (try simp (maxSteps:=1000000) (disch:=first | assumption | (apply ν6;assumption)) only [vz,vu,vv,eqS,eF_,↓c1_,↓c2_,tabs,reduceCtorEq,ι5,↓reduceIte,ν1,ν2,ν3,ν4,ν5,ι1,ι2,ι3,ι4])
    refine Pu.use (areLettersQ l h2) ?_
    (try simp (maxSteps:=1000000) (disch:=first | assumption | (apply ν6;assumption)) only [vz,vu,vv,eqS,eF_,↓c1_,↓c2_,tabs,reduceCtorEq,ι5,↓reduceIte,ν1,ν2,ν3,ν4,ν5,ι1,ι2,ι3,ι4])
    exact hle _
theorem GoodLassoR (s l:List Int) (h1:s.length≤1000000000) (h2:l.length≤1000000000):Pu Try.prog 27 [.agg [Is s,Is l]] (B (goodL s l)):=by
  refine Pu.of fun H=>?_
  refine W27_ok ?_;simp (maxSteps:=1000000) (disch:=first | assumption | (apply ν6;assumption)) only [W27,vz,vu,vv,eqS,eF_,↓c1_,↓c2_,tabs,reduceCtorEq,ι5,↓reduceIte,ν1,ν2,ν3,ν4,ν5,ι1,ι2,ι3,ι4]
  intro r hr
  have hle:∀z,Heap.le H (H.set r z):=fun z=>Heap.le_set hr
  (try simp (maxSteps:=1000000) (disch:=first | assumption | (apply ν6;assumption)) only [vz,vu,vv,eqS,eF_,↓c1_,↓c2_,tabs,reduceCtorEq,ι5,↓reduceIte,ν1,ν2,ν3,ν4,ν5,ι1,ι2,ι3,ι4])
  refine ⟨fun a1=>?_,fun a1=>?_⟩
  rotate_left
  · refine ⟨?_,hle _⟩
    have:goodL s l=false:=by
      rw [Bool.eq_false_iff];intro hh
      simp only [goodL,Bool.and_eq_true,decide_eq_true_eq] at hh
      have:=hh.1.1;omega
    rw [this]
  refine Pu.use (l1In_BQ l.length 1 24) ?_
  cases hin:inB l.length 1 24
  · (try simp (maxSteps:=1000000) (disch:=first | assumption | (apply ν6;assumption)) only [vz,vu,vv,eqS,eF_,↓c1_,↓c2_,tabs,reduceCtorEq,ι5,↓reduceIte,ν1,ν2,ν3,ν4,ν5,ι1,ι2,ι3,ι4])
    refine ⟨?_,hle _⟩
    have:goodL s l=false:=by
      rw [Bool.eq_false_iff];intro hh
      simp only [goodL,Bool.and_eq_true,decide_eq_true_eq] at hh
      rw [inB_iff.2 (by have:=hh.1.2;omega)] at hin;cases hin
    rw [this]
  rw [inB_iff] at hin
  have e:goodL s l=(s.all letB && l.all letB):=by
    have b1:s.length≤24:=by omega
    have b2:1≤l.length:=by omega
    have b3:l.length≤24:=by omega
    simp only [goodL,b1,b2,b3,decide_true,Bool.true_and]
  rw [e]
  (try simp (maxSteps:=1000000) (disch:=first | assumption | (apply ν6;assumption)) only [vz,vu,vv,eqS,eF_,↓c1_,↓c2_,tabs,reduceCtorEq,ι5,↓reduceIte,ν1,ν2,ν3,ν4,ν5,ι1,ι2,ι3,ι4])
  refine Pu.use (l1AllQ s 0 7 h1) ?_
  have e3:∀xs:List Int,(xs.all fun a=>decide (0≤a) && decide (a≤7))=xs.all letB:=fun xs=>rfl
  rw [e3]
  cases s.all letB
  · (try simp (maxSteps:=1000000) (disch:=first | assumption | (apply ν6;assumption)) only [vz,vu,vv,eqS,eF_,↓c1_,↓c2_,tabs,reduceCtorEq,ι5,↓reduceIte,ν1,ν2,ν3,ν4,ν5,ι1,ι2,ι3,ι4])
    exact hle _
  · (try simp (maxSteps:=1000000) (disch:=first | assumption | (apply ν6;assumption)) only [vz,vu,vv,eqS,eF_,↓c1_,↓c2_,tabs,reduceCtorEq,ι5,↓reduceIte,ν1,ν2,ν3,ν4,ν5,ι1,ι2,ι3,ι4])
    refine Pu.use (l1AllQ l 0 7 h2) ?_
    rw [e3]
    (try simp (maxSteps:=1000000) (disch:=first | assumption | (apply ν6;assumption)) only [vz,vu,vv,eqS,eF_,↓c1_,↓c2_,tabs,reduceCtorEq,ι5,↓reduceIte,ν1,ν2,ν3,ν4,ν5,ι1,ι2,ι3,ι4])
    exact hle _
abbrev aL2 (s l:List Int):AV:=.agg [Is s,Is l]
def RL (s l:List Int) (v:AV) (G:Heap) (D:List Nat):Prop:=(s=[]∧l=[]∧v=.agg [.p .nil,.p .nil]∧D=[])∨∃q1 q2,v=.agg [rowP q1 s,rowP q2 l]∧G q1=some (cP fI s)∧G q2=some (cP fI l)∧D=[q1,q2]∧q1≠q2
end Go.Proofs.Ytjdhigcefkihiaa
namespace Go.Proofs.Ytjdhigcefkihiaa
open Go Go.Sep Go.Pt
attribute [local irreducible] CallT
def letW (s l:List Int) (t:Nat):Int:=(s++l).getD t default
def nxW (s l:List Int) (t:Nat):Nat:=if t+1 < s.length+l.length then t+1 else s.length
theorem letW_1 {s l:List Int} {t:Nat} (h:t < s.length):letW s l t=s.getD t default:=by simp [letW,List.getD,List.getElem?_append_left h]
theorem letW_2 {s l:List Int} {t:Nat} (h:s.length≤t):letW s l t=l.getD (t - s.length) default:=by simp [letW,List.getD,List.getElem?_append_right h]
theorem l9At_spec (s l:List Int) (h1:s.length≤24) (h2:1≤l.length∧l.length≤24) {t:Nat} (ht:t < s.length+l.length):Pu Try.prog 102 [aL2 s l,I t] (I (letW s l t)):=by
  refine Pu.of fun H=>?_
  have e1:IntKind.i64.wrap ((t:Int) - (s.length:Int))=(t:Int) - s.length:=i64_id (by omega) (by omega)
  refine W102_ok ?_;simp (maxSteps:=1000000) (disch:=first | assumption | (apply ν6;assumption)) only [W102,vz,vu,vv,eqS,eF_,↓c1_,↓c2_,tabs,reduceCtorEq,ι5,↓reduceIte,ν1,ν2,ν3,ν4,ν5,ι1,ι2,ι3,ι4]
  intro r hr
  have hle:=Heap.le_set (b:=[Is s,Is l]) hr
  (try simp (maxSteps:=1000000) (disch:=first | assumption | (apply ν6;assumption)) only [vz,vu,vv,eqS,eF_,↓c1_,↓c2_,tabs,reduceCtorEq,ι5,↓reduceIte,ν1,ν2,ν3,ν4,ν5,ι1,ι2,ι3,ι4,e1])
  refine ⟨fun h=>?_,fun h=>?_⟩
  · rw [letW_1 (by omega)]
    exact ⟨by omega,h,rfl,hle⟩
  · have e2:((t:Int) - (s.length:Int)).tmod (l.length:Int)=(t:Int) - s.length:=Int.tmod_eq_of_lt (by omega) (by omega)
    have e3:((t:Int) - (s.length:Int)).toNat=t - s.length:=by omega
    rw [e2,e3,letW_2 (by omega)]
    exact ⟨by omega,by omega,by omega,rfl,hle⟩
theorem letterAt_spec (s l:List Int) (h1:s.length≤24) (h2:1≤l.length∧l.length≤24) {t:Nat} (ht:t < s.length+l.length):Pu Try.prog 117 [aL2 s l,I t] (I (letW s l t)):=by
  refine Pu.of fun H=>?_
  have e1:IntKind.i64.wrap ((t:Int) - (s.length:Int))=(t:Int) - s.length:=i64_id (by omega) (by omega)
  refine W117_ok ?_;simp (maxSteps:=1000000) (disch:=first | assumption | (apply ν6;assumption)) only [W117,vz,vu,vv,eqS,eF_,↓c1_,↓c2_,tabs,reduceCtorEq,ι5,↓reduceIte,ν1,ν2,ν3,ν4,ν5,ι1,ι2,ι3,ι4]
  intro r hr
  have hle:=Heap.le_set (b:=[Is s,Is l]) hr
  (try simp (maxSteps:=1000000) (disch:=first | assumption | (apply ν6;assumption)) only [vz,vu,vv,eqS,eF_,↓c1_,↓c2_,tabs,reduceCtorEq,ι5,↓reduceIte,ν1,ν2,ν3,ν4,ν5,ι1,ι2,ι3,ι4,e1])
  refine ⟨fun h=>?_,fun h=>?_⟩
  · rw [letW_1 (by omega)]
    exact ⟨by omega,h,rfl,hle⟩
  · have e2:((t:Int) - (s.length:Int)).tmod (l.length:Int)=(t:Int) - s.length:=Int.tmod_eq_of_lt (by omega) (by omega)
    have e3:((t:Int) - (s.length:Int)).toNat=t - s.length:=by omega
    rw [e2,e3,letW_2 (by omega)]
    exact ⟨by omega,by omega,by omega,rfl,hle⟩
theorem nextPlace_spec (s l:List Int) (h1:s.length≤24) (h2:1≤l.length∧l.length≤24) {t:Nat} (ht:t < s.length+l.length):Pu Try.prog 133 [aL2 s l,I t] (I (nxW s l t:Nat)):=by
  refine Pu.of fun H=>?_
  have e1:IntKind.i64.wrap ((t:Int)+1)=((t+1:Nat):Int):=by rw [i64_id (by omega) (by omega)];simp
  have e2:IntKind.i64.wrap ((s.length:Int)+(l.length:Int))=(s.length:Int)+l.length:=i64_id (by omega) (by omega)
  refine W133_ok ?_;simp (maxSteps:=1000000) (disch:=first | assumption | (apply ν6;assumption)) only [W133,vz,vu,vv,eqS,eF_,↓c1_,↓c2_,tabs,reduceCtorEq,ι5,↓reduceIte,ν1,ν2,ν3,ν4,ν5,ι1,ι2,ι3,ι4]
  intro r hr
  have hle:=Heap.le_set (b:=[Is s,Is l]) hr
  (try simp (maxSteps:=1000000) (disch:=first | assumption | (apply ν6;assumption)) only [vz,vu,vv,eqS,eF_,↓c1_,↓c2_,tabs,reduceCtorEq,ι5,↓reduceIte,ν1,ν2,ν3,ν4,ν5,ι1,ι2,ι3,ι4,e1,e2])
  refine ⟨fun h=>?_,fun h=>?_⟩
  · rw [nxW,if_pos (by omega)];exact ⟨rfl,hle⟩
  · rw [nxW,if_neg (by omega)];exact ⟨rfl,hle⟩
end Go.Proofs.Ytjdhigcefkihiaa
namespace Go.Proofs.Ytjdhigcefkihiaa
open Go Go.Sep Go.Pt
attribute [local irreducible] CallT
structure GoodF (a:Au):Prop where
  st:1≤a.states∧a.states≤96
  fi:smI a.first∧a.first.length≤96
  ed:a.edges.length≤2400
  ei:∀e∈a.edges,edIn a.states e=true
  gl:a.goals.length≤6
  gi:∀g∈a.goals,smI g∧g.length≤96
end Go.Proofs.Ytjdhigcefkihiaa
namespace Go.Proofs.Ytjdhigcefkihiaa
open Go Go.Sep Go.Pt
attribute [local irreducible] CallT
end Go.Proofs.Ytjdhigcefkihiaa
namespace Go.Proofs.Ytjdhigcefkihiaa
open Go Go.Sep Go.Pt
attribute [local irreducible] CallT
structure GoodX (a:Au):Prop where
  st:1≤a.states∧a.states≤100000
  ed:a.edges.length≤400000
  ei:∀e∈a.edges,edIn a.states e=true
theorem GoodF.x {a:Au} (f:GoodF a):GoodX a:=⟨by have:=f.st;omega,by have:=f.ed;omega,f.ei⟩
end Go.Proofs.Ytjdhigcefkihiaa
namespace Go.Pt
inductive Rch (E:Nat→Nat→Prop):Nat→Nat→Prop
  | refl (a:Nat):Rch E a a
  | step {a b c:Nat} (h:E a b) (t:Rch E b c):Rch E a c
theorem Rch.trans {E:Nat→Nat→Prop} {a b c:Nat} (h:Rch E a b) (k:Rch E b c):Rch E a c:=by
  induction h with
  | refl=>exact k
  | step h t ih=>exact .step h (ih k)
theorem Rch.one {E:Nat→Nat→Prop} {a b:Nat} (h:E a b):Rch E a b:=.step h (.refl _)
theorem Rch.snoc {E:Nat→Nat→Prop} {a b c:Nat} (h:Rch E a b) (k:E b c):Rch E a c:=h.trans (.one k)
theorem Rch.keep {E:Nat→Nat→Prop} {P:Nat→Prop} {a b:Nat} (h:Rch E a b) (ha:P a) (hk:∀x y,P x→E x y→P y):P b:=by
  induction h with
  | refl=>exact ha
  | step h t ih=>exact ih (hk _ _ ha h)
theorem Rch.mono {E F:Nat→Nat→Prop} {a b:Nat} (h:Rch E a b) (hk:∀x y,E x y→F x y):Rch F a b:=by
  induction h with
  | refl=>exact .refl _
  | step h t ih=>exact .step (hk _ _ h) ih
def Con (E:Nat→Nat→Prop) (a b:Nat):Prop:=Rch E a b∧Rch E b a
theorem Con.refl {E:Nat→Nat→Prop} (a:Nat):Con E a a:=⟨.refl _,.refl _⟩
theorem Con.symm {E:Nat→Nat→Prop} {a b:Nat} (h:Con E a b):Con E b a:=⟨h.2,h.1⟩
theorem Con.trans {E:Nat→Nat→Prop} {a b c:Nat} (h:Con E a b) (k:Con E b c):Con E a c:=⟨h.1.trans k.1,k.2.trans h.2⟩
def Least (E:Nat→Nat→Prop) (a m:Nat):Prop:=Con E a m∧∀u,Con E a u→m≤u
theorem Least.ex (E:Nat→Nat→Prop) (a:Nat):∃m,Least E a m:=by
  suffices h:∀n,(∃u,Con E a u∧u≤n)→∃m,Least E a m from h a ⟨a,.refl a,Nat.le_refl _⟩
  intro n
  induction n with
  | zero=>rintro ⟨u,h1,h2⟩;exact ⟨u,h1,fun w _=>by omega⟩
  | succ n ih=>
    rintro ⟨u,h1,h2⟩
    by_cases h:∃u,Con E a u∧u≤n
    · exact ih h
    · exact ⟨u,h1,fun w hw=>Nat.le_of_not_lt fun hl=>h ⟨w,hw,by omega⟩⟩
noncomputable def partF (E:Nat→Nat→Prop) (a:Nat):Nat:=Classical.choose (Least.ex E a)
end Go.Pt
namespace Go.Pt
def updI (f:Nat→Int) (v:Nat) (x:Int):Nat→Int:=fun u=>if u=v then x else f u
theorem updI_same (f:Nat→Int) (v:Nat) (x:Int):updI f v x v=x:=if_pos rfl
theorem updI_ne (f:Nat→Int) {u v:Nat} (x:Int) (h:u≠v):updI f v x u=f u:=if_neg h
structure TS where
  fd:Nat→Int
  lw:Nat→Int
  pt:Nat→Int
  st:List Nat
  vs:Int
def cntF (fd:Nat→Int) (n:Nat):Nat:=(List.range n).countP fun v=>decide (fd v≠0)
structure TInv (E:Nat→Nat→Prop) (n:Nat) (gray:List Nat) (s:TS):Prop where
  cnt:s.vs=cntF s.fd n
  fd0:∀v,0≤s.fd v
  fdv:∀v,s.fd v≤s.vs
  fdn:∀v,s.fd v≠0→v < n
  stp:s.st.Pairwise (fun u v=>s.fd u < s.fd v)
  stm:∀v,v∈s.st↔s.fd v≠0∧s.pt v < 0
  don:∀v,0≤s.pt v→s.fd v≠0∧(∃m:Nat,Least E v m∧s.pt v=m)∧∀w,E v w→0≤s.pt w
  blk:∀v,s.fd v≠0→v∉gray→∀w,E v w→s.fd w≠0
  gst:∀x∈gray,x∈s.st
  gto:∀x∈gray,∀y∈s.st,s.fd x≤s.fd y→Rch E x y
  tog:∀y∈s.st,∃x∈gray,s.fd x≤s.fd y∧Rch E y x
structure TPost (E:Nat→Nat→Prop) (s s':TS) (v:Nat):Prop where
  fdk:∀u,s.fd u≠0→s'.fd u=s.fd u
  lwk:∀u,s.fd u≠0→s'.lw u=s.lw u
  new:∀u,s.fd u=0→s'.fd u≠0→s.vs < s'.fd u
  fv:s'.fd v≠0
  vs:s.vs≤s'.vs
  stk:∃s2,s'.st=s.st++s2∧(∀x∈s2,s.fd x=0)∧∀x∈s2,∀y∈s.st,E x y→s'.lw v≤s'.fd y
  low:s'.lw v≤s'.fd v
  lowv:v∉s'.st→s'.lw v=s'.fd v
  lows:v∈s'.st→∃y∈s'.st,s'.fd y=s'.lw v∧Rch E v y
structure TLoop (E:Nat→Nat→Prop) (n:Nat) (gray:List Nat) (s:TS) (v:Nat) (done:Nat→Prop) (t:TS):Prop where
  inv:TInv E n (v::gray) t
  fdk:∀u,s.fd u≠0→t.fd u=s.fd u
  lwk:∀u,s.fd u≠0→t.lw u=s.lw u
  new:∀u,s.fd u=0→t.fd u≠0→s.vs < t.fd u
  fv:t.fd v=s.vs+1
  vs:s.vs+1≤t.vs
  stk:∃s2,t.st=s.st++v::s2∧(∀x∈s2,s.fd x=0)∧∀x∈s2,∀y∈s.st,E x y→t.lw v≤t.fd y
  low:t.lw v≤t.fd v
  lows:∃y∈t.st,t.fd y=t.lw v∧Rch E v y
  don:∀w,done w→t.fd w≠0∧(w∈s.st→t.lw v≤t.fd w)
theorem TLoop.done {E:Nat→Nat→Prop} {n:Nat} {gray:List Nat} {s t:TS} {v:Nat} {d d':Nat→Prop} (h:TLoop E n gray s v d t) (hd:∀u,d' u→d u):TLoop E n gray s v d' t:=⟨h.inv,h.fdk,h.lwk,h.new,h.fv,h.vs,h.stk,h.low,h.lows,fun w hw=>h.don w (hd w hw)⟩
def TS.push (s:TS) (v:Nat):TS:=⟨updI s.fd v (s.vs+1),updI s.lw v (s.vs+1),s.pt,s.st++[v],s.vs+1⟩
def TS.low (t:TS) (v:Nat) (x:Int):TS:={ t with lw:=updI t.lw v x }
def TS.zero:TS:=⟨fun _=>0,fun _=>0,fun _=>-1,[],0⟩
end Go.Pt
namespace Go.Pt
structure BS where
  s:Nat→Int
  q:List Nat
def bput (d:Int) (b:BS) (w:Nat):BS:=if b.s w < 0 then ⟨updI b.s w d,b.q++[w]⟩ else b
def bstep (row:Nat→List Nat) (b:BS):BS:=
  match b.q with
  | []=>b
  | k::q=>(row k).foldl (bput (b.s k+1)) ⟨b.s,q⟩
def bini (some:List Nat):BS:=⟨fun v=>if v∈some then 0 else -1,some⟩
def bst (row:Nat→List Nat) (some:List Nat):Nat→BS
  | 0=>bini some
  | i+1=>bstep row (bst row some i)
def farF (row:Nat→List Nat) (n:Nat) (some:List Nat):Nat→Int:=(bst row some (n+some.length)).s
def cntU (s:Nat→Int) (n:Nat):Nat:=(List.range n).countP fun v=>decide (s v < 0)
theorem cntU_upd {s:Nat→Int} {n v:Nat} {x:Int} (h:v < n) (h0:s v < 0) (hx:0≤x):cntU (updI s v x) n+1=cntU s n:=by
  unfold cntU
  induction n with
  | zero=>omega
  | succ n ih=>
    rw [List.range_succ,List.countP_append,List.countP_append]
    by_cases e:v=n
    · subst e
      have:List.countP (fun u=>decide (updI s v x u < 0)) (List.range v)=List.countP (fun u=>decide (s u < 0)) (List.range v):=by
        apply List.countP_congr
        intro u hu
        have:=List.mem_range.1 hu
        rw [updI_ne _ _ (by omega)]
      rw [this]
      have:¬x < 0:=by omega
      simp [updI_same,h0,this]
    · have:=ih (by omega)
      have e2:List.countP (fun u=>decide (updI s v x u < 0)) [n]=List.countP (fun u=>decide (s u < 0)) [n]:=by
        simp [updI_ne s x (show n≠v by omega)]
      rw [e2];omega
structure BInv (row:Nat→List Nat) (n:Nat) (some:List Nat) (i:Nat) (b:BS):Prop where
  lo:∀v,-1≤b.s v
  hi:∀v,b.s v≤i
  z:∀v,b.s v=0↔v∈some
  pre:∀v,0 < b.s v→∃u,v∈row u∧b.s v=b.s u+1
  qq:∀v,0≤b.s v→v∈b.q∨∀w∈row v,0≤b.s w
  qs:∀v∈b.q,0≤b.s v
  lt:∀v,0≤b.s v→v < n
  ms:b.q.length+cntU b.s n+i≤n+some.length
structure BRow (n:Nat) (k:Nat) (d:Int) (b0:BS) (l:List Nat) (b:BS):Prop where
  old:∀v,0≤b0.s v→b.s v=b0.s v
  new:∀v,b0.s v < 0→b.s v=b0.s v∨(b.s v=d∧v∈l∧v < n∧v∈b.q)
  inq:∀v∈b.q,v∈b0.q∨0≤b.s v
  keep:∀v∈b0.q,v∈b.q
  all:∀v∈l,0≤b.s v
  ms:b.q.length+cntU b.s n=b0.q.length+cntU b0.s n
theorem BRow.nil (n k:Nat) (d:Int) (b:BS):BRow n k d b [] b:=⟨fun _ _=>rfl,fun _ _=>.inl rfl,fun _ h=>.inl h,fun _ h=>h,fun _ h=>(by cases h),rfl⟩
theorem BRow.snoc {n k:Nat} {d:Int} {b0 b:BS} {l:List Nat} {w:Nat} (h:BRow n k d b0 l b) (hd:0≤d) (hw:w < n):BRow n k d b0 (l++[w]) (bput d b w):=by
  unfold bput
  split
  · rename_i hn
    have hw0:b0.s w < 0:=Int.not_le.1 fun hk=>by have:=h.old w hk;omega
    refine ⟨fun v hv=>?_,fun v hv=>?_,fun v hv=>?_,fun v hv=>List.mem_append_left _ (h.keep v hv),fun v hv=>?_,?_⟩
    · have:v≠w:=fun e=>by subst e;omega
      show updI _ _ _ v=_;rw [updI_ne _ _ this];exact h.old v hv
    · show updI _ _ _ v=_∨_
      by_cases e:v=w
      · subst e
        exact .inr ⟨updI_same _ _ _,by simp,hw,by simp⟩
      · rcases h.new v hv with k1 | ⟨k1,k2,k3,k4⟩
        · exact .inl (by rw [updI_ne _ _ e];exact k1)
        · exact .inr ⟨by show updI _ _ _ v=_;rw [updI_ne _ _ e];exact k1,List.mem_append_left _ k2,k3,List.mem_append_left _ k4⟩
    · show _∨0≤updI _ _ _ v
      by_cases e:v=w
      · subst e;rw [updI_same];exact .inr hd
      · rcases List.mem_append.1 hv with hv | hv
        · rcases h.inq v hv with k1 | k1
          · exact .inl k1
          · exact .inr (by rw [updI_ne _ _ e];exact k1)
        · exact absurd (List.mem_singleton.1 hv) e
    · show 0≤updI _ _ _ v
      by_cases e:v=w
      · subst e;rw [updI_same];exact hd
      · rw [updI_ne _ _ e]
        rcases List.mem_append.1 hv with hv | hv
        · exact h.all v hv
        · exact absurd (List.mem_singleton.1 hv) e
    · have:=cntU_upd hw hn hd
      have:=h.ms
      simp only [List.length_append,List.length_singleton]
      omega
  · rename_i hn
    refine ⟨h.old,fun v hv=>?_,h.inq,h.keep,fun v hv=>?_,h.ms⟩
    · rcases h.new v hv with k1 | ⟨k1,k2,k3,k4⟩
      · exact .inl k1
      · exact .inr ⟨k1,List.mem_append_left _ k2,k3,k4⟩
    · rcases List.mem_append.1 hv with hv | hv
      · exact h.all v hv
      · rw [List.mem_singleton] at hv;subst hv;omega
end Go.Pt
namespace Go.Pt
abbrev ArcOf (row:Nat→List Nat) (a b:Nat):Prop:=b∈row a
def bput1 (s:Nat→Int) (best:Int) (v:Nat):Int:=if 0≤s v∧(best < 0∨s v < s best.toNat) then (v:Int) else best
def bestF (s:Nat→Int) (l:List Nat):Int:=l.foldl (bput1 s) (-1)
def nxtF (s:Nat→Int) (row:Nat→List Nat) (v:Nat):Nat:=((row v).find? fun w=>decide (s w=s v - 1)).getD 0
def itF (s:Nat→Int) (row:Nat→List Nat) (v:Nat):Nat→Nat
  | 0=>v
  | k+1=>nxtF s row (itF s row v k)
def wayF (s:Nat→Int) (row:Nat→List Nat) (v:Nat):List Nat:=(List.range ((s v).toNat+1)).map (itF s row v)
structure Near (s:Nat→Int) (row:Nat→List Nat):Prop where
  nx:∀v,0 < s v→∃w∈row v,s w=s v - 1
def Way (row:Nat→List Nat) (l:List Nat):Prop:=∀i,i+1 < l.length→l.getD (i+1) 0∈row (l.getD i 0)
def turnF (row:Nat→List Nat) (n:Nat) (w:Nat):List Nat:=(List.range n).flatMap fun v=>((row v).filter fun u=>decide (u=w)).map fun _=>v
structure GrOk (row:Nat→List Nat) (n:Nat):Prop where
  lt:∀v,∀w∈row v,w < n
  out:∀v,n≤v→row v=[]
theorem GrOk.src {row:Nat→List Nat} {n:Nat} (h:GrOk row n) {v w:Nat} (hw:w∈row v):v < n:=by
  refine Nat.lt_of_not_le fun hk=>?_
  rw [h.out v hk] at hw;cases hw
def toF (row:Nat→List Nat) (n:Nat) (to:List Nat):Nat→Int:=farF (turnF row n) n to
def lwayF (row:Nat→List Nat) (n:Nat) (some to:List Nat):List Nat:=if bestF (toF row n to) some < 0 then [] else wayF (toF row n to) row (bestF (toF row n to) some).toNat
structure LWay (row:Nat→List Nat) (some to:List Nat) (l:List Nat):Prop where
  pos:0 < l.length
  fst:l.getD 0 0∈some
  way:Way row l
  lst:l.getD (l.length - 1) 0∈to
def FairP (row:Nat→List Nat) (goals:List (List Nat)) (v:Nat):Prop:=
  (∃a b,Con (ArcOf row) v a∧Con (ArcOf row) v b∧b∈row a)∧∀g∈goals,∃x∈g,Con (ArcOf row) v x
open Classical in
noncomputable def fairF (row:Nat→List Nat) (goals:List (List Nat)) (v:Nat):Bool:=decide (FairP row goals v)
noncomputable def meetF (row:Nat→List Nat) (n:Nat) (some:List Nat) (goals:List (List Nat)):Int:=bestF (farF row n some) ((List.range n).filter (fairF row goals))
open Classical in
noncomputable def inF (row:Nat→List Nat) (v:Nat):List Nat:=(row v).filter fun w=>decide (Con (ArcOf row) v w)
open Classical in
noncomputable def in1F (row:Nat→List Nat) (m:Nat) (v:Nat):List Nat:=if Con (ArcOf row) m v then (row v).filter fun w=>decide (Con (ArcOf row) m w) else []
end Go.Pt
namespace Go.Pt
theorem gD_mem {l:List Nat} {i:Nat} (h:i < l.length):l.getD i 0∈l:=by simp [List.getD,List.getElem?_eq_getElem h]
def lastF (l:List Nat):Nat:=l.getD (l.length - 1) 0
open Classical in
noncomputable def ownF (row:Nat→List Nat) (m:Nat) (g:List Nat):List Nat:=g.filter fun v=>decide (Con (ArcOf row) m v)
noncomputable def legF (row:Nat→List Nat) (n m:Nat) (acc g:List Nat):List Nat:=acc++(lwayF (inF row) n [lastF acc] (ownF row m g)).tail
noncomputable def loopF (row:Nat→List Nat) (n m:Nat) (goals:List (List Nat)):List Nat:=goals.foldl (legF row n m) [m]
noncomputable def backF (row:Nat→List Nat) (n m:Nat) (acc:List Nat):List Nat:=lwayF (inF row) n (inF row (lastF acc)) [m]
structure LoopI (row:Nat→List Nat) (n m:Nat) (b:Nat) (gs:List (List Nat)) (acc:List Nat):Prop where
  ne:0 < acc.length
  hd:acc.getD 0 0=m
  con:∀x∈acc,Con (ArcOf row) m x
  lt:∀x∈acc,x < n
  way:Way (inF row) acc
  met:∀g∈gs,∃x∈acc,x∈g
  len:acc.length≤1+gs.length*(n+b)
theorem LoopI.last {row:Nat→List Nat} {n m b:Nat} {met:List (List Nat)} {acc:List Nat} (h:LoopI row n m b met acc):Con (ArcOf row) m (lastF acc)∧lastF acc < n:=by
  have:=gD_mem (l:=acc) (i:=acc.length - 1) (by have:=h.ne;omega)
  exact ⟨h.con _ this,h.lt _ this⟩
noncomputable def stemF (row:Nat→List Nat) (n m:Nat) (some:List Nat):List Nat:=(lwayF row n some [m]).dropLast
noncomputable def ringF (row:Nat→List Nat) (n m:Nat) (goals:List (List Nat)):List Nat:=loopF row n m goals++(backF row n m (loopF row n m goals)).dropLast
structure FairL (row:Nat→List Nat) (some:List Nat) (goals:List (List Nat)) (stem loop:List Nat):Prop where
  ne:0 < loop.length
  fst:(stem++loop).getD 0 0∈some
  way:Way row (stem++loop++[loop.getD 0 0])
  met:∀g∈goals,∃x∈loop,x∈g
end Go.Pt
namespace Go.Pt
end Go.Pt
namespace Go.Pt
section
variable (row:Nat→List Nat) (pf:Nat→Nat)
def ha1 (g:List Nat) (j:Nat) (p:Nat):Bool:=(g.take j).any fun v=>decide (pf v=p)
end
noncomputable def aw1 (row:Nat→List Nat) (k:Nat) (p:Nat):Bool:=(List.range k).any fun v=>decide (partF (ArcOf row) v=p∧0 < (inF row v).length)
def rwF (g:List (List Nat)) (v:Nat):List Nat:=g.getD v []
theorem rwF_out {g:List (List Nat)} {v:Nat} (h:g.length≤v):rwF g v=[]:=by simp [rwF,List.getD,List.getElem?_eq_none h]
theorem rwF_ok {g:List (List Nat)} (h:∀l∈g,∀x∈l,x < g.length):GrOk (rwF g) g.length:=by
  refine ⟨fun v w hw=>?_,fun v hv=>rwF_out hv⟩
  by_cases hv:v < g.length
  · refine h (rwF g v) ?_ w hw
    simp [rwF,List.getD,hv]
  · rw [rwF_out (by omega)] at hw;cases hw
def prT (g:List (List Nat)) (k j:Nat):List (Nat×Nat):=((List.range k).flatMap fun v=>(rwF g v).map fun w=>(w,v))++((rwF g k).take j).map fun w=>(w,k)
theorem prT_next (g:List (List Nat)) (k:Nat):prT g k (rwF g k).length=prT g (k+1) 0:=by simp [prT,List.range_succ,List.flatMap_append]
end Go.Pt
namespace Go.Proofs.Ytjdhigcefkihiaa
open Go Go.Sep Go.Pt
attribute [local irreducible] CallT
abbrev U64 (n:Int):AV:=.p (.int .u64 n)
theorem and32 (n:Nat) (hn:n < 4294967296):bitsI .and .u64 (n:Int) 4294967295=n:=by
  have h:(BitVec.ofInt IntKind.u64.bits (n:Int) &&& BitVec.ofInt IntKind.u64.bits 4294967295).toNat=n:=by
    rw [BitVec.toNat_and]
    have e1:(BitVec.ofInt IntKind.u64.bits (n:Int)).toNat=n:=by
      rw [BitVec.toNat_ofInt]
      show ((n:Int) % 18446744073709551616).toNat=n
      omega
    have e2:(BitVec.ofInt IntKind.u64.bits 4294967295).toNat=2^32 - 1:=by decide
    rw [e1,e2,Nat.and_two_pow_sub_one_eq_mod,Nat.mod_eq_of_lt hn]
  simp only [bitsI,h]
  rw [IntKind.wrap_u64];omega
theorem shr32 (n:Nat) (hn:n < 4294967296):(n:Int).fdiv (2^min 32 IntKind.u64.bits)=0:=by
  show (n:Int).fdiv (2^32)=0
  rw [Int.fdiv_eq_ediv_of_nonneg _ (by decide)]
  omega
theorem u64_id {n:Int} (h0:0≤n) (h1:n < 18446744073709551616):IntKind.u64.wrap n=n:=by rw [IntKind.wrap_u64];omega
theorem Mul64_one (n:Nat) (hn:n≤1000000000):Pu Try.prog 162 [U64 1,U64 n] (.tup [U64 0,U64 n]):=by
  refine Pu.of fun H=>?_
  have a1:=and32 n (by omega)
  have a2:bitsI .and .u64 1 4294967295=1:=and32 1 (by omega)
  have a3:bitsI .and .u64 0 4294967295=0:=and32 0 (by omega)
  have s1:=shr32 n (by omega)
  have s2:Int.fdiv 1 (2^min 32 IntKind.u64.bits)=0:=shr32 1 (by omega)
  have s3:Int.fdiv 0 (2^min 32 IntKind.u64.bits)=0:=shr32 0 (by omega)
  have w0:IntKind.u64.wrap 0=0:=u64_id (by omega) (by omega)
  have wn:IntKind.u64.wrap (n:Int)=n:=u64_id (by omega) (by omega)
  refine W162_ok ?_;simp (maxSteps:=1000000) (disch:=first | assumption | (apply ν6;assumption)) only [W162,vz,vu,vv,eqS,eF_,↓c1_,↓c2_,tabs,reduceCtorEq,ι5,↓reduceIte,ν1,ν2,ν3,ν4,ν5,ι1,ι2,ι3,ι4,a1,a2,s1,s2,s3,Int.zero_mul,Int.one_mul,Int.mul_zero,Int.zero_add,Int.add_zero,w0,wn,a3]
  simp
theorem Mul_one (n:Nat) (hn:n≤1000000000):Pu Try.prog 158 [U64 1,U64 n] (.tup [U64 0,U64 n]):=by
  refine Pu.of fun H=>?_
  refine W158_ok ?_;simp (maxSteps:=1000000) (disch:=first | assumption | (apply ν6;assumption)) only [W158,vz,vu,vv,eqS,eF_,↓c1_,↓c2_,tabs,reduceCtorEq,ι5,↓reduceIte,ν1,ν2,ν3,ν4,ν5,ι1,ι2,ι3,ι4]
  refine Pu.use (Mul64_one n hn) ?_
  (try simp (maxSteps:=1000000) (disch:=first | assumption | (apply ν6;assumption)) only [vz,vu,vv,eqS,eF_,↓c1_,↓c2_,tabs,reduceCtorEq,ι5,↓reduceIte,ν1,ν2,ν3,ν4,ν5,ι1,ι2,ι3,ι4])
  first | done | exact ⟨rfl,Heap.le_refl _⟩ | exact Heap.le_refl _
structure GrB (g:List (List Nat)):Prop where
  ok:∀l∈g,∀x∈l,x < g.length
  n:g.length≤100000
  arcs:(prT g g.length 0).length≤500000
theorem GrB.gr {g:List (List Nat)} (h:GrB g):GrOk (rwF g) g.length:=rwF_ok h.ok
theorem prT_len_mono (g:List (List Nat)) {k m:Nat} (h:k≤m):(prT g k 0).length≤(prT g m 0).length:=by
  induction m with
  | zero=>rw [Nat.le_zero.1 h];exact Nat.le_refl _
  | succ m ih=>
    rcases Nat.lt_or_eq_of_le h with h | rfl
    · refine Nat.le_trans (ih (by omega)) ?_
      rw [← prT_next g m]
      simp only [prT,List.length_append,List.take_zero,List.map_nil,List.length_nil]
      omega
    · exact Nat.le_refl _
theorem GrB.pr {g:List (List Nat)} (h:GrB g) {k j:Nat} (hk:k < g.length) (hj:j≤(rwF g k).length):(prT g k j).length≤500000:=by
  have h1:=prT_len_mono g (k:=k+1) (m:=g.length) hk
  rw [← prT_next g k] at h1
  have h2:=h.arcs
  simp only [prT,List.length_append,List.length_map,List.length_take] at h1 h2 ⊢
  omega
theorem GrB.row {g:List (List Nat)} (h:GrB g) {k:Nat} (hk:k < g.length):(rwF g k).length≤500000:=by
  have:=h.pr hk (Nat.le_refl _)
  simp only [prT,List.length_append,List.length_map,List.length_take] at this
  omega
theorem GrB.lt {g:List (List Nat)} (h:GrB g) {k j:Nat} (hj:j < (rwF g k).length):(rwF g k).getD j 0 < g.length:=by
  refine h.gr.lt k _ ?_
  simp [List.getD,hj]
end Go.Proofs.Ytjdhigcefkihiaa
namespace Go.Proofs.Ytjdhigcefkihiaa
open Go Go.Proofs Go.RowKit Go.Shelf Go.Sep
attribute [local go_sem] Oper.semAt_some
set_option maxRecDepth 100000 in
set_option maxHeartbeats 2000000 in
theorem bw1_in (F:Fence) (n:Nat) (hF:F.fn 159) (hro:F.round=none) (hn:1≤n) (l Bs bo b off len:Nat) (hlen:len≤1000000) (J Jx:List (Nat×Bool)→World→Prop)
    (hY:∀pre x W,J pre W→pre.length < len→YieldAt F (n - 1) Try.prog l (bEnc len x) W fun e W'=>
      (e=.returned (.bool true)∧J (pre++[x]) W'∧BKp Bs bo b off len W W')∨(e=.returned (.bool false)∧Jx (pre++[x]) W'))
    (W:World) (hBs0:BBox Bs bo b off len W) (hc:BRow b off len W) (h0:J [] W) :
    CallsIn F n Try.prog 159 #[.func (.yield l) #[] #[],.pointer (some ⟨Bs,bo,none⟩)] W fun e W'=>(∃v,e=.returned v)∧
      ((∃ys,BKeys len len ys∧J ys W')∨(∃pre,(∃k,k≤len∧BKeys len k pre)∧Jx pre W')):=by
  refine callsIn_of_wp Try.func159 rfl hF ?_ hro
  simp only [Try.ntmps159,List.size_toArray,List.length_cons,List.length_nil,Nat.reduceAdd,Nat.reduceSub,Array.replicate_succ,Array.replicate_zero,List.push_toArray,List.append_toArray,List.nil_append,List.cons_append]
  obtain ⟨cap,hBs⟩:=hBs0
  have hBs0:BBox Bs bo b off len W:=⟨cap,hBs⟩
  gi_wp2
  gi_loopw [3] (fun i wr=>∃k:Nat,k≤len∧i=.int .i64 ((len:Int) - 1 - k)∧(∃ys,BKeys len k ys∧J ys wr)∧BKp Bs bo b off len W wr)
    (fun i _=>(intOf i+1).toNat)
  case atStart=>exact ⟨0,Nat.zero_le _,by simp,⟨[],rfl,h0⟩,BKp.refl' _ _ _ _ _ _⟩
  case round=>
    obtain ⟨k,hk,rfl,⟨ys,hys,hJs⟩,hkp⟩:=hrel
    obtain ⟨cap',hBs'⟩:=hkp.2 hBs0
    by_cases hlt:k < len
    · obtain ⟨v,hv⟩:=hkp.1 hc (len - 1 - k) (by omega)
      obtain ⟨fn,tmps,assign,body,hy,hR⟩:=hY _ (len - 1 - k,v) wr hJs (by rw [hys.len'];exact hlt)
      have hidx:((len - 1 - k:Nat):Int)=(len:Int) - 1 - k:=by omega
      have hmin:min (len - 1 - k) (len - 1)=len - 1 - k:=by omega
      unfold bEnc at hy
      dsimp only at hy
      rw [hmin,hidx] at hy
      have hge:0≤(len:Int) - 1 - k:=by omega
      have hlt2:(len:Int) - 1 - k < len:=by omega
      have hto:((len:Int) - 1 - k).toNat=len - 1 - k:=by omega
      gi_wp2
      refine hR.mono ?_
      rintro e W3 (⟨rfl,hJ3,hk3⟩ | ⟨rfl,hJx3⟩)
      · gi_wp2
        go_roundw
        case rel=>exact ⟨k+1,by omega,by simp;omega,⟨_,hys.succ' v,hJ3⟩,hkp.trans' hk3⟩
        case measure=>simp [intOf];omega
      · gi_wp2
        refine bodyPost_ret (results_none rfl _ _ _) rfl ?_
        exact ⟨⟨_,rfl⟩,.inr ⟨_,⟨k+1,by omega,hys.succ' v⟩,hJx3⟩⟩
    · obtain rfl:k=len:=by omega
      gi_wp2
      go_end0
      exact ⟨⟨_,rfl⟩,.inl ⟨_,hys,hJs⟩⟩
theorem bw_ok:BackOk Try.prog 159:=by
  refine ⟨Go.Proofs.enters_of Try.func159 (by kernel_rfl) rfl,?_⟩
  intro Bs bo b off len w h0 hlen hBs hb hs hc l J Jx W hW _ _ hY hJ
  refine bw1_in Fence.wide 2 trivial rfl (by omega) l Bs bo b off len hlen J Jx hY W ?_ ?_ hJ
  · obtain ⟨cap,h⟩:=hs
    exact ⟨cap,(hW.cell (p:=⟨Bs,bo,none⟩) hBs).trans h⟩
  · exact fun j hj=>let ⟨v,hv⟩:=hc j hj;⟨v,(hW.cell (p:=⟨b,off+j,none⟩) hb).trans hv⟩
end Go.Proofs.Ytjdhigcefkihiaa
namespace Go.Proofs.Ytjdhigcefkihiaa
open Go Go.Sep Go.Pt
attribute [local irreducible] CallT
def repB (n k:Nat) (x:Bool):List Bool:=List.replicate k x++List.replicate (n - k) false
theorem repB_len {n k:Nat} (x:Bool) (h:k≤n):(repB n k x).length=n:=by simp [repB];omega
theorem cB_rep (n:Nat):zerosA n [B false]=cP fB (List.replicate n false):=by
  induction n with
  | zero=>rfl
  | succ n ih=>rw [zerosA_succ,ih,List.replicate_succ];rfl
theorem repB_splice {n k j:Nat} (x:Bool) (hk:k≤n) (hj:j≤k) (hkj:k+j≤n):splice (cP fB (repB n k x)) k (cP fB (List.replicate j x))=cP fB (repB n (k+j) x):=by
  unfold splice repB
  rw [cP,cP,cP,← List.map_take,← List.map_drop,← List.map_append,← List.map_append]
  congr 1
  rw [List.take_left' (by simp),List.length_map,List.length_replicate]
  have e1:List.replicate k x++List.replicate j x=List.replicate (k+j) x:=by rw [List.replicate_append_replicate]
  rw [e1]
  congr 1
  rw [List.drop_append,List.drop_of_length_le (by simp),List.nil_append,List.drop_replicate,List.length_replicate]
  congr 1
  omega
theorem repB_take {n k j:Nat} (x:Bool) (hj:j≤k):List.take j (cP fB (repB n k x))=cP fB (List.replicate j x):=by
  unfold repB
  rw [cP,cP,← List.map_take]
  congr 1
  rw [List.take_append_of_le_length (by simpa using hj),List.take_replicate,Nat.min_eq_left hj]
theorem cB_all (l:List Bool):(cP fB l).all AV.isCell=true:=by
  rw [List.all_eq_true]
  intro c hc
  obtain ⟨x,_,rfl⟩:=List.mem_map.1 hc
  rfl
theorem RepeatB_row (x:Bool) (n:Nat) (hn:n≤1000000) {H:Heap} {K:AV→Heap→Prop} (h:∀q,H q=none→K (rowP q (List.replicate n x)) (H.set q (cP fB (List.replicate n x)))):CallT Try.prog 149 [.p (.sl [[.bool x]]),I n] H K:=by
  have wn:IntKind.u64.wrap (n:Int)=n:=u64_id (by omega) (by omega)
  have w1:IntKind.u64.wrap ((1:Nat):Int)=1:=u64_id (by omega) (by omega)
  have en:IntKind.i64.wrap (n:Int)=n:=i64_id (by omega) (by omega)
  have n0:¬(n:Int) < 0:=by omega
  have nb:¬(n:Int) > 9223372036854775807:=by omega
  refine W149_ok ?_;simp (maxSteps:=1000000) (disch:=first | assumption | (apply ν6;assumption)) only [W149,vz,vu,vv,eqS,eF_,↓c1_,↓c2_,tabs,reduceCtorEq,ι5,↓reduceIte,ν1,ν2,ν3,ν4,ν5,ι1,ι2,ι3,ι4,wn,w1,n0,decide_false]
  refine Pu.use (Mul_one n (by omega)) ?_
  (try simp (maxSteps:=1000000) (disch:=first | assumption | (apply ν6;assumption)) only [vz,vu,vv,eqS,eF_,↓c1_,↓c2_,tabs,reduceCtorEq,ι5,↓reduceIte,ν1,ν2,ν3,ν4,ν5,ι1,ι2,ι3,ι4,nb,en,makeSliceV,Int.lt_irrefl,decide_false,gt_iff_lt,copyV,slenV,cutV,srcV])
  refine ⟨by omega,by omega,by omega,by omega,fun r hr=>?_⟩
  have go:∀k:Nat,(k=0∧n=0∨1≤k∧k≤n)→L149_0 K (.sl r 1 0 n) (I k) (H.set r (cP fB (repB n k x))):=by
    intro k hk
    refine L149_0_rule k (fun k=>I k) (fun k=>H.set r (cP fB (repB n k x))) (fun k=>k=0∧n=0∨1≤k∧k≤n) (fun k=>n - k) ⟨hk,.refl _,Heap.le_refl _⟩ ?_
    clear hk k
    intro k hk
    have hl:=repB_len x (show k≤n by omega)
    have hc:(cP fB (repB n k x)).length=n:=by rw [cP,List.length_map,hl]
    (try simp (maxSteps:=1000000) (disch:=first | assumption | (apply ν6;assumption)) only [vz,vu,vv,eqS,eF_,↓c1_,↓c2_,tabs,reduceCtorEq,ι5,↓reduceIte,ν1,ν2,ν3,ν4,ν5,ι1,ι2,ι3,ι4,B149_0,copyV,slenV,cutV,srcV,load_at (Heap.set_same H r _),hc])
    refine ⟨fun h1=>⟨by omega,by omega,by omega,?_⟩,fun h1=>?_⟩
    · refine ⟨by omega,by omega,by omega,?_⟩
      have em:((n:Int) - (k:Int)).toNat=n - k:=by omega
      rw [em]
      obtain ⟨j,hj⟩:∃j,min k (n - k)=j:=⟨_,rfl⟩
      rw [hj,if_neg (by omega),Nat.mul_one,repB_take x (by omega),Nat.mul_one]
      have hcj:(cP fB (List.replicate j x)).length=j:=by simp [cP]
      have hs:=repB_splice (n:=n) (k:=k) (j:=j) x (by omega) (by omega) (by omega)
      simp only [splice] at hs
      rw [hs,hcj]
      refine ⟨by omega,by omega,cB_all _,k+j,by omega,by omega,?_,Heap.le_refl _⟩
      rw [wk_int,i64_id (by omega) (by omega)];simp
    · have e:k=n:=by omega
      subst e
      have e2:repB k k x=List.replicate k x:=by simp [repB]
      rw [e2]
      have:=h r hr
      rw [rowP,List.length_replicate] at this
      exact this
  by_cases h0:n=0
  · subst h0
    rw [if_pos (by simp)]
    exact go 0 (.inl ⟨rfl,rfl⟩)
  · have e1:min 1 n=1:=by omega
    have e2:List.take 1 [[PV.bool x]]=[[PV.bool x]]:=rfl
    rw [e1,if_neg (by decide),e2]
    have g:=go 1 (.inr ⟨by omega,by omega⟩)
    have e3:(List.map AV.p [[PV.bool x]].flatten++List.drop [[PV.bool x]].flatten.length (zerosA n [AV.p (PV.bool false)]))=cP fB (repB n 1 x):=by
      obtain ⟨m,rfl⟩:∃m,n=m+1:=⟨n - 1,by omega⟩
      rw [zerosA_succ,cB_rep]
      simp [repB,cP]
    rw [e3]
    refine ⟨fun e he=>?_,?_,rfl,g⟩
    · rw [List.mem_singleton] at he;rw [he];rfl
    · rw [cB_rep];simp [cP];omega
theorem Backward_spec {v:AV} {H:Heap} {K:AV→Heap→Prop} {q n:Nat} (h:∀r,H r=none→K (.fn 159 [.ptr r 0]) (H.set r [.sl q 1 0 n])):CallT Try.prog 150 [.sl q 1 0 n] H K:=by
  refine W150_ok ?_;simp (maxSteps:=1000000) (disch:=first | assumption | (apply ν6;assumption)) only [W150,vz,vu,vv,eqS,eF_,↓c1_,↓c2_,tabs,reduceCtorEq,ι5,↓reduceIte,ν1,ν2,ν3,ν4,ν5,ι1,ι2,ι3,ι4]
  exact h
theorem row_setB {row:List Bool} {k:Nat} {b:Bool} (h:k < row.length):List.take (k*1) (cP fB row)++[B b]++List.drop (k*1+1) (cP fB row)=cP fB (row.set k b):=by
  rw [Nat.mul_one,cP,cP,List.map_set,List.set_eq_take_append_cons_drop,if_pos (by simpa using h)];simp
abbrev xB (l:List Bool):List PV:=[.sl (l.map eBo)]
theorem fin_B {H G:Heap} {Ts:List Th} {q:Nat} {l:List Bool} (s:St H Ts G) (i:Nat) (hi:Ts[i]?=some (cellT q (cP fB l))):wkK (fun r H'=>r=.p (.sl (l.map eBo))∧H'=H) (rowP q l) G:=by
  have:=fin_own (sz:=1) (es:=l.map eBo) (q:=q) (H:=H) (H':=G) (K:=fun r H'=>r=.p (.sl (l.map eBo))∧H'=H) (by omega) (sizedMap (f:=eBo) (fun _=>rfl) l) (s.fr _ (List.mem_of_getElem? hi) q (by simp [cellT])) (fun y b hy=>by
    by_cases e:y=q
    · subst e;rw [Heap.set_same] at hy;rw [← hy];have h1:G y=some (cP fB l):=s.get i hi;rw [h1];exact congrArg some (cells_P fB l).symm
    · rw [Heap.set_other e] at hy;exact s.le y b hy) ⟨rfl,rfl⟩
  simpa only [Go.Sep.own,List.length_map] using this
def turnK (nx:Nat→Nat) (r:Nat→Bool→Bool) (n:Nat) (b:Bool):Nat→List Bool
  | 0=>List.replicate n b
  | i+1=>sweepK nx r (dnK n) (turnK nx r n b i)
theorem turnK_len (nx:Nat→Nat) (r:Nat→Bool→Bool) (n:Nat) (b:Bool):∀i,(turnK nx r n b i).length=n
  | 0=>by simp [turnK]
  | i+1=>by rw [turnK,sweepK_len];exact turnK_len nx r n b i
theorem nxW_lt {s l:List Int} {k:Nat} (h:1≤l.length):nxW s l k < s.length+l.length:=by unfold nxW;split<;>omega
theorem cB_len (row:List Bool):(cP fB row).length=row.length:=by simp [cP]
theorem cB_get {row:List Bool} {k:Nat} (h:k < row.length):((((cP fB row).drop (k*1)).take 1).headD .any)=B (row.getD k default):=by rw [Nat.mul_one];exact read_row (f:=fB) default h
theorem fixed_spec (s l:List Int) (h1:s.length≤24) (h2:1≤l.length∧l.length≤24) (b:Bool) (f0:Nat) (caps:List AV) (r:Nat→Bool→Bool) {H:Heap}
    (hr:∀{k:Nat} {nb:Bool} {G:Heap} {K:AV→Heap→Prop},k < s.length+l.length→Heap.le H G→K (B (r k nb)) G→callF Try.prog (.fn f0 caps) [I k,B nb] G K)
    {K:AV→Heap→Prop} (h:K (.p (.sl ((fixR (nxW s l) (s.length+l.length) b r).map eBo))) H):CallT Try.prog 130 [aL2 s l,B b,.fn f0 caps] H K:=by
  refine CallT.fin ?_
  have en:IntKind.i64.wrap ((s.length:Int)+(l.length:Int))=((s.length+l.length:Nat):Int):=by rw [i64_id (by omega) (by omega)];simp
  refine W130_ok ?_;simp (maxSteps:=1000000) (disch:=first | assumption | (apply ν6;assumption)) only [W130,vz,vu,vv,eqS,eF_,↓c1_,↓c2_,tabs,reduceCtorEq,ι5,↓reduceIte,ν1,ν2,ν3,ν4,ν5,ι1,ι2,ι3,ι4,en]
  intro r3 hr3 r5 n5 hr5
  have st:=((St.nil H).cell hr3 [Is s,Is l]).cell (r:=r5) (by rw [Heap.set_other n5];exact hr5) [.fn f0 caps]
  generalize (H.set r3 [Is s,Is l]).set r5 [.fn f0 caps]=G at st ⊢
  clear hr3 n5 hr5
  refine lit1 tab_76 rfl tab_4 ⟨rfl,rfl⟩ ?_
  (try simp (maxSteps:=1000000) (disch:=first | assumption | (apply ν6;assumption)) only [vz,vu,vv,eqS,eF_,↓c1_,↓c2_,tabs,reduceCtorEq,ι5,↓reduceIte,ν1,ν2,ν3,ν4,ν5,ι1,ι2,ι3,ι4,load_at (st.get 1 rfl),en])
  refine RepeatB_row b (s.length+l.length) (by omega) fun q hq=>?_
  replace st:=st.cell hq (cP fB (List.replicate (s.length+l.length) b))
  generalize G.set q (cP fB (List.replicate (s.length+l.length) b))=G1 at st ⊢
  (try simp (maxSteps:=1000000) (disch:=first | assumption | (apply ν6;assumption)) only [vz,vu,vv,eqS,eF_,↓c1_,↓c2_,tabs,reduceCtorEq,ι5,↓reduceIte,ν1,ν2,ν3,ν4,ν5,ι1,ι2,ι3,ι4])
  intro r7 hr7
  replace st:=st.cell hr7 [rowP q (List.replicate (s.length+l.length) b)]
  generalize G1.set r7 [rowP q (List.replicate (s.length+l.length) b)]=G2 at st ⊢
  generalize hN:s.length+l.length=N at st hr h
  have hN1:1≤N:=by omega
  have e0:rowP q (List.replicate N b)=.sl q 1 0 N:=by simp [rowP]
  rw [e0] at st
  clear e0 hr7 hq
  refine L130_0_rule ((0:Nat),G2) (fun s=>I s.1) (fun s=>s.2) (fun t=>t.1≤2∧St H [cellT r7 [.sl q 1 0 N],cellT q (cP fB (turnK (nxW s l) r N b t.1)),cellT r5 [.fn f0 caps],cellT r3 [Is s,Is l]] t.2) (fun s=>2 - s.1)
    ⟨⟨by simp,st⟩,.refl _,Heap.le_refl _⟩ ?_
  clear st G2
  rintro ⟨i,G2⟩ ⟨hi,st⟩
  dsimp only at hi st
  have hlen:=turnK_len (nxW s l) r N b i
  have e5:IntKind.i64.wrap ((i:Int)+1)=((i+1:Nat):Int):=by rw [i64_id (by omega) (by omega)];simp
  (try simp (maxSteps:=1000000) (disch:=first | assumption | (apply ν6;assumption)) only [vz,vu,vv,eqS,eF_,↓c1_,↓c2_,tabs,reduceCtorEq,ι5,↓reduceIte,ν1,ν2,ν3,ν4,ν5,ι1,ι2,ι3,ι4,B130_0,load_at (st.get 0 rfl),load_at (st.get 1 rfl),load_at (st.get 2 rfl)])
  refine ⟨fun h3=>?_,fun h3=>?_⟩
  · refine Backward_spec (v:=.any) fun bx hbx=>?_
    replace st:=st.cell hbx [.sl q 1 0 N]
    generalize G2.set bx [.sl q 1 0 N]=G3 at st ⊢
    generalize hrow:turnK (nxW s l) r N b i=row at st hlen
    refine R130_1_rule 159 bx q N (fun ks H'=>St H [cellT bx [.sl q 1 0 N],cellT r7 [.sl q 1 0 N],cellT q (cP fB (sweepK (nxW s l) r ks row)),cellT r5 [.fn f0 caps],cellT r3 [Is s,Is l]] H') bw_ok rfl ⟨by omega,by omega⟩ st ?_ ?_ ?_
    · intro ks H' hs
      exact ⟨hs.get 0 rfl,sweepK (nxW s l) r ks row,hs.get 2 rfl,by rw [sweepK_len,hlen]⟩
    · intro ks j H' hj hs
      have hl2:(sweepK (nxW s l) r ks row).length=N:=by rw [sweepK_len,hlen]
      generalize hrow2:sweepK (nxW s l) r ks row=row2 at hs hl2
      (try simp (maxSteps:=1000000) (disch:=first | assumption | (apply ν6;assumption)) only [vz,vu,vv,eqS,eF_,↓c1_,↓c2_,tabs,reduceCtorEq,ι5,↓reduceIte,ν1,ν2,ν3,ν4,ν5,ι1,ι2,ι3,ι4,RB130_1,load_at (hs.get 1 rfl),load_at (hs.get 3 rfl),load_at (hs.get 4 rfl)])
      refine Pu.use (nextPlace_spec s l h1 h2 (by omega:j < s.length+l.length)) ?_
      have hnx:nxW s l j < N:=by rw [← hN];exact nxW_lt h2.1
      have hsw:sweepK (nxW s l) r (ks++[j]) row=row2.set j (r j (row2.getD (nxW s l j) default)):=by rw [sweepK_snoc,hrow2];rfl
      have hc2:(cP fB row2).length=N:=by rw [cB_len,hl2]
      have hg2:=cB_get (row:=row2) (k:=nxW s l j) (by omega)
      have hset:=row_setB (row:=row2) (k:=j) (b:=r j (row2.getD (nxW s l j) default)) (by omega)
      generalize nxW s l j=m at hnx hsw hg2 hset ⊢
      (try simp (maxSteps:=1000000) (disch:=first | assumption | (apply ν6;assumption)) only [vz,vu,vv,eqS,eF_,↓c1_,↓c2_,tabs,reduceCtorEq,ι5,↓reduceIte,ν1,ν2,ν3,ν4,ν5,ι1,ι2,ι3,ι4,load_at (hs.get 1 rfl),load_at (hs.get 2 rfl),load_at (hs.get 3 rfl),load_at (hs.get 4 rfl),hc2,hg2])
      refine ⟨by omega,by omega,by omega,?_⟩
      have hcall:=fun {K:AV→Heap→Prop}=>hr (K:=K) (nb:=row2.getD m default) hj hs.le
      simp only [callF,List.cons_append,List.nil_append] at hcall
      refine hcall ?_
      (try simp (maxSteps:=1000000) (disch:=first | assumption | (apply ν6;assumption)) only [vz,vu,vv,eqS,eF_,↓c1_,↓c2_,tabs,reduceCtorEq,ι5,↓reduceIte,ν1,ν2,ν3,ν4,ν5,ι1,ι2,ι3,ι4,load_at (hs.get 1 rfl),load_at (hs.get 2 rfl),store_at (hs.get 2 rfl),hc2,hset])
      refine ⟨by omega,by omega,by omega,?_⟩
      rw [hsw]
      exact hs.put 2 rfl _
    · intro H' hs
      (try simp (maxSteps:=1000000) (disch:=first | assumption | (apply ν6;assumption)) only [vz,vu,vv,eqS,eF_,↓c1_,↓c2_,tabs,reduceCtorEq,ι5,↓reduceIte,ν1,ν2,ν3,ν4,ν5,ι1,ι2,ι3,ι4,e5])
      refine ⟨(i+1,H'),⟨by simp only;omega,?_⟩,by simp only;omega,.refl _,Heap.le_refl _⟩
      rw [turnK,hrow]
      exact hs.drop
  · have:i=2:=by omega
    subst this
    have hf:=fin_B st 1 rfl
    rw [rowP,hlen] at hf
    obtain ⟨v,H2,w,rfl,rfl⟩:=hf
    exact ⟨_,_,w,h⟩
end Go.Proofs.Ytjdhigcefkihiaa
