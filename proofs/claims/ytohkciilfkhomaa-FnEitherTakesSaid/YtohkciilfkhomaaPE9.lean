/- Texts laid together: Tg0 Tg1 Tg2 Tg4 Tg5 Tj2 Tg6. -/
import Derived.Test.YtohkciilfkhomaaPE8
set_option linter.unusedVariables false
set_option linter.unusedSimpArgs false
open Nat renaming reduceAdd→ν1,reduceLeDiff→ν2,reduceLT→ν3,reduceMul→ν4,reduceSub→ν5
open Int renaming reduceToNat→ι1,reduceSub→ι2,reduceAdd→ι3,reduceNeg→ι4
open Array renaming toList→ι5
open Ne renaming symm→ν6
open List renaming forall_mem_cons→ν7
namespace Go.Proofs.Ytohkciilfkhomaa
open Go Go.Sep Go.Pt
attribute [local irreducible] CallT
abbrev U64 (n:Int):AV:=.p (.int .u64 n)
theorem and32 (n:Nat) (hn:n < 4294967296):bitsI .and .u64 (n:Int) 4294967295=n:=by
  have h:(BitVec.ofInt IntKind.u64.bits (n:Int) &&& BitVec.ofInt IntKind.u64.bits 4294967295).toNat=n:=by
    rw [BitVec.toNat_and]
    have e1:(BitVec.ofInt IntKind.u64.bits (n:Int)).toNat=n:=by
      rw [BitVec.toNat_ofInt]
      show ((n:Int) % 18446744073709551616).toNat=n
      omega
    have e2:(BitVec.ofInt IntKind.u64.bits 4294967295).toNat=2^32 - 1:=by decide
    rw [e1,e2,Nat.and_two_pow_sub_one_eq_mod,Nat.mod_eq_of_lt hn]
  simp only [bitsI,h]
  rw [IntKind.wrap_u64];omega
theorem shr32 (n:Nat) (hn:n < 4294967296):(n:Int).fdiv (2^min 32 IntKind.u64.bits)=0:=by
  show (n:Int).fdiv (2^32)=0
  rw [Int.fdiv_eq_ediv_of_nonneg _ (by decide)]
  omega
theorem u64_id {n:Int} (h0:0≤n) (h1:n < 18446744073709551616):IntKind.u64.wrap n=n:=by rw [IntKind.wrap_u64];omega
theorem Mul64_one (n:Nat) (hn:n≤1000000000):Pu Try.prog 101 [U64 1,U64 n] (.tup [U64 0,U64 n]):=by
  refine Pu.of fun H=>?_
  have a1:=and32 n (by omega)
  have a2:bitsI .and .u64 1 4294967295=1:=and32 1 (by omega)
  have a3:bitsI .and .u64 0 4294967295=0:=and32 0 (by omega)
  have s1:=shr32 n (by omega)
  have s2:Int.fdiv 1 (2^min 32 IntKind.u64.bits)=0:=shr32 1 (by omega)
  have s3:Int.fdiv 0 (2^min 32 IntKind.u64.bits)=0:=shr32 0 (by omega)
  have w0:IntKind.u64.wrap 0=0:=u64_id (by omega) (by omega)
  have wn:IntKind.u64.wrap (n:Int)=n:=u64_id (by omega) (by omega)
  refine W101_ok ?_;simp (maxSteps:=1000000) (disch:=first | assumption | (apply ν6;assumption)) only [W101,vz,vu,vv,eqS,eF_,↓c1_,↓c2_,tabs,reduceCtorEq,ι5,↓reduceIte,ν1,ν2,ν3,ν4,ν5,ι1,ι2,ι3,ι4,a1,a2,s1,s2,s3,Int.zero_mul,Int.one_mul,Int.mul_zero,Int.zero_add,Int.add_zero,w0,wn,a3]
  simp
theorem Mul_one (n:Nat) (hn:n≤1000000000):Pu Try.prog 88 [U64 1,U64 n] (.tup [U64 0,U64 n]):=by
  refine Pu.of fun H=>?_
  refine W88_ok ?_;simp (maxSteps:=1000000) (disch:=first | assumption | (apply ν6;assumption)) only [W88,vz,vu,vv,eqS,eF_,↓c1_,↓c2_,tabs,reduceCtorEq,ι5,↓reduceIte,ν1,ν2,ν3,ν4,ν5,ι1,ι2,ι3,ι4]
  refine Pu.use (Mul64_one n hn) ?_
  (try simp (maxSteps:=1000000) (disch:=first | assumption | (apply ν6;assumption)) only [vz,vu,vv,eqS,eF_,↓c1_,↓c2_,tabs,reduceCtorEq,ι5,↓reduceIte,ν1,ν2,ν3,ν4,ν5,ι1,ι2,ι3,ι4])
  first | done | exact ⟨rfl,Heap.le_refl _⟩ | exact Heap.le_refl _
def repA (n k:Nat) (x:Int):List Int:=List.replicate k x++List.replicate (n - k) 0
theorem repA_len {n k:Nat} (x:Int) (h:k≤n):(repA n k x).length=n:=by simp [repA];omega
theorem cP_rep (n:Nat):zerosA n [I 0]=cP fI (List.replicate n 0):=by
  induction n with
  | zero=>rfl
  | succ n ih=>rw [zerosA_succ,ih,List.replicate_succ];rfl
theorem repA_splice {n k j:Nat} (x:Int) (hk:k≤n) (hj:j≤k) (hkj:k+j≤n):splice (cP fI (repA n k x)) k (cP fI (List.replicate j x))=cP fI (repA n (k+j) x):=by
  unfold splice repA
  rw [cP,cP,cP,← List.map_take,← List.map_drop,← List.map_append,← List.map_append]
  congr 1
  rw [List.take_left' (by simp),List.length_map,List.length_replicate]
  have e1:List.replicate k x++List.replicate j x=List.replicate (k+j) x:=by rw [List.replicate_append_replicate]
  rw [e1]
  congr 1
  rw [List.drop_append,List.drop_of_length_le (by simp),List.nil_append,List.drop_replicate,List.length_replicate]
  congr 1
  omega
theorem repA_take {n k j:Nat} (x:Int) (hj:j≤k):List.take j (cP fI (repA n k x))=cP fI (List.replicate j x):=by
  unfold repA
  rw [cP,cP,← List.map_take]
  congr 1
  rw [List.take_append_of_le_length (by simpa using hj),List.take_replicate,Nat.min_eq_left hj]
theorem cP_all (l:List Int):(cP fI l).all AV.isCell=true:=by
  rw [List.all_eq_true]
  intro c hc
  obtain ⟨x,_,rfl⟩:=List.mem_map.1 hc
  rfl
theorem Repeat_row (x:Int) (n:Nat) (hn:n≤1000000) {H:Heap} {K:AV→Heap→Prop} (h:∀q,H q=none→K (rowP q (List.replicate n x)) (H.set q (cP fI (List.replicate n x)))):CallT Try.prog 78 [Is [x],I n] H K:=by
  have wn:IntKind.u64.wrap (n:Int)=n:=u64_id (by omega) (by omega)
  have w1:IntKind.u64.wrap ((1:Nat):Int)=1:=u64_id (by omega) (by omega)
  have en:IntKind.i64.wrap (n:Int)=n:=i64_id (by omega) (by omega)
  have n0:¬(n:Int) < 0:=by omega
  have nb:¬(n:Int) > 9223372036854775807:=by omega
  refine W78_ok ?_;simp (maxSteps:=1000000) (disch:=first | assumption | (apply ν6;assumption)) only [W78,vz,vu,vv,eqS,eF_,↓c1_,↓c2_,tabs,reduceCtorEq,ι5,↓reduceIte,ν1,ν2,ν3,ν4,ν5,ι1,ι2,ι3,ι4,wn,w1,n0,decide_false]
  refine Pu.use (Mul_one n (by omega)) ?_
  (try simp (maxSteps:=1000000) (disch:=first | assumption | (apply ν6;assumption)) only [vz,vu,vv,eqS,eF_,↓c1_,↓c2_,tabs,reduceCtorEq,ι5,↓reduceIte,ν1,ν2,ν3,ν4,ν5,ι1,ι2,ι3,ι4,nb,en,makeSliceV,Int.lt_irrefl,decide_false,gt_iff_lt,copyV,slenV,cutV,srcV])
  refine ⟨by omega,by omega,by omega,by omega,fun r hr=>?_⟩
  have go:∀k:Nat,(k=0∧n=0∨1≤k∧k≤n)→L78_0 K (.sl r 1 0 n) (I k) (H.set r (cP fI (repA n k x))):=by
    intro k hk
    refine L78_0_rule k (fun k=>I k) (fun k=>H.set r (cP fI (repA n k x))) (fun k=>k=0∧n=0∨1≤k∧k≤n) (fun k=>n - k) ⟨hk,.refl _,Heap.le_refl _⟩ ?_
    clear hk k
    intro k hk
    have hl:=repA_len x (show k≤n by omega)
    have hc:(cP fI (repA n k x)).length=n:=by rw [cP,List.length_map,hl]
    (try simp (maxSteps:=1000000) (disch:=first | assumption | (apply ν6;assumption)) only [vz,vu,vv,eqS,eF_,↓c1_,↓c2_,tabs,reduceCtorEq,ι5,↓reduceIte,ν1,ν2,ν3,ν4,ν5,ι1,ι2,ι3,ι4,B78_0,copyV,slenV,cutV,srcV,load_at (Heap.set_same H r _),hc])
    refine ⟨fun h1=>⟨by omega,by omega,by omega,?_⟩,fun h1=>?_⟩
    · refine ⟨by omega,by omega,by omega,?_⟩
      have em:((n:Int) - (k:Int)).toNat=n - k:=by omega
      rw [em]
      obtain ⟨j,hj⟩:∃j,min k (n - k)=j:=⟨_,rfl⟩
      rw [hj,if_neg (by omega),Nat.mul_one,repA_take x (by omega),Nat.mul_one]
      have hcj:(cP fI (List.replicate j x)).length=j:=by simp [cP]
      have hs:=repA_splice (n:=n) (k:=k) (j:=j) x (by omega) (by omega) (by omega)
      simp only [splice] at hs
      rw [hs,hcj]
      refine ⟨by omega,by omega,cP_all _,k+j,by omega,by omega,?_,Heap.le_refl _⟩
      rw [wk_int,i64_id (by omega) (by omega)];simp
    · have e:k=n:=by omega
      subst e
      have e2:repA k k x=List.replicate k x:=by simp [repA]
      rw [e2]
      have:=h r hr
      rw [rowP,List.length_replicate] at this
      exact this
  by_cases h0:n=0
  · subst h0
    rw [if_pos (by simp)]
    exact go 0 (.inl ⟨rfl,rfl⟩)
  · have e1:min 1 n=1:=by omega
    have e2:List.take 1 [[PV.int IntKind.i64 x]]=[[PV.int IntKind.i64 x]]:=rfl
    rw [e1,if_neg (by decide),e2]
    have g:=go 1 (.inr ⟨by omega,by omega⟩)
    have e3:(List.map AV.p [[PV.int IntKind.i64 x]].flatten++List.drop [[PV.int IntKind.i64 x]].flatten.length (zerosA n [AV.p (PV.int IntKind.i64 0)]))=cP fI (repA n 1 x):=by
      obtain ⟨m,rfl⟩:∃m,n=m+1:=⟨n - 1,by omega⟩
      rw [zerosA_succ,cP_rep]
      simp [repA,cP]
    rw [e3]
    refine ⟨fun e he=>?_,?_,rfl,g⟩
    · rw [List.mem_singleton] at he;rw [he];rfl
    · rw [cP_rep];simp [cP];omega
def nI (l:List Nat):List Int:=l.map fun (x:Nat)=>(x:Int)
def gI (g:List (List Nat)):List (List Int):=g.map nI
theorem nI_len (l:List Nat):(nI l).length=l.length:=by simp [nI]
theorem gI_len (g:List (List Nat)):(gI g).length=g.length:=by simp [gI]
theorem nI_get {l:List Nat} {j:Nat} (h:j < l.length):(nI l).getD j default=((l.getD j 0:Nat):Int):=by simp [nI,List.getD,h]
theorem gI_get {g:List (List Nat)} {k:Nat} (h:k < g.length):(gI g).getD k default=nI (rwF g k):=by simp [gI,rwF,List.getD,h]
theorem nI_app (l m:List Nat):nI (l++m)=nI l++nI m:=by simp [nI]
theorem nI_one (x:Nat):nI [x]=[(x:Int)]:=rfl
theorem gI_set (g:List (List Nat)) (v:Nat) (r:List Nat):gI (g.set v r)=(gI g).set v (nI r):=by simp [gI,List.map_set]
theorem gI_nil (n:Nat):gI (List.replicate n [])=List.replicate n []:=by simp [gI,nI]
theorem nI_take (l:List Nat) (j:Nat):(nI l).take j=nI (l.take j):=by simp [nI,List.map_take]
theorem nI_drop (l:List Nat) (j:Nat):(nI l).drop j=nI (l.drop j):=by simp [nI,List.map_drop]
theorem nI_mem {l:List Nat} {x:Int}:x∈nI l↔∃n:Nat,n∈l∧x=n:=by
  simp only [nI,List.mem_map]
  constructor
  · rintro ⟨n,h,rfl⟩;exact ⟨n,h,rfl⟩
  · rintro ⟨n,h,rfl⟩;exact ⟨n,h,rfl⟩
theorem nI_nN {l:List Int} (h:∀x∈l,0≤x):nI (l.map Int.toNat)=l:=by
  rw [nI,List.map_map]
  conv=>rhs;rw [← List.map_id l]
  apply List.map_congr_left
  intro x hx
  have:=h x hx
  simp only [Function.comp_apply,id]
  omega
def mpI (f:Nat→Int) (n:Nat):List Int:=(List.range n).map f
theorem mpI_len (f:Nat→Int) (n:Nat):(mpI f n).length=n:=by simp [mpI]
theorem mpI_get (f:Nat→Int) {n v:Nat} (h:v < n):(mpI f n).getD v default=f v:=by simp [mpI,List.getD,h]
theorem mpI_set (f:Nat→Int) (n v:Nat) (x:Int):(mpI f n).set v x=mpI (updI f v x) n:=by
  apply List.ext_getElem
  · simp [mpI]
  · intro i h1 h2
    simp only [mpI,List.getElem_set,List.getElem_map,List.getElem_range,updI]
    by_cases e:v=i
    · subst e;simp
    · have:¬i=v:=fun k=>e k.symm
      simp [e,this]
theorem mpI_const (n:Nat) (x:Int):List.replicate n x=mpI (fun _=>x) n:=by
  apply List.ext_getElem
  · simp [mpI]
  · intro i h1 h2;simp [mpI]
theorem cI_rd {l:List Int} {i:Nat} (h:i < l.length):(List.take 1 (List.drop (i*1) (cP fI l))).headD AV.any=I (l.getD i default):=by
  rw [Nat.mul_one,cP,← List.map_drop,drop_cons h];rfl
theorem cI_set {l:List Int} {t:Nat} (h:t < l.length) (x:Int):List.take (t*1) (cP fI l)++[I x]++List.drop (t*1+1) (cP fI l)=cP fI (l.set t x):=by
  rw [List.set_eq_take_append_cons_drop,if_pos h,Nat.mul_one]
  simp [cP,List.map_take,List.map_drop]
structure GrB (g:List (List Nat)):Prop where
  ok:∀l∈g,∀x∈l,x < g.length
  n:g.length≤100000
  arcs:(prT g g.length 0).length≤500000
theorem GrB.gr {g:List (List Nat)} (h:GrB g):GrOk (rwF g) g.length:=rwF_ok h.ok
theorem prT_len_mono (g:List (List Nat)) {k m:Nat} (h:k≤m):(prT g k 0).length≤(prT g m 0).length:=by
  induction m with
  | zero=>rw [Nat.le_zero.1 h];exact Nat.le_refl _
  | succ m ih=>
    rcases Nat.lt_or_eq_of_le h with h | rfl
    · refine Nat.le_trans (ih (by omega)) ?_
      rw [← prT_next g m]
      simp only [prT,List.length_append,List.take_zero,List.map_nil,List.length_nil]
      omega
    · exact Nat.le_refl _
theorem GrB.pr {g:List (List Nat)} (h:GrB g) {k j:Nat} (hk:k < g.length) (hj:j≤(rwF g k).length):(prT g k j).length≤500000:=by
  have h1:=prT_len_mono g (k:=k+1) (m:=g.length) hk
  rw [← prT_next g k] at h1
  have h2:=h.arcs
  simp only [prT,List.length_append,List.length_map,List.length_take] at h1 h2 ⊢
  omega
theorem GrB.row {g:List (List Nat)} (h:GrB g) {k:Nat} (hk:k < g.length):(rwF g k).length≤500000:=by
  have:=h.pr hk (Nat.le_refl _)
  simp only [prT,List.length_append,List.length_map,List.length_take] at this
  omega
theorem GrB.lt {g:List (List Nat)} (h:GrB g) {k j:Nat} (hj:j < (rwF g k).length):(rwF g k).getD j 0 < g.length:=by
  refine h.gr.lt k _ ?_
  simp [List.getD,hj]
theorem lii_val {rows:List (List Int)} {x:AV} {H G:Heap} {D:List Nat} (h:LII rows x G D) (hn:New H G D):wkK (fun r H'=>r=Ls rows∧H'=H) x G:=by
  obtain ⟨q,rfl⟩:=LRow.sl h
  obtain ⟨G',w,f⟩:=LRow.frzV (e:=eL) (sz:=1) (v:=.sl q 1 0 rows.length) (v':=Ls rows) (by omega) (fun _=>rfl) LIc.local LIc.frz h hn.nd (fun q _ hr=>hr)
  refine ⟨_,H,.trans w (.forget fun y b hb=>?_),rfl,rfl⟩
  rw [f y (fun hy=>by rw [hn.fr y hy] at hb;cases hb)]
  exact hn.le y b hb
theorem tab_push {H G:Heap} {Ts:List Th} {q:Nat} {rows:List (List Int)} {D:List Nat} (s:St H Ts G) (i:Nat) (hi:Ts[i]?=some (tabT q rows D)) {w n:Nat} (hn:rows.length=n) (hw:w < n) (x:Int) (hl:(rows.getD w default).length≤900000) {K:Heap→Prop}
    (h:∀G' D',St H (Ts.set i (tabT q (rows.set w (rows.getD w default++[x])) D')) G'→K G') :
    0≤(w:Int)∧(w:Int) < (n:Int)∧loadV tab 24 (.ptr q ((w:Int).toNat*1)) G fun v=>buildSliceV tab 24 1 [(0,I x)] G (wkK fun u H2=>appendV tab 24 24 v u H2 (wkK fun z H3=>
      0≤(w:Int)∧(w:Int) < (n:Int)∧storeV tab 24 (.ptr q ((w:Int).toNat*1)) z H3 K)):=by
  have hlt:=(List.getElem?_eq_some_iff.1 hi).1
  have hwr:w < rows.length:=by omega
  obtain ⟨pre,c,post,Di,Dr,hpl2,hpp,st⟩:=tab_take s i hi hwr
  have hG:=(st.get 1 rfl:(holeT q pre c post _ _ Dr).P G).1
  have hrd:=tab_rd (c:=c) (post:=post) hpl2
  have hb:w*1+1≤pre.length+(post.length+1):=by omega
  have hsp:∀c',List.take (w*1) (pre++(c::post))++[c']++List.drop (w*1+1) (pre++(c::post))=pre++(c'::post):=fun c'=>tab_sp hpl2
  refine ⟨by omega,by omega,?_⟩
  (try simp (maxSteps:=1000000) (disch:=first | assumption | (apply ν6;assumption)) only [vz,vu,vv,eqS,eF_,↓c1_,↓c2_,tabs,reduceCtorEq,ι5,↓reduceIte,ν1,ν2,ν3,ν4,ν5,ι1,ι2,ι3,ι4,load_at hG,hrd,Int.toNat_natCast])
  refine ⟨hb,?_⟩
  refine lit1 tab_24 rfl tab_3 ⟨rfl,rfl⟩ ?_
  refine rn_appI (ys:=[x]) st 0 rfl (by simp only [List.length_cons,List.length_nil];omega) fun q' G' hq' st=>?_
  simp only [List.set_cons_zero] at st
  have hG:=(st.get 1 rfl:(holeT q pre c post _ _ Dr).P G').1
  refine ⟨by omega,by omega,?_⟩
  (try simp (maxSteps:=1000000) (disch:=first | assumption | (apply ν6;assumption)) only [vz,vu,vv,eqS,eF_,↓c1_,↓c2_,tabs,reduceCtorEq,ι5,↓reduceIte,ν1,ν2,ν3,ν4,ν5,ι1,ι2,ι3,ι4,store_at hG])
  refine ⟨hb,?_⟩
  obtain ⟨D',st⟩:=tab_put st hwr
  rw [hsp]
  simp only [rowP,List.length_append,List.length_singleton] at st
  exact h _ D' (st.perm (perm_set Ts i hlt _).symm)
end Go.Proofs.Ytohkciilfkhomaa
namespace Go.Proofs.Ytohkciilfkhomaa
open Go Go.Sep Go.Pt
attribute [local irreducible] CallT
theorem sp_spec.l11Turn (g:List (List Nat)) (hg:GrB g):Pu Try.prog 85 [Ls (gI g)] (Ls (gI (turnG g))):=by
  refine ⟨fun H=>CallT.finish ?_⟩
  have hn:=hg.n
  have hgl:=gI_len g
  refine W85_ok ?_;simp (maxSteps:=1000000) (disch:=first | assumption | (apply ν6;assumption)) only [W85,vz,vu,vv,eqS,eF_,↓c1_,↓c2_,tabs,reduceCtorEq,ι5,↓reduceIte,ν1,ν2,ν3,ν4,ν5,ι1,ι2,ι3,ι4,makeSliceV,hgl]
  refine ⟨by omega,by omega,by omega,by omega,fun q hq=>?_⟩
  have st:=tab_new (n:=g.length) (St.nil H) (q:=q) hq
  rw [← gI_nil,← tabP_nil g.length,← prT_zero g] at st
  generalize H.set q (zerosA g.length [.p .nil])=G1 at st ⊢
  refine L85_0_rule ((0:Nat),[q],G1) (fun s=>I s.1) (fun s=>s.2.2) (fun s=>s.1≤g.length∧St H [tabT q (gI (tabP g.length (prT g s.1 0))) s.2.1] s.2.2) (fun s=>g.length - s.1)
    ⟨⟨by simp,st⟩,.refl _,Heap.le_refl _⟩ ?_
  clear st
  rintro ⟨k,D,G⟩ ⟨hk,st⟩
  dsimp only at hk st
  (try simp (maxSteps:=1000000) (disch:=first | assumption | (apply ν6;assumption)) only [vz,vu,vv,eqS,eF_,↓c1_,↓c2_,tabs,reduceCtorEq,ι5,↓reduceIte,ν1,ν2,ν3,ν4,ν5,ι1,ι2,ι3,ι4,B85_0,hgl])
  refine ⟨fun h1=>?_,fun h1=>?_⟩
  · have hlt:k < g.length:=by omega
    have hrl:=hg.row hlt
    refine ⟨by omega,h1,?_⟩
    rw [gI_get hlt]
    have hrn:=nI_len (rwF g k)
    (try simp (maxSteps:=1000000) (disch:=first | assumption | (apply ν6;assumption)) only [vz,vu,vv,eqS,eF_,↓c1_,↓c2_,tabs,reduceCtorEq,ι5,↓reduceIte,ν1,ν2,ν3,ν4,ν5,ι1,ι2,ι3,ι4,hrn])
    refine L85_1_rule ((0:Nat),D,G) (fun s=>I s.1) (fun s=>s.2.2) (fun s=>s.1≤(rwF g k).length∧St H [tabT q (gI (tabP g.length (prT g k s.1))) s.2.1] s.2.2) (fun s=>(rwF g k).length - s.1)
      ⟨⟨by simp,st⟩,.refl _,Heap.le_refl _⟩ ?_
    clear st D
    rintro ⟨j,D,G⟩ ⟨hj,st⟩
    dsimp only at hj st
    (try simp (maxSteps:=1000000) (disch:=first | assumption | (apply ν6;assumption)) only [vz,vu,vv,eqS,eF_,↓c1_,↓c2_,tabs,reduceCtorEq,ι5,↓reduceIte,ν1,ν2,ν3,ν4,ν5,ι1,ι2,ι3,ι4,B85_1,hrn])
    refine ⟨fun h2=>?_,fun h2=>?_⟩
    · have hlj:j < (rwF g k).length:=by omega
      refine ⟨by omega,h2,?_⟩
      rw [nI_get hlj]
      have hw:=hg.lt hlj
      have hps:=prT_succ g hlj
      have hsn:=tabP_snoc (n:=g.length) (prT g k j) k hw
      have hrw:=rowP'_len (prT g k j) ((rwF g k).getD j 0)
      have hpl:=hg.pr hlt hj
      rw [← hps] at hsn
      generalize (rwF g k).getD j 0=w at hw hps hsn hrw ⊢
      have htl:(gI (tabP g.length (prT g k j))).length=g.length:=by rw [gI_len,tabP_len]
      have hget:(gI (tabP g.length (prT g k j))).getD w default=nI (rowP' (prT g k j) w):=by rw [gI_get (by rw [tabP_len];exact hw),rwF,tabP_get _ hw]
      refine tab_push st 0 rfl htl hw k (by rw [hget,nI_len];omega) fun G' D' st=>?_
      rw [hget,← nI_one,← nI_app,← gI_set,← hsn] at st
      refine ⟨(j+1,D',G'),⟨by simp only;omega,st⟩,by simp only;omega,?_,Heap.le_refl _⟩
      rw [wk_int,i64_id (by omega) (by omega)];simp
    · have:j=(rwF g k).length:=by omega
      subst this
      rw [prT_next] at st
      refine ⟨(k+1,D,G),⟨by simp only;omega,st⟩,by simp only;omega,?_,Heap.le_refl _⟩
      rw [wk_int,i64_id (by omega) (by omega)];simp
  · have:k=g.length:=by omega
    subst this
    rw [turnG_eq] at st
    have e:(gI (turnG g)).length=g.length:=by rw [gI_len,turnG_len]
    rw [← e]
    exact tab_whole (fun G D s=>.ofWkK (lii_val (s.get 0 rfl) ⟨s.ndT 0 rfl,s.fr _ (List.mem_cons_self ..),s.le⟩)) st
end Go.Proofs.Ytohkciilfkhomaa
namespace Go.Proofs.Ytohkciilfkhomaa
open Go Go.Sep Go.Pt
attribute [local irreducible] CallT
theorem app_off {q:Nat} {J Q ys:List Int} {G:Heap} {K:AV→Heap→Prop} (hq:G q=some (cP fI (J++Q))) (hl:Q.length+ys.length≤1000000000)
    (h:∀q',G q'=none→K (rowP q' (Q++ys)) ((G.del q).set q' (cP fI (Q++ys)))):appendV tab 24 24 (.sl q 1 J.length Q.length) (Is ys) G (wkK K):=by
  simp only [appendV,tab_24,tab_3,srcV,baseV,hq]
  have e1:(J++Q).length=J.length+Q.length:=List.length_append
  have e2:(cP fI (J++Q)).length=J.length+Q.length:=by rw [cI_len,e1]
  have e3:List.take (Q.length*1) (List.drop J.length (cP fI (J++Q)))=cP fI Q:=by
    rw [cI_app,List.drop_left' (by rw [cI_len]),Nat.mul_one]
    exact List.take_of_length_le (by rw [cI_len];exact Nat.le_refl _)
  have e4:List.map AV.p (List.map eI ys).flatten=cP fI ys:=by
    have:=cells_P fI ys
    simpa [cells] using this
  have e5:(List.map eI ys).length=ys.length:=by simp
  rw [e2,e3,e4,e5]
  refine ⟨fun e he=>?_,trivial,by omega,by omega,by omega,cP_all _,fun r' hr'=>wkK.keep ?_⟩
  · obtain ⟨x,_,rfl⟩:=List.mem_map.1 he;rfl
  · have:=h r' hr'
    rw [rowP,List.length_append,cI_app] at this
    exact this
theorem st_appOff {H G:Heap} {Ts:List Th} {q:Nat} {J Q:List Int} {ys:List Int} (s:St H Ts G) (i:Nat) (hi:Ts[i]?=some (cellT q (cP fI (J++Q)))) (hl:Q.length+ys.length≤1000000000) {K:AV→Heap→Prop}
    (h:∀q' G',G q'=none→St H (Ts.set i (cellT q' (cP fI (Q++ys)))) G'→K (rowP q' (Q++ys)) G'):appendV tab 24 24 (.sl q 1 J.length Q.length) (Is ys) G (wkK K):=by
  have hq:G q=some (cP fI (J++Q)):=s.get i hi
  exact app_off hq hl fun q' hq'=>h q' _ hq' (s.moved i hi hq')
theorem st_appN {H G:Heap} {Ts:List Th} {q:Nat} {J Q:List Nat} {w m:Nat} (s:St H Ts G) (i:Nat) (hi:Ts[i]?=some (cellT q (cP fI (nI J++nI Q)))) (hm:m=Q.length) (hl:m≤900000) {K:AV→Heap→Prop}
    (h:∀q' G',G q'=none→St H (Ts.set i (cellT q' (cP fI (nI (Q++[w]))))) G'→K (.sl q' 1 0 (m+1)) G'):appendV tab 24 24 (.sl q 1 J.length m) (Is [(w:Int)]) G (wkK K):=by
  subst hm
  have:=st_appOff (K:=K) (J:=nI J) (Q:=nI Q) (ys:=[(w:Int)]) s i hi (by rw [nI_len];simp only [List.length_cons,List.length_nil];omega) fun q' G' hq' st=>by
    rw [← nI_one,← nI_app] at st ⊢
    have:=h q' G' hq' st
    rwa [rowP,nI_len,List.length_append,List.length_singleton]
  rwa [nI_len,nI_len] at this
theorem st_int {H G:Heap} {Ts:List Th} {q:Nat} {xs:List Int} (s:St H Ts G) (i:Nat) (hi:Ts[i]?=some (cellT q (cP fI xs))):wkK (fun r H'=>r=Is xs∧H'=H) (rowP q xs) G:=by
  refine fin_int (s.fr _ (List.mem_of_getElem? hi) q (by simp [cellT])) fun y b hb=>?_
  by_cases e:y=q
  · subst e
    rw [Heap.set_same] at hb
    rw [← hb];exact s.get i hi
  · rw [Heap.set_other e] at hb
    exact s.le y b hb
def sI0 (some:List Nat) (k:Nat) (v:Nat):Int:=if v∈some.take k then 0 else -1
theorem sI0_zero (some:List Nat):sI0 some 0=fun _=>-1:=by funext v;simp [sI0]
theorem sI0_succ {some:List Nat} {k:Nat} (h:k < some.length):updI (sI0 some k) (some.getD k 0) 0=sI0 some (k+1):=by
  funext v
  have e:some.getD k 0=some[k]:=by simp [List.getD,h]
  rw [e]
  simp only [updI,sI0,List.take_succ_eq_append_getElem h,List.mem_append,List.mem_singleton]
  by_cases h1:v=some[k]<;>by_cases h2:v∈List.take k some<;>simp [h1,h2]
theorem sI0_all (some:List Nat):sI0 some some.length=(bini some).s:=by funext v;simp [sI0,bini]
theorem fold_take_succ {α β:Type} (f:β→α→β) (b:β) {l:List α} {j:Nat} [Inhabited α] (h:j < l.length):(l.take (j+1)).foldl f b=f ((l.take j).foldl f b) (l.getD j default):=by
  rw [take_succ_snoc h,List.foldl_append];rfl
theorem bstep_cons {row:Nat→List Nat} {b:BS} {k:Nat} {q:List Nat} (h:b.q=k::q):bstep row b=(row k).foldl (bput (b.s k+1)) ⟨b.s,q⟩:=by
  unfold bstep
  split
  · rename_i e;rw [h] at e;cases e
  · rename_i k' q' e
    rw [h] at e
    injection e with e1 e2
    subst e1 e2
    rfl
theorem sp_stepsFrom (g:List (List Nat)) (hg:GrB g) (some:List Nat) (hs:∀v∈some,v < g.length) (hsl:some.length≤100000):Pu Try.prog 60 [Ls (gI g),Is (nI some)] (Is (mpI (farF (rwF g) g.length some) g.length)):=by
  refine ⟨fun H=>CallT.fin ?_⟩
  have hn:=hg.n
  have hgl:=gI_len g
  have hil:=nI_len some
  have hrow:=hg.gr.lt
  refine W60_ok ?_;simp (maxSteps:=1000000) (disch:=first | assumption | (apply ν6;assumption)) only [W60,vz,vu,vv,eqS,eF_,↓c1_,↓c2_,tabs,reduceCtorEq,ι5,↓reduceIte,ν1,ν2,ν3,ν4,ν5,ι1,ι2,ι3,ι4,hgl,hil]
  refine lit1 tab_24 rfl tab_3 ⟨rfl,rfl⟩ ?_
  refine Repeat_row (-1) g.length (by omega) fun q hq=>?_
  have st:=(St.nil H).cell hq (cP fI (List.replicate g.length (-1)))
  rw [mpI_const,← sI0_zero some] at st ⊢
  generalize H.set q (cP fI (mpI (sI0 some 0) g.length))=G1 at st ⊢
  have hml:∀f,(mpI f g.length).length=g.length:=fun f=>mpI_len f g.length
  rw [rowP,hml]
  refine CloneI_row (nI some) (by omega) fun q2 hq2=>?_
  replace st:=st.cell hq2 (cP fI (nI some))
  generalize G1.set q2 (cP fI (nI some))=G2 at st ⊢
  (try simp (maxSteps:=1000000) (disch:=first | assumption | (apply ν6;assumption)) only [vz,vu,vv,eqS,eF_,↓c1_,↓c2_,tabs,reduceCtorEq,ι5,↓reduceIte,ν1,ν2,ν3,ν4,ν5,ι1,ι2,ι3,ι4,hil])
  have rounds:∀G,St H [cellT q2 (cP fI (nI some)),cellT q (cP fI (mpI (sI0 some some.length) g.length))] G→
      L60_1 (wkK fun r H'=>r=Is (mpI (farF (rwF g) g.length some) g.length)∧H'=H) (Ls (gI g)) (.sl q 1 0 g.length) (rowP q2 (nI some)) G:=by
    intro G st
    refine L60_1_rule ((0:Nat),([]:List Nat),q2,G) (fun s=>.sl s.2.2.1 1 s.2.1.length (bst (rwF g) some s.1).q.length) (fun s=>s.2.2.2)
      (fun s=>BInv (rwF g) g.length some s.1 (bst (rwF g) some s.1)∧St H [cellT s.2.2.1 (cP fI (nI s.2.1++nI (bst (rwF g) some s.1).q)),cellT q (cP fI (mpI (bst (rwF g) some s.1).s g.length))] s.2.2.2)
      (fun s=>g.length+some.length - s.1) ⟨⟨B_ini hs,by rw [sI0_all] at st;exact st⟩,by simp [rowP,nI_len,bst,bini];exact .refl _,Heap.le_refl _⟩ ?_
    clear st G
    rintro ⟨i,J,q2,G⟩ ⟨hb,st⟩
    dsimp only at hb st
    generalize hbe:bst (rwF g) some i=b at hb st
    simp only [hbe]
    have hms:=hb.ms
    (try simp (maxSteps:=1000000) (disch:=first | assumption | (apply ν6;assumption)) only [vz,vu,vv,eqS,eF_,↓c1_,↓c2_,tabs,reduceCtorEq,ι5,↓reduceIte,ν1,ν2,ν3,ν4,ν5,ι1,ι2,ι3,ι4,B60_1])
    refine ⟨fun h1=>?_,fun h1=>?_⟩
    · obtain ⟨k,bq,hbq⟩:∃k bq,b.q=k::bq:=by
        cases e:b.q with
        | nil=>rw [e] at h1;simp at h1
        | cons k bq=>exact ⟨k,bq,rfl⟩
      have hstep:bst (rwF g) some (i+1)=bstep (rwF g) b:=by rw [bst,hbe]
      have hnxt:=B_step hrow hb (by rw [hbq];simp)
      rw [bstep_cons hbq] at hstep hnxt
      have hk0:0≤b.s k:=hb.qs k (by rw [hbq];simp)
      have hkn:=hb.lt k hk0
      have hki:=hb.hi k
      rw [hbq] at st hms
      simp only [List.length_cons] at hms
      have rdk:∀(J l:List Nat),(List.take 1 (List.drop J.length (cP fI (nI J++nI (k::l))))).headD AV.any=I k:=by
        intro J l
        have e:nI (k::l)=(k:Int)::nI l:=rfl
        rw [cI_app,List.drop_left' (by rw [cI_len,nI_len]),e];rfl
      have ln:∀(J l:List Nat),(cP fI (nI J++nI (k::l))).length=J.length+(l.length+1):=by
        intro J l;rw [cI_len,List.length_append,nI_len,nI_len,List.length_cons]
      have hrl:=hg.row hkn
      have hrn:=nI_len (rwF g k)
      have hlq:b.q.length=bq.length+1:=by rw [hbq];rfl
      (try simp (maxSteps:=1000000) (disch:=first | assumption | (apply ν6;assumption)) only [vz,vu,vv,eqS,eF_,↓c1_,↓c2_,tabs,reduceCtorEq,ι5,↓reduceIte,ν1,ν2,ν3,ν4,ν5,ι1,ι2,ι3,ι4,load_at (st.get 0 rfl),rdk,ln,hgl,hlq])
      refine ⟨by omega,by omega,by omega,by omega,by omega,?_⟩
      rw [gI_get hkn]
      (try simp (maxSteps:=1000000) (disch:=first | assumption | (apply ν6;assumption)) only [vz,vu,vv,eqS,eF_,↓c1_,↓c2_,tabs,reduceCtorEq,ι5,↓reduceIte,ν1,ν2,ν3,ν4,ν5,ι1,ι2,ι3,ι4,hrn])
      refine L60_2_rule ((0:Nat),J,q2,G) (fun s=>.sl s.2.2.1 1 s.2.1.length ((((rwF g k).take s.1).foldl (bput (b.s k+1)) ⟨b.s,bq⟩).q.length+1)) (fun s=>I s.1) (fun s=>s.2.2.2)
        (fun s=>s.1≤(rwF g k).length∧St H [cellT s.2.2.1 (cP fI (nI s.2.1++nI (k::(((rwF g k).take s.1).foldl (bput (b.s k+1)) ⟨b.s,bq⟩).q))),cellT q (cP fI (mpI (((rwF g k).take s.1).foldl (bput (b.s k+1)) ⟨b.s,bq⟩).s g.length))] s.2.2.2)
        (fun s=>(rwF g k).length - s.1) ⟨⟨by simp,st⟩,.refl _,.refl _,Heap.le_refl _⟩ ?_
      clear st J q2 G
      rintro ⟨j,J,q2,G⟩ ⟨hj,st⟩
      dsimp only at hj st
      have hbr:=BRow.fold (n:=g.length) (k:=k) (d:=b.s k+1) (b0:=⟨b.s,bq⟩) (by omega) (l:=(rwF g k).take j) fun w hw=>hrow k w (List.mem_of_mem_take hw)
      generalize hc:((rwF g k).take j).foldl (bput (b.s k+1)) ⟨b.s,bq⟩=c at hbr st
      have hcm:=hbr.ms
      simp only at hcm
      have hck:c.s k=b.s k:=hbr.old k hk0
      have e5:IntKind.i64.wrap ((j:Int)+1)=((j+1:Nat):Int):=by rw [i64_id (by omega) (by omega)];simp
      simp only [hc]
      (try simp (maxSteps:=1000000) (disch:=first | assumption | (apply ν6;assumption)) only [vz,vu,vv,eqS,eF_,↓c1_,↓c2_,tabs,reduceCtorEq,ι5,↓reduceIte,ν1,ν2,ν3,ν4,ν5,ι1,ι2,ι3,ι4,B60_2,hrn])
      refine ⟨fun h2=>?_,fun h2=>?_⟩
      · have hlj:j < (rwF g k).length:=by omega
        refine ⟨by omega,h2,?_⟩
        rw [nI_get hlj]
        have hw:=hg.lt hlj
        have hsc:=fold_take_succ (bput (b.s k+1)) ⟨b.s,bq⟩ hlj
        rw [hc] at hsc
        have edf:(rwF g k).getD j default=(rwF g k).getD j 0:=rfl
        rw [edf] at hsc
        generalize (rwF g k).getD j 0=w at hw hsc ⊢
        have rdw:=fun (f:Nat→Int) (v:Nat) (hv:v < g.length)=>(cI_rd (l:=mpI f g.length) (i:=v) (by rw [mpI_len];exact hv)).trans (by rw [mpI_get f hv])
        have lnm:∀f,(cP fI (mpI f g.length)).length=g.length:=fun f=>by rw [cI_len,mpI_len]
        have hwb:=rdw c.s w hw
        have hkb:=rdw c.s k hkn
        (try simp (maxSteps:=1000000) (disch:=first | assumption | (apply ν6;assumption)) only [vz,vu,vv,eqS,eF_,↓c1_,↓c2_,tabs,reduceCtorEq,ι5,↓reduceIte,ν1,ν2,ν3,ν4,ν5,ι1,ι2,ι3,ι4,load_at (st.get 1 rfl),lnm,hwb,Int.toNat_natCast])
        refine ⟨by omega,by omega,by omega,fun h3=>?_,fun h3=>?_⟩
        · have hsc2:bput (b.s k+1) c w=⟨updI c.s w (b.s k+1),c.q++[w]⟩:=by rw [bput,if_pos h3]
          rw [hsc2] at hsc
          have e6:IntKind.i64.wrap (b.s k+1)=b.s k+1:=i64_id (by omega) (by omega)
          (try simp (maxSteps:=1000000) (disch:=first | assumption | (apply ν6;assumption)) only [vz,vu,vv,eqS,eF_,↓c1_,↓c2_,tabs,reduceCtorEq,ι5,↓reduceIte,ν1,ν2,ν3,ν4,ν5,ι1,ι2,ι3,ι4,load_at (st.get 0 rfl),load_at (st.get 1 rfl),store_at (st.get 1 rfl),rdk,ln,lnm,hkb,hck,e6,Int.toNat_natCast])
          refine ⟨by omega,by omega,by omega,by omega,by omega,by omega,by omega,by omega,by omega,?_⟩
          have hset:=cI_set (l:=mpI c.s g.length) (t:=w) (by rw [mpI_len];exact hw) (b.s k+1)
          rw [hset,mpI_set]
          replace st:=st.put 1 rfl (cP fI (mpI (updI c.s w (b.s k+1)) g.length))
          generalize G.set q (cP fI (mpI (updI c.s w (b.s k+1)) g.length))=G2 at st ⊢
          refine lit1 tab_24 rfl tab_3 ⟨rfl,rfl⟩ ?_
          refine st_appN (w:=w) st 0 rfl (by rw [List.length_cons]) (by omega) fun q' G' hq' st=>?_
          (try simp (maxSteps:=1000000) (disch:=first | assumption | (apply ν6;assumption)) only [vz,vu,vv,eqS,eF_,↓c1_,↓c2_,tabs,reduceCtorEq,ι5,↓reduceIte,ν1,ν2,ν3,ν4,ν5,ι1,ι2,ι3,ι4,e5])
          refine ⟨(j+1,[],q',G'),⟨by simp only;omega,by simp only [hsc];exact st⟩,by simp only;omega,?_,.refl _,Heap.le_refl _⟩
          simp only [hsc,List.length_append,List.length_singleton];exact .refl _
        · have hsc2:bput (b.s k+1) c w=c:=by rw [bput,if_neg h3]
          rw [hsc2] at hsc
          (try simp (maxSteps:=1000000) (disch:=first | assumption | (apply ν6;assumption)) only [vz,vu,vv,eqS,eF_,↓c1_,↓c2_,tabs,reduceCtorEq,ι5,↓reduceIte,ν1,ν2,ν3,ν4,ν5,ι1,ι2,ι3,ι4,e5])
          refine ⟨(j+1,J,q2,G),⟨by simp only;omega,by simp only [hsc];exact st⟩,by simp only;omega,?_,.refl _,Heap.le_refl _⟩
          simp only [hsc];exact .refl _
      · have:j=(rwF g k).length:=by omega
        subst this
        rw [List.take_length] at hc
        rw [hc] at hstep hnxt
        (try simp (maxSteps:=1000000) (disch:=first | assumption | (apply ν6;assumption)) only [vz,vu,vv,eqS,eF_,↓c1_,↓c2_,tabs,reduceCtorEq,ι5,↓reduceIte,ν1,ν2,ν3,ν4,ν5,ι1,ι2,ι3,ι4])
        refine ⟨by omega,by omega,by omega,?_⟩
        refine ⟨(i+1,J++[k],q2,G),⟨by simp only [hstep];exact hnxt,?_⟩,by simp only;omega,?_,Heap.le_refl _⟩
        · have e:nI J++nI (k::c.q)=nI (J++[k])++nI c.q:=by rw [← nI_app,← nI_app];simp
          rw [e] at st
          simp only [hstep];exact st
        · have e:(((c.q.length+1:Nat):Int) - 1).toNat=c.q.length:=by omega
          simp only [hstep,List.length_append,List.length_singleton]
          rw [e];exact .refl _
    · have hq0:b.q=[]:=List.eq_nil_of_length_eq_zero (by omega)
      rw [hq0] at hms
      have hfar:=far_of (row:=rwF g) (n:=g.length) (some:=some) (i:=i) (by simp at hms;omega) (by rw [hbe];exact hq0)
      rw [hbe] at hfar
      rw [hfar]
      have:=st_int st 1 rfl
      rw [rowP,mpI_len] at this
      exact this
  refine L60_0_rule ((0:Nat),G2) (fun s=>I s.1) (fun s=>s.2) (fun s=>s.1≤some.length∧St H [cellT q2 (cP fI (nI some)),cellT q (cP fI (mpI (sI0 some s.1) g.length))] s.2) (fun s=>some.length - s.1)
    ⟨⟨by simp,st⟩,.refl _,Heap.le_refl _⟩ ?_
  clear st G2
  rintro ⟨k,G⟩ ⟨hk,st⟩
  dsimp only at hk st
  (try simp (maxSteps:=1000000) (disch:=first | assumption | (apply ν6;assumption)) only [vz,vu,vv,eqS,eF_,↓c1_,↓c2_,tabs,reduceCtorEq,ι5,↓reduceIte,ν1,ν2,ν3,ν4,ν5,ι1,ι2,ι3,ι4,B60_0,hil])
  refine ⟨fun h1=>?_,fun h1=>?_⟩
  · have hlt:k < some.length:=by omega
    refine ⟨by omega,h1,?_⟩
    rw [nI_get hlt]
    have hv:=hs (some.getD k 0) (by simp [List.getD,hlt])
    have hsc:=sI0_succ hlt
    generalize some.getD k 0=v at hv hsc ⊢
    have lnm:∀f,(cP fI (mpI f g.length)).length=g.length:=fun f=>by rw [cI_len,mpI_len]
    have e5:IntKind.i64.wrap ((k:Int)+1)=((k+1:Nat):Int):=by rw [i64_id (by omega) (by omega)];simp
    (try simp (maxSteps:=1000000) (disch:=first | assumption | (apply ν6;assumption)) only [vz,vu,vv,eqS,eF_,↓c1_,↓c2_,tabs,reduceCtorEq,ι5,↓reduceIte,ν1,ν2,ν3,ν4,ν5,ι1,ι2,ι3,ι4,store_at (st.get 1 rfl),lnm,e5,Int.toNat_natCast])
    refine ⟨by omega,by omega,by omega,?_⟩
    have hset:=cI_set (l:=mpI (sI0 some k) g.length) (t:=v) (by rw [mpI_len];exact hv) 0
    rw [hset,mpI_set,hsc]
    exact ⟨(k+1,_),⟨by simp only;omega,st.put 1 rfl (cP fI (mpI (sI0 some (k+1)) g.length))⟩,by simp only;omega,.refl _,Heap.le_refl _⟩
  · have:k=some.length:=by omega
    subst this
    exact rounds G st
end Go.Proofs.Ytohkciilfkhomaa
namespace Go.Proofs.Ytohkciilfkhomaa
open Go Go.Sep Go.Pt
attribute [local irreducible] CallT
def SK (x:AV) (l:List Nat) (G:Heap) (D:List Nat):Prop:=(x=.p .nil∧l=[]∧D=[])∨∃q J,x=.sl q 1 0 l.length∧G q=some (cP fI (nI l++J))∧D=[q]
def skT (x:AV) (l:List Nat) (D:List Nat):Th:=⟨D,fun G=>SK x l G D,by
  rintro G G' (h | ⟨q,J,h1,h2,rfl⟩) hf
  · exact .inl h
  · exact .inr ⟨q,J,h1,hf q (by simp) _ h2,rfl⟩,by
  rintro G (⟨_,_,rfl⟩ | ⟨q,J,h1,h2,rfl⟩) y hy
  · cases hy
  · rw [List.mem_singleton.1 hy,h2];simp⟩
theorem sk_app {H G:Heap} {Ts:List Th} {x:AV} {l D:List Nat} {w:Nat} (s:St H Ts G) (i:Nat) (hi:Ts[i]?=some (skT x l D)) (hl:l.length≤900000) {K:AV→Heap→Prop}
    (h:∀q' G',St H (Ts.set i (skT (.sl q' 1 0 (l.length+1)) (l++[w]) [q'])) G'→K (.sl q' 1 0 (l.length+1)) G'):appendV tab 24 24 x (Is [(w:Int)]) G (wkK K):=by
  have hk:SK x l G D:=s.get i hi
  rcases hk with ⟨rfl,rfl,rfl⟩ | ⟨q,J,rfl,hq,rfl⟩
  · refine app_nil (fs:=[eI (w:Int)]) tab_24 rfl tab_3 tab_24 rfl rfl rfl (.inl rfl) (.inl rfl) (fun e he=>by rw [List.mem_singleton.1 he];rfl) (by simp) (by simp) fun q' hq'=>?_
    refine h q' _ (s.repl i hi (skT (.sl q' 1 0 1) [w] [q']) (by simp [skT]) (fun y hy=>by simp only [skT,List.mem_singleton] at hy;subst hy;exact .inr hq') (fun y b hb _=>Heap.le_set hq' y b hb) (.inr ⟨q',[],rfl,by rw [Heap.set_same,List.append_nil];rfl,rfl⟩))
  · have:=app_off (K:=K) (J:=[]) (Q:=nI l) (ys:=[(w:Int)]) (G:=G) (q:=q)
    simp only [appendV,tab_24,tab_3,srcV,baseV,hq]
    have e2:(cP fI (nI l++J)).length=l.length+J.length:=by rw [cI_len,List.length_append,nI_len]
    have e3:List.take (l.length*1) (List.drop 0 (cP fI (nI l++J)))=cP fI (nI l):=by
      rw [cI_app,List.drop_zero,Nat.mul_one]
      exact List.take_left' (by rw [cI_len,nI_len])
    rw [e2,e3]
    refine ⟨fun e he=>?_,trivial,by omega,by simp only [List.map_cons,List.map_nil,List.length_cons,List.length_nil];omega,by simp only [List.map_cons,List.map_nil,List.length_cons,List.length_nil];omega,rfl,fun q' hq'=>wkK.keep ?_⟩
    · obtain ⟨y,_,rfl⟩:=List.mem_map.1 he;rfl
    · refine h q' _ (s.repl i hi (skT (.sl q' 1 0 (l.length+1)) (l++[w]) [q']) (by simp [skT]) (fun y hy=>by simp only [skT,List.mem_singleton] at hy;subst hy;exact .inr hq') (fun y b hb hy=>?_) (.inr ⟨q',[],by simp,?_,rfl⟩))
      · simp only [skT,List.mem_singleton] at hy
        rw [Heap.set_other (fun e=>by rw [e,hq'] at hb;cases hb),Heap.del_other hy];exact hb
      · rw [Heap.set_same,List.append_nil,nI_app,cI_app];rfl
abbrev tjC (g:List (List Nat)) (qf ql qp:Nat) (x:AV) (vs:Int):List AV:=[Ls (gI g),.sl qf 1 0 g.length,.sl ql 1 0 g.length,.sl qp 1 0 g.length,x,I vs]
abbrev tjT (g:List (List Nat)) (r qf ql qp:Nat) (s:TS) (x:AV) (D:List Nat):List Th:=
  [cellT r (tjC g qf ql qp x s.vs),cellT qf (cP fI (mpI s.fd g.length)),cellT ql (cP fI (mpI s.lw g.length)),cellT qp (cP fI (mpI s.pt g.length)),skT x s.st D]
theorem rdN (f:Nat→Int) {n v:Nat} (h:v < n):(List.take 1 (List.drop (v*1) (cP fI (mpI f n)))).headD AV.any=I (f v):=by
  rw [cI_rd (by rw [mpI_len];exact h),mpI_get f h]
theorem lnN (f:Nat→Int) (n:Nat):(cP fI (mpI f n)).length=n:=by rw [cI_len,mpI_len]
theorem setN (f:Nat→Int) {n v:Nat} (h:v < n) (x:Int):List.take (v*1) (cP fI (mpI f n))++[I x]++List.drop (v*1+1) (cP fI (mpI f n))=cP fI (mpI (updI f v x) n):=by
  rw [cI_set (by rw [mpI_len];exact h),mpI_set]
theorem nodup_len:∀(n:Nat) (l:List Nat),l.Nodup→(∀x∈l,x < n)→l.length≤n
  | 0,l,_,h=>by
    cases l with
    | nil=>simp
    | cons a l=>have:=h a (by simp);omega
  | n+1,l,hd,h=>by
    have h1:=nodup_len n (l.erase n) (hd.erase _) fun x hx=>by
      have:=(hd.mem_erase_iff).1 hx
      have:=h x this.2
      omega
    by_cases hm:n∈l
    · rw [List.length_erase_of_mem hm] at h1;omega
    · rw [List.erase_of_not_mem hm] at h1;omega
theorem TInv.st_len {E:Nat→Nat→Prop} {n:Nat} {gray:List Nat} {s:TS} (h:TInv E n gray s):s.st.length≤n:=
  nodup_len n s.st (h.stp.imp fun h e=>by rw [e] at h;omega) fun x hx=>h.fdn x ((h.stm x).1 hx).1
def minN:List Nat→Nat
  | []=>0
  | a::l=>l.foldl min a
theorem minN_snoc {l:List Nat} (h:l≠[]) (x:Nat):minN (l++[x])=min (minN l) x:=by
  cases l with
  | nil=>exact absurd rfl h
  | cons a l=>simp [minN]
theorem minN_prop (l:List Nat) (h:l≠[]):minN l∈l∧∀u∈l,minN l≤u:=by
  induction l using snocInd with
  | h0=>exact absurd rfl h
  | h1 l a ih=>
    by_cases hl:l=[]
    · subst hl;simp [minN]
    · rw [minN_snoc hl]
      obtain ⟨h1,h2⟩:=ih hl
      refine ⟨?_,fun u hu=>?_⟩
      · rcases Nat.le_total (minN l) a with k | k
        · rw [Nat.min_eq_left k];exact List.mem_append_left _ h1
        · rw [Nat.min_eq_right k];simp
      · rcases List.mem_append.1 hu with hu | hu
        · exact Nat.le_trans (Nat.min_le_left _ _) (h2 u hu)
        · rw [List.mem_singleton] at hu;subst hu;exact Nat.min_le_right _ _
theorem Min_spec (l:List Nat) (h:0 < l.length) (hl:l.length≤1000000):Pu Try.prog 103 [Is (nI l)] (I (minN l)):=by
  refine Pu.of fun H=>?_
  have hn:=nI_len l
  have h1:¬(l.length:Int) < 1:=by omega
  refine W103_ok ?_;simp (maxSteps:=1000000) (disch:=first | assumption | (apply ν6;assumption)) only [W103,vz,vu,vv,eqS,eF_,↓c1_,↓c2_,tabs,reduceCtorEq,ι5,↓reduceIte,ν1,ν2,ν3,ν4,ν5,ι1,ι2,ι3,ι4,hn,h1,decide_false]
  refine ⟨by omega,by omega,?_⟩
  rw [nI_get h]
  refine L103_0_rule (1:Nat) (fun i=>I (minN (l.take i))) (fun i=>I i) (fun _=>H) (fun i=>1≤i∧i≤l.length) (fun i=>l.length - i) ⟨⟨by omega,by omega⟩,?_,.refl _,Heap.le_refl _⟩ ?_
  · have:l.take 1=[l.getD 0 0]:=by
      cases l with
      | nil=>simp at h
      | cons a l=>rfl
    rw [this];exact .refl _
  · rintro i ⟨hi1,hi2⟩
    (try simp (maxSteps:=1000000) (disch:=first | assumption | (apply ν6;assumption)) only [vz,vu,vv,eqS,eF_,↓c1_,↓c2_,tabs,reduceCtorEq,ι5,↓reduceIte,ν1,ν2,ν3,ν4,ν5,ι1,ι2,ι3,ι4,B103_0,hn])
    refine ⟨fun h2=>?_,fun h2=>?_⟩
    · have hlt:i < l.length:=by omega
      refine ⟨by omega,h2,?_⟩
      rw [nI_get hlt]
      have hs:minN (l.take (i+1))=min (minN (l.take i)) (l.getD i 0):=by
        rw [take_succ_snoc hlt,minN_snoc (fun e=>by have h3:=congrArg List.length e;rw [List.length_take,List.length_nil] at h3;omega)];rfl
      have e5:IntKind.i64.wrap ((i:Int)+1)=((i+1:Nat):Int):=by rw [i64_id (by omega) (by omega)];simp
      have e6:(if ((l.getD i 0:Nat):Int) < ((minN (l.take i):Nat):Int) then ((l.getD i 0:Nat):Int) else ((minN (l.take i):Nat):Int))=((minN (l.take (i+1)):Nat):Int):=by
        rw [hs,Nat.min_def];split<;>split<;>omega
      (try simp (maxSteps:=1000000) (disch:=first | assumption | (apply ν6;assumption)) only [vz,vu,vv,eqS,eF_,↓c1_,↓c2_,tabs,reduceCtorEq,ι5,↓reduceIte,ν1,ν2,ν3,ν4,ν5,ι1,ι2,ι3,ι4,e5])
      refine ⟨i+1,⟨by omega,by omega⟩,by omega,?_,.refl _⟩
      rw [e6];exact .refl _
    · have:i=l.length:=by omega
      subst this
      rw [List.take_length]
      first | done | rfl | exact ⟨rfl,Heap.le_refl _⟩
theorem wkPart {q off n:Nat} {l:List Int} {G:Heap} (hq:G q=some (cP fI l)) (hb:off+n≤l.length) (vs:List AV) (w:List AV):Wk (.tup (.sl q 1 off n::vs)) G (.tup (Is ((l.drop off).take n)::vs)) (G.del q):=by
  refine Wk.frzS (es:=l.map fI) (by rw [hq,List.map_map];rfl) (.tup (.cons ?_ ?_))
  · have:=FrzS.part (r:=q) (es:=l.map fI) off n (by rw [List.length_map];exact hb)
    have e:(((l.map fI).drop off).take n).map (fun v=>[v])=((l.drop off).take n).map eI:=by rw [← List.map_drop,← List.map_take,List.map_map];rfl
    rw [e] at this
    exact this
  · induction vs with
    | nil=>exact .nil
    | cons v vs ih=>exact .cons (.same _) ih
theorem minE (a b:Int):(if b < a then b else a)=min a b:=by rw [Int.min_def];split<;>split<;>omega
theorem visit_spec (g:List (List Nat)) (hg:GrB g) {H:Heap} (r qf ql qp:Nat):∀(m:Nat) (gray:List Nat) (s:TS) (v:Nat) (x:AV) (D:List Nat) (G:Heap) (K:AV→Heap→Prop),g.length - s.vs.toNat≤m→TInv (ArcOf (rwF g)) g.length gray s→v < g.length→s.fd v=0→
    (∀y∈gray,Rch (ArcOf (rwF g)) y v)→St H (tjT g r qf ql qp s x D) G→
    (∀s' x' D' G',TInv (ArcOf (rwF g)) g.length gray s'→TPost (ArcOf (rwF g)) s s' v→St H (tjT g r qf ql qp s' x' D') G'→K (.tup []) G')→CallT Try.prog 89 [.ptr r 0,I v] G K:=by
  intro m
  induction m with
  | zero=>
    intro gray s v x D G K hm hi hv h0
    have:=cntF_lt hv h0
    have:=hi.cnt
    omega
  | succ m ih=>
    intro gray s v x D G K hm hi hv h0 hr st hK
    have hn:=hg.n
    have hcl:=cntF_lt hv h0
    have hcnt:=hi.cnt
    have hvs:=hi.vs0
    have e1:IntKind.i64.wrap (s.vs+1)=s.vs+1:=i64_id (by omega) (by omega)
    refine W89_ok ?_;simp (maxSteps:=1000000) (disch:=first | assumption | (apply ν6;assumption)) only [W89,vz,vu,vv,eqS,eF_,↓c1_,↓c2_,tabs,reduceCtorEq,ι5,↓reduceIte,ν1,ν2,ν3,ν4,ν5,ι1,ι2,ι3,ι4,load_at (st.get 0 rfl),store_at (st.get 0 rfl),e1]
    refine ⟨by omega,by omega,?_⟩
    replace st:=st.put 0 rfl (tjC g qf ql qp x (s.vs+1))
    generalize G.set r (tjC g qf ql qp x (s.vs+1))=G1 at st ⊢
    simp only [List.set_cons_zero] at st
    have hs1:=setN s.fd hv (s.vs+1)
    (try simp (maxSteps:=1000000) (disch:=first | assumption | (apply ν6;assumption)) only [vz,vu,vv,eqS,eF_,↓c1_,↓c2_,tabs,reduceCtorEq,ι5,↓reduceIte,ν1,ν2,ν3,ν4,ν5,ι1,ι2,ι3,ι4,store_at (st.get 1 rfl),lnN,mpI_len])
    refine ⟨by omega,by omega,by omega,?_⟩
    rw [hs1]
    replace st:=st.put 1 rfl (cP fI (mpI (updI s.fd v (s.vs+1)) g.length))
    generalize G1.set qf (cP fI (mpI (updI s.fd v (s.vs+1)) g.length))=G2 at st ⊢
    simp only [List.set_cons_zero,List.set_cons_succ] at st
    have hs2:=setN s.lw hv (s.vs+1)
    (try simp (maxSteps:=1000000) (disch:=first | assumption | (apply ν6;assumption)) only [vz,vu,vv,eqS,eF_,↓c1_,↓c2_,tabs,reduceCtorEq,ι5,↓reduceIte,ν1,ν2,ν3,ν4,ν5,ι1,ι2,ι3,ι4,store_at (st.get 2 rfl),lnN,mpI_len])
    refine ⟨by omega,?_⟩
    rw [hs2]
    replace st:=st.put 2 rfl (cP fI (mpI (updI s.lw v (s.vs+1)) g.length))
    generalize G2.set ql (cP fI (mpI (updI s.lw v (s.vs+1)) g.length))=G3 at st ⊢
    simp only [List.set_cons_zero,List.set_cons_succ] at st
    (try simp (maxSteps:=1000000) (disch:=first | assumption | (apply ν6;assumption)) only [vz,vu,vv,eqS,eF_,↓c1_,↓c2_,tabs,reduceCtorEq,ι5,↓reduceIte,ν1,ν2,ν3,ν4,ν5,ι1,ι2,ι3,ι4,load_at (st.get 0 rfl)])
    refine lit1 tab_24 rfl tab_3 ⟨rfl,rfl⟩ ?_
    have hsl:s.st.length≤900000:=by have:=TInv.st_len hi;omega
    refine sk_app (w:=v) st 4 rfl hsl fun q' G4 st=>?_
    simp only [List.set_cons_zero,List.set_cons_succ] at st
    have hgl:=gI_len g
    (try simp (maxSteps:=1000000) (disch:=first | assumption | (apply ν6;assumption)) only [vz,vu,vv,eqS,eF_,↓c1_,↓c2_,tabs,reduceCtorEq,ι5,↓reduceIte,ν1,ν2,ν3,ν4,ν5,ι1,ι2,ι3,ι4,load_at (st.get 0 rfl),store_at (st.get 0 rfl),hgl])
    refine ⟨by omega,by omega,?_⟩
    replace st:=st.put 0 rfl (tjC g qf ql qp (.sl q' 1 0 (s.st.length+1)) (s.vs+1))
    generalize G4.set r (tjC g qf ql qp (.sl q' 1 0 (s.st.length+1)) (s.vs+1))=G5 at st ⊢
    simp only [List.set_cons_zero,List.set_cons_succ] at st
    have hl0:=T_start hi hv h0 hr
    rw [gI_get hv]
    have hrn:=nI_len (rwF g v)
    have hrl:=hg.row hv
    have hgr:=hg.gr
    (try simp (maxSteps:=1000000) (disch:=first | assumption | (apply ν6;assumption)) only [vz,vu,vv,eqS,eF_,↓c1_,↓c2_,tabs,reduceCtorEq,ι5,↓reduceIte,ν1,ν2,ν3,ν4,ν5,ι1,ι2,ι3,ι4,hrn])
    have hs0:St H (tjT g r qf ql qp (s.push v) (.sl q' 1 0 (s.st.length+1)) [q']) G5:=st
    clear st
    refine L89_0_rule ((0:Nat),s.push v,AV.sl q' 1 0 (s.st.length+1),[q'],G5) (fun z=>I z.1) (fun z=>z.2.2.2.2)
      (fun z=>z.1≤(rwF g v).length∧TLoop (ArcOf (rwF g)) g.length gray s v (fun w=>w∈(rwF g v).take z.1) z.2.1∧St H (tjT g r qf ql qp z.2.1 z.2.2.1 z.2.2.2.1) z.2.2.2.2) (fun z=>(rwF g v).length - z.1)
      ⟨⟨by simp,hl0.done fun u hu=>by simp at hu,hs0⟩,.refl _,Heap.le_refl _⟩ ?_
    clear hs0 hl0 hs1 hs2
    rintro ⟨j,t,y,E,G⟩ ⟨hj,hl,st⟩
    dsimp only at hj hl st
    have e5:IntKind.i64.wrap ((j:Int)+1)=((j+1:Nat):Int):=by rw [i64_id (by omega) (by omega)];simp
    (try simp (maxSteps:=1000000) (disch:=first | assumption | (apply ν6;assumption)) only [vz,vu,vv,eqS,eF_,↓c1_,↓c2_,tabs,reduceCtorEq,ι5,↓reduceIte,ν1,ν2,ν3,ν4,ν5,ι1,ι2,ι3,ι4,B89_0,hrn])
    refine ⟨fun h2=>?_,fun h2=>?_⟩
    · have hlj:j < (rwF g v).length:=by omega
      refine ⟨by omega,h2,?_⟩
      rw [nI_get hlj]
      have hw:=hg.lt hlj
      have hE:ArcOf (rwF g) v ((rwF g v).getD j 0):=by simp [ArcOf,List.getD,hlj]
      have htk:∀u,u∈(rwF g v).take (j+1)→u∈(rwF g v).take j∨u=(rwF g v).getD j 0:=by
        intro u hu
        rw [take_succ_snoc hlj,List.mem_append,List.mem_singleton] at hu
        exact hu
      generalize (rwF g v).getD j 0=w at hw hE htk ⊢
      have hwf:=rdN t.fd hw
      have hwp:=rdN t.pt hw
      (try simp (maxSteps:=1000000) (disch:=first | assumption | (apply ν6;assumption)) only [vz,vu,vv,eqS,eF_,↓c1_,↓c2_,tabs,reduceCtorEq,ι5,↓reduceIte,ν1,ν2,ν3,ν4,ν5,ι1,ι2,ι3,ι4,load_at (st.get 0 rfl),load_at (st.get 1 rfl),lnN,mpI_len,hwf,Int.toNat_natCast])
      refine ⟨by omega,by omega,by omega,fun h3=>?_,fun h3=>?_⟩
      · have hvt:=hl.vs
        have hct:=hl.inv.cnt
        have hcb:=cntF_le t.fd g.length
        refine ih (v::gray) t w y E G _ (by omega) hl.inv hw h3 (fun z hz=>?_) st fun t' y' E' G' hi' hp' st=>?_
        · rcases List.mem_cons.1 hz with rfl | hz
          · exact .one hE
          · exact (hr z hz).snoc hE
        have hnx:=(T_call hl h0 hi hE h3 hi' hp').done htk
        have hlv:=rdN t'.lw hv
        have hlw:=rdN t'.lw hw
        have hset:=setN t'.lw hv (min (t'.lw v) (t'.lw w))
        (try simp (maxSteps:=1000000) (disch:=first | assumption | (apply ν6;assumption)) only [vz,vu,vv,eqS,eF_,↓c1_,↓c2_,tabs,reduceCtorEq,ι5,↓reduceIte,ν1,ν2,ν3,ν4,ν5,ι1,ι2,ι3,ι4,load_at (st.get 0 rfl),load_at (st.get 2 rfl),store_at (st.get 2 rfl),lnN,mpI_len,hlv,hlw,minE,e5,Int.toNat_natCast])
        refine ⟨by omega,by omega,by omega,by omega,by omega,by omega,by omega,by omega,by omega,?_⟩
        rw [hset]
        exact ⟨(j+1,t'.low v (min (t'.lw v) (t'.lw w)),y',E',_),⟨by simp only;omega,hnx,st.put 2 rfl (cP fI (mpI (updI t'.lw v (min (t'.lw v) (t'.lw w))) g.length))⟩,by simp only;omega,.refl _,Heap.le_refl _⟩
      · (try simp (maxSteps:=1000000) (disch:=first | assumption | (apply ν6;assumption)) only [vz,vu,vv,eqS,eF_,↓c1_,↓c2_,tabs,reduceCtorEq,ι5,↓reduceIte,ν1,ν2,ν3,ν4,ν5,ι1,ι2,ι3,ι4,load_at (st.get 0 rfl),load_at (st.get 3 rfl),lnN,mpI_len,hwp,Int.toNat_natCast])
        refine ⟨by omega,by omega,by omega,fun h4=>?_,fun h4=>?_⟩
        · have hnx:=(T_back hl h0 hE h3 h4).done htk
          have hlv:=rdN t.lw hv
          have hset:=setN t.lw hv (min (t.lw v) (t.fd w))
          (try simp (maxSteps:=1000000) (disch:=first | assumption | (apply ν6;assumption)) only [vz,vu,vv,eqS,eF_,↓c1_,↓c2_,tabs,reduceCtorEq,ι5,↓reduceIte,ν1,ν2,ν3,ν4,ν5,ι1,ι2,ι3,ι4,load_at (st.get 0 rfl),load_at (st.get 1 rfl),load_at (st.get 2 rfl),store_at (st.get 2 rfl),lnN,mpI_len,hlv,hwf,minE,e5,Int.toNat_natCast])
          refine ⟨by omega,by omega,by omega,by omega,by omega,by omega,by omega,by omega,by omega,?_⟩
          rw [hset]
          exact ⟨(j+1,t.low v (min (t.lw v) (t.fd w)),y,E,_),⟨by simp only;omega,hnx,st.put 2 rfl (cP fI (mpI (updI t.lw v (min (t.lw v) (t.fd w))) g.length))⟩,by simp only;omega,.refl _,Heap.le_refl _⟩
        · have hnx:=(T_skip hl h3 (by omega)).done htk
          (try simp (maxSteps:=1000000) (disch:=first | assumption | (apply ν6;assumption)) only [vz,vu,vv,eqS,eF_,↓c1_,↓c2_,tabs,reduceCtorEq,ι5,↓reduceIte,ν1,ν2,ν3,ν4,ν5,ι1,ι2,ι3,ι4,e5])
          exact ⟨(j+1,t,y,E,G),⟨by simp only;omega,hnx,st⟩,by simp only;omega,.refl _,Heap.le_refl _⟩
    · have:j=(rwF g v).length:=by omega
      subst this
      rw [List.take_length] at hl
      have hlv:=rdN t.lw hv
      have hfv:=rdN t.fd hv
      have hall:∀w,ArcOf (rwF g) v w→w∈rwF g v:=fun w hw=>hw
      (try simp (maxSteps:=1000000) (disch:=first | assumption | (apply ν6;assumption)) only [vz,vu,vv,eqS,eF_,↓c1_,↓c2_,tabs,reduceCtorEq,ι5,↓reduceIte,ν1,ν2,ν3,ν4,ν5,ι1,ι2,ι3,ι4,load_at (st.get 0 rfl),load_at (st.get 1 rfl),load_at (st.get 2 rfl),lnN,mpI_len,hlv,hfv,Int.toNat_natCast])
      refine ⟨by omega,by omega,by omega,by omega,by omega,by omega,fun h3=>?_,fun h3=>?_⟩
      · obtain ⟨a,b⟩:=T_stay hl hi h0 hall h3
        exact hK _ _ _ _ a b st
      · obtain ⟨s2,hst,hs20,hs21⟩:=hl.stk
        have hy:SK y t.st G E:=st.get 4 rfl
        have hil:=TInv.st_len hl.inv
        have hlen:t.st.length=s.st.length+(s2.length+1):=by rw [hst,List.length_append,List.length_cons]
        rcases hy with ⟨_,h5,_⟩ | ⟨q2,J,rfl,hq2,rfl⟩
        · rw [h5] at hlen;simp at hlen
        have hpart:∀off n,off+n≤t.st.length→((nI t.st++J).drop off).take n=nI ((t.st.drop off).take n):=by
          intro off n hb
          rw [← nI_take,← nI_drop,List.drop_append_of_le_length (by rw [nI_len];omega),List.take_append_of_le_length (by rw [List.length_drop,nI_len];omega)]
        (try simp (maxSteps:=1000000) (disch:=first | assumption | (apply ν6;assumption)) only [vz,vu,vv,eqS,eF_,↓c1_,↓c2_,tabs,reduceCtorEq,ι5,↓reduceIte,ν1,ν2,ν3,ν4,ν5,ι1,ι2,ι3,ι4,load_at (st.get 0 rfl)])
        refine Pu.thaw (args':=[Is (nI t.st),I v]) (IndexI_spec (nI t.st) v (by rw [nI_len];omega)) (.int _ _) (by
          have:=wkPart (off:=0) (n:=t.st.length) hq2 (by rw [List.length_append,nI_len];omega) [I v] []
          rw [hpart 0 _ (by omega),List.drop_zero,List.take_length] at this
          exact this) ?_
        have hidx:(if (v:Int)∈nI t.st then ((nI t.st).idxOf (v:Int):Int) else -1)=(s.st.length:Int):=by
          have hvs2:v∉s.st:=fun hm=>((hi.stm v).1 hm).1 h0
          have hnv:(v:Int)∉nI s.st:=fun hm=>by
            obtain ⟨u,hu,e⟩:=nI_mem.1 hm
            have:u=v:=by omega
            exact hvs2 (this ▸ hu)
          have e:nI t.st=nI s.st++((v:Int)::nI s2):=by rw [hst,nI_app];rfl
          rw [e,if_pos (by simp),List.idxOf_append,if_neg hnv,nI_len]
          simp
        rw [hidx]
        have hdrop:t.st.drop s.st.length=v::s2:=by rw [hst,List.drop_left' rfl]
        have ek:((t.st.length:Int) - (s.st.length:Int)).toNat=s2.length+1:=by omega
        have hmn:=minN_prop (v::s2) (by simp)
        have hcl2:(cP fI (nI t.st++J)).length=t.st.length+J.length:=by rw [cI_len,List.length_append,nI_len]
        (try simp (maxSteps:=1000000) (disch:=first | assumption | (apply ν6;assumption)) only [vz,vu,vv,eqS,eF_,↓c1_,↓c2_,tabs,reduceCtorEq,ι5,↓reduceIte,ν1,ν2,ν3,ν4,ν5,ι1,ι2,ι3,ι4,load_at (st.get 0 rfl),ek,Int.toNat_natCast])
        refine ⟨by omega,by omega,by omega,?_⟩
        refine Pu.thaw (args':=[Is (nI (v::s2))]) (Min_spec (v::s2) (by simp) (by simp only [List.length_cons];omega)) (.int _ _) (by
          have:=wkPart (off:=s.st.length) (n:=s2.length+1) hq2 (by rw [List.length_append,nI_len];omega) [] []
          rw [hpart _ _ (by omega),hdrop,List.take_of_length_le (by simp)] at this
          rw [Nat.mul_one];exact this) ?_
        generalize minN (v::s2)=mm at hmn
        (try simp (maxSteps:=1000000) (disch:=first | assumption | (apply ν6;assumption)) only [vz,vu,vv,eqS,eF_,↓c1_,↓c2_,tabs,reduceCtorEq,ι5,↓reduceIte,ν1,ν2,ν3,ν4,ν5,ι1,ι2,ι3,ι4,load_at (st.get 0 rfl),ek,Int.toNat_natCast])
        refine ⟨by omega,by omega,by omega,?_⟩
        refine L89_1_rule ((0:Nat),G) (fun z=>I z.1) (fun z=>z.2)
          (fun z=>z.1≤s2.length+1∧St H (tjT g r qf ql qp ⟨t.fd,t.lw,fun u=>if u∈(v::s2).take z.1 then (mm:Int) else t.pt u,t.st,t.vs⟩ (.sl q2 1 0 t.st.length) [q2]) z.2∧z.2 q2=some (cP fI (nI t.st++J))) (fun z=>s2.length+1 - z.1)
          ⟨⟨by simp,by simpa using st,hq2⟩,.refl _,Heap.le_refl _⟩ ?_
        clear st hq2 G
        rintro ⟨j,G⟩ ⟨hj,st,hq2⟩
        dsimp only at hj st hq2
        have e5:IntKind.i64.wrap ((j:Int)+1)=((j+1:Nat):Int):=by rw [i64_id (by omega) (by omega)];simp
        (try simp (maxSteps:=1000000) (disch:=first | assumption | (apply ν6;assumption)) only [vz,vu,vv,eqS,eF_,↓c1_,↓c2_,tabs,reduceCtorEq,ι5,↓reduceIte,ν1,ν2,ν3,ν4,ν5,ι1,ι2,ι3,ι4,B89_1])
        refine ⟨fun h4=>?_,fun h4=>?_⟩
        · have hlj:j < (v::s2).length:=by rw [List.length_cons];omega
          have hu:(v::s2).getD j 0 < g.length:=by
            have hm:(v::s2).getD j 0∈t.st:=by
              rw [hst];exact List.mem_append_right _ (getD_all (p:=fun z=>z∈v::s2) (d:=0) (fun _ k=>k) hlj)
            exact hl.inv.fdn _ ((hl.inv.stm _).1 hm).1
          have htk:(v::s2).take (j+1)=(v::s2).take j++[(v::s2).getD j 0]:=take_succ_snoc hlj
          have hrq:(List.take 1 (List.drop (s.st.length*1+j*1) (cP fI (nI t.st++J)))).headD AV.any=I (((v::s2).getD j 0:Nat):Int):=by
            have e:s.st.length*1+j*1=(s.st.length+j)*1:=by omega
            rw [e,cI_rd (by rw [List.length_append,nI_len];omega)]
            have e2:(nI t.st++J).getD (s.st.length+j) default=(((v::s2).getD j 0:Nat):Int):=by
              rw [hst,nI_app,List.append_assoc]
              have hlj2:j < (nI (v::s2)).length:=by rw [nI_len];exact hlj
              simp only [List.getD]
              rw [List.getElem?_append_right (by rw [nI_len];omega),nI_len,Nat.add_sub_cancel_left,List.getElem?_append_left hlj2]
              exact nI_get hlj
            rw [e2]
          generalize (v::s2).getD j 0=u at hu htk hrq
          have hset:=setN (fun u=>if u∈(v::s2).take j then (mm:Int) else t.pt u) hu (mm:Int)
          have hup:updI (fun u=>if u∈(v::s2).take j then (mm:Int) else t.pt u) u (mm:Int)=fun u=>if u∈(v::s2).take (j+1) then (mm:Int) else t.pt u:=by
            funext z
            rw [htk]
            unfold updI
            by_cases e:z=u
            · subst e;simp
            · by_cases e2:z∈(v::s2).take j<;>simp [e,e2]
          (try simp (maxSteps:=1000000) (disch:=first | assumption | (apply ν6;assumption)) only [vz,vu,vv,eqS,eF_,↓c1_,↓c2_,tabs,reduceCtorEq,ι5,↓reduceIte,ν1,ν2,ν3,ν4,ν5,ι1,ι2,ι3,ι4,load_at hq2,hcl2,hrq,load_at (st.get 0 rfl),store_at (st.get 3 rfl),lnN,mpI_len,e5,Int.toNat_natCast])
          refine ⟨by omega,by omega,by omega,by omega,by omega,by omega,?_⟩
          rw [hset,hup]
          have hne:q2≠qp:=fun e=>st.disjI 4 3 rfl rfl (by decide) q2 (by simp [skT]) (by simp [cellT,e])
          refine ⟨(j+1,_),⟨by simp only;omega,st.put 3 rfl (cP fI (mpI (fun u=>if u∈(v::s2).take (j+1) then (mm:Int) else t.pt u) g.length)),?_⟩,by simp only;omega,.refl _,Heap.le_refl _⟩
          show (G.set qp _) q2=_
          rw [Heap.set_other hne];exact hq2
        · have:j=s2.length+1:=by omega
          subst this
          have e0:(v::s2).take (s2.length+1)=v::s2:=List.take_of_length_le (by simp)
          rw [e0] at st
          have e6:((s.st.length:Int) - 0).toNat=s.st.length:=by omega
          (try simp (maxSteps:=1000000) (disch:=first | assumption | (apply ν6;assumption)) only [vz,vu,vv,eqS,eF_,↓c1_,↓c2_,tabs,reduceCtorEq,ι5,↓reduceIte,ν1,ν2,ν3,ν4,ν5,ι1,ι2,ι3,ι4,load_at (st.get 0 rfl),store_at (st.get 0 rfl),e6,Int.toNat_natCast,Int.sub_zero])
          obtain ⟨a,b⟩:=T_pop hl hi h0 hall h3 (s2:=s2) hst hmn.1 hmn.2
          refine ⟨by omega,by omega,by omega,?_⟩
          have hne:q2≠r:=fun e=>st.disjI 4 0 rfl rfl (by decide) q2 (by simp [skT]) (by simp [cellT,e])
          have st2:=st.put 0 rfl (tjC g qf ql qp (.sl q2 1 0 s.st.length) t.vs)
          have st3:=st2.upd 4 rfl (skT (.sl q2 1 0 s.st.length) s.st [q2]) rfl (fun _ _=>rfl) (.inr ⟨q2,nI (v::s2)++J,rfl,by
            rw [Heap.set_other hne,hq2,hst,nI_app,List.append_assoc],rfl⟩)
          exact hK _ _ _ _ a b st3
end Go.Proofs.Ytohkciilfkhomaa
namespace Go.Proofs.Ytohkciilfkhomaa
open Go Go.Sep Go.Pt
attribute [local irreducible] CallT
noncomputable def prtI (g:List (List Nat)):List Int:=mpI (fun v=>(partF (ArcOf (rwF g)) v:Int)) g.length
theorem makeN_I (n:Nat) (h:n≤1000000000):makeN tab 24 (I n) (I n)=some (fun r=>.sl r 1 0 n,cP fI (mpI (fun _=>0) n)):=by
  have e:zerosA n [I 0]=cP fI (mpI (fun _=>0) n):=by rw [cP_rep,mpI_const]
  simp only [makeN,tab_24,tab_3,ifN]
  rw [if_pos ⟨by omega,by omega,by omega,by omega⟩,← e]
  rfl
theorem parts_spec (g:List (List Nat)) (hg:GrB g):Pu Try.prog 80 [Ls (gI g)] (Is (prtI g)):=by
  refine ⟨fun H=>CallT.fin ?_⟩
  have hn:=hg.n
  have hgl:=gI_len g
  refine W80_ok ?_;simp (maxSteps:=1000000) (disch:=first | assumption | (apply ν6;assumption)) only [W80,vz,vu,vv,eqS,eF_,↓c1_,↓c2_,tabs,reduceCtorEq,ι5,↓reduceIte,ν1,ν2,ν3,ν4,ν5,ι1,ι2,ι3,ι4,hgl]
  have hmk:=makeN_I g.length (by omega)
  (try simp (maxSteps:=1000000) (disch:=first | assumption | (apply ν6;assumption)) only [vz,vu,vv,eqS,eF_,↓c1_,↓c2_,tabs,reduceCtorEq,ι5,↓reduceIte,ν1,ν2,ν3,ν4,ν5,ι1,ι2,ι3,ι4,hmk,safeV,newV])
  refine lit1 tab_24 rfl tab_3 ⟨rfl,rfl⟩ ?_
  refine Repeat_row (-1) g.length (by omega) fun qp hqp=>?_
  have st:=(St.nil H).cell hqp (cP fI (List.replicate g.length (-1)))
  rw [mpI_const] at st ⊢
  generalize H.set qp (cP fI (mpI (fun _=>-1) g.length))=G1 at st ⊢
  intro qf hqf ql hlf hql
  replace st:=(st.cell hqf (cP fI (mpI (fun _=>0) g.length))).cell (r:=ql) (by rw [Heap.set_other hlf];exact hql) (cP fI (mpI (fun _=>0) g.length))
  have hm:=mpI_len (fun _=>-1) g.length
  rw [rowP,hm]
  (try simp (maxSteps:=1000000) (disch:=first | assumption | (apply ν6;assumption)) only [vz,vu,vv,eqS,eF_,↓c1_,↓c2_,tabs,reduceCtorEq,ι5,↓reduceIte,ν1,ν2,ν3,ν4,ν5,ι1,ι2,ι3,ι4])
  intro r hrl hrf hr
  replace st:=st.cell (r:=r) (by rw [Heap.set_other hrl,Heap.set_other hrf];exact hr) (tjC g qf ql qp (.p .nil) 0)
  generalize ((G1.set qf (cP fI (mpI (fun _=>0) g.length))).set ql (cP fI (mpI (fun _=>0) g.length))).set r (tjC g qf ql qp (.p .nil) 0)=G4 at st ⊢
  have st:=(st.push (skT (.p .nil) [] []) ⟨.nil,fun y hy=>(by cases hy),Heap.le_refl _⟩ (.inl ⟨rfl,rfl,rfl⟩)).perm (Us:=tjT g r qf ql qp TS.zero (.p .nil) [])
    (by
      refine List.Perm.trans (List.perm_append_comm (l₁:=[skT (.p .nil) [] []])) ?_
      exact (List.Perm.swap _ _ _).cons _)
  clear hr hql hqf hqp
  refine L80_0_rule ((0:Nat),TS.zero,(.p .nil:AV),([]:List Nat),G4) (fun z=>I z.1) (fun z=>z.2.2.2.2)
    (fun z=>z.1≤g.length∧TInv (ArcOf (rwF g)) g.length [] z.2.1∧(∀u,u < z.1→z.2.1.fd u≠0)∧St H (tjT g r qf ql qp z.2.1 z.2.2.1 z.2.2.2.1) z.2.2.2.2) (fun z=>g.length - z.1)
    ⟨⟨by simp,T_zero _ _,fun u hu=>by omega,st⟩,.refl _,Heap.le_refl _⟩ ?_
  clear st
  rintro ⟨k,t,x,D,G⟩ ⟨hk,ht,hd,st⟩
  dsimp only at hk ht hd st
  have e5:IntKind.i64.wrap ((k:Int)+1)=((k+1:Nat):Int):=by rw [i64_id (by omega) (by omega)];simp
  (try simp (maxSteps:=1000000) (disch:=first | assumption | (apply ν6;assumption)) only [vz,vu,vv,eqS,eF_,↓c1_,↓c2_,tabs,reduceCtorEq,ι5,↓reduceIte,ν1,ν2,ν3,ν4,ν5,ι1,ι2,ι3,ι4,B80_0])
  refine ⟨fun h1=>?_,fun h1=>?_⟩
  · have hlt:k < g.length:=by omega
    have hkf:=rdN t.fd hlt
    (try simp (maxSteps:=1000000) (disch:=first | assumption | (apply ν6;assumption)) only [vz,vu,vv,eqS,eF_,↓c1_,↓c2_,tabs,reduceCtorEq,ι5,↓reduceIte,ν1,ν2,ν3,ν4,ν5,ι1,ι2,ι3,ι4,load_at (st.get 0 rfl),load_at (st.get 1 rfl),lnN,mpI_len,hkf,Int.toNat_natCast])
    refine ⟨by omega,by omega,by omega,fun h2=>?_,fun h2=>?_⟩
    · refine visit_spec g hg r qf ql qp g.length [] t k x D G _ (by omega) ht hlt h2 (fun y hy=>by cases hy) st fun t' x' D' G' ht' hp st=>?_
      (try simp (maxSteps:=1000000) (disch:=first | assumption | (apply ν6;assumption)) only [vz,vu,vv,eqS,eF_,↓c1_,↓c2_,tabs,reduceCtorEq,ι5,↓reduceIte,ν1,ν2,ν3,ν4,ν5,ι1,ι2,ι3,ι4,e5])
      refine ⟨(k+1,t',x',D',G'),⟨by simp only;omega,ht',fun u hu=>?_,st⟩,by simp only;omega,.refl _,Heap.le_refl _⟩
      simp only at hu ⊢
      by_cases e:u=k
      · subst e;exact hp.fv
      · have:=hd u (by omega)
        rw [hp.fdk u this];exact this
    · (try simp (maxSteps:=1000000) (disch:=first | assumption | (apply ν6;assumption)) only [vz,vu,vv,eqS,eF_,↓c1_,↓c2_,tabs,reduceCtorEq,ι5,↓reduceIte,ν1,ν2,ν3,ν4,ν5,ι1,ι2,ι3,ι4,e5])
      refine ⟨(k+1,t,x,D,G),⟨by simp only;omega,ht,fun u hu=>?_,st⟩,by simp only;omega,.refl _,Heap.le_refl _⟩
      simp only at hu ⊢
      by_cases e:u=k
      · subst e;exact h2
      · exact hd u (by omega)
  · have:k=g.length:=by omega
    subst this
    have e:mpI t.pt g.length=prtI g:=by
      unfold prtI mpI
      apply List.map_congr_left
      intro v hv
      exact T_end ht (hd v (List.mem_range.1 hv))
    (try simp (maxSteps:=1000000) (disch:=first | assumption | (apply ν6;assumption)) only [vz,vu,vv,eqS,eF_,↓c1_,↓c2_,tabs,reduceCtorEq,ι5,↓reduceIte,ν1,ν2,ν3,ν4,ν5,ι1,ι2,ι3,ι4,load_at (st.get 0 rfl)])
    have:=st_int st 3 rfl
    rw [rowP,mpI_len,e] at this
    exact this
end Go.Proofs.Ytohkciilfkhomaa
namespace Go.Pt
structure DS where
  seen:Nat→Bool
  out:List Nat
def updB (f:Nat→Bool) (v:Nat) (x:Bool):Nat→Bool:=fun u=>if u=v then x else f u
theorem updB_same (f:Nat→Bool) (v:Nat) (x:Bool):updB f v x v=x:=if_pos rfl
theorem updB_ne (f:Nat→Bool) {u v:Nat} (x:Bool) (h:u≠v):updB f v x u=f u:=if_neg h
def cntB (f:Nat→Bool) (n:Nat):Nat:=(List.range n).countP f
theorem cntB_le (f:Nat→Bool) (n:Nat):cntB f n≤n:=by
  have:=List.countP_le_length (p:=f) (l:=List.range n)
  rwa [List.length_range] at this
theorem cntB_mono {f g:Nat→Bool} {n:Nat} (h:∀u,f u=true→g u=true):cntB f n≤cntB g n:=List.countP_mono_left fun u _=>h u
theorem cntB_upd {f:Nat→Bool} {n v:Nat} (h:v < n) (h0:f v=false):cntB (updB f v true) n=cntB f n+1:=by
  unfold cntB
  induction n with
  | zero=>omega
  | succ n ih=>
    rw [List.range_succ,List.countP_append,List.countP_append]
    by_cases e:v=n
    · subst e
      have:List.countP (updB f v true) (List.range v)=List.countP f (List.range v):=by
        apply List.countP_congr
        intro u hu
        have:=List.mem_range.1 hu
        rw [updB_ne _ _ (by omega)]
      rw [this]
      simp [updB_same,h0]
    · rw [ih (by omega)]
      have:List.countP (updB f v true) [n]=List.countP f [n]:=by
        simp [List.countP_cons,updB_ne f true (show n≠v by omega)]
      rw [this];omega
structure DInv (E:Nat→Nat→Prop) (n:Nat) (S0:Nat→Prop) (gray:List Nat) (s:DS):Prop where
  sn:∀v,s.seen v=true↔S0 v∨v∈s.out∨v∈gray
  dis:∀v∈s.out,¬S0 v∧v∉gray
  nd:s.out.Nodup
  lt:∀v∈s.out,v < n
  blk:∀v∈s.out,∀w,E v w→s.seen w=true
  fin:∀v∈s.out,∀x,Rch E v x→(∃y∈gray,Con E v y)∨(∃z,S0 z∧Rch E v z)∨∃y∈s.out,Con E v y∧x∈s.out∧s.out.idxOf x≤s.out.idxOf y
structure DPost (E:Nat→Nat→Prop) (s s':DS) (v:Nat):Prop where
  sv:s'.seen v=true
  mono:∀u,s.seen u=true→s'.seen u=true
  ext:∃N,s'.out=s.out++N∧∀x∈N,Rch E v x
structure DLoop (E:Nat→Nat→Prop) (n:Nat) (S0:Nat→Prop) (gray:List Nat) (s:DS) (v:Nat) (done:Nat→Prop) (t:DS):Prop where
  inv:DInv E n S0 (v::gray) t
  ext:∃N,t.out=s.out++N∧∀x∈N,Rch E v x
  sv:t.seen v=true
  mono:∀u,s.seen u=true→t.seen u=true
  don:∀w,done w→t.seen w=true
theorem DPost.skip {E:Nat→Nat→Prop} {s:DS} {v:Nat} (h:s.seen v=true):DPost E s s v:=⟨h,fun _ h=>h,[],by simp,by simp⟩
theorem D_start {E:Nat→Nat→Prop} {n:Nat} {S0:Nat→Prop} {gray:List Nat} {s:DS} {v:Nat} (h:DInv E n S0 gray s) (h0:s.seen v=false):DLoop E n S0 gray s v (fun _=>False) ⟨updB s.seen v true,s.out⟩:=by
  have hn:¬(S0 v∨v∈s.out∨v∈gray):=fun hk=>by rw [(h.sn v).2 hk] at h0;cases h0
  have hk:∀u,s.seen u=true→updB s.seen v true u=true:=fun u hu=>by
    unfold updB
    split
    · rfl
    · exact hu
  refine ⟨⟨fun u=>?_,fun u hu=>?_,h.nd,h.lt,fun u hu w hw=>hk w (h.blk u hu w hw),fun u hu x hx=>?_⟩,⟨[],by simp,by simp⟩,updB_same _ _ _,hk,fun w hw=>hw.elim⟩
  · show updB s.seen v true u=true↔S0 u∨u∈s.out∨u∈v::gray
    by_cases e:u=v
    · subst e;rw [updB_same];simp
    · rw [updB_ne _ _ e,h.sn u];simp [e]
  · refine ⟨(h.dis u hu).1,fun hm=>?_⟩
    rcases List.mem_cons.1 hm with rfl | hm
    · exact hn (.inr (.inl hu))
    · exact (h.dis u hu).2 hm
  · rcases h.fin u hu x hx with ⟨y,h1,h2⟩ | h1
    · exact .inl ⟨y,List.mem_cons_of_mem _ h1,h2⟩
    · exact .inr h1
theorem D_call {E:Nat→Nat→Prop} {n:Nat} {S0:Nat→Prop} {gray:List Nat} {s t t':DS} {v w:Nat} {done:Nat→Prop} (h:DLoop E n S0 gray s v done t) (hE:E v w) (h':DInv E n S0 (v::gray) t') (p:DPost E t t' w) :
    DLoop E n S0 gray s v (fun u=>done u∨u=w) t':=by
  obtain ⟨N,h1,h2⟩:=h.ext
  obtain ⟨M,g1,g2⟩:=p.ext
  refine ⟨h',⟨N++M,by rw [g1,h1,List.append_assoc],fun x hx=>?_⟩,p.mono v h.sv,fun u hu=>p.mono u (h.mono u hu),fun u hu=>?_⟩
  · rcases List.mem_append.1 hx with hx | hx
    · exact h2 x hx
    · exact .step hE (g2 x hx)
  · rcases hu with hu | rfl
    · exact p.mono u (h.don u hu)
    · exact p.sv
theorem idx_app {l m:List Nat} {x:Nat} (h:x∈l):(l++m).idxOf x=l.idxOf x:=by
  rw [List.idxOf_append,if_pos h]
theorem D_fin {E:Nat→Nat→Prop} {n:Nat} {S0:Nat→Prop} {gray:List Nat} {s t:DS} {v:Nat} {done:Nat→Prop} (h:DLoop E n S0 gray s v done t) (hi:DInv E n S0 gray s) (hv:v < n) (h0:s.seen v=false)
    (hr:∀x∈gray,Rch E x v) (hd:∀w,E v w→done w):DInv E n S0 gray ⟨t.seen,t.out++[v]⟩∧DPost E s ⟨t.seen,t.out++[v]⟩ v:=by
  have hn:¬(S0 v∨v∈s.out∨v∈gray):=fun hk=>by rw [(hi.sn v).2 hk] at h0;cases h0
  simp only [not_or] at hn
  have hvo:v∉t.out:=fun hm=>(h.inv.dis v hm).2 (List.mem_cons_self ..)
  have hblk:∀u∈t.out++[v],∀w,E u w→t.seen w=true:=by
    intro u hu w hw
    rcases List.mem_append.1 hu with hu | hu
    · exact h.inv.blk u hu w hw
    · rw [List.mem_singleton] at hu;subst hu
      exact h.don w (hd w hw)
  have F:∀x,Rch E v x→(∃y∈gray,Con E v y)∨(∃z,S0 z∧Rch E v z)∨x∈t.out++[v]:=by
    intro x hx
    by_cases hm:x∈t.out++[v]
    · exact .inr (.inr hm)
    · obtain ⟨a,b,p1,p2,p3,p4,p5⟩:=hx.leave (P:=fun z=>z∈t.out++[v]) (by simp) hm
      have hb:=(h.inv.sn b).1 (hblk a p1 b p3)
      rcases hb with hb | hb | hb
      · exact .inr (.inl ⟨b,hb,p4.snoc p3⟩)
      · exact absurd (List.mem_append_left _ hb) p2
      · rcases List.mem_cons.1 hb with rfl | hb
        · exact absurd (by simp) p2
        · exact .inl ⟨b,hb,p4.snoc p3,hr b hb⟩
  have hlast:∀x∈t.out++[v],(t.out++[v]).idxOf x≤(t.out++[v]).idxOf v:=by
    intro x hx
    have e:(t.out++[v]).idxOf v=t.out.length:=by rw [List.idxOf_append,if_neg hvo];simp
    rw [e]
    have:=List.idxOf_lt_length_iff.2 hx
    rw [List.length_append,List.length_singleton] at this
    omega
  have G:∀u,Con E u v→∀x,Rch E u x→(∃y∈gray,Con E u y)∨(∃z,S0 z∧Rch E u z)∨∃y∈t.out++[v],Con E u y∧x∈t.out++[v]∧(t.out++[v]).idxOf x≤(t.out++[v]).idxOf y:=by
    intro u hu x hx
    rcases F x (hu.2.trans hx) with ⟨y,h1,h2⟩ | ⟨z,h1,h2⟩ | h1
    · exact .inl ⟨y,h1,hu.trans h2⟩
    · exact .inr (.inl ⟨z,h1,hu.1.trans h2⟩)
    · exact .inr (.inr ⟨v,by simp,hu,h1,hlast x h1⟩)
  obtain ⟨N,k1,k2⟩:=h.ext
  refine ⟨⟨fun u=>?_,fun u hu=>?_,?_,fun u hu=>?_,hblk,fun u hu x hx=>?_⟩,h.sv,h.mono,N++[v],by simp only;rw [k1,List.append_assoc],fun x hx=>?_⟩
  · rw [h.inv.sn u]
    simp only [List.mem_cons,List.mem_append,List.not_mem_nil,or_false]
    constructor
    · rintro (a | a | a | a)
      · exact .inl a
      · exact .inr (.inl (.inl a))
      · exact .inr (.inl (.inr a))
      · exact .inr (.inr a)
    · rintro (a | (a | a) | a)
      · exact .inl a
      · exact .inr (.inl a)
      · exact .inr (.inr (.inl a))
      · exact .inr (.inr (.inr a))
  · rcases List.mem_append.1 hu with hu | hu
    · exact ⟨(h.inv.dis u hu).1,fun hm=>(h.inv.dis u hu).2 (List.mem_cons_of_mem _ hm)⟩
    · rw [List.mem_singleton] at hu;subst hu
      exact ⟨hn.1,hn.2.2⟩
  · show (t.out++[v]).Nodup
    rw [List.nodup_append]
    exact ⟨h.inv.nd,by simp,fun a ha b hb e=>by rw [List.mem_singleton] at hb;subst hb;exact hvo (e ▸ ha)⟩
  · rcases List.mem_append.1 hu with hu | hu
    · exact h.inv.lt u hu
    · rw [List.mem_singleton] at hu;subst hu;exact hv
  · rcases List.mem_append.1 hu with hu | hu
    · rcases h.inv.fin u hu x hx with ⟨y,h1,h2⟩ | h1 | ⟨y,h1,h2,h3,h4⟩
      · rcases List.mem_cons.1 h1 with rfl | h1
        · exact G u h2 x hx
        · exact .inl ⟨y,h1,h2⟩
      · exact .inr (.inl h1)
      · refine .inr (.inr ⟨y,List.mem_append_left _ h1,h2,List.mem_append_left _ h3,?_⟩)
        show (t.out++[v]).idxOf x≤(t.out++[v]).idxOf y
        rw [idx_app h3,idx_app h1];exact h4
    · rw [List.mem_singleton] at hu;subst hu
      exact G u (.refl _) x hx
  · rcases List.mem_append.1 hx with hx | hx
    · exact k2 x hx
    · rw [List.mem_singleton] at hx;subst hx;exact .refl _
structure Left (E:Nat→Nat→Prop) (n:Nat) (L:List Nat):Prop where
  mem:∀v,v < n↔v∈L
  nd:L.Nodup
  fin:∀v∈L,∀x,Rch E v x→∃y∈L,Con E v y∧x∈L∧L.idxOf x≤L.idxOf y
theorem D_zero (E:Nat→Nat→Prop) (n:Nat):DInv E n (fun _=>False) [] ⟨fun _=>false,[]⟩:=⟨fun v=>by simp,fun v hv=>(by cases hv),.nil,fun v hv=>(by cases hv),fun v hv=>(by cases hv),fun v hv=>(by cases hv)⟩
theorem D_left {E:Nat→Nat→Prop} {n:Nat} {s:DS} (h:DInv E n (fun _=>False) [] s) (ha:∀v,v < n→s.seen v=true):Left E n s.out:=by
  refine ⟨fun v=>⟨fun hv=>?_,h.lt v⟩,h.nd,fun v hv x hx=>?_⟩
  · rcases (h.sn v).1 (ha v hv) with k | k | k
    · exact k.elim
    · exact k
    · cases k
  · rcases h.fin v hv x hx with ⟨y,k,_⟩ | ⟨z,k,_⟩ | k
    · cases k
    · exact k.elim
    · exact k
theorem D_part {E:Nat→Nat→Prop} {n:Nat} {L P Q:List Nat} {u:Nat} (hL:Left E n L) (e:L=P++u::Q) {S0:Nat→Prop} (hS:∀v,v < n→(S0 v↔∃q∈Q,Con E v q)) (hn:∀x y,E x y→x < n∧y < n)
    {t:DS} (h:DInv (fun x y=>E y x) n S0 [] t) (hu:t.seen u=true) (hu0:¬S0 u) (hr:∀x∈t.out,Rch (fun x y=>E y x) u x):∀x,x∈t.out↔Con E u x:=by
  have hun:u < n:=(hL.mem u).2 (by rw [e];simp)
  have huo:u∈t.out:=by
    rcases (h.sn u).1 hu with k | k | k
    · exact absurd k hu0
    · exact k
    · cases k
  intro x
  constructor
  · intro hx
    have hxu:Rch E x u:=by simpa using (hr x hx).rev
    obtain ⟨y,h1,h2,h3,h4⟩:=hL.fin x ((hL.mem x).1 (h.lt x hx)) u hxu
    have huP:u∉P:=by
      intro hm
      have:=hL.nd
      rw [e,List.nodup_append] at this
      exact this.2.2 u hm u (List.mem_cons_self ..) rfl
    have hiu:L.idxOf u=P.length:=by rw [e,List.idxOf_append,if_neg huP];simp
    have hy:y∈u::Q:=by
      rw [e] at h1
      rcases List.mem_append.1 h1 with h1 | h1
      · exfalso
        have:L.idxOf y=P.idxOf y:=by rw [e,idx_app h1]
        have:=List.idxOf_lt_length_iff.2 h1
        omega
      · exact h1
    rcases List.mem_cons.1 hy with rfl | hy
    · exact h2.symm
    · exact absurd ((hS x (h.lt x hx)).2 ⟨y,hy,h2⟩) (h.dis x hx).1
  · intro hx
    refine Classical.byContradiction fun hm=>?_
    obtain ⟨a,b,p1,p2,p3,p4,p5⟩:=(Con.rev hx).1.leave (P:=fun z=>z∈t.out) huo hm
    have hb:Con E u b:=by
      have h1:Rch (fun x y=>E y x) u b:=p4.snoc p3
      have h2:Rch (fun x y=>E y x) b u:=p5.trans (Con.rev hx).2
      exact ⟨by simpa using h2.rev,by simpa using h1.rev⟩
    rcases (h.sn b).1 (h.blk a p1 b p3) with k | k | k
    · have hbn:b < n:=(hn _ _ p3).1
      obtain ⟨q,q1,q2⟩:=(hS b hbn).1 k
      exact hu0 ((hS u hun).2 ⟨q,q1,hb.trans q2⟩)
    · exact p2 k
    · cases k
theorem D_zero' (E:Nat→Nat→Prop) (n:Nat) (seen:Nat→Bool):DInv E n (fun v=>seen v=true) [] ⟨seen,[]⟩:=⟨fun v=>by simp,fun v hv=>(by cases hv),.nil,fun v hv=>(by cases hv),fun v hv=>(by cases hv),fun v hv=>(by cases hv)⟩
end Go.Pt
namespace Go.Proofs.Ytohkciilfkhomaa
open Go Go.Sep Go.Pt
attribute [local irreducible] CallT
def mpB (f:Nat→Bool) (n:Nat):List Bool:=(List.range n).map f
theorem mpB_len (f:Nat→Bool) (n:Nat):(mpB f n).length=n:=by simp [mpB]
theorem mpB_get (f:Nat→Bool) {n v:Nat} (h:v < n):(mpB f n).getD v default=f v:=by simp [mpB,List.getD,h]
theorem mpB_set (f:Nat→Bool) (n v:Nat) (x:Bool):(mpB f n).set v x=mpB (updB f v x) n:=by
  apply List.ext_getElem
  · simp [mpB]
  · intro i h1 h2
    simp only [mpB,List.getElem_set,List.getElem_map,List.getElem_range,updB]
    by_cases e:v=i
    · subst e;simp
    · have:¬i=v:=fun k=>e k.symm
      simp [e,this]
theorem rdB (f:Nat→Bool) {n v:Nat} (h:v < n):(List.take 1 (List.drop (v*1) (cP fB (mpB f n)))).headD AV.any=B (f v):=by
  rw [mapB_rd (by rw [mpB_len];exact h),mpB_get f h]
theorem lnB (f:Nat→Bool) (n:Nat):(cP fB (mpB f n)).length=n:=by rw [cP,List.length_map,mpB_len]
theorem setB (f:Nat→Bool) {n v:Nat} (h:v < n) (x:Bool):List.take (v*1) (cP fB (mpB f n))++[B x]++List.drop (v*1+1) (cP fB (mpB f n))=cP fB (mpB (updB f v x) n):=by
  rw [cB_set (by rw [mpB_len];exact h),mpB_set]
abbrev wkT (g:List (List Nat)) (r qs:Nat) (s:DS) (x:AV) (D:List Nat) (rest:List Th):List Th:=
  cellT r [Ls (gI g),.sl qs 1 0 g.length,x]::cellT qs (cP fB (mpB s.seen g.length))::skT x s.out D::rest
theorem DInv.out_len {E:Nat→Nat→Prop} {n:Nat} {S0:Nat→Prop} {gray:List Nat} {s:DS} (h:DInv E n S0 gray s):s.out.length≤n:=nodup_len n s.out h.nd h.lt
theorem walk_spec (g:List (List Nat)) (hg:GrB g) (S0:Nat→Prop) {H:Heap} (r qs:Nat) (rest:List Th):∀(m:Nat) (gray:List Nat) (s:DS) (v:Nat) (x:AV) (D:List Nat) (G:Heap) (K:AV→Heap→Prop),g.length - cntB s.seen g.length=m→DInv (ArcOf (rwF g)) g.length S0 gray s→v < g.length→
    (∀y∈gray,Rch (ArcOf (rwF g)) y v)→St H (wkT g r qs s x D rest) G→
    (∀s' x' D' G',DInv (ArcOf (rwF g)) g.length S0 gray s'→DPost (ArcOf (rwF g)) s s' v→(s.seen v=true→s'=s)→St H (wkT g r qs s' x' D' rest) G'→K (.tup []) G')→CallT Try.prog 86 [.ptr r 0,I v] G K:=by
  intro m
  induction m using Nat.strongRecOn with
  | ind m ih=>
    intro gray s v x D G K hm hi hv hr st hK
    have hn:=hg.n
    have hrv:=rdB s.seen hv
    refine W86_ok ?_;simp (maxSteps:=1000000) (disch:=first | assumption | (apply ν6;assumption)) only [W86,vz,vu,vv,eqS,eF_,↓c1_,↓c2_,tabs,reduceCtorEq,ι5,↓reduceIte,ν1,ν2,ν3,ν4,ν5,ι1,ι2,ι3,ι4,load_at (st.get 0 rfl),load_at (st.get 1 rfl),lnB,mpB_len,hrv,Int.toNat_natCast]
    refine ⟨by omega,by omega,by omega,?_⟩
    cases hsv:s.seen v
    · (try simp (maxSteps:=1000000) (disch:=first | assumption | (apply ν6;assumption)) only [vz,vu,vv,eqS,eF_,↓c1_,↓c2_,tabs,reduceCtorEq,ι5,↓reduceIte,ν1,ν2,ν3,ν4,ν5,ι1,ι2,ι3,ι4,store_at (st.get 1 rfl),lnB,mpB_len,Int.toNat_natCast])
      refine ⟨by omega,by omega,by omega,?_⟩
      have hset:=setB s.seen hv true
      rw [hset]
      replace st:=st.put 1 rfl (cP fB (mpB (updB s.seen v true) g.length))
      generalize G.set qs (cP fB (mpB (updB s.seen v true) g.length))=G1 at st ⊢
      simp only [List.set_cons_zero,List.set_cons_succ] at st
      have hl0:=D_start hi hsv
      have hgl:=gI_len g
      have hrn:=nI_len (rwF g v)
      have hrl:=hg.row hv
      (try simp (maxSteps:=1000000) (disch:=first | assumption | (apply ν6;assumption)) only [vz,vu,vv,eqS,eF_,↓c1_,↓c2_,tabs,reduceCtorEq,ι5,↓reduceIte,ν1,ν2,ν3,ν4,ν5,ι1,ι2,ι3,ι4,load_at (st.get 0 rfl),hgl])
      refine ⟨by omega,by omega,?_⟩
      rw [gI_get hv]
      (try simp (maxSteps:=1000000) (disch:=first | assumption | (apply ν6;assumption)) only [vz,vu,vv,eqS,eF_,↓c1_,↓c2_,tabs,reduceCtorEq,ι5,↓reduceIte,ν1,ν2,ν3,ν4,ν5,ι1,ι2,ι3,ι4,hrn])
      refine L86_0_rule ((0:Nat),(⟨updB s.seen v true,s.out⟩:DS),x,D,G1) (fun z=>I z.1) (fun z=>z.2.2.2.2)
        (fun z=>z.1≤(rwF g v).length∧DLoop (ArcOf (rwF g)) g.length S0 gray s v (fun w=>w∈(rwF g v).take z.1) z.2.1∧St H (wkT g r qs z.2.1 z.2.2.1 z.2.2.2.1 rest) z.2.2.2.2) (fun z=>(rwF g v).length - z.1)
        ⟨⟨by simp,⟨hl0.inv,hl0.ext,hl0.sv,hl0.mono,fun u hu=>by simp at hu⟩,st⟩,.refl _,Heap.le_refl _⟩ ?_
      clear st hl0 hset
      rintro ⟨j,t,y,E,G⟩ ⟨hj,hl,st⟩
      dsimp only at hj hl st
      have e5:IntKind.i64.wrap ((j:Int)+1)=((j+1:Nat):Int):=by rw [i64_id (by omega) (by omega)];simp
      (try simp (maxSteps:=1000000) (disch:=first | assumption | (apply ν6;assumption)) only [vz,vu,vv,eqS,eF_,↓c1_,↓c2_,tabs,reduceCtorEq,ι5,↓reduceIte,ν1,ν2,ν3,ν4,ν5,ι1,ι2,ι3,ι4,B86_0,hrn])
      refine ⟨fun h2=>?_,fun h2=>?_⟩
      · have hlj:j < (rwF g v).length:=by omega
        refine ⟨by omega,h2,?_⟩
        rw [nI_get hlj]
        have hw:=hg.lt hlj
        have hE:ArcOf (rwF g) v ((rwF g v).getD j 0):=by simp [ArcOf,List.getD,hlj]
        have htk:∀u,u∈(rwF g v).take (j+1)→u∈(rwF g v).take j∨u=(rwF g v).getD j 0:=by
          intro u hu
          rw [take_succ_snoc hlj,List.mem_append,List.mem_singleton] at hu
          exact hu
        generalize (rwF g v).getD j 0=w at hw hE htk ⊢
        have hms:cntB s.seen g.length+1≤cntB t.seen g.length:=by
          rw [← cntB_upd hv hsv]
          refine cntB_mono fun u hu=>?_
          unfold updB at hu
          split at hu
          · rename_i e;subst e;exact hl.sv
          · exact hl.mono u hu
        have hmb:=cntB_le t.seen g.length
        refine ih _ (by omega) (v::gray) t w y E G _ rfl hl.inv hw (fun z hz=>?_) st fun t' y' E' G' hi' hp' _ st=>?_
        · rcases List.mem_cons.1 hz with rfl | hz
          · exact .one hE
          · exact (hr z hz).snoc hE
        have hnx:=D_call hl hE hi' hp'
        (try simp (maxSteps:=1000000) (disch:=first | assumption | (apply ν6;assumption)) only [vz,vu,vv,eqS,eF_,↓c1_,↓c2_,tabs,reduceCtorEq,ι5,↓reduceIte,ν1,ν2,ν3,ν4,ν5,ι1,ι2,ι3,ι4,e5])
        exact ⟨(j+1,t',y',E',G'),⟨by simp only;omega,⟨hnx.inv,hnx.ext,hnx.sv,hnx.mono,fun u hu=>hnx.don u (htk u hu)⟩,st⟩,by simp only;omega,.refl _,Heap.le_refl _⟩
      · have:j=(rwF g v).length:=by omega
        subst this
        rw [List.take_length] at hl
        have hol:=DInv.out_len hl.inv
        obtain ⟨a,b⟩:=D_fin hl hi hv hsv hr fun w hw=>hw
        (try simp (maxSteps:=1000000) (disch:=first | assumption | (apply ν6;assumption)) only [vz,vu,vv,eqS,eF_,↓c1_,↓c2_,tabs,reduceCtorEq,ι5,↓reduceIte,ν1,ν2,ν3,ν4,ν5,ι1,ι2,ι3,ι4,load_at (st.get 0 rfl)])
        refine lit1 tab_24 rfl tab_3 ⟨rfl,rfl⟩ ?_
        refine sk_app (w:=v) st 2 rfl (by omega) fun q' G' st=>?_
        simp only [List.set_cons_zero,List.set_cons_succ] at st
        (try simp (maxSteps:=1000000) (disch:=first | assumption | (apply ν6;assumption)) only [vz,vu,vv,eqS,eF_,↓c1_,↓c2_,tabs,reduceCtorEq,ι5,↓reduceIte,ν1,ν2,ν3,ν4,ν5,ι1,ι2,ι3,ι4,store_at (st.get 0 rfl)])
        replace st:=st.put 0 rfl [Ls (gI g),.sl qs 1 0 g.length,.sl q' 1 0 (t.out.length+1)]
        exact hK _ (.sl q' 1 0 (t.out.length+1)) [q'] _ a b (fun h=>by rw [hsv] at h;cases h) st
    · (try simp (maxSteps:=1000000) (disch:=first | assumption | (apply ν6;assumption)) only [vz,vu,vv,eqS,eF_,↓c1_,↓c2_,tabs,reduceCtorEq,ι5,↓reduceIte,ν1,ν2,ν3,ν4,ν5,ι1,ι2,ι3,ι4])
      exact hK s x D G hi (DPost.skip hsv) (fun _=>rfl) st
theorem len_SK {x:AV} {l:List Nat} {G:Heap} {D:List Nat} (h:SK x l G D):x=.p .nil∧l=[]∨∃q J,x=.sl q 1 0 l.length∧G q=some (cP fI (nI l++J)):=by
  rcases h with ⟨h1,h2,_⟩ | ⟨q,J,h1,h2,_⟩
  · exact .inl ⟨h1,h2⟩
  · exact .inr ⟨q,J,h1,h2⟩
theorem lenV_SK {x:AV} {l:List Nat} {G:Heap} {D:List Nat} (h:SK x l G D) {K:AV→Prop}:lenV tab 24 x K=K (I l.length):=by
  rcases h with ⟨rfl,rfl,_⟩ | ⟨q,J,rfl,h2,_⟩
  · (try simp (maxSteps:=1000000) (disch:=first | assumption | (apply ν6;assumption)) only [vz,vu,vv,eqS,eF_,↓c1_,↓c2_,tabs,reduceCtorEq,ι5,↓reduceIte,ν1,ν2,ν3,ν4,ν5,ι1,ι2,ι3,ι4]);rfl
  · (try simp (maxSteps:=1000000) (disch:=first | assumption | (apply ν6;assumption)) only [vz,vu,vv,eqS,eF_,↓c1_,↓c2_,tabs,reduceCtorEq,ι5,↓reduceIte,ν1,ν2,ν3,ν4,ν5,ι1,ι2,ι3,ι4])
theorem rdSK {l:List Nat} {J:List Int} {j:Nat} (h:j < l.length):(List.take 1 (List.drop (j*1) (cP fI (nI l++J)))).headD AV.any=I ((l.getD j 0:Nat):Int):=by
  rw [cI_rd (by rw [List.length_append,nI_len];omega)]
  have:(nI l++J).getD j default=((l.getD j 0:Nat):Int):=by
    rw [← nI_get h]
    simp only [List.getD]
    rw [List.getElem?_append_left (by rw [nI_len];exact h)]
  rw [this]
theorem lnSK (l:List Nat) (J:List Int):(cP fI (nI l++J)).length=l.length+J.length:=by rw [cI_len,List.length_append,nI_len]
theorem makeN_B (n:Nat) (h:n≤1000000000):makeN tab 81 (I n) (I n)=some (fun r=>.sl r 1 0 n,cP fB (mpB (fun _=>false) n)):=by
  have e:zerosA n [B false]=cP fB (mpB (fun _=>false) n):=by rw [cB_zero];rfl
  simp only [makeN,tab_81,tab_4,ifN]
  rw [if_pos ⟨by omega,by omega,by omega,by omega⟩,← e]
  rfl
theorem turn_rel {g:List (List Nat)} (hg:GrB g):ArcOf (rwF (turnG g))=fun x y=>ArcOf (rwF g) y x:=by
  funext x y
  show (y∈rwF (turnG g) x)=(x∈rwF g y)
  rw [turnG_row hg.gr]
  exact propext (turn_arc hg.gr)
theorem foldl_min (n:Nat) (l:List Nat):(l.foldl min n≤n∧∀u∈l,l.foldl min n≤u)∧(l.foldl min n=n∨l.foldl min n∈l):=by
  induction l generalizing n with
  | nil=>simp
  | cons a l ih=>
    obtain ⟨⟨h1,h2⟩,h3⟩:=ih (min n a)
    rw [List.foldl_cons]
    refine ⟨⟨Nat.le_trans h1 (Nat.min_le_left _ _),fun u hu=>?_⟩,?_⟩
    · rcases List.mem_cons.1 hu with rfl | hu
      · exact Nat.le_trans h1 (Nat.min_le_right _ _)
      · exact h2 u hu
    · rcases h3 with h3 | h3
      · rcases Nat.le_total n a with k | k
        · left;rw [h3];exact Nat.min_eq_left k
        · right;rw [h3,Nat.min_eq_right k];simp
      · right;exact List.mem_cons_of_mem _ h3
theorem l11Parts_spec (g:List (List Nat)) (hg:GrB g) (hg2:GrB (turnG g)):Pu Try.prog 74 [Ls (gI g)] (Is (prtI g)):=by
  refine ⟨fun H=>CallT.fin ?_⟩
  have hn:=hg.n
  have hgl:=gI_len g
  have hmk:=makeN_B g.length (by omega)
  have ez:zerosA g.length [B false]=cP fB (mpB (fun _=>false) g.length):=by rw [cB_zero];rfl
  refine W74_ok ?_;simp (maxSteps:=1000000) (disch:=first | assumption | (apply ν6;assumption)) only [W74,vz,vu,vv,eqS,eF_,↓c1_,↓c2_,tabs,reduceCtorEq,ι5,↓reduceIte,ν1,ν2,ν3,ν4,ν5,ι1,ι2,ι3,ι4,hgl,makeSliceV]
  refine ⟨by omega,by omega,by omega,by omega,fun qs hqs=>?_⟩
  rw [ez]
  (try simp (maxSteps:=1000000) (disch:=first | assumption | (apply ν6;assumption)) only [vz,vu,vv,eqS,eF_,↓c1_,↓c2_,tabs,reduceCtorEq,ι5,↓reduceIte,ν1,ν2,ν3,ν4,ν5,ι1,ι2,ι3,ι4])
  intro r hrs hr
  have st:=((St.nil H).cell hqs (cP fB (mpB (fun _=>false) g.length))).cell (r:=r) (by rw [Heap.set_other hrs];exact hr) [Ls (gI g),.sl qs 1 0 g.length,.p .nil]
  generalize (H.set qs (cP fB (mpB (fun _=>false) g.length))).set r [Ls (gI g),.sl qs 1 0 g.length,.p .nil]=G1 at st ⊢
  have st:=(st.push (skT (.p .nil) [] []) ⟨.nil,fun y hy=>(by cases hy),Heap.le_refl _⟩ (.inl ⟨rfl,rfl,rfl⟩)).perm (Us:=wkT g r qs ⟨fun _=>false,[]⟩ (.p .nil) [] []) (by exact List.perm_append_comm (l₁:=[skT (.p .nil) [] []]))
  clear hqs hrs hr
  refine L74_0_rule ((0:Nat),(⟨fun _=>false,[]⟩:DS),(.p .nil:AV),([]:List Nat),G1) (fun z=>I z.1) (fun z=>z.2.2.2.2)
    (fun z=>z.1≤g.length∧DInv (ArcOf (rwF g)) g.length (fun _=>False) [] z.2.1∧(∀u,u < z.1→z.2.1.seen u=true)∧St H (wkT g r qs z.2.1 z.2.2.1 z.2.2.2.1 []) z.2.2.2.2) (fun z=>g.length - z.1)
    ⟨⟨by simp,D_zero _ _,fun u hu=>by omega,st⟩,.refl _,Heap.le_refl _⟩ ?_
  clear st
  rintro ⟨k,t,x,D,G⟩ ⟨hk,ht,hd,st⟩
  dsimp only at hk ht hd st
  (try simp (maxSteps:=1000000) (disch:=first | assumption | (apply ν6;assumption)) only [vz,vu,vv,eqS,eF_,↓c1_,↓c2_,tabs,reduceCtorEq,ι5,↓reduceIte,ν1,ν2,ν3,ν4,ν5,ι1,ι2,ι3,ι4,B74_0,hgl])
  refine ⟨fun h1=>?_,fun h1=>?_⟩
  · have hlt:k < g.length:=by omega
    have e5:IntKind.i64.wrap ((k:Int)+1)=((k+1:Nat):Int):=by rw [i64_id (by omega) (by omega)];simp
    refine walk_spec g hg _ r qs [] _ [] t k x D G _ rfl ht hlt (fun y hy=>by cases hy) st fun t' x' D' G' ht' hp _ st=>?_
    (try simp (maxSteps:=1000000) (disch:=first | assumption | (apply ν6;assumption)) only [vz,vu,vv,eqS,eF_,↓c1_,↓c2_,tabs,reduceCtorEq,ι5,↓reduceIte,ν1,ν2,ν3,ν4,ν5,ι1,ι2,ι3,ι4,e5])
    refine ⟨(k+1,t',x',D',G'),⟨by simp only;omega,ht',fun u hu=>?_,st⟩,by simp only;omega,.refl _,Heap.le_refl _⟩
    simp only at hu ⊢
    by_cases e:u=k
    · subst e;exact hp.sv
    · exact hp.mono u (hd u (by omega))
  · have:k=g.length:=by omega
    subst this
    have hL:=D_left ht hd
    have hLl:t.out.length≤g.length:=DInv.out_len ht
    (try simp (maxSteps:=1000000) (disch:=first | assumption | (apply ν6;assumption)) only [vz,vu,vv,eqS,eF_,↓c1_,↓c2_,tabs,reduceCtorEq,ι5,↓reduceIte,ν1,ν2,ν3,ν4,ν5,ι1,ι2,ι3,ι4,hmk,safeV,newV])
    refine Pu.use (sp_spec.l11Turn g hg) ?_
    intro qt hqt
    (try simp (maxSteps:=1000000) (disch:=first | assumption | (apply ν6;assumption)) only [vz,vu,vv,eqS,eF_,↓c1_,↓c2_,tabs,reduceCtorEq,ι5,↓reduceIte,ν1,ν2,ν3,ν4,ν5,ι1,ι2,ι3,ι4])
    intro r2 hr2t hr2
    replace st:=(st.cell hqt (cP fB (mpB (fun _=>false) g.length))).cell (r:=r2) (by rw [Heap.set_other hr2t];exact hr2) [Ls (gI (turnG g)),.sl qt 1 0 g.length,.p .nil]
    generalize (G.set qt (cP fB (mpB (fun _=>false) g.length))).set r2 [Ls (gI (turnG g)),.sl qt 1 0 g.length,.p .nil]=G3 at st ⊢
    (try simp (maxSteps:=1000000) (disch:=first | assumption | (apply ν6;assumption)) only [vz,vu,vv,eqS,eF_,↓c1_,↓c2_,tabs,reduceCtorEq,ι5,↓reduceIte,ν1,ν2,ν3,ν4,ν5,ι1,ι2,ι3,ι4,hgl,makeSliceV])
    refine ⟨by omega,by omega,by omega,by omega,fun q3 hq3=>?_⟩
    have ez3:zerosA g.length [I 0]=cP fI (mpI (fun _=>0) g.length):=by rw [cP_rep,mpI_const]
    rw [ez3]
    replace st:=st.cell hq3 (cP fI (mpI (fun _=>0) g.length))
    generalize G3.set q3 (cP fI (mpI (fun _=>0) g.length))=G4 at st ⊢
    clear hq3 hr2 hr2t hqt
    have hgt:(turnG g).length=g.length:=turnG_len g
    have p3:∀{α:Type} (a b c:α) (l:List α),List.Perm (a::b::c::l) (b::c::a::l):=fun a b c l=>(List.Perm.swap b a _).trans ((List.Perm.swap c a _).cons b)
    (try simp (maxSteps:=1000000) (disch:=first | assumption | (apply ν6;assumption)) only [vz,vu,vv,eqS,eF_,↓c1_,↓c2_,tabs,reduceCtorEq,ι5,↓reduceIte,ν1,ν2,ν3,ν4,ν5,ι1,ι2,ι3,ι4,load_at (st.get 3 rfl)])
    rw [lenV_SK (st.get 5 rfl)]
    have e0:IntKind.i64.wrap ((t.out.length:Int) - 1)=(t.out.length:Int) - 1:=i64_id (by omega) (by omega)
    (try simp (maxSteps:=1000000) (disch:=first | assumption | (apply ν6;assumption)) only [vz,vu,vv,eqS,eF_,↓c1_,↓c2_,tabs,reduceCtorEq,ι5,↓reduceIte,ν1,ν2,ν3,ν4,ν5,ι1,ι2,ι3,ι4,e0])
    have st:=(st.push (skT (.p .nil) [] []) ⟨.nil,fun y hy=>(by cases hy),Heap.le_refl _⟩ (.inl ⟨rfl,rfl,rfl⟩)).perm (Us:=wkT (turnG g) r2 qt ⟨fun _=>false,[]⟩ (.p .nil) [] [cellT q3 (cP fI (mpI (fun _=>0) g.length)),cellT r [Ls (gI g),.sl qs 1 0 g.length,x],cellT qs (cP fB (mpB t.seen g.length)),skT x t.out D]) (by
      simp only [wkT,hgt]
      exact (List.perm_append_comm (l₁:=[_,_]) (l₂:=[_,_])).append_right _)
    refine L74_1_rule (t.out.length,(⟨fun _=>false,[]⟩:DS),(fun _=>(0:Int)),(.p .nil:AV),([]:List Nat),G4) (fun z=>I ((z.1:Int) - 1)) (fun z=>z.2.2.2.2.2)
      (fun z=>z.1≤t.out.length∧(∀v,v < g.length→(z.2.1.seen v=true↔∃q∈t.out.drop z.1,Con (ArcOf (rwF g)) v q))∧(∀v,v < g.length→z.2.1.seen v=true→z.2.2.1 v=(partF (ArcOf (rwF g)) v:Int))∧
        St H (wkT (turnG g) r2 qt z.2.1 z.2.2.2.1 z.2.2.2.2.1 [cellT q3 (cP fI (mpI z.2.2.1 g.length)),cellT r [Ls (gI g),.sl qs 1 0 g.length,x],cellT qs (cP fB (mpB t.seen g.length)),skT x t.out D]) z.2.2.2.2.2) (fun z=>z.1)
      ⟨⟨Nat.le_refl _,fun v hv=>by simp,fun v hv h=>(by cases h),st⟩,.refl _,Heap.le_refl _⟩ ?_
    clear st
    rintro ⟨c,s2,po,x2,D2,G⟩ ⟨hc,hseen,hpo,st⟩
    dsimp only at hc hseen hpo st
    (try simp (maxSteps:=1000000) (disch:=first | assumption | (apply ν6;assumption)) only [vz,vu,vv,eqS,eF_,↓c1_,↓c2_,tabs,reduceCtorEq,ι5,↓reduceIte,ν1,ν2,ν3,ν4,ν5,ι1,ι2,ι3,ι4,B74_1])
    refine ⟨fun h2=>?_,fun h2=>?_⟩
    · obtain ⟨c,rfl⟩:∃c',c=c'+1:=⟨c - 1,by omega⟩
      have hcl:c < t.out.length:=by omega
      (try simp (maxSteps:=1000000) (disch:=first | assumption | (apply ν6;assumption)) only [vz,vu,vv,eqS,eF_,↓c1_,↓c2_,tabs,reduceCtorEq,ι5,↓reduceIte,ν1,ν2,ν3,ν4,ν5,ι1,ι2,ι3,ι4,store_at (st.get 0 rfl)])
      have hcur:=st.put 0 rfl [Ls (gI (turnG g)),.sl qt 1 0 (turnG g).length,.p .nil]
      have st:=((hcur.erase 2).push (skT (.p .nil) [] []) ⟨.nil,fun y hy=>(by cases hy),Heap.le_refl _⟩ (.inl ⟨rfl,rfl,rfl⟩)).perm (p3 _ _ _ _)
      clear hcur
      generalize G.set r2 [Ls (gI (turnG g)),.sl qt 1 0 (turnG g).length,.p .nil]=G5 at st ⊢
      have hx:SK x t.out G5 D:=st.get 6 rfl
      rcases len_SK hx with ⟨_,h0⟩ | ⟨qx,J,rfl,hqx⟩
      · rw [h0] at hcl;simp at hcl
      have hrd:=rdSK (l:=t.out) (J:=J) hcl
      have e1:(((c+1:Nat):Int) - 1)=(c:Int):=by omega
      rw [e1] at h2 ⊢
      have hu:t.out.getD c 0∈t.out:=getD_all (p:=fun z=>z∈t.out) (d:=0) (fun _ k=>k) hcl
      have hsplit:t.out=t.out.take c++t.out.getD c 0::t.out.drop (c+1):=by
        conv=>lhs;rw [← List.take_append_drop c t.out,drop_cons hcl]
        rfl
      have hdrop:t.out.drop c=t.out.getD c 0::t.out.drop (c+1):=drop_cons hcl
      generalize t.out.getD c 0=u at hu hsplit hrd hdrop
      have hun:u < g.length:=(hL.mem u).2 hu
      have hln:=lnSK t.out J
      (try simp (maxSteps:=1000000) (disch:=first | assumption | (apply ν6;assumption)) only [vz,vu,vv,eqS,eF_,↓c1_,↓c2_,tabs,reduceCtorEq,ι5,↓reduceIte,ν1,ν2,ν3,ν4,ν5,ι1,ι2,ι3,ι4,load_at (st.get 4 rfl),load_at hqx,hrd,hln,Int.toNat_natCast])
      refine ⟨by omega,by omega,by omega,?_⟩
      refine walk_spec (turnG g) hg2 (fun v=>s2.seen v=true) r2 qt _ _ [] ⟨s2.seen,[]⟩ u (.p .nil) [] G5 _ rfl (D_zero' _ _ _) (by rw [hgt];exact hun) (fun y hy=>by cases hy) st fun t2 x3 D3 G6 ht2 hp2 hsame st=>?_
      rw [turn_rel hg,hgt] at ht2
      rw [turn_rel hg] at hp2
      (try simp (maxSteps:=1000000) (disch:=first | assumption | (apply ν6;assumption)) only [vz,vu,vv,eqS,eF_,↓c1_,↓c2_,tabs,reduceCtorEq,ι5,↓reduceIte,ν1,ν2,ν3,ν4,ν5,ι1,ι2,ι3,ι4,hgl,load_at (st.get 0 rfl)])
      rw [lenV_SK (st.get 2 rfl)]
      have ho2:=DInv.out_len ht2
      have key:(∀v,v < g.length→(t2.seen v=true↔∃q∈t.out.drop c,Con (ArcOf (rwF g)) v q))∧
          (∀v,v < g.length→t2.seen v=true→(if v∈t2.out then (((t2.out.foldl min g.length:Nat)):Int) else po v)=(partF (ArcOf (rwF g)) v:Int))∧∀w∈t2.out,w < g.length:=by
        rw [hdrop]
        cases hus:s2.seen u
        · have hu0:¬s2.seen u=true:=by rw [hus];simp
          have hout:=D_part hL hsplit (S0:=fun v=>s2.seen v=true) hseen (fun x y hxy=>⟨hg.gr.src hxy,hg.gr.lt x y hxy⟩) ht2 hp2.sv hu0 (fun z hz=>by
            obtain ⟨N,k1,k2⟩:=hp2.ext
            rw [k1] at hz
            exact k2 z (by simpa using hz))
          obtain ⟨⟨_,hm2⟩,hm3⟩:=foldl_min g.length t2.out
          have huo:u∈t2.out:=(hout u).2 (.refl _)
          have hmo:t2.out.foldl min g.length∈t2.out:=by
            rcases hm3 with h | h
            · have:=hm2 u huo
              omega
            · exact h
          refine ⟨fun v hv=>?_,fun v hv hsv=>?_,ht2.lt⟩
          · rw [ht2.sn v]
            constructor
            · rintro (k | k | k)
              · obtain ⟨q,q1,q2⟩:=(hseen v hv).1 k
                exact ⟨q,List.mem_cons_of_mem _ q1,q2⟩
              · exact ⟨u,List.mem_cons_self ..,((hout v).1 k).symm⟩
              · cases k
            · rintro ⟨q,q1,q2⟩
              rcases List.mem_cons.1 q1 with rfl | q1
              · exact .inr (.inl ((hout v).2 q2.symm))
              · exact .inl ((hseen v hv).2 ⟨q,q1,q2⟩)
          · by_cases hvo:v∈t2.out
            · rw [if_pos hvo]
              have hle:Least (ArcOf (rwF g)) u (t2.out.foldl min g.length):=⟨(hout _).1 hmo,fun w hw=>hm2 w ((hout w).2 hw)⟩
              rw [partF_of (hle.of_con ((hout v).1 hvo))]
            · rw [if_neg hvo]
              rcases (ht2.sn v).1 hsv with k | k | k
              · exact hpo v hv k
              · exact absurd k hvo
              · cases k
        · have e:=hsame hus
          subst e
          refine ⟨fun v hv=>?_,fun v hv hsv=>?_,fun w hw=>(by cases hw)⟩
          · rw [hseen v hv]
            constructor
            · rintro ⟨q,q1,q2⟩;exact ⟨q,List.mem_cons_of_mem _ q1,q2⟩
            · rintro ⟨q,q1,q2⟩
              rcases List.mem_cons.1 q1 with rfl | q1
              · obtain ⟨q',k1,k2⟩:=(hseen q hun).1 hus
                exact ⟨q',k1,q2.trans k2⟩
              · exact ⟨q,q1,q2⟩
          · rw [if_neg (by simp)];exact hpo v hv hsv
      obtain ⟨key1,key2,key3⟩:=key
      refine L74_2_rule (0:Nat) (fun j=>I ((t2.out.take j).foldl min g.length:Nat)) (fun j=>I j) (fun _=>G6) (fun j=>j≤t2.out.length) (fun j=>t2.out.length - j) ⟨by simp,.refl _,.refl _,Heap.le_refl _⟩ ?_
      intro j hj
      have e5:IntKind.i64.wrap ((j:Int)+1)=((j+1:Nat):Int):=by rw [i64_id (by omega) (by omega)];simp
      (try simp (maxSteps:=1000000) (disch:=first | assumption | (apply ν6;assumption)) only [vz,vu,vv,eqS,eF_,↓c1_,↓c2_,tabs,reduceCtorEq,ι5,↓reduceIte,ν1,ν2,ν3,ν4,ν5,ι1,ι2,ι3,ι4,B74_2])
      refine ⟨fun h3=>?_,fun h3=>?_⟩
      · have hlj:j < t2.out.length:=by omega
        rcases len_SK (st.get 2 rfl) with ⟨_,h0⟩ | ⟨q4,J4,rfl,hq4⟩
        · rw [h0] at hlj;simp at hlj
        have hrd4:=rdSK (l:=t2.out) (J:=J4) hlj
        have hln4:=lnSK t2.out J4
        have hmin:(t2.out.take (j+1)).foldl min g.length=min ((t2.out.take j).foldl min g.length) (t2.out.getD j 0):=by
          rw [take_succ_snoc hlj,List.foldl_append];rfl
        (try simp (maxSteps:=1000000) (disch:=first | assumption | (apply ν6;assumption)) only [vz,vu,vv,eqS,eF_,↓c1_,↓c2_,tabs,reduceCtorEq,ι5,↓reduceIte,ν1,ν2,ν3,ν4,ν5,ι1,ι2,ι3,ι4,load_at hq4,hrd4,hln4,e5])
        refine ⟨by omega,by omega,by omega,fun h4=>?_,fun h4=>?_⟩
        · refine ⟨j+1,by omega,by omega,?_,.refl _⟩
          rw [hmin,Nat.min_eq_right (by omega)];exact .refl _
        · refine ⟨j+1,by omega,by omega,?_,.refl _⟩
          rw [hmin,Nat.min_eq_left (by omega)];exact .refl _
      · have:j=t2.out.length:=by omega
        subst this
        rw [List.take_length]
        generalize t2.out.foldl min g.length=mm at key2
        (try simp (maxSteps:=1000000) (disch:=first | assumption | (apply ν6;assumption)) only [vz,vu,vv,eqS,eF_,↓c1_,↓c2_,tabs,reduceCtorEq,ι5,↓reduceIte,ν1,ν2,ν3,ν4,ν5,ι1,ι2,ι3,ι4,load_at (st.get 0 rfl)])
        rw [lenV_SK (st.get 2 rfl)]
        refine L74_3_rule ((0:Nat),G6) (fun z=>I z.1) (fun z=>z.2)
          (fun z=>z.1≤t2.out.length∧St H (wkT (turnG g) r2 qt t2 x3 D3 [cellT q3 (cP fI (mpI (fun v=>if v∈t2.out.take z.1 then (mm:Int) else po v) g.length)),cellT r [Ls (gI g),.sl qs 1 0 g.length,.sl qx 1 0 t.out.length],cellT qs (cP fB (mpB t.seen g.length)),skT (.sl qx 1 0 t.out.length) t.out D]) z.2) (fun z=>t2.out.length - z.1)
          ⟨⟨by simp,by simpa using st⟩,.refl _,Heap.le_refl _⟩ ?_
        clear st
        rintro ⟨j,G⟩ ⟨hj,st⟩
        dsimp only at hj st
        have e5:IntKind.i64.wrap ((j:Int)+1)=((j+1:Nat):Int):=by rw [i64_id (by omega) (by omega)];simp
        (try simp (maxSteps:=1000000) (disch:=first | assumption | (apply ν6;assumption)) only [vz,vu,vv,eqS,eF_,↓c1_,↓c2_,tabs,reduceCtorEq,ι5,↓reduceIte,ν1,ν2,ν3,ν4,ν5,ι1,ι2,ι3,ι4,B74_3])
        refine ⟨fun h3=>?_,fun h3=>?_⟩
        · have hlj:j < t2.out.length:=by omega
          rcases len_SK (st.get 2 rfl) with ⟨_,h0⟩ | ⟨q4,J4,rfl,hq4⟩
          · rw [h0] at hlj;simp at hlj
          have hrd4:=rdSK (l:=t2.out) (J:=J4) hlj
          have hln4:=lnSK t2.out J4
          have hw:=key3 (t2.out.getD j 0) (getD_all (p:=fun z=>z∈t2.out) (d:=0) (fun _ k=>k) hlj)
          have htk:t2.out.take (j+1)=t2.out.take j++[t2.out.getD j 0]:=take_succ_snoc hlj
          generalize t2.out.getD j 0=w at hw htk hrd4
          have hset:=setN (fun v=>if v∈t2.out.take j then (mm:Int) else po v) hw (mm:Int)
          have hup:updI (fun v=>if v∈t2.out.take j then (mm:Int) else po v) w (mm:Int)=fun v=>if v∈t2.out.take (j+1) then (mm:Int) else po v:=by
            funext z
            rw [htk]
            unfold updI
            by_cases e:z=w
            · subst e;simp
            · by_cases e2:z∈t2.out.take j<;>simp [e,e2]
          (try simp (maxSteps:=1000000) (disch:=first | assumption | (apply ν6;assumption)) only [vz,vu,vv,eqS,eF_,↓c1_,↓c2_,tabs,reduceCtorEq,ι5,↓reduceIte,ν1,ν2,ν3,ν4,ν5,ι1,ι2,ι3,ι4,load_at hq4,hrd4,hln4,store_at (st.get 3 rfl),lnN,mpI_len,e5,Int.toNat_natCast])
          refine ⟨by omega,by omega,by omega,by omega,by omega,by omega,?_⟩
          rw [hset,hup]
          exact ⟨(j+1,_),⟨by simp only;omega,st.put 3 rfl (cP fI (mpI (fun v=>if v∈t2.out.take (j+1) then (mm:Int) else po v) g.length))⟩,by simp only;omega,.refl _,Heap.le_refl _⟩
        · have:j=t2.out.length:=by omega
          subst this
          rw [List.take_length] at st
          have e6:IntKind.i64.wrap ((c:Int) - 1)=(c:Int) - 1:=i64_id (by omega) (by omega)
          (try simp (maxSteps:=1000000) (disch:=first | assumption | (apply ν6;assumption)) only [vz,vu,vv,eqS,eF_,↓c1_,↓c2_,tabs,reduceCtorEq,ι5,↓reduceIte,ν1,ν2,ν3,ν4,ν5,ι1,ι2,ι3,ι4,e6])
          exact ⟨(c,t2,_,x3,D3,G),⟨by simp only;omega,key1,key2,st⟩,by simp only;omega,.refl _,Heap.le_refl _⟩
    · have:c=0:=by omega
      subst this
      have e:mpI po g.length=prtI g:=by
        unfold prtI mpI
        apply List.map_congr_left
        intro v hv
        have hv:=List.mem_range.1 hv
        exact hpo v hv ((hseen v hv).2 ⟨v,by simpa using (hL.mem v).1 hv,.refl _⟩)
      have:=st_int st 3 rfl
      rw [rowP,mpI_len,e] at this
      exact this
end Go.Proofs.Ytohkciilfkhomaa
