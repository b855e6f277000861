/- The row of the law FnUnrolled: whatever the arguments, it answers true, and what it is told reads as it did. -/
import Derived.Test.YtjdhigcefkihiaaPb5
import Derived.Test.YtjdhigcefkihiaaRows
import Derived.WalkKit
import Derived.ProofKit
import Derived.OpenShut
set_option linter.unusedVariables false
set_option linter.unusedSimpArgs false
open Nat renaming reduceAdd→ν1,reduceLeDiff→ν2,reduceLT→ν3,reduceMul→ν4,reduceSub→ν5
open Int renaming reduceToNat→ι1,reduceSub→ι2,reduceAdd→ι3,reduceNeg→ι4
open Array renaming toList→ι5
open Ne renaming symm→ν6
open List renaming forall_mem_cons→ν7
namespace Go.Proofs.Ytjdhigcefkihiaa
open Go Go.Sep Go.Pt
attribute [local irreducible] CallT
def foldK (s l:List Int) (k:Nat):Nat:=if k < s.length then k else s.length+(k - s.length) % l.length
theorem foldK_lt {s l:List Int} (h:1≤l.length) (k:Nat):foldK s l k < s.length+l.length:=by
  unfold foldK
  split
  · omega
  · have:=Nat.mod_lt (k - s.length) (show l.length > 0 by omega)
    omega
def haV (f:List Sd) (s l:List Int) (k:Nat):Bool:=(rowF (lasL s l) f (f.length - 1)).getD (foldK s l k) default
def haB (f:List Sd) (s l:List Int) (k:Int):Bool:=goodF f && (goodL s l && (decide (0≤k) && decide (k≤1000)))
def haR (f:List Sd) (s l:List Int) (k:Int):Bool×Bool:=if haB f s l k then (haV f s l k.toNat,true) else (false,false)
theorem goodL_f {s l:List Int} (h:goodL s l=true):s.length≤24∧1≤l.length∧l.length≤24:=by
  simp only [goodL,Bool.and_eq_true,decide_eq_true_eq] at h
  exact ⟨h.1.1,h.1.2⟩
theorem isIndex_spec (k:Int):Pu Try.prog 79 [I k] (B (decide (0≤k) && decide (k≤1000))):=by
  refine Pu.of fun H=>?_
  refine W79_ok ?_;simp (maxSteps:=1000000) (disch:=first | assumption | (apply ν6;assumption)) only [W79,vz,vu,vv,eqS,eF_,↓c1_,↓c2_,tabs,reduceCtorEq,ι5,↓reduceIte,ν1,ν2,ν3,ν4,ν5,ι1,ι2,ι3,ι4]
  exact ⟨fun h=>by rw [decide_eq_true h,Bool.true_and],fun h=>by rw [decide_eq_false h,Bool.false_and]⟩
theorem HoldsAt_impl (f:List Sd) (hf:f.length≤1048576) (s l:List Int) (hs:s.length≤1048576) (hl:l.length≤1048576) (k:Int):Pu Try.prog 28 [Ds f,aL2 s l,I k] (.tup [B (haR f s l k).1,B (haR f s l k).2]):=by
  refine Pu.of fun H=>?_
  refine W28_ok ?_;simp (maxSteps:=1000000) (disch:=first | assumption | (apply ν6;assumption)) only [W28,vz,vu,vv,eqS,eF_,↓c1_,↓c2_,tabs,reduceCtorEq,ι5,↓reduceIte,ν1,ν2,ν3,ν4,ν5,ι1,ι2,ι3,ι4]
  intro r hr
  have hle:=Heap.le_set (b:=[Is s,Is l]) hr
  have bad:haB f s l k=false→AV.tup [B false,B false]=.tup [B (haR f s l k).1,B (haR f s l k).2]∧Heap.le H (H.set r [Is s,Is l]):=fun hb=>by
    have e:haR f s l k=(false,false):=by rw [haR,hb];rfl
    rw [e];exact ⟨rfl,hle⟩
  refine Pu.use (GoodSaid_impl f hf) ?_
  cases hg:goodF f
  · (try simp (maxSteps:=1000000) (disch:=first | assumption | (apply ν6;assumption)) only [vz,vu,vv,eqS,eF_,↓c1_,↓c2_,tabs,reduceCtorEq,ι5,↓reduceIte,ν1,ν2,ν3,ν4,ν5,ι1,ι2,ι3,ι4])
    exact bad (by rw [haB,hg];rfl)
  (try simp (maxSteps:=1000000) (disch:=first | assumption | (apply ν6;assumption)) only [vz,vu,vv,eqS,eF_,↓c1_,↓c2_,tabs,reduceCtorEq,ι5,↓reduceIte,ν1,ν2,ν3,ν4,ν5,ι1,ι2,ι3,ι4])
  refine Pu.use (GoodLassoI s l (by omega) (by omega)) ?_
  cases hgl:goodL s l
  · (try simp (maxSteps:=1000000) (disch:=first | assumption | (apply ν6;assumption)) only [vz,vu,vv,eqS,eF_,↓c1_,↓c2_,tabs,reduceCtorEq,ι5,↓reduceIte,ν1,ν2,ν3,ν4,ν5,ι1,ι2,ι3,ι4])
    exact bad (by rw [haB,hg,hgl];rfl)
  (try simp (maxSteps:=1000000) (disch:=first | assumption | (apply ν6;assumption)) only [vz,vu,vv,eqS,eF_,↓c1_,↓c2_,tabs,reduceCtorEq,ι5,↓reduceIte,ν1,ν2,ν3,ν4,ν5,ι1,ι2,ι3,ι4])
  refine Pu.use (isIndex_spec k) ?_
  cases hk:(decide (0≤k) && decide (k≤1000))
  · (try simp (maxSteps:=1000000) (disch:=first | assumption | (apply ν6;assumption)) only [vz,vu,vv,eqS,eF_,↓c1_,↓c2_,tabs,reduceCtorEq,ι5,↓reduceIte,ν1,ν2,ν3,ν4,ν5,ι1,ι2,ι3,ι4])
    exact bad (by rw [haB,hg,hgl,hk];rfl)
  have hk2:=hk
  rw [Bool.and_eq_true,decide_eq_true_eq,decide_eq_true_eq] at hk
  obtain ⟨n,rfl⟩:∃n:Nat,k=n:=⟨k.toNat,by omega⟩
  obtain ⟨h1,h2⟩:=goodL_f hgl
  have g:=goodF_iff.1 hg
  have hl0:=g.l0
  have hl1:=g.l1
  have e:haR f s l n=(haV f s l n,true):=by
    rw [haR,haB,hg,hgl,hk2];rfl
  rw [e,haV]
  clear bad e
  have hrl:(rowF (lasL s l) f (f.length - 1)).length=s.length+l.length:=rowF_len _ _ _
  have hfo:=foldK_lt (s:=s) h2.1 n
  have J:∀m:Nat,m=foldK s l n→J28_0 (fun v H1=>v=AV.tup [B ((rowF (lasL s l) f (f.length - 1)).getD (foldK s l n) default),B true]∧Heap.le H H1) (Ds f) (I m) (.ptr r 0) (H.set r [Is s,Is l]):=by
    intro m hm
    subst hm
    (try simp (maxSteps:=1000000) (disch:=first | assumption | (apply ν6;assumption)) only [vz,vu,vv,eqS,eF_,↓c1_,↓c2_,tabs,reduceCtorEq,ι5,↓reduceIte,ν1,ν2,ν3,ν4,ν5,ι1,ι2,ι3,ι4,J28_0])
    refine along_spec s l h1 h2 f g.okFm ?_
    rw [run_all g]
    (try simp (maxSteps:=1000000) (disch:=first | assumption | (apply ν6;assumption)) only [vz,vu,vv,eqS,eF_,↓c1_,↓c2_,tabs,reduceCtorEq,ι5,↓reduceIte,ν1,ν2,ν3,ν4,ν5,ι1,ι2,ι3,ι4,List.headD_cons,hrl])
    exact ⟨by omega,by omega,hle⟩
  (try simp (maxSteps:=1000000) (disch:=first | assumption | (apply ν6;assumption)) only [vz,vu,vv,eqS,eF_,↓c1_,↓c2_,tabs,reduceCtorEq,ι5,↓reduceIte,ν1,ν2,ν3,ν4,ν5,ι1,ι2,ι3,ι4])
  refine ⟨fun h3=>?_,fun h3=>?_⟩
  · have e1:IntKind.i64.wrap ((n:Int) - (s.length:Int))=((n - s.length:Nat):Int):=by rw [i64_id (by omega) (by omega)];omega
    have e2:((n - s.length:Nat):Int).tmod (l.length:Int)=(((n - s.length) % l.length:Nat):Int):=by rw [Int.tmod_eq_emod_of_nonneg (by omega)];exact (Int.natCast_emod _ _).symm
    have:=Nat.mod_lt (n - s.length) (show l.length > 0 by omega)
    have e3:IntKind.i64.wrap ((s.length:Int)+(((n - s.length) % l.length:Nat):Int))=((s.length+(n - s.length) % l.length:Nat):Int):=by rw [i64_id (by omega) (by omega)];simp
    rw [e1,e2,e3]
    exact ⟨by omega,J _ (by rw [foldK,if_neg (by omega)])⟩
  · exact J _ (by rw [foldK,if_pos (by omega)])
end Go.Proofs.Ytjdhigcefkihiaa
namespace Go.Proofs.Ytjdhigcefkihiaa
open Go Go.Sep
attribute [local irreducible] CallT
abbrev cur (code:List Int) (k:Nat) (seed:Int):List AV:=[.p (.sl (code.map e8)),I k,U seed]
structure CodeC (code:List Int):Prop where
  byte:∀b∈code,0≤b∧b < 256
  len:code.length≤4194304
theorem and255 (x:Int):0≤bitsI .and .u64 x 255∧bitsI .and .u64 x 255 < 256:=by
  have h:(BitVec.ofInt IntKind.u64.bits x &&& BitVec.ofInt IntKind.u64.bits 255).toNat≤255:=by
    rw [BitVec.toNat_and];exact Nat.le_trans Nat.and_le_right (by decide)
  simp only [bitsI]
  rw [IntKind.wrap_u64];omega
theorem cnext_spec {code:List Int} (hc:CodeC code) {k:Nat} {seed:Int} (hk:k≤1000000000) {H:Heap} {r:Nat} (hr:H r=some (cur code k seed)) {K:AV→Heap→Prop}
    (h:∀b seed',0≤b→b < 256→K (I b) (H.set r (cur code (k+1) seed'))):CallT Try.prog 109 [.ptr r 0] H K:=by
  have hw:IntKind.i64.wrap (↑k+1)=((k+1:Nat):Int):=i64_id (by omega) (by omega)
  refine W109_ok ?_;simp (maxSteps:=1000000) (disch:=first | assumption | (apply ν6;assumption)) only [W109,vz,vu,vv,eqS,eF_,↓c1_,↓c2_,tabs,reduceCtorEq,ι5,↓reduceIte,ν1,ν2,ν3,ν4,ν5,ι1,ι2,ι3,ι4,J109_0,load_at hr,store_at hr,hw]
  have hb:∀x:Int,(0≤x∧x < 256)→0≤IntKind.i64.wrap x∧IntKind.i64.wrap x < 256:=fun x hx=>by rw [i64_id (by omega) (by omega)];exact hx
  refine ⟨fun h1=>⟨by omega,h1,fun _=>?_,fun _=>⟨by omega,?_⟩⟩,fun h1=>⟨fun _=>?_,fun _=>⟨by omega,?_⟩⟩⟩
  · have:=hb _ (getD_all (d:=default) hc.byte (i:=k) (by omega))
    exact h _ _ this.1 this.2
  · have:=hb _ (and255 ((IntKind.u64.wrap (IntKind.u64.wrap (IntKind.u64.wrap (seed*6364136223846793005)+IntKind.u64.wrap (IntKind.i64.wrap (code.getD k default)))+1442695040888963407)).fdiv (2^min 40 IntKind.u64.bits)))
    exact h _ _ this.1 this.2
  · exact h _ _ (by omega) (by omega)
  · have:=hb _ (and255 ((IntKind.u64.wrap (IntKind.u64.wrap (IntKind.u64.wrap (seed*6364136223846793005)+IntKind.u64.wrap 0)+1442695040888963407)).fdiv (2^min 40 IntKind.u64.bits)))
    exact h _ _ this.1 this.2
theorem pick_spec {code:List Int} (hc:CodeC code) {k:Nat} {seed:Int} (n:Int) (hn:n≤65536) (hk:k≤900000000) {H:Heap} {r:Nat} (hr:H r=some (cur code k seed)) {K:AV→Heap→Prop}
    (h:∀x k' seed',0≤x→(x=0∨x < n)→k≤k'→k'≤k+2→K (I x) (H.set r (cur code k' seed'))):CallT Try.prog 67 [.ptr r 0,I n] H K:=by
  have hs:H.set r (cur code k seed)=H:=by
    funext x;by_cases e:x=r
    · subst e;rw [Heap.set_same,hr]
    · rw [Heap.set_other e]
  refine W67_ok ?_;simp (maxSteps:=1000000) (disch:=first | assumption | (apply ν6;assumption)) only [W67,vz,vu,vv,eqS,eF_,↓c1_,↓c2_,tabs,reduceCtorEq,ι5,↓reduceIte,ν1,ν2,ν3,ν4,ν5,ι1,ι2,ι3,ι4]
  refine ⟨fun h1=>?_,fun h1=>?_⟩
  · have:=h 0 k seed (by omega) (.inl rfl) (by omega) (by omega)
    rwa [hs] at this
  · refine cnext_spec hc (by omega) hr fun b s1 hb0 hb1=>?_
    (try simp (maxSteps:=1000000) (disch:=first | assumption | (apply ν6;assumption)) only [vz,vu,vv,eqS,eF_,↓c1_,↓c2_,tabs,reduceCtorEq,ι5,↓reduceIte,ν1,ν2,ν3,ν4,ν5,ι1,ι2,ι3,ι4])
    refine ⟨fun h2=>?_,fun h2=>?_⟩
    · refine cnext_spec hc (by omega) (Heap.set_same _ _ _) fun b2 s2 hb2 hb3=>?_
      (try simp (maxSteps:=1000000) (disch:=first | assumption | (apply ν6;assumption)) only [vz,vu,vv,eqS,eF_,↓c1_,↓c2_,tabs,reduceCtorEq,ι5,↓reduceIte,ν1,ν2,ν3,ν4,ν5,ι1,ι2,ι3,ι4])
      rw [i64_id (n:=b*256) (by omega) (by omega),i64_id (by omega) (by omega)]
      exact ⟨by omega,h _ _ _ (Int.tmod_nonneg _ (by omega)) (.inr (Int.tmod_lt_of_pos _ (by omega))) (by omega) (by omega)⟩
    · exact ⟨by omega,h _ _ _ (Int.tmod_nonneg _ (by omega)) (.inr (Int.tmod_lt_of_pos _ (by omega))) (by omega) (by omega)⟩
theorem one_spec {code:List Int} (hc:CodeC code) {k:Nat} {seed:Int} (n:Int) (hn:n≤65536) (hk:k≤900000000) {H:Heap} {r:Nat} (hr:H r=some (cur code k seed)) {K:AV→Heap→Prop}
    (h:∀x k' seed',k≤k'→k'≤k+2→K (B x) (H.set r (cur code k' seed'))):CallT Try.prog 94 [.ptr r 0,I n] H K:=by
  refine W94_ok ?_;simp (maxSteps:=1000000) (disch:=first | assumption | (apply ν6;assumption)) only [W94,vz,vu,vv,eqS,eF_,↓c1_,↓c2_,tabs,reduceCtorEq,ι5,↓reduceIte,ν1,ν2,ν3,ν4,ν5,ι1,ι2,ι3,ι4]
  refine pick_spec hc n hn hk hr fun x k' s' _ _ h1 h2=>?_
  (try simp (maxSteps:=1000000) (disch:=first | assumption | (apply ν6;assumption)) only [vz,vu,vv,eqS,eF_,↓c1_,↓c2_,tabs,reduceCtorEq,ι5,↓reduceIte,ν1,ν2,ν3,ν4,ν5,ι1,ι2,ι3,ι4])
  exact h _ _ _ h1 h2
theorem among_spec {code:List Int} (hc:CodeC code) {k:Nat} {seed:Int} (l:List Int) (hl:0 < l.length) (hn:l.length≤65536) (hk:k≤900000000) {H:Heap} {r:Nat} (hr:H r=some (cur code k seed)) {K:AV→Heap→Prop}
    (h:∀x k' seed',x∈l→k≤k'→k'≤k+2→K (I x) (H.set r (cur code k' seed'))):CallT Try.prog 81 [.ptr r 0,Is l] H K:=by
  refine W81_ok ?_;simp (maxSteps:=1000000) (disch:=first | assumption | (apply ν6;assumption)) only [W81,vz,vu,vv,eqS,eF_,↓c1_,↓c2_,tabs,reduceCtorEq,ι5,↓reduceIte,ν1,ν2,ν3,ν4,ν5,ι1,ι2,ι3,ι4]
  refine pick_spec hc _ (by omega) hk hr fun x k' s' h0 hx h1 h2=>?_
  (try simp (maxSteps:=1000000) (disch:=first | assumption | (apply ν6;assumption)) only [vz,vu,vv,eqS,eF_,↓c1_,↓c2_,tabs,reduceCtorEq,ι5,↓reduceIte,ν1,ν2,ν3,ν4,ν5,ι1,ι2,ι3,ι4])
  refine ⟨h0,by omega,?_⟩
  exact h _ _ _ (getD_all (p:=fun b=>b∈l) (fun b hb=>hb) (by omega)) h1 h2
end Go.Proofs.Ytjdhigcefkihiaa
namespace Go.Proofs.Ytjdhigcefkihiaa
open Go Go.Sep Go.Pt
attribute [local irreducible] CallT
theorem litD_ {a b:Int} {G:Heap} {K:AV→Heap→Prop} (h:∀q,G q=none→K (.sl q 2 0 1) (G.set q [I a,I b])):buildSliceV tab 30 1 [(0,.agg [I a,I b])] G K:=by
  simp only [buildSliceV,tab_30,tab_80]
  refine ⟨by omega,?_⟩
  simp only [fillV,zerosA,List.replicate_succ,List.replicate_zero,List.flatten_cons,List.flatten_nil,List.append_nil,AV.cells,splice]
  simp only [List.length_cons,List.length_nil,Nat.reduceAdd,Nat.zero_mul,Nat.zero_add,Nat.le_refl,and_self,if_true,List.take_zero,List.nil_append,List.drop_succ_cons,List.drop_zero,List.append_nil,List.cons_append]
  exact h
theorem litD {a b:Int} {G:Heap} {K:AV→Heap→Prop} (h:∀q,G q=none→K (.sl q 2 0 1) (G.set q [I a,I b])):buildSliceV tab 30 1 [(0,.agg [I a,I b])] G (wkK K):=litD_ fun r hr=>wkK.keep (h r hr)
theorem litDv {a b:Int} {G:Heap} {K:AV→Heap→Prop} (h:K (Ds [⟨a,b⟩]) G):buildSliceV tab 30 1 [(0,.agg [I a,I b])] G (wkK K):=by
  refine litD_ fun q hq=>⟨_,_,Wk.own_le (q:=q) (sz:=2) (es:=[[.int .i64 a,.int .i64 b]]) (by omega) (fun e he=>by rw [List.mem_singleton.1 he];rfl) hq (Heap.le_refl _),h⟩
theorem app_D {q:Nat} {xs ys:List Sd} {G:Heap} {K:AV→Heap→Prop} (hq:G q=some (cD xs)) (hl:xs.length+ys.length≤1000000) (h:∀q',G q'=none→K (rowD q' (xs++ys)) ((G.del q).set q' (cD (xs++ys)))):appendV tab 30 30 (rowD q xs) (Ds ys) G (wkK K):=by
  have:=app_own (x:=Ds ys) (r:=q) (es:=xs.map eD) (fs:=ys.map eD) (H:=G) (K:=K) tab_30 rfl tab_80 tab_30 rfl rfl (bz:=16) rfl (.inl rfl) hq (szD xs) (szD ys) (by simp only [List.length_map];omega) (by simp only [List.length_map];omega) fun r' hr'=>by
    have:=h r' hr'
    simpa only [Sep.own,rowD,cD,List.map_append,List.length_map,List.length_append] using this
  simpa only [Sep.own,List.length_map] using this
def fbK:Nat→Nat
  | 0=>10
  | d+1=>10+2*fbK d
def flK:Nat→Nat
  | 0=>1
  | d+1=>2*flK d+1
theorem formula_spec {code:List Int} (hc:CodeC code):∀(d:Nat),d≤3→∀{k:Nat} {seed:Int},k+fbK d≤800000000→∀{H:Heap} {r:Nat},H r=some (cur code k seed)→∀{K:AV→Heap→Prop},
    (∀(xs:List Sd) q k' seed',1≤xs.length→xs.length≤flK d→k≤k'→k'≤k+fbK d→H q=none→K (rowD q xs) ((H.set r (cur code k' seed')).set q (cD xs)))→CallT Try.prog 68 [.ptr r 0,I d] H K:=by
  have leaf:∀{k:Nat} {seed:Int},k≤899999000→∀{H:Heap} {r:Nat},H r=some (cur code k seed)→∀{K:AV→Heap→Prop},
      (∀(xs:List Sd) q k' seed',xs.length=1→k≤k'→k'≤k+8→H q=none→K (rowD q xs) ((H.set r (cur code k' seed')).set q (cD xs)))→CallT Try.prog 94 [.ptr r 0,I 12] H fun v13 H20=>J68_0 K (.ptr r 0) v13 H20:=by
    intro k seed hk H r hr K h
    refine one_spec hc 12 (by omega) (by omega) hr fun x k1 s1 hk1 hk2=>?_
    have fin:∀(op n:Int) k' s',k≤k'→k'≤k+8→buildSliceV tab 30 1 [(0,.agg [I op,I n])] (H.set r (cur code k' s')) (wkK fun v17 H4=>K v17 H4):=fun op n k' s' h1 h2=>by
      refine litD fun q hq=>?_
      rw [Heap.set_none] at hq
      exact h [⟨op,n⟩] q k' s' rfl h1 h2 hq.2
    cases x
    · (try simp (maxSteps:=1000000) (disch:=first | assumption | (apply ν6;assumption)) only [vz,vu,vv,eqS,eF_,↓c1_,↓c2_,tabs,reduceCtorEq,ι5,↓reduceIte,ν1,ν2,ν3,ν4,ν5,ι1,ι2,ι3,ι4,J68_0])
      refine pick_spec hc 3 (by omega) (by omega) (Heap.set_same _ _ _) fun x k2 s2 _ _ hk3 hk4=>?_
      (try simp (maxSteps:=1000000) (disch:=first | assumption | (apply ν6;assumption)) only [vz,vu,vv,eqS,eF_,↓c1_,↓c2_,tabs,reduceCtorEq,ι5,↓reduceIte,ν1,ν2,ν3,ν4,ν5,ι1,ι2,ι3,ι4])
      exact fin _ _ _ _ (by omega) (by omega)
    · (try simp (maxSteps:=1000000) (disch:=first | assumption | (apply ν6;assumption)) only [vz,vu,vv,eqS,eF_,↓c1_,↓c2_,tabs,reduceCtorEq,ι5,↓reduceIte,ν1,ν2,ν3,ν4,ν5,ι1,ι2,ι3,ι4,J68_0])
      refine pick_spec hc 2 (by omega) (by omega) (Heap.set_same _ _ _) fun x k2 s2 _ _ hk3 hk4=>?_
      (try simp (maxSteps:=1000000) (disch:=first | assumption | (apply ν6;assumption)) only [vz,vu,vv,eqS,eF_,↓c1_,↓c2_,tabs,reduceCtorEq,ι5,↓reduceIte,ν1,ν2,ν3,ν4,ν5,ι1,ι2,ι3,ι4])
      exact fin _ _ _ _ (by omega) (by omega)
  intro d
  induction d with
  | zero=>
    intro _ k seed hk H r hr K h
    simp only [fbK,flK] at hk h
    refine W68_ok ?_;simp (maxSteps:=1000000) (disch:=first | assumption | (apply ν6;assumption)) only [W68,vz,vu,vv,eqS,eF_,↓c1_,↓c2_,tabs,reduceCtorEq,ι5,↓reduceIte,ν1,ν2,ν3,ν4,ν5,ι1,ι2,ι3,ι4]
    refine ⟨fun _=>?_,fun h1=>absurd rfl h1⟩
    exact leaf (by omega) hr fun xs q k' s' h1 h2 h3=>h xs q k' s' (by omega) (by omega) h2 (by omega)
  | succ d ih=>
    intro hd k seed hk H r hr K h
    have hd3:d≤3:=by omega
    have vih:∀{k:Nat} {seed:Int},k+fbK d≤800000000→∀{H:Heap} {r:Nat},H r=some (cur code k seed)→∀{K:AV→Heap→Prop},
        (∀(xs:List Sd) k' seed',1≤xs.length→xs.length≤flK d→k≤k'→k'≤k+fbK d→K (Ds xs) (H.set r (cur code k' seed')))→CallT Try.prog 68 [.ptr r 0,I d] H K:=by
      intro k seed hk H r hr K h
      refine CallT.fin (ih hd3 hk hr fun xs q k' s' a1 a2 a3 a4 a5=>?_)
      have hqr:q≠r:=fun e=>by rw [e,hr] at a5;cases a5
      have hw:=Wk.own_le (q:=q) (sz:=2) (es:=xs.map eD) (H:=H.set r (cur code k' s')) (H':=(H.set r (cur code k' s')).set q (cD xs)) (by omega) (szD xs) (by rw [Heap.set_other hqr];exact a5) (Heap.le_refl _)
      refine ⟨_,_,?_,h xs k' s' a1 a2 a3 a4⟩
      simpa only [Sep.own,List.length_map] using hw
    have hb0:fbK d≤1000:=by
      rcases (by omega:d=0∨d=1∨d=2) with rfl | rfl | rfl<;>simp [fbK]
    have hl0:flK d≤100:=by
      rcases (by omega:d=0∨d=1∨d=2) with rfl | rfl | rfl<;>simp [flK]
    simp only [fbK,flK] at hk h
    have ed:IntKind.i64.wrap (((d+1:Nat):Int) - 1)=(d:Nat):=by rw [i64_id (by omega) (by omega)];omega
    refine CallT.fin ?_
    refine W68_ok ?_;simp (maxSteps:=1000000) (disch:=first | assumption | (apply ν6;assumption)) only [W68,vz,vu,vv,eqS,eF_,↓c1_,↓c2_,tabs,reduceCtorEq,ι5,↓reduceIte,ν1,ν2,ν3,ν4,ν5,ι1,ι2,ι3,ι4,ed]
    refine ⟨fun h1=>by omega,fun _=>?_⟩
    refine one_spec hc 6 (by omega) (by omega) hr fun x k1 s1 hk1 hk2=>?_
    cases x
    rotate_left
    · (try simp (maxSteps:=1000000) (disch:=first | assumption | (apply ν6;assumption)) only [vz,vu,vv,eqS,eF_,↓c1_,↓c2_,tabs,reduceCtorEq,ι5,↓reduceIte,ν1,ν2,ν3,ν4,ν5,ι1,ι2,ι3,ι4])
      refine leaf (by omega) (Heap.set_same _ _ _) fun xs q k' s' h1 h2 h3 h4=>?_
      rw [Heap.set_none] at h4
      rw [Heap.set_set]
      exact wkK.keep (h xs q k' s' (by omega) (by omega) (by omega) (by omega) h4.2)
    (try simp (maxSteps:=1000000) (disch:=first | assumption | (apply ν6;assumption)) only [vz,vu,vv,eqS,eF_,↓c1_,↓c2_,tabs,reduceCtorEq,ι5,↓reduceIte,ν1,ν2,ν3,ν4,ν5,ι1,ι2,ι3,ι4])
    refine one_spec hc 3 (by omega) (by omega) (Heap.set_same _ _ _) fun x k2 s2 hk3 hk4=>?_
    rw [Heap.set_set]
    cases x
    · (try simp (maxSteps:=1000000) (disch:=first | assumption | (apply ν6;assumption)) only [vz,vu,vv,eqS,eF_,↓c1_,↓c2_,tabs,reduceCtorEq,ι5,↓reduceIte,ν1,ν2,ν3,ν4,ν5,ι1,ι2,ι3,ι4])
      refine lit_gen tab_23 rfl tab_3 ⟨rfl,rfl⟩ [.int .i64 5,.int .i64 6,.int .i64 7,.int .i64 7,.int .i64 8] (by simp) ?_
      refine among_spec hc [5,6,7,7,8] (by simp) (by simp) (by omega) (Heap.set_same _ _ _) fun op k3 s3 _ hk5 hk6=>?_
      rw [Heap.set_set]
      (try simp (maxSteps:=1000000) (disch:=first | assumption | (apply ν6;assumption)) only [vz,vu,vv,eqS,eF_,↓c1_,↓c2_,tabs,reduceCtorEq,ι5,↓reduceIte,ν1,ν2,ν3,ν4,ν5,ι1,ι2,ι3,ι4,ed])
      refine ih hd3 (by omega) (Heap.set_same _ _ _) fun xs q1 k4 s4 a1 a2 a3 a4 a5=>?_
      rw [Heap.set_set]
      rw [Heap.set_none] at a5
      (try simp (maxSteps:=1000000) (disch:=first | assumption | (apply ν6;assumption)) only [vz,vu,vv,eqS,eF_,↓c1_,↓c2_,tabs,reduceCtorEq,ι5,↓reduceIte,ν1,ν2,ν3,ν4,ν5,ι1,ι2,ι3,ι4,ed])
      refine vih (k:=k4) (seed:=s4) (by omega) (by rw [Heap.set_other (Ne.symm a5.1),Heap.set_same]) fun ys k5 s5 b1 b2 b3 b4=>?_
      have e1:(((H.set r (cur code k4 s4)).set q1 (cD xs)).set r (cur code k5 s5))=(H.set r (cur code k5 s5)).set q1 (cD xs):=by
        rw [Heap.set_comm a5.1,Heap.set_set]
      rw [e1]
      have hf1:(H.set r (cur code k5 s5)) q1=none:=by rw [Heap.set_other a5.1];exact a5.2
      refine app_D (Heap.set_same _ _ _) (by omega) fun q2 hq2=>?_
      rw [Heap.del_set hf1]
      rw [Heap.set_none] at hq2
      (try simp (maxSteps:=1000000) (disch:=first | assumption | (apply ν6;assumption)) only [vz,vu,vv,eqS,eF_,↓c1_,↓c2_,tabs,reduceCtorEq,ι5,↓reduceIte,ν1,ν2,ν3,ν4,ν5,ι1,ι2,ι3,ι4])
      refine litDv ?_
      refine app_D (Heap.set_same _ _ _) (by rw [List.length_append];simp;omega) fun q3 hq3=>?_
      rw [Heap.del_set hq2.2]
      rw [Heap.set_none,Heap.set_none] at hq3
      exact wkK.keep (h (xs++ys++[⟨op,0⟩]) q3 k5 s5 (by simp;omega) (by simp;omega) (by omega) (by omega) hq3.2.2)
    · (try simp (maxSteps:=1000000) (disch:=first | assumption | (apply ν6;assumption)) only [vz,vu,vv,eqS,eF_,↓c1_,↓c2_,tabs,reduceCtorEq,ι5,↓reduceIte,ν1,ν2,ν3,ν4,ν5,ι1,ι2,ι3,ι4,ed])
      refine ih hd3 (by omega) (Heap.set_same _ _ _) fun xs q1 k4 s4 a1 a2 a3 a4 a5=>?_
      rw [Heap.set_set]
      rw [Heap.set_none] at a5
      (try simp (maxSteps:=1000000) (disch:=first | assumption | (apply ν6;assumption)) only [vz,vu,vv,eqS,eF_,↓c1_,↓c2_,tabs,reduceCtorEq,ι5,↓reduceIte,ν1,ν2,ν3,ν4,ν5,ι1,ι2,ι3,ι4])
      refine lit_gen tab_23 rfl tab_3 ⟨rfl,rfl⟩ [.int .i64 3,.int .i64 3,.int .i64 4] (by simp) ?_
      refine among_spec hc [3,3,4] (by simp) (by simp) (k:=k4) (seed:=s4) (by omega) (by rw [Heap.set_other (Ne.symm a5.1),Heap.set_same]) fun op k5 s5 _ hk5 hk6=>?_
      have e1:(((H.set r (cur code k4 s4)).set q1 (cD xs)).set r (cur code k5 s5))=(H.set r (cur code k5 s5)).set q1 (cD xs):=by
        rw [Heap.set_comm a5.1,Heap.set_set]
      rw [e1]
      (try simp (maxSteps:=1000000) (disch:=first | assumption | (apply ν6;assumption)) only [vz,vu,vv,eqS,eF_,↓c1_,↓c2_,tabs,reduceCtorEq,ι5,↓reduceIte,ν1,ν2,ν3,ν4,ν5,ι1,ι2,ι3,ι4])
      refine litDv ?_
      refine app_D (Heap.set_same _ _ _) (by simp;omega) fun q3 hq3=>?_
      rw [Heap.set_none,Heap.set_none] at hq3
      rw [Heap.del_set (by rw [Heap.set_other a5.1];exact a5.2)]
      exact wkK.keep (h (xs++[⟨op,0⟩]) q3 k5 s5 (by simp) (by simp;omega) (by omega) (by omega) hq3.2.2)
theorem formula_val {code:List Int} (hc:CodeC code) {d:Nat} (hd:d≤3) {k:Nat} {seed:Int} (hk:k+fbK d≤800000000) {H:Heap} {r:Nat} (hr:H r=some (cur code k seed)) {K:AV→Heap→Prop}
    (h:∀(xs:List Sd) k' seed',1≤xs.length→xs.length≤flK d→k≤k'→k'≤k+fbK d→K (Ds xs) (H.set r (cur code k' seed'))):CallT Try.prog 68 [.ptr r 0,I d] H K:=by
  refine CallT.fin (formula_spec hc d hd hk hr fun xs q k' s' a1 a2 a3 a4 a5=>?_)
  have hqr:q≠r:=fun e=>by rw [e,hr] at a5;cases a5
  have hw:=Wk.own_le (q:=q) (sz:=2) (es:=xs.map eD) (H:=H.set r (cur code k' s')) (H':=(H.set r (cur code k' s')).set q (cD xs)) (by omega) (szD xs) (by rw [Heap.set_other hqr];exact a5) (Heap.le_refl _)
  refine ⟨_,_,?_,h xs k' s' a1 a2 a3 a4⟩
  simpa only [Sep.own,List.length_map] using hw
theorem wk_tail {q:Nat} {a:Sd} {rest:List Sd} {H:Heap} (hq:H q=some (cD (a::rest))):Wk (.sl q 2 2 rest.length) H (Ds rest) (H.del q):=by
  refine .freeze (cells:=((a::rest).map eD).flatten) hq fun Z φ pl vals hp _ h1 h2 x c=>?_
  have hsz:∀e∈rest.map eD,e.length=2:=szD rest
  have hfl:((a::rest).map eD).flatten=eD a++(rest.map eD).flatten:=rfl
  have hl2:(rest.map eD).flatten.length=rest.length*2:=by rw [flatten_len _ hsz,List.length_map]
  generalize hn:rest.length=n at c
  cases c with
  | slz _ _ _ a=>
    have:rest=[]:=List.eq_nil_of_length_eq_zero hn
    subst this
    exact .p (.emp a 0)
  | sl hp' hl hC=>
    rw [hp] at hp';cases hp'
    subst hn
    refine .p ?_
    have key:=Cz.sl (Z:=Z) (rest.map eD) 2 pl.b (pl.o+2) _ (fun i=>vals (2+i)) (by rw [List.length_map];exact hl) hsz ?_ ?_
    · rw [List.length_map] at key;exact key
    · intro i hi
      rw [List.length_map] at hi
      rw [Nat.add_assoc];exact h1 _ (by rw [hfl,List.length_append,hl2];simp;omega)
    · intro i e he j p hpj
      refine h2 _ p ?_
      have hj:j < 2:=by
        have:=(List.getElem?_eq_some_iff.1 hpj).1
        rw [hsz e (List.mem_of_getElem? he)] at this;exact this
      rw [hfl,List.getElem?_append_right (by simp)]
      have e0:2+(i*2+j) - (eD a).length=i*2+j:=by simp
      rw [e0,flatten_get (by omega) (rest.map eD) hsz]
      have e1:(i*2+j) / 2=i:=by omega
      have e2:(i*2+j) % 2=j:=by omega
      rw [e1,e2,he];exact hpj
theorem said_spec {code:List Int} (hc:CodeC code) {k:Nat} {seed:Int} (hk:k≤700000000) {H:Heap} {r:Nat} (hr:H r=some (cur code k seed)) {K:AV→Heap→Prop}
    (h:∀(xs:List Sd) k' seed',xs.length≤20→k≤k'→k'≤k+1000→K (Ds xs) (H.set r (cur code k' seed'))):CallT Try.prog 74 [.ptr r 0] H K:=by
  refine CallT.fin ?_
  have J:∀(xs:List Sd) q k' s',1≤xs.length→xs.length≤20→k≤k'→k'≤k+500→H q=none→q≠r→J74_0 (wkK K) (.ptr r 0) (rowD q xs) ((H.set r (cur code k' s')).set q (cD xs)):=by
    intro xs q k1 s1 hl0 hl1 hk1 hk2 hq hqr
    (try simp (maxSteps:=1000000) (disch:=first | assumption | (apply ν6;assumption)) only [vz,vu,vv,eqS,eF_,↓c1_,↓c2_,tabs,reduceCtorEq,ι5,↓reduceIte,ν1,ν2,ν3,ν4,ν5,ι1,ι2,ι3,ι4,J74_0])
    refine pick_spec hc 40 (by omega) (k:=k1) (seed:=s1) (by omega) (by rw [Heap.set_other (Ne.symm hqr),Heap.set_same]) fun x k2 s2 _ _ hk3 hk4=>?_
    have e1:((H.set r (cur code k1 s1)).set q (cD xs)).set r (cur code k2 s2)=(H.set r (cur code k2 s2)).set q (cD xs):=by rw [Heap.set_comm hqr,Heap.set_set]
    rw [e1]
    have hq2:(H.set r (cur code k2 s2)) q=none:=by rw [Heap.set_other hqr];exact hq
    have val:∀(ys:List Sd) (k3:Nat) (s3:Int),ys.length=xs.length→k≤k3→k3≤k+1000→wkK K (rowD q xs) ((H.set r (cur code k3 s3)).set q (cD ys)):=by
      intro ys k3 s3 hys h1 h2
      have hw:=Wk.own_le (q:=q) (sz:=2) (es:=ys.map eD) (H:=H.set r (cur code k3 s3)) (H':=(H.set r (cur code k3 s3)).set q (cD ys)) (by omega) (szD ys) (by rw [Heap.set_other hqr];exact hq) (Heap.le_refl _)
      refine ⟨_,_,?_,h ys k3 s3 (by omega) h1 h2⟩
      rw [rowD,← hys]
      simpa only [Sep.own,List.length_map] using hw
    (try simp (maxSteps:=1000000) (disch:=first | assumption | (apply ν6;assumption)) only [vz,vu,vv,eqS,eF_,↓c1_,↓c2_,tabs,reduceCtorEq,ι5,↓reduceIte,ν1,ν2,ν3,ν4,ν5,ι1,ι2,ι3,ι4,sliceV])
    cases xs with
    | nil=>simp at hl0
    | cons a rest=>
      refine ⟨fun c=>?_,fun _=>⟨fun c=>?_,fun _=>⟨fun c=>?_,fun c=>?_⟩⟩⟩
      · have en:(((a::rest).length:Int) - 1).toNat=rest.length:=by simp
        rw [en]
        refine ⟨by omega,by simp only [List.length_cons];omega,by omega,?_⟩
        refine ⟨_,_,wk_tail (Heap.set_same _ _ _),?_⟩
        rw [Heap.del_set hq2]
        exact h rest k2 s2 (by simp only [List.length_cons] at hl1;omega) (by omega) (by omega)
      · refine ⟨by omega,by simp only [List.length_cons];omega,by simp [cells],?_⟩
        exact val (⟨a.op,3⟩::rest) k2 s2 rfl (by omega) (by omega)
      · refine pick_spec hc 10 (by omega) (k:=k2) (seed:=s2) (by omega) (by rw [Heap.set_other (Ne.symm hqr),Heap.set_same]) fun y k3 s3 _ _ hk5 hk6=>?_
        have e2:((H.set r (cur code k2 s2)).set q (cD (a::rest))).set r (cur code k3 s3)=(H.set r (cur code k3 s3)).set q (cD (a::rest)):=by rw [Heap.set_comm hqr,Heap.set_set]
        rw [e2]
        obtain ⟨pre,z,e⟩:∃pre z,a::rest=pre++[z]:=⟨_,_,(List.dropLast_concat_getLast (by simp)).symm⟩
        have hln:(a::rest).length=pre.length+1:=by rw [e];simp
        have ew:IntKind.i64.wrap (((a::rest).length:Int) - 1)=(pre.length:Nat):=by rw [i64_id (by omega) (by omega)];omega
        rw [ew,hln,Int.toNat_natCast]
        have hcp:(cD pre).length=pre.length*2:=by rw [cells_map_len (sz:=2) (fun _=>rfl)]
        have hcd:cD (a::rest)=cD pre++([I z.op]++[I z.n]):=by rw [e,cD,List.map_append,cells_app];rfl
        have hcy:cD (pre++[⟨y,z.n⟩])=cD pre++([I y]++[I z.n]):=by rw [cD,List.map_append,cells_app];rfl
        have hsp:=splice_at (pre:=cD pre) (c:=[I z.op]) (c':=[I y]) (post:=[I z.n]) (off:=pre.length*2) (n:=1) (by omega) rfl rfl
        rw [← hcy,← hcd] at hsp
        have hcl:(cD (a::rest)).length=pre.length*2+2:=by rw [hcd,List.length_append,hcp];rfl
        refine ⟨by omega,by omega,?_⟩
        rw [store_at (Heap.set_same _ _ _)]
        (try simp (maxSteps:=1000000) (disch:=first | assumption | (apply ν6;assumption)) only [vz,vu,vv,eqS,eF_,↓c1_,↓c2_,tabs,reduceCtorEq,ι5,↓reduceIte,ν1,ν2,ν3,ν4,ν5,ι1,ι2,ι3,ι4,hsp,hcl])
        refine ⟨by omega,?_⟩
        exact val (pre++[⟨y,z.n⟩]) k3 s3 (by rw [hln];simp) (by omega) (by omega)
      · exact val (a::rest) k2 s2 rfl (by omega) (by omega)
  refine W74_ok ?_;simp (maxSteps:=1000000) (disch:=first | assumption | (apply ν6;assumption)) only [W74,vz,vu,vv,eqS,eF_,↓c1_,↓c2_,tabs,reduceCtorEq,ι5,↓reduceIte,ν1,ν2,ν3,ν4,ν5,ι1,ι2,ι3,ι4]
  have fl:∀d,d≤3→1≤d→flK d≤15∧fbK d≤150:=by
    intro d h1 h2
    rcases (by omega:d=1∨d=2∨d=3) with rfl | rfl | rfl<;>simp [flK,fbK]
  refine pick_spec hc 2 (by omega) (by omega) hr fun x k1 s1 hx0 hx1 hk1 hk2=>?_
  obtain ⟨d,hd,hd3⟩:∃d:Nat,IntKind.i64.wrap (2+x)=d∧(d=2∨d=3):=⟨(2+x).toNat,by rw [i64_id (by omega) (by omega)];omega,by omega⟩
  (try simp (maxSteps:=1000000) (disch:=first | assumption | (apply ν6;assumption)) only [vz,vu,vv,eqS,eF_,↓c1_,↓c2_,tabs,reduceCtorEq,ι5,↓reduceIte,ν1,ν2,ν3,ν4,ν5,ι1,ι2,ι3,ι4,hd])
  have hf:=fl d (by omega) (by omega)
  refine formula_spec hc d (by omega) (k:=k1) (seed:=s1) (by omega) (Heap.set_same _ _ _) fun xs q k2 s2 a1 a2 a3 a4 a5=>?_
  rw [Heap.set_set]
  rw [Heap.set_none] at a5
  (try simp (maxSteps:=1000000) (disch:=first | assumption | (apply ν6;assumption)) only [vz,vu,vv,eqS,eF_,↓c1_,↓c2_,tabs,reduceCtorEq,ι5,↓reduceIte,ν1,ν2,ν3,ν4,ν5,ι1,ι2,ι3,ι4])
  refine ⟨fun h16=>by omega,fun _=>?_⟩
  exact J xs q k2 s2 a1 (by omega) (by omega) (by omega) a5.2 a5.1
end Go.Proofs.Ytjdhigcefkihiaa
namespace Go.Proofs.Ytjdhigcefkihiaa
open Go Go.Sep
attribute [local irreducible] CallT
theorem bigC (a b:List Int):Pu Try.prog 21 [.p (.sl (a.map e8)),.p (.sl (b.map e8))] (B (decide (1048576 < a.length+b.length))):=by
  refine Pu.of fun H=>?_
  refine W21_ok ?_;simp (maxSteps:=1000000) (disch:=first | assumption | (apply ν6;assumption)) only [W21,vz,vu,vv,eqS,eF_,↓c1_,↓c2_,tabs,reduceCtorEq,ι5,↓reduceIte,ν1,ν2,ν3,ν4,ν5,ι1,ι2,ι3,ι4]
  refine ⟨fun h=>?_,fun h=>?_⟩
  · have:1048576 < a.length+b.length:=by omega
    simp [this]
  · have hw:IntKind.i64.wrap (1048576 - ↑a.length)=1048576 - ↑a.length:=i64_id (by omega) (by omega)
    rw [hw]
    congr 2
    apply decide_eq_decide.2
    omega
end Go.Proofs.Ytjdhigcefkihiaa
namespace Go.Proofs.Ytjdhigcefkihiaa
open Go Go.Sep Go.Pt
attribute [local irreducible] CallT
abbrev DDs (bs:List (List Sd)):AV:=.p (.sl (bs.map fun b=>[.sl (b.map eD)]))
theorem app_DX {q:Nat} {xs ys:List Sd} {ex:List AV} {G:Heap} {K:AV→Heap→Prop} (hq:G q=some (cD xs++ex)) (hl:xs.length+ys.length≤1000000000)
    (h:∀q',G q'=none→q'≠q→K (rowD q' (xs++ys)) ((G.del q).set q' (cD (xs++ys)))):appendV tab 30 30 (rowD q xs) (Ds ys) G (wkK K):=by
  have hlen:(cD xs).length=xs.length*2:=cells_map_len (sz:=2) (fun _=>rfl) xs
  simp only [appendV,tab_30,tab_80,srcV,baseV,hq]
  refine ⟨szD ys,trivial,by rw [List.length_append,hlen];omega,by simp only [List.length_map];omega,by simp only [List.length_map];omega,cells_cell _,fun q' hq'=>wkK.keep ?_⟩
  have hne:q'≠q:=fun e=>by rw [e,hq] at hq';cases hq'
  have:=h q' hq' hne
  have e:List.take (xs.length*2) (List.drop 0 (cD xs++ex))=cD xs:=by rw [List.drop_zero,← hlen,List.take_left]
  rw [e,List.length_map]
  simp only [rowD,cD,List.map_append,cells_app,List.length_append] at this ⊢
  exact this
theorem GrowD_nil (n:Nat) (hn:n≤1000000000) {H:Heap} {K:AV→Heap→Prop} (hz:n=0→K (.p .nil) H) (hp:0 < n→∀q,H q=none→K (.sl q 2 0 0) (H.set q (zerosA n [I 0,I 0]))):CallT Try.prog 110 [.p .nil,I n] H K:=by
  refine CallT.fin ?_
  have e1:IntKind.i64.wrap (n:Int)=n:=i64_id (by omega) (by omega)
  have e0:IntKind.i64.wrap 0=0:=rfl
  refine W110_ok ?_;simp (maxSteps:=1000000) (disch:=first | assumption | (apply ν6;assumption)) only [W110,vz,vu,vv,eqS,eF_,↓c1_,↓c2_,tabs,reduceCtorEq,ι5,↓reduceIte,ν1,ν2,ν3,ν4,ν5,ι1,ι2,ι3,ι4,capV,e0,Int.sub_zero,e1]
  refine ⟨fun h1=>by omega,fun _=>⟨fun h2=>?_,fun h2=>wkK.keep (hz (by omega))⟩⟩
  simp only [appendV,tab_30,tab_3,tab_80]
  refine ⟨h2,by omega,by omega,fun q hq=>wkK.keep ?_⟩
  (try simp (maxSteps:=1000000) (disch:=first | assumption | (apply ν6;assumption)) only [vz,vu,vv,eqS,eF_,↓c1_,↓c2_,tabs,reduceCtorEq,ι5,↓reduceIte,ν1,ν2,ν3,ν4,ν5,ι1,ι2,ι3,ι4,sliceV])
  exact ⟨by omega,by omega,by omega,by omega,wkK.keep (hp (by omega) q hq)⟩
theorem ConcatD_row (bs:List (List Sd)) (hl:bs.flatten.length≤1000000) (hl2:bs.length≤1000000) {H:Heap} {K:AV→Heap→Prop} (h:∀q,H q=none→K (rowD q bs.flatten) (H.set q (cD bs.flatten))):CallT Try.prog 71 [DDs bs] H K:=by
  refine CallT.fin ?_
  refine CallT.ghost W71_hb fun q0 hq0=>?_
  refine W71_ok ?_;simp (maxSteps:=1000000) (disch:=first | assumption | (apply ν6;assumption)) only [W71,vz,vu,vv,eqS,eF_,↓c1_,↓c2_,tabs,reduceCtorEq,ι5,↓reduceIte,ν1,ν2,ν3,ν4,ν5,ι1,ι2,ι3,ι4]
  have hsum:∀i,((bs.take i).flatten).length≤bs.flatten.length:=fun i=>by
    have:=congrArg (fun l:List (List Sd)=>l.flatten.length) (List.take_append_drop i bs)
    simp only [List.flatten_append,List.length_append] at this
    omega
  refine L71_0_rule (0:Nat) (fun i=>I ((bs.take i).flatten.length:Nat)) (fun i=>I i) (fun _=>H.set q0 []) (fun i=>i≤bs.length) (fun i=>bs.length - i) ⟨by omega,.refl _,.refl _,Heap.le_refl _⟩ ?_
  intro i hi
  have hs1:=hsum i
  have hs2:=hsum (i+1)
  (try simp (maxSteps:=1000000) (disch:=first | assumption | (apply ν6;assumption)) only [vz,vu,vv,eqS,eF_,↓c1_,↓c2_,tabs,reduceCtorEq,ι5,↓reduceIte,ν1,ν2,ν3,ν4,ν5,ι1,ι2,ι3,ι4,B71_0])
  refine ⟨fun h1=>⟨by omega,h1,fun h2=>?_,fun h2=>⟨i+1,by omega,by omega,?_,?_⟩⟩,fun h1=>?_⟩
  · have e:(bs.take (i+1)).flatten.length=(bs.take i).flatten.length+(bs.getD i default).length:=by
      rw [take_succ_snoc (by omega:i < bs.length),List.flatten_append,List.length_append];simp
    rw [i64_id (by omega) (by omega)] at h2
    omega
  · have e:(bs.take (i+1)).flatten.length=(bs.take i).flatten.length+(bs.getD i default).length:=by
      rw [take_succ_snoc (by omega:i < bs.length),List.flatten_append,List.length_append];simp
    rw [wk_int,i64_id (by omega) (by omega)];omega
  · rw [wk_int,i64_id (by omega) (by omega)];simp
  have hi2:i=bs.length:=by omega
  subst hi2
  rw [List.take_length]
  have loop:∀(x:AV) (G:Heap),(∃q ex,H q=none∧AV.wk x (.sl q 2 0 0)∧Heap.le (H.set q ex) G)→L71_1 (wkK K) x (DDs bs) (I bs.length) (I 0) G:=by
    rintro x G ⟨q0,ex0,hq0,hx,hle⟩
    refine L71_1_rule ((0:Nat),q0,ex0) (fun s=>rowD s.2.1 (bs.take s.1).flatten) (fun s=>I s.1) (fun s=>H.set s.2.1 (cD (bs.take s.1).flatten++s.2.2))
      (fun s=>s.1≤bs.length∧H s.2.1=none) (fun s=>bs.length - s.1) ⟨⟨by simp,hq0⟩,hx,.refl _,by simpa [cells] using hle⟩ ?_
    rintro ⟨i,q,ex⟩ ⟨hi,hq⟩
    dsimp only at hi hq
    have hs1:=hsum i
    have hs2:=hsum (i+1)
    (try simp (maxSteps:=1000000) (disch:=first | assumption | (apply ν6;assumption)) only [vz,vu,vv,eqS,eF_,↓c1_,↓c2_,tabs,reduceCtorEq,ι5,↓reduceIte,ν1,ν2,ν3,ν4,ν5,ι1,ι2,ι3,ι4,B71_1])
    refine ⟨fun h1=>⟨by omega,h1,?_⟩,fun h1=>?_⟩
    · have e:(bs.take (i+1)).flatten=(bs.take i).flatten++bs.getD i default:=by
        rw [take_succ_snoc (by omega:i < bs.length),List.flatten_append];simp
      have e2:=congrArg List.length e
      rw [List.length_append] at e2
      refine app_DX (Heap.set_same _ _ _) (by omega) fun q' hq' hne=>?_
      rw [Heap.set_none] at hq'
      rw [← e]
      refine ⟨(i+1,q',[]),⟨by simp only;omega,hq'.2⟩,by simp only;omega,.refl _,?_,?_⟩
      · rw [wk_int,i64_id (by omega) (by omega)];simp
      · simp only [List.append_nil]
        generalize cD (bs.take (i+1)).flatten=z
        have:=hq'.2
        (intro y b hy;simp only [Heap.set,Heap.del] at hy ⊢;(repeat' split at hy)<;>(repeat' split)<;>simp_all [cells])
    · have hi2:i=bs.length:=by omega
      subst hi2
      rw [List.take_length]
      refine ⟨_,_,.cell (cs':=cD bs.flatten) (Heap.set_same _ _ _) (by rw [List.length_append];omega) fun j a a' h1 h2=>?_,?_⟩
      · rw [List.getElem?_append_left (List.getElem?_eq_some_iff.1 h2).1,h2] at h1
        cases h1;exact .refl _
      · rw [Heap.set_set];exact h q hq
  refine GrowD_nil _ (by omega) (fun h0=>?_) (fun h0 q hq=>?_)
  · exact loop _ _ ⟨q0,[],hq0,.nilo _ _ _,Heap.le_refl _⟩
  · rw [Heap.set_none] at hq
    refine loop _ _ ⟨q,zerosA bs.flatten.length [I 0,I 0],hq.2,.refl _,?_⟩
    generalize zerosA bs.flatten.length [I 0,I 0]=z
    have:=hq.2
    (intro y b hy;simp only [Heap.set,Heap.del] at hy ⊢;(repeat' split at hy)<;>(repeat' split)<;>simp_all [cells])
theorem app_Dv {q:Nat} {xs ys:List Sd} {ex:List AV} {G:Heap} {K:AV→Heap→Prop} (hq:G q=some (cD xs++ex)) (hl:xs.length+ys.length≤1000000000)
    (h:K (Ds (xs++ys)) (G.del q)):appendV tab 30 30 (rowD q xs) (Ds ys) G (wkK K):=by
  have hlen:(cD xs).length=xs.length*2:=cells_map_len (sz:=2) (fun _=>rfl) xs
  simp only [appendV,tab_30,tab_80,srcV,baseV,hq]
  refine ⟨szD ys,trivial,by rw [List.length_append,hlen];omega,by simp only [List.length_map];omega,by simp only [List.length_map];omega,cells_cell _,fun q' hq'=>?_⟩
  have hne:q'≠q:=fun e=>by rw [e,hq] at hq';cases hq'
  have e:List.take (xs.length*2) (List.drop 0 (cD xs++ex))=cD xs:=by rw [List.drop_zero,← hlen,List.take_left]
  rw [e,List.length_map]
  have hw:=Wk.own_le (q:=q') (sz:=2) (es:=(xs++ys).map eD) (H:=G.del q) (H':=(G.del q).set q' (cD (xs++ys))) (by omega) (szD _) (by rw [Heap.del_other hne];exact hq') (Heap.le_refl _)
  refine ⟨_,_,?_,h⟩
  have e2:cD (xs++ys)=cD xs++List.map AV.p (ys.map eD).flatten:=by rw [cD,List.map_append,cells_app];rfl
  rw [← e2]
  simpa only [Sep.own,List.length_map,List.length_append] using hw
theorem lit0D {G:Heap} {K:AV→Heap→Prop} (h:∀q,G q=none→K (rowD q []) (G.set q (cD []))):buildSliceV tab 30 0 [] G (wkK K):=by
  simp only [buildSliceV,tab_30,tab_80]
  refine ⟨by omega,?_⟩
  simp only [fillV,zerosA,List.replicate_zero,List.flatten_nil]
  exact fun r hr=>wkK.keep (h r hr)
theorem app_Dtop {q:Nat} {xs ys:List Sd} {G:Heap} {K:AV→Heap→Prop} (hq:G q=none) (hl:xs.length+ys.length≤1000000) (h:∀q',G q'=none→K (rowD q' (xs++ys)) (G.set q' (cD (xs++ys)))) :
    appendV tab 30 30 (rowD q xs) (Ds ys) (G.set q (cD xs)) (wkK K):=
  app_DX (ex:=[]) (by rw [Heap.set_same,List.append_nil]) (by omega) fun q' hq' hne=>by
    rw [Heap.del_set hq]
    rw [Heap.set_none] at hq'
    exact h q' hq'.2
def mdR (f:List Sd):List Sd×Bool:=if goodF f then (f,true) else ([],false)
def joR (op:Int) (a b:List Sd):List Sd×Bool:=if decide (need op=2) && (goodF a && goodF b) then mdR (a++b++[⟨op,0⟩]) else ([],false)
def tuR (op:Int) (a:List Sd):List Sd×Bool:=if decide (need op=1) && goodF a then mdR (a++[⟨op,0⟩]) else ([],false)
theorem noD {H:Heap}:wkK (fun r H'=>r=.tup [Ds [],B false]∧H'=H) (.tup [.p .nil,B false]) H:=⟨_,_,.val (v':=.tup [Ds [],B false]) (wk_tup ⟨.nil,.refl _,trivial⟩),rfl,rfl⟩
theorem checkedSaid_spec (f:List Sd) (hl:f.length≤1048576):Pu Try.prog 70 [Ds f] (.tup [Ds (mdR f).1,B (mdR f).2]):=by
  refine ⟨fun H=>CallT.fin ?_⟩
  refine W70_ok ?_;simp (maxSteps:=1000000) (disch:=first | assumption | (apply ν6;assumption)) only [W70,vz,vu,vv,eqS,eF_,↓c1_,↓c2_,tabs,reduceCtorEq,ι5,↓reduceIte,ν1,ν2,ν3,ν4,ν5,ι1,ι2,ι3,ι4]
  refine Pu.use (GoodSaid_impl f hl) ?_
  cases hg:goodF f
  · have e:mdR f=([],false):=by rw [mdR,hg];rfl
    rw [e]
    (try simp (maxSteps:=1000000) (disch:=first | assumption | (apply ν6;assumption)) only [vz,vu,vv,eqS,eF_,↓c1_,↓c2_,tabs,reduceCtorEq,ι5,↓reduceIte,ν1,ν2,ν3,ν4,ν5,ι1,ι2,ι3,ι4])
    exact noD
  · have e:mdR f=(f,true):=by rw [mdR,hg];rfl
    rw [e]
    (try simp (maxSteps:=1000000) (disch:=first | assumption | (apply ν6;assumption)) only [vz,vu,vv,eqS,eF_,↓c1_,↓c2_,tabs,reduceCtorEq,ι5,↓reduceIte,ν1,ν2,ν3,ν4,ν5,ι1,ι2,ι3,ι4])
    exact wkK.keep ⟨rfl,rfl⟩
theorem l10Made_spec (f:List Sd) (hl:f.length≤1048576):Pu Try.prog 73 [Ds f] (.tup [Ds (mdR f).1,B (mdR f).2]):=by
  refine ⟨fun H=>CallT.fin ?_⟩
  refine W73_ok ?_;simp (maxSteps:=1000000) (disch:=first | assumption | (apply ν6;assumption)) only [W73,vz,vu,vv,eqS,eF_,↓c1_,↓c2_,tabs,reduceCtorEq,ι5,↓reduceIte,ν1,ν2,ν3,ν4,ν5,ι1,ι2,ι3,ι4]
  refine Pu.use (GoodSaid_spec f hl) ?_
  cases hg:goodF f
  · have e:mdR f=([],false):=by rw [mdR,hg];rfl
    rw [e]
    (try simp (maxSteps:=1000000) (disch:=first | assumption | (apply ν6;assumption)) only [vz,vu,vv,eqS,eF_,↓c1_,↓c2_,tabs,reduceCtorEq,ι5,↓reduceIte,ν1,ν2,ν3,ν4,ν5,ι1,ι2,ι3,ι4])
    exact noD
  · have e:mdR f=(f,true):=by rw [mdR,hg];rfl
    rw [e]
    (try simp (maxSteps:=1000000) (disch:=first | assumption | (apply ν6;assumption)) only [vz,vu,vv,eqS,eF_,↓c1_,↓c2_,tabs,reduceCtorEq,ι5,↓reduceIte,ν1,ν2,ν3,ν4,ν5,ι1,ι2,ι3,ι4])
    exact wkK.keep ⟨rfl,rfl⟩
theorem JoinSaid_ref (op:Int) (a b:List Sd) (ha:a.length≤100000) (hb:b.length≤100000):Pu Try.prog 24 [I op,Ds a,Ds b] (.tup [Ds (joR op a b).1,B (joR op a b).2]):=by
  refine ⟨fun H=>CallT.fin ?_⟩
  refine W24_ok ?_;simp (maxSteps:=1000000) (disch:=first | assumption | (apply ν6;assumption)) only [W24,vz,vu,vv,eqS,eF_,↓c1_,↓c2_,tabs,reduceCtorEq,ι5,↓reduceIte,ν1,ν2,ν3,ν4,ν5,ι1,ι2,ι3,ι4]
  refine Pu.use (need_spec.l10Need_spec op) ?_
  have bad:(decide (need op=2) && (goodF a && goodF b))=false→∀G,wkK (fun r H'=>r=.tup [Ds (joR op a b).1,B (joR op a b).2]∧H'=G) (.tup [.p .nil,B false]) G:=fun hb G=>by
    have e:joR op a b=([],false):=by rw [joR,hb];rfl
    rw [e];exact noD
  (try simp (maxSteps:=1000000) (disch:=first | assumption | (apply ν6;assumption)) only [vz,vu,vv,eqS,eF_,↓c1_,↓c2_,tabs,reduceCtorEq,ι5,↓reduceIte,ν1,ν2,ν3,ν4,ν5,ι1,ι2,ι3,ι4])
  refine ⟨fun h1=>?_,fun h1=>?_⟩
  · exact bad (by rw [decide_eq_false h1];rfl) H
  refine Pu.use (GoodSaid_spec a (by omega)) ?_
  cases hga:goodF a
  · (try simp (maxSteps:=1000000) (disch:=first | assumption | (apply ν6;assumption)) only [vz,vu,vv,eqS,eF_,↓c1_,↓c2_,tabs,reduceCtorEq,ι5,↓reduceIte,ν1,ν2,ν3,ν4,ν5,ι1,ι2,ι3,ι4])
    exact bad (by rw [hga];simp) H
  (try simp (maxSteps:=1000000) (disch:=first | assumption | (apply ν6;assumption)) only [vz,vu,vv,eqS,eF_,↓c1_,↓c2_,tabs,reduceCtorEq,ι5,↓reduceIte,ν1,ν2,ν3,ν4,ν5,ι1,ι2,ι3,ι4])
  refine Pu.use (GoodSaid_spec b (by omega)) ?_
  cases hgb:goodF b
  · (try simp (maxSteps:=1000000) (disch:=first | assumption | (apply ν6;assumption)) only [vz,vu,vv,eqS,eF_,↓c1_,↓c2_,tabs,reduceCtorEq,ι5,↓reduceIte,ν1,ν2,ν3,ν4,ν5,ι1,ι2,ι3,ι4])
    exact bad (by rw [hga,hgb];simp) H
  have e:joR op a b=mdR (a++b++[⟨op,0⟩]):=by rw [joR,decide_eq_true h1,hga,hgb];rfl
  rw [e]
  clear e bad
  (try simp (maxSteps:=1000000) (disch:=first | assumption | (apply ν6;assumption)) only [vz,vu,vv,eqS,eF_,↓c1_,↓c2_,tabs,reduceCtorEq,ι5,↓reduceIte,ν1,ν2,ν3,ν4,ν5,ι1,ι2,ι3,ι4])
  refine lit0D fun q0 hq0=>?_
  refine app_Dtop hq0 (by simp;omega) fun q1 hq1=>?_
  rw [List.nil_append]
  refine app_Dtop hq1 (by omega) fun q2 hq2=>?_
  (try simp (maxSteps:=1000000) (disch:=first | assumption | (apply ν6;assumption)) only [vz,vu,vv,eqS,eF_,↓c1_,↓c2_,tabs,reduceCtorEq,ι5,↓reduceIte,ν1,ν2,ν3,ν4,ν5,ι1,ι2,ι3,ι4])
  refine litDv ?_
  refine app_Dv (ex:=[]) (by rw [Heap.set_same,List.append_nil]) (by simp;omega) ?_
  rw [Heap.del_set hq2]
  refine Pu.use (l10Made_spec _ (by simp;omega)) ?_
  (try simp (maxSteps:=1000000) (disch:=first | assumption | (apply ν6;assumption)) only [vz,vu,vv,eqS,eF_,↓c1_,↓c2_,tabs,reduceCtorEq,ι5,↓reduceIte,ν1,ν2,ν3,ν4,ν5,ι1,ι2,ι3,ι4])
  exact wkK.keep ⟨rfl,rfl⟩
theorem JoinSaid_impl (op:Int) (a b:List Sd) (ha:a.length≤100000) (hb:b.length≤100000):Pu Try.prog 23 [I op,Ds a,Ds b] (.tup [Ds (joR op a b).1,B (joR op a b).2]):=by
  refine ⟨fun H=>CallT.fin ?_⟩
  refine W23_ok ?_;simp (maxSteps:=1000000) (disch:=first | assumption | (apply ν6;assumption)) only [W23,vz,vu,vv,eqS,eF_,↓c1_,↓c2_,tabs,reduceCtorEq,ι5,↓reduceIte,ν1,ν2,ν3,ν4,ν5,ι1,ι2,ι3,ι4]
  refine Pu.use (need_impl.operandsOfSaid_spec op) ?_
  have bad:(decide (need op=2) && (goodF a && goodF b))=false→∀G,wkK (fun r H'=>r=.tup [Ds (joR op a b).1,B (joR op a b).2]∧H'=G) (.tup [.p .nil,B false]) G:=fun hb G=>by
    have e:joR op a b=([],false):=by rw [joR,hb];rfl
    rw [e];exact noD
  (try simp (maxSteps:=1000000) (disch:=first | assumption | (apply ν6;assumption)) only [vz,vu,vv,eqS,eF_,↓c1_,↓c2_,tabs,reduceCtorEq,ι5,↓reduceIte,ν1,ν2,ν3,ν4,ν5,ι1,ι2,ι3,ι4])
  refine ⟨fun h1=>?_,fun h1=>?_⟩
  · exact bad (by rw [decide_eq_false h1];rfl) H
  refine Pu.use (GoodSaid_impl a (by omega)) ?_
  cases hga:goodF a
  · (try simp (maxSteps:=1000000) (disch:=first | assumption | (apply ν6;assumption)) only [vz,vu,vv,eqS,eF_,↓c1_,↓c2_,tabs,reduceCtorEq,ι5,↓reduceIte,ν1,ν2,ν3,ν4,ν5,ι1,ι2,ι3,ι4])
    exact bad (by rw [hga];simp) H
  (try simp (maxSteps:=1000000) (disch:=first | assumption | (apply ν6;assumption)) only [vz,vu,vv,eqS,eF_,↓c1_,↓c2_,tabs,reduceCtorEq,ι5,↓reduceIte,ν1,ν2,ν3,ν4,ν5,ι1,ι2,ι3,ι4])
  refine Pu.use (GoodSaid_impl b (by omega)) ?_
  cases hgb:goodF b
  · (try simp (maxSteps:=1000000) (disch:=first | assumption | (apply ν6;assumption)) only [vz,vu,vv,eqS,eF_,↓c1_,↓c2_,tabs,reduceCtorEq,ι5,↓reduceIte,ν1,ν2,ν3,ν4,ν5,ι1,ι2,ι3,ι4])
    exact bad (by rw [hga,hgb];simp) H
  have e:joR op a b=mdR (a++b++[⟨op,0⟩]):=by rw [joR,decide_eq_true h1,hga,hgb];rfl
  rw [e]
  clear e bad
  (try simp (maxSteps:=1000000) (disch:=first | assumption | (apply ν6;assumption)) only [vz,vu,vv,eqS,eF_,↓c1_,↓c2_,tabs,reduceCtorEq,ι5,↓reduceIte,ν1,ν2,ν3,ν4,ν5,ι1,ι2,ι3,ι4])
  refine litDv ?_
  have hlit:∀(x y z:List Sd) {G:Heap} {K:AV→Heap→Prop},K (DDs [x,y,z]) G→buildSliceV tab 115 3 [(0,Ds x),(1,Ds y),(2,Ds z)] G (wkK K):=fun x y z=>lit3 tab_115 rfl tab_30 ⟨rfl,rfl⟩
  refine hlit a b [⟨op,0⟩] ?_
  have hfl:[a,b,[⟨op,0⟩]].flatten=a++b++[⟨op,0⟩]:=by simp
  refine CallT.fin (ConcatD_row [a,b,[⟨op,0⟩]] (by rw [hfl];simp;omega) (by simp) fun q hq=>?_)
  rw [hfl]
  have hw:=Wk.own_le (q:=q) (sz:=2) (es:=(a++b++[⟨op,0⟩]:List Sd).map eD) (H:=H) (H':=H.set q (cD (a++b++[⟨op,0⟩]))) (by omega) (szD _) hq (Heap.le_refl _)
  refine ⟨Ds (a++b++[⟨op,0⟩]),H,by simpa only [Sep.own,List.length_map] using hw,?_⟩
  refine Pu.use (checkedSaid_spec _ (by simp;omega)) ?_
  (try simp (maxSteps:=1000000) (disch:=first | assumption | (apply ν6;assumption)) only [vz,vu,vv,eqS,eF_,↓c1_,↓c2_,tabs,reduceCtorEq,ι5,↓reduceIte,ν1,ν2,ν3,ν4,ν5,ι1,ι2,ι3,ι4])
  exact wkK.keep ⟨rfl,rfl⟩
theorem CloneD_row (xs:List Sd) (hl:xs.length≤100000) {H:Heap} {K:AV→Heap→Prop} (h:∀q,H q=none→K (rowD q xs) (H.set q (cD xs))):CallT Try.prog 80 [Ds xs] H K:=by
  refine CallT.fin ?_
  refine CallT.ghost W80_hb fun q0 hq0=>?_
  refine W80_ok ?_;simp (maxSteps:=1000000) (disch:=first | assumption | (apply ν6;assumption)) only [W80,vz,vu,vv,eqS,eF_,↓c1_,↓c2_,tabs,reduceCtorEq,ι5,↓reduceIte,ν1,ν2,ν3,ν4,ν5,ι1,ι2,ι3,ι4]
  have main:buildSliceV tab 30 0 [] (H.set q0 []) (wkK fun v5 H1=>appendV tab 30 30 v5 (Ds xs) H1 (wkK fun v7 H2=>wkK K v7 H2)):=by
    refine lit0D fun q1 hq1=>?_
    refine app_Dtop (xs:=[]) (ys:=xs) hq1 (by simp;omega) fun q2 hq2=>?_
    rw [Heap.set_none] at hq2
    rw [List.nil_append]
    refine fin_le ?_ (h q2 hq2.2)
    generalize cD xs=z
    have:=hq2.2
    have:=hq2.1
    (intro y b hy;simp only [Heap.set,Heap.del] at hy ⊢;(repeat' split at hy)<;>(repeat' split)<;>simp_all [cells])
  refine ⟨fun h0=>⟨?_,main⟩,fun _=>main⟩
  have hx:xs=[]:=List.map_eq_nil_iff.1 h0
  subst hx
  exact ⟨_,_,.val (.nilo q0 2 0),h q0 hq0⟩
theorem TurnSaid_impl (op:Int) (a:List Sd) (ha:a.length≤100000):Pu Try.prog 29 [I op,Ds a] (.tup [Ds (tuR op a).1,B (tuR op a).2]):=by
  refine ⟨fun H=>CallT.fin ?_⟩
  refine W29_ok ?_;simp (maxSteps:=1000000) (disch:=first | assumption | (apply ν6;assumption)) only [W29,vz,vu,vv,eqS,eF_,↓c1_,↓c2_,tabs,reduceCtorEq,ι5,↓reduceIte,ν1,ν2,ν3,ν4,ν5,ι1,ι2,ι3,ι4]
  refine Pu.use (need_impl.operandsOfSaid_spec op) ?_
  have bad:(decide (need op=1) && goodF a)=false→∀G,wkK (fun r H'=>r=.tup [Ds (tuR op a).1,B (tuR op a).2]∧H'=G) (.tup [.p .nil,B false]) G:=fun hb G=>by
    have e:tuR op a=([],false):=by rw [tuR,hb];rfl
    rw [e];exact noD
  (try simp (maxSteps:=1000000) (disch:=first | assumption | (apply ν6;assumption)) only [vz,vu,vv,eqS,eF_,↓c1_,↓c2_,tabs,reduceCtorEq,ι5,↓reduceIte,ν1,ν2,ν3,ν4,ν5,ι1,ι2,ι3,ι4])
  refine ⟨fun h1=>?_,fun h1=>?_⟩
  · exact bad (by rw [decide_eq_false h1];rfl) H
  refine Pu.use (GoodSaid_impl a (by omega)) ?_
  cases hga:goodF a
  · (try simp (maxSteps:=1000000) (disch:=first | assumption | (apply ν6;assumption)) only [vz,vu,vv,eqS,eF_,↓c1_,↓c2_,tabs,reduceCtorEq,ι5,↓reduceIte,ν1,ν2,ν3,ν4,ν5,ι1,ι2,ι3,ι4])
    exact bad (by rw [hga];simp) H
  have e:tuR op a=mdR (a++[⟨op,0⟩]):=by rw [tuR,decide_eq_true h1,hga];rfl
  rw [e]
  clear e bad
  (try simp (maxSteps:=1000000) (disch:=first | assumption | (apply ν6;assumption)) only [vz,vu,vv,eqS,eF_,↓c1_,↓c2_,tabs,reduceCtorEq,ι5,↓reduceIte,ν1,ν2,ν3,ν4,ν5,ι1,ι2,ι3,ι4])
  refine CloneD_row a ha fun q hq=>?_
  (try simp (maxSteps:=1000000) (disch:=first | assumption | (apply ν6;assumption)) only [vz,vu,vv,eqS,eF_,↓c1_,↓c2_,tabs,reduceCtorEq,ι5,↓reduceIte,ν1,ν2,ν3,ν4,ν5,ι1,ι2,ι3,ι4])
  refine litDv ?_
  refine app_Dv (ex:=[]) (by rw [Heap.set_same,List.append_nil]) (by simp;omega) ?_
  rw [Heap.del_set hq]
  refine Pu.use (checkedSaid_spec _ (by simp;omega)) ?_
  (try simp (maxSteps:=1000000) (disch:=first | assumption | (apply ν6;assumption)) only [vz,vu,vv,eqS,eF_,↓c1_,↓c2_,tabs,reduceCtorEq,ι5,↓reduceIte,ν1,ν2,ν3,ν4,ν5,ι1,ι2,ι3,ι4])
  exact wkK.keep ⟨rfl,rfl⟩
theorem TurnSaid_ref (op:Int) (a:List Sd) (ha:a.length≤100000):Pu Try.prog 31 [I op,Ds a] (.tup [Ds (tuR op a).1,B (tuR op a).2]):=by
  refine ⟨fun H=>CallT.fin ?_⟩
  refine W31_ok ?_;simp (maxSteps:=1000000) (disch:=first | assumption | (apply ν6;assumption)) only [W31,vz,vu,vv,eqS,eF_,↓c1_,↓c2_,tabs,reduceCtorEq,ι5,↓reduceIte,ν1,ν2,ν3,ν4,ν5,ι1,ι2,ι3,ι4]
  refine Pu.use (need_spec.l10Need_spec op) ?_
  have bad:(decide (need op=1) && goodF a)=false→∀G,wkK (fun r H'=>r=.tup [Ds (tuR op a).1,B (tuR op a).2]∧H'=G) (.tup [.p .nil,B false]) G:=fun hb G=>by
    have e:tuR op a=([],false):=by rw [tuR,hb];rfl
    rw [e];exact noD
  (try simp (maxSteps:=1000000) (disch:=first | assumption | (apply ν6;assumption)) only [vz,vu,vv,eqS,eF_,↓c1_,↓c2_,tabs,reduceCtorEq,ι5,↓reduceIte,ν1,ν2,ν3,ν4,ν5,ι1,ι2,ι3,ι4])
  refine ⟨fun h1=>?_,fun h1=>?_⟩
  · exact bad (by rw [decide_eq_false h1];rfl) H
  refine Pu.use (GoodSaid_spec a (by omega)) ?_
  cases hga:goodF a
  · (try simp (maxSteps:=1000000) (disch:=first | assumption | (apply ν6;assumption)) only [vz,vu,vv,eqS,eF_,↓c1_,↓c2_,tabs,reduceCtorEq,ι5,↓reduceIte,ν1,ν2,ν3,ν4,ν5,ι1,ι2,ι3,ι4])
    exact bad (by rw [hga];simp) H
  have e:tuR op a=mdR (a++[⟨op,0⟩]):=by rw [tuR,decide_eq_true h1,hga];rfl
  rw [e]
  clear e bad
  (try simp (maxSteps:=1000000) (disch:=first | assumption | (apply ν6;assumption)) only [vz,vu,vv,eqS,eF_,↓c1_,↓c2_,tabs,reduceCtorEq,ι5,↓reduceIte,ν1,ν2,ν3,ν4,ν5,ι1,ι2,ι3,ι4])
  refine lit0D fun q0 hq0=>?_
  refine app_Dtop hq0 (by simp;omega) fun q hq=>?_
  rw [List.nil_append]
  (try simp (maxSteps:=1000000) (disch:=first | assumption | (apply ν6;assumption)) only [vz,vu,vv,eqS,eF_,↓c1_,↓c2_,tabs,reduceCtorEq,ι5,↓reduceIte,ν1,ν2,ν3,ν4,ν5,ι1,ι2,ι3,ι4])
  refine litDv ?_
  refine app_Dv (ex:=[]) (by rw [Heap.set_same,List.append_nil]) (by simp;omega) ?_
  rw [Heap.del_set hq]
  refine Pu.use (l10Made_spec _ (by simp;omega)) ?_
  (try simp (maxSteps:=1000000) (disch:=first | assumption | (apply ν6;assumption)) only [vz,vu,vv,eqS,eF_,↓c1_,↓c2_,tabs,reduceCtorEq,ι5,↓reduceIte,ν1,ν2,ν3,ν4,ν5,ι1,ι2,ι3,ι4])
  exact wkK.keep ⟨rfl,rfl⟩
theorem sameSaid_self (f:List Sd) (hl:f.length≤1000000):Pu Try.prog 25 [Ds f,Ds f] (B true):=by
  refine Pu.of fun H=>?_
  refine W25_ok ?_;simp (maxSteps:=1000000) (disch:=first | assumption | (apply ν6;assumption)) only [W25,vz,vu,vv,eqS,eF_,↓c1_,↓c2_,tabs,reduceCtorEq,ι5,↓reduceIte,ν1,ν2,ν3,ν4,ν5,ι1,ι2,ι3,ι4]
  refine L25_0_rule (0:Nat) (fun i=>I i) (fun _=>H) (fun i=>i≤f.length) (fun i=>f.length - i) ⟨by omega,.refl _,Heap.le_refl _⟩ ?_
  rintro i hi
  have e5:IntKind.i64.wrap ((i:Int)+1)=((i+1:Nat):Int):=by rw [i64_id (by omega) (by omega)];simp
  (try simp (maxSteps:=1000000) (disch:=first | assumption | (apply ν6;assumption)) only [vz,vu,vv,eqS,eF_,↓c1_,↓c2_,tabs,reduceCtorEq,ι5,↓reduceIte,ν1,ν2,ν3,ν4,ν5,ι1,ι2,ι3,ι4,B25_0,e5])
  intro h
  exact ⟨by omega,h,by omega,h,i+1,by omega,by omega,.refl _⟩
end Go.Proofs.Ytjdhigcefkihiaa
namespace Go.Proofs.Ytjdhigcefkihiaa
open Go Go.Sep Go.Pt
attribute [local irreducible] CallT
end Go.Proofs.Ytjdhigcefkihiaa
namespace Go.Proofs.Ytjdhigcefkihiaa
open Go Go.Sep Go.Pt
attribute [local irreducible] CallT
theorem eI_gd:Lay.Gd (LPl eI):=LPl.gd fun a x hx=>by
  simp only [List.mem_singleton] at hx;subst hx;exact .int _ _
theorem eE_gd:Lay.Gd (LPl eE):=LPl.gd fun a x hx=>by
  simp only [List.mem_cons,List.not_mem_nil,or_false] at hx
  rcases hx with rfl | rfl | rfl<;>exact .int _ _
theorem LIc.gd:Lay.Gd LIc:=by
  rintro a cs G D ⟨x,rfl,h⟩
  obtain ⟨h1,h2⟩:=LRow.gd eI_gd h
  exact ⟨fun c hc=>by rw [List.mem_singleton] at hc;subst hc;exact h1,h2⟩
theorem LIc.sh:Lay.Sh LIc:=by
  rintro a cs G D n G0 h0 ⟨x,rfl,h⟩
  exact ⟨shC n x,rfl,LRow.sh (LPl.sh eI) h0 h⟩
theorem LAu.gd {a:Au} {v:AV} {G:Heap} {D:List Nat} (h:LAu a v G D):Gd1 v∧∀y∈D,∀bs,G y=some bs→∀c∈bs,GdC c:=by
  obtain ⟨x,y,z,D1,D2,D3,rfl,rfl,h1,h2,h3⟩:=h
  have a1:=LRow.gd eI_gd h1
  have a2:=LRow.gd eE_gd h2
  have a3:=LRow.gd LIc.gd h3
  refine ⟨.inl ⟨_,rfl,fun c hc=>?_⟩,fun u hu=>?_⟩
  · simp only [List.mem_cons,List.not_mem_nil,or_false] at hc
    rcases hc with rfl | rfl | rfl | rfl
    · exact .p (.int _ _)
    · exact a1.1
    · exact a2.1
    · exact a3.1
  · simp only [List.mem_append] at hu
    rcases hu with hu | hu | hu
    · exact a1.2 u hu
    · exact a2.2 u hu
    · exact a3.2 u hu
theorem LAu.sh {a:Au} {v:AV} {G:Heap} {D:List Nat} {n:Nat} {G0:Heap} (h0:∀q,n≤q→G0 q=none) (h:LAu a v G D):LAu a (sh1 n v) (Heap.or G0 (shH n G)) (D.map (·+n)):=by
  obtain ⟨x,y,z,D1,D2,D3,rfl,rfl,h1,h2,h3⟩:=h
  exact ⟨shC n x,shC n y,shC n z,_,_,_,rfl,by rw [List.map_append,List.map_append],LRow.sh (LPl.sh eI) h0 h1,LRow.sh (LPl.sh eE) h0 h2,LRow.sh LIc.sh h0 h3⟩
end Go.Proofs.Ytjdhigcefkihiaa
namespace Go.Proofs.Ytjdhigcefkihiaa
open Go Go.Sep Go.Pt
attribute [local irreducible] CallT
theorem Heap.del_put {H:Heap} {r:Nat} {b:List AV} (h:H r=some b):(H.del r).set r b=H:=by
  funext y
  by_cases e:y=r
  · subst e;rw [Heap.set_same,h]
  · rw [Heap.set_other e,Heap.del_other e]
theorem St.start {H:Heap} {r:Nat} {b:List AV} (h:H r=some b):St (H.del r) [cellT r b] H:=by
  have:=(St.nil (H.del r)).cell (r:=r) (Heap.del_same _ _) b
  rwa [Heap.del_put h] at this
theorem set_le {H G:Heap} {Ts:List Th} {r:Nat} {b:List AV} (st:St (H.del r) Ts G) (c:Nat) (hc:Ts[c]?=some (cellT r b)):Heap.le (H.set r b) G:=by
  intro y v hv
  by_cases e:y=r
  · subst e;rw [Heap.set_same] at hv;rw [← hv];exact st.get c hc
  · rw [Heap.set_other e] at hv
    exact st.le y v (by rw [Heap.del_other e];exact hv)
end Go.Proofs.Ytjdhigcefkihiaa
namespace Go.Proofs.Ytjdhigcefkihiaa
open Go Go.Sep
attribute [local irreducible] CallT
theorem letters_spec {code:List Int} (hc:CodeC code) {k:Nat} {seed:Int} (n:Int) (hn:n≤1000) (hk:k≤800000000) {H:Heap} {r:Nat} (hr:H r=some (cur code k seed)) {K:AV→Heap→Prop}
    (h:∀(xs:List Int) q k' seed',(xs.length=n∨xs.length=0∧n≤0)→(∀x∈xs,0≤x∧x < 8)→k≤k'→k'≤k+2*xs.length→H q=none→K (own q 1 (xs.map eI)) ((H.set r (cur code k' seed')).set q (cells (xs.map eI)))) :
    CallT Try.prog 111 [.ptr r 0,I n] H K:=by
  refine CallT.ghost W111_hb fun q0 hq0=>?_
  have hq0r:q0≠r:=by rintro rfl;rw [hr] at hq0;cases hq0
  refine W111_ok ?_;simp (maxSteps:=1000000) (disch:=first | assumption | (apply ν6;assumption)) only [W111,vz,vu,vv,eqS,eF_,↓c1_,↓c2_,tabs,reduceCtorEq,ι5,↓reduceIte,ν1,ν2,ν3,ν4,ν5,ι1,ι2,ι3,ι4]
  refine L111_0_rule (([]:List Int),q0,k,seed) (fun s=>I (n - s.1.length)) (fun s=>own s.2.1 1 (s.1.map eI)) (fun s=>(H.set r (cur code s.2.2.1 s.2.2.2)).set s.2.1 (cells (s.1.map eI)))
    (fun s=>H s.2.1=none∧(s.1=[]∨s.1.length≤n)∧(∀x∈s.1,0≤x∧x < 8)∧k≤s.2.2.1∧s.2.2.1≤k+2*s.1.length) (fun s=>(n - s.1.length).toNat) ⟨⟨hq0,.inl rfl,by simp,by simp,by simp⟩,?_,.nilo _ _ _,?_⟩ ?_
  · simp;exact .refl _
  · (intro y b hy;simp only [Heap.set,Heap.del] at hy ⊢;(repeat' split at hy)<;>(repeat' split)<;>simp_all [cells])
  · rintro ⟨xs,q,k',s'⟩ ⟨hq,h1,h2,h3,h4⟩
    dsimp only at hq h1 h2 h3 h4
    have hqr:q≠r:=by rintro rfl;rw [hr] at hq;cases hq
    (try simp (maxSteps:=1000000) (disch:=first | assumption | (apply ν6;assumption)) only [vz,vu,vv,eqS,eF_,↓c1_,↓c2_,tabs,reduceCtorEq,ι5,↓reduceIte,ν1,ν2,ν3,ν4,ν5,ι1,ι2,ι3,ι4,B111_0])
    refine ⟨fun h5=>?_,fun h5=>?_⟩
    · have hx:xs.length < n:=by omega
      refine pick_spec hc 8 (by omega) (k:=k') (by omega) (r:=r) (by rw [Heap.set_other hqr.symm,Heap.set_same]) fun x k2 s2 hx0 hx1 hk2 hk3=>?_
      refine push_own (es:=xs.map eI) (cs:=eI x) tab_23 rfl tab_3 rfl rfl rfl rfl (by omega) (by omega) rfl (by rw [Heap.set_other hqr,Heap.set_same]) (sizedMap (f:=eI) (fun _=>rfl) _) (by simp;omega) (by simp;omega) fun q' hq'=>?_
      simp only [Heap.set_none] at hq'
      obtain ⟨q1,q2,q3⟩:=hq'
      (try simp (maxSteps:=1000000) (disch:=first | assumption | (apply ν6;assumption)) only [vz,vu,vv,eqS,eF_,↓c1_,↓c2_,tabs,reduceCtorEq,ι5,↓reduceIte,ν1,ν2,ν3,ν4,ν5,ι1,ι2,ι3,ι4])
      refine ⟨(xs++[x],q',k2,s2),⟨q3.2,.inr ?_,?_,?_,?_⟩,?_,?_,?_,?_⟩
      · simp;omega
      · simp only [List.mem_append,List.mem_singleton];rintro y (hy | rfl)
        · exact h2 y hy
        · omega
      · simp only;omega
      · simp;omega
      · simp;omega
      · rw [wk_int,i64_id (by omega) (by omega)];simp;omega
      · simp [AV.wk.refl]
      · simp only [List.map_append,List.map_cons,List.map_nil];(intro y b hy;simp only [Heap.set,Heap.del] at hy ⊢;(repeat' split at hy)<;>(repeat' split)<;>simp_all [cells])
    · have hl:(xs.length:Int)=n∨xs.length=0∧n≤0:=by
        rcases h1 with rfl | h1
        · right;simp at h5 ⊢;omega
        · left;omega
      have:=h xs q k' s' hl h2 h3 h4 hq
      exact this
theorem wk_lit {q:Nat} {H:Heap} {K:AV→Heap→Prop} (xs:List Int) {n:Nat} (hn:n=xs.length) (hq:H q=none) (h:K (Is xs) H):wkK K (.sl q 1 0 n) (H.set q (xs.map fun n=>I n)):=by
  subst hn
  refine ⟨Is xs,H,?_,h⟩
  have:=Wk.own_le (q:=q) (sz:=1) (es:=xs.map eI) (H:=H) (H':=H.set q (xs.map fun n=>I n)) (by omega) (szI _) hq (by rw [cells_I];exact Heap.le_refl _)
  simpa only [own,List.length_map] using this
structure LG (H G:Heap) (r r2 r3 q1 q2:Nat) (code:List Int) (k:Nat) (seed:Int) (s l:List Int):Prop where
  cr:G r=some (cur code k seed)
  c2:G r2=some [.p .nil,.p .nil]
  c3:G r3=some [own q1 1 (s.map eI),own q2 1 (l.map eI)]
  d1:G q1=some (cells (s.map eI))
  d2:G q2=some (cells (l.map eI))
  ne:q1≠q2∧q1≠r∧q2≠r∧r2≠r∧r3≠r∧r2≠r3∧q1≠r2∧q1≠r3∧q2≠r2∧q2≠r3
  nn:H q1=none∧H q2=none∧H r2=none∧H r3=none
  le:∀y b,y≠r→H y=some b→G y=some b
theorem LG.fin {H G:Heap} {r r2 r3 q1 q2:Nat} {code:List Int} {k:Nat} {seed:Int} {s l:List Int} (g:LG H G r r2 r3 q1 q2 code k seed s l) {K:AV→Heap→Prop} (h:K (.agg [Is s,Is l]) (H.set r (cur code k seed))) {b:List AV} :
    wkK K (.agg [own q1 1 (s.map eI),own q2 1 (l.map eI)]) (G.set r2 b):=by
  obtain ⟨n1,n2,n3,n4,n5,n6,n7,n8,n9,n10⟩:=g.ne
  obtain ⟨m1,m2,m3,m4⟩:=g.nn
  refine ⟨_,_,.trans (Wk.frz (r:=q1) (sz:=1) (es:=s.map eI) (v':=.agg [Is s,own q2 1 (l.map eI)]) (by omega) (by rw [Heap.set_other n7];exact g.d1) (szI s) (.agg (.cons .here (.cons (.same _) .nil))))
    (.trans (Wk.frz (r:=q2) (sz:=1) (es:=l.map eI) (v':=.agg [Is s,Is l]) (by omega) (by rw [Heap.del_other n1.symm,Heap.set_other n9];exact g.d2) (szI l) (.agg (.cons (.same _) (.cons .here .nil)))) (.forget ?_)),h⟩
  intro y b' hy
  by_cases e:y=r
  · subst e
    rw [Heap.set_same] at hy
    rw [Heap.del_other n3.symm,Heap.del_other n2.symm,Heap.set_other n4.symm,g.cr,hy]
  · rw [Heap.set_other e] at hy
    have y1:y≠q1:=fun e=>by rw [e,m1] at hy;cases hy
    have y2:y≠q2:=fun e=>by rw [e,m2] at hy;cases hy
    have y3:y≠r2:=fun e=>by rw [e,m3] at hy;cases hy
    rw [Heap.del_other y2,Heap.del_other y1,Heap.set_other y3]
    exact g.le y b' e hy
theorem LG.cur {H G:Heap} {r r2 r3 q1 q2:Nat} {code:List Int} {k:Nat} {seed:Int} {s l:List Int} (g:LG H G r r2 r3 q1 q2 code k seed s l) (k1:Nat) (s1:Int):LG H (G.set r (Proofs.Ytjdhigcefkihiaa.cur code k1 s1)) r r2 r3 q1 q2 code k1 s1 s l:=by
  obtain ⟨n1,n2,n3,n4,n5,n6,n7,n8,n9,n10⟩:=g.ne
  exact ⟨Heap.set_same _ _ _,by rw [Heap.set_other n4];exact g.c2,by rw [Heap.set_other n5];exact g.c3,by rw [Heap.set_other n2];exact g.d1,by rw [Heap.set_other n3];exact g.d2,g.ne,g.nn,
      fun y b e hy=>by rw [Heap.set_other e];exact g.le y b e hy⟩
theorem LG.fresh {H G:Heap} {r r2 r3 q1 q2:Nat} {code:List Int} {k:Nat} {seed:Int} {s l:List Int} (g:LG H G r r2 r3 q1 q2 code k seed s l) {q:Nat} (hq:G q=none):q≠r∧q≠r2∧q≠r3∧q≠q1∧q≠q2∧H q=none:=by
  have h1:q≠r:=fun e=>by rw [e,g.cr] at hq;cases hq
  refine ⟨h1,(fun e=>by rw [e,g.c2] at hq;cases hq),(fun e=>by rw [e,g.c3] at hq;cases hq),(fun e=>by rw [e,g.d1] at hq;cases hq),(fun e=>by rw [e,g.d2] at hq;cases hq),?_⟩
  cases hh:H q with
  | none=>rfl
  | some b=>rw [g.le q b h1 hh] at hq;cases hq
theorem LG.newLoop {H G:Heap} {r r2 r3 q1 q2:Nat} {code:List Int} {k:Nat} {seed:Int} {s l:List Int} (g:LG H G r r2 r3 q1 q2 code k seed s l) {G':Heap} (hG:∀y,y≠q2→G' y=G y) {q:Nat} (hq:G q=none) (ys:List Int) :
    LG H ((G'.set q (cells (ys.map eI))).set r3 [own q1 1 (s.map eI),own q 1 (ys.map eI)]) r r2 r3 q1 q code k seed s ys:=by
  obtain ⟨n1,n2,n3,n4,n5,n6,n7,n8,n9,n10⟩:=g.ne
  obtain ⟨m1,m2,m3,m4⟩:=g.nn
  obtain ⟨f1,f2,f3,f4,f5,f6⟩:=g.fresh hq
  refine ⟨?_,?_,Heap.set_same _ _ _,?_,?_,⟨f4.symm,n2,f1,n4,n5,n6,n7,n8,f2,f3⟩,⟨m1,f6,m3,m4⟩,fun y b e hy=>?_⟩
  · rw [Heap.set_other n5.symm,Heap.set_other f1.symm,hG _ n3.symm];exact g.cr
  · rw [Heap.set_other n6,Heap.set_other f2.symm,hG _ n9.symm];exact g.c2
  · rw [Heap.set_other n8,Heap.set_other f4.symm,hG _ n1];exact g.d1
  · rw [Heap.set_other f3,Heap.set_same]
  · rw [Heap.set_other (fun e=>by rw [e,m4] at hy;cases hy),Heap.set_other (fun e=>by rw [e,f6] at hy;cases hy),hG _ (fun e=>by rw [e,m2] at hy;cases hy)];exact g.le y b e hy
theorem LG.newStem {H G:Heap} {r r2 r3 q1 q2:Nat} {code:List Int} {k:Nat} {seed:Int} {s l:List Int} (g:LG H G r r2 r3 q1 q2 code k seed s l) {G':Heap} (hG:∀y,y≠q1→G' y=G y) {q:Nat} (hq:G q=none) (ys:List Int) :
    LG H ((G'.set q (cells (ys.map eI))).set r3 [own q 1 (ys.map eI),own q2 1 (l.map eI)]) r r2 r3 q q2 code k seed ys l:=by
  obtain ⟨n1,n2,n3,n4,n5,n6,n7,n8,n9,n10⟩:=g.ne
  obtain ⟨m1,m2,m3,m4⟩:=g.nn
  obtain ⟨f1,f2,f3,f4,f5,f6⟩:=g.fresh hq
  refine ⟨?_,?_,Heap.set_same _ _ _,?_,?_,⟨f5,f1,n3,n4,n5,n6,f2,f3,n9,n10⟩,⟨f6,m2,m3,m4⟩,fun y b e hy=>?_⟩
  · rw [Heap.set_other n5.symm,Heap.set_other f1.symm,hG _ n2.symm];exact g.cr
  · rw [Heap.set_other n6,Heap.set_other f2.symm,hG _ n7.symm];exact g.c2
  · rw [Heap.set_other f3,Heap.set_same]
  · rw [Heap.set_other n10,Heap.set_other f5.symm,hG _ n1.symm];exact g.d2
  · rw [Heap.set_other (fun e=>by rw [e,m4] at hy;cases hy),Heap.set_other (fun e=>by rw [e,f6] at hy;cases hy),hG _ (fun e=>by rw [e,m1] at hy;cases hy)];exact g.le y b e hy
theorem LG.put {H G:Heap} {r r2 r3 q1 q2:Nat} {code:List Int} {k:Nat} {seed:Int} {s l:List Int} (g:LG H G r r2 r3 q1 q2 code k seed s l) {ys:List Int} (hl:ys.length=l.length) :
    LG H (G.set q2 (cells (ys.map eI))) r r2 r3 q1 q2 code k seed s ys:=by
  obtain ⟨n1,n2,n3,n4,n5,n6,n7,n8,n9,n10⟩:=g.ne
  obtain ⟨m1,m2,m3,m4⟩:=g.nn
  refine ⟨?_,?_,?_,?_,Heap.set_same _ _ _,g.ne,g.nn,fun y b e hy=>?_⟩
  · rw [Heap.set_other n3.symm];exact g.cr
  · rw [Heap.set_other n9.symm];exact g.c2
  · rw [Heap.set_other n10.symm,g.c3];simp only [own,List.length_map,hl]
  · rw [Heap.set_other n1];exact g.d1
  · rw [Heap.set_other (fun e=>by rw [e,m2] at hy;cases hy)];exact g.le y b e hy
theorem lasso_J0 {code:List Int} (hc:CodeC code) {H G:Heap} {r r2 r3 q1 q2:Nat} {k:Nat} {seed:Int} {s l:List Int} (g:LG H G r r2 r3 q1 q2 code k seed s l) (hk:k≤700000000) (hs:s.length≤64) (hl:l.length≤64) (hl1:1≤l.length) {K:AV→Heap→Prop}
    (h:∀s l k' seed',s.length≤64→l.length≤64→k≤k'→k'≤k+100→K (.agg [Is s,Is l]) (H.set r (cur code k' seed'))):J75_0 (wkK K) (.ptr r 0) (.ptr r2 0) (.ptr r3 0) G:=by
  obtain ⟨n1,n2,n3,n4,n5,n6,n7,n8,n9,n10⟩:=g.ne
  unfold J75_0
  refine pick_spec hc 40 (by omega) (by omega) g.cr fun x k1 s1 hx0 hx1 hk1 hk2=>?_
  have g1:=g.cur k1 s1
  generalize hG1:G.set r (cur code k1 s1)=G1 at g1
  have len25:∀(n:Int) (ys:List Int),n≤25→(ys.length=n∨ys.length=0∧n≤0)→ys.length≤25:=by intro n ys h1 h2;omega
  (try simp (maxSteps:=1000000) (disch:=first | assumption | (apply ν6;assumption)) only [vz,vu,vv,eqS,eF_,↓c1_,↓c2_,tabs,reduceCtorEq,ι5,↓reduceIte,ν1,ν2,ν3,ν4,ν5,ι1,ι2,ι3,ι4])
  refine ⟨fun hx=>?_,fun hx=>⟨fun hx=>?_,fun hx=>⟨fun hx=>?_,fun hx=>?_⟩⟩⟩
  · (try simp (maxSteps:=1000000) (disch:=first | assumption | (apply ν6;assumption)) only [vz,vu,vv,eqS,eF_,↓c1_,↓c2_,tabs,reduceCtorEq,ι5,↓reduceIte,ν1,ν2,ν3,ν4,ν5,ι1,ι2,ι3,ι4,buildSliceV,zerosA,List.replicate_succ,List.replicate_zero,List.flatten_cons,List.flatten_nil])
    intro q hq
    refine wk_lit [0,24,25] rfl hq ?_
    refine among_spec hc [0,24,25] (by simp) (by simp) (by omega) g1.cr fun n k2 s2 hn hk3 hk4=>?_
    have hn':n≤25:=by simp at hn;omega
    have g2:=g1.cur k2 s2
    generalize G1.set r (cur code k2 s2)=G2 at g2
    refine letters_spec hc n (by omega) (by omega) g2.cr fun ys q3 k3 s3 hlen _ hk5 hk6 hq3=>?_
    have hy:=len25 n ys hn' hlen
    have g3:=g2.cur k3 s3
    have hq3':(G2.set r (cur code k3 s3)) q3=none:=by rw [Heap.set_other (g2.fresh hq3).1];exact hq3
    have f3:=g3.fresh hq3'
    generalize G2.set r (cur code k3 s3)=G3 at g3 hq3'
    have g4:=g3.newLoop (fun _ _=>rfl) hq3' ys
    have c3':(G3.set q3 (cells (ys.map eI))) r3=some [own q1 1 (s.map eI),own q2 1 (l.map eI)]:=by rw [Heap.set_other f3.2.2.1.symm];exact g3.c3
    have c2':(G3.set q3 (cells (ys.map eI))) r2=some [.p .nil,.p .nil]:=by rw [Heap.set_other f3.2.1.symm];exact g3.c2
    generalize G3.set q3 (cells (ys.map eI))=G4 at g4 c3' c2'
    (try simp (maxSteps:=1000000) (disch:=first | assumption | (apply ν6;assumption)) only [vz,vu,vv,eqS,eF_,↓c1_,↓c2_,tabs,reduceCtorEq,ι5,↓reduceIte,ν1,ν2,ν3,ν4,ν5,ι1,ι2,ι3,ι4,store_at c3',store_at c2'])
    rw [Heap.set_comm n6]
    have:=g4.fin (b:=[own q1 1 (s.map eI),own q3 1 (ys.map eI)]) (h s ys k3 s3 hs (by omega) (by omega) (by omega))
    simpa only [own,List.length_map] using this
  · (try simp (maxSteps:=1000000) (disch:=first | assumption | (apply ν6;assumption)) only [vz,vu,vv,eqS,eF_,↓c1_,↓c2_,tabs,reduceCtorEq,ι5,↓reduceIte,ν1,ν2,ν3,ν4,ν5,ι1,ι2,ι3,ι4,buildSliceV,zerosA,List.replicate_succ,List.replicate_zero,List.flatten_cons,List.flatten_nil])
    intro q hq
    refine wk_lit [24,25] rfl hq ?_
    refine among_spec hc [24,25] (by simp) (by simp) (by omega) g1.cr fun n k2 s2 hn hk3 hk4=>?_
    have hn':n≤25:=by simp at hn;omega
    have g2:=g1.cur k2 s2
    generalize G1.set r (cur code k2 s2)=G2 at g2
    refine letters_spec hc n (by omega) (by omega) g2.cr fun ys q3 k3 s3 hlen _ hk5 hk6 hq3=>?_
    have hy:=len25 n ys hn' hlen
    have g3:=g2.cur k3 s3
    have hq3':(G2.set r (cur code k3 s3)) q3=none:=by rw [Heap.set_other (g2.fresh hq3).1];exact hq3
    have f3:=g3.fresh hq3'
    generalize G2.set r (cur code k3 s3)=G3 at g3 hq3'
    have g4:=g3.newStem (fun _ _=>rfl) hq3' ys
    have c3':(G3.set q3 (cells (ys.map eI))) r3=some [own q1 1 (s.map eI),own q2 1 (l.map eI)]:=by rw [Heap.set_other f3.2.2.1.symm];exact g3.c3
    have c2':(G3.set q3 (cells (ys.map eI))) r2=some [.p .nil,.p .nil]:=by rw [Heap.set_other f3.2.1.symm];exact g3.c2
    generalize G3.set q3 (cells (ys.map eI))=G4 at g4 c3' c2'
    (try simp (maxSteps:=1000000) (disch:=first | assumption | (apply ν6;assumption)) only [vz,vu,vv,eqS,eF_,↓c1_,↓c2_,tabs,reduceCtorEq,ι5,↓reduceIte,ν1,ν2,ν3,ν4,ν5,ι1,ι2,ι3,ι4,store_at c3',store_at c2'])
    rw [Heap.set_comm n6]
    have:=g4.fin (b:=[own q3 1 (ys.map eI),own q2 1 (l.map eI)]) (h ys l k3 s3 (by omega) hl (by omega) (by omega))
    simpa only [own,List.length_map] using this
  · (try simp (maxSteps:=1000000) (disch:=first | assumption | (apply ν6;assumption)) only [vz,vu,vv,eqS,eF_,↓c1_,↓c2_,tabs,reduceCtorEq,ι5,↓reduceIte,ν1,ν2,ν3,ν4,ν5,ι1,ι2,ι3,ι4,buildSliceV,zerosA,List.replicate_succ,List.replicate_zero,List.flatten_cons,List.flatten_nil,load_at g1.c3])
    intro q hq
    refine wk_lit [-1,7,8] rfl hq ?_
    (try simp (maxSteps:=1000000) (disch:=first | assumption | (apply ν6;assumption)) only [vz,vu,vv,eqS,eF_,↓c1_,↓c2_,tabs,reduceCtorEq,ι5,↓reduceIte,ν1,ν2,ν3,ν4,ν5,ι1,ι2,ι3,ι4,load_at g1.c3])
    refine among_spec hc [-1,7,8] (by simp) (by simp) (by omega) g1.cr fun n k2 s2 hn hk3 hk4=>?_
    have g2:=g1.cur k2 s2
    generalize G1.set r (cur code k2 s2)=G2 at g2
    (try simp (maxSteps:=1000000) (disch:=first | assumption | (apply ν6;assumption)) only [vz,vu,vv,eqS,eF_,↓c1_,↓c2_,tabs,reduceCtorEq,ι5,↓reduceIte,ν1,ν2,ν3,ν4,ν5,ι1,ι2,ι3,ι4,load_at g2.c3,store_at g2.d2,store_at g2.c2])
    refine ⟨by omega,by omega,by rw [cells_I,List.length_map];omega,?_⟩
    have e1:AV.p (PV.int IntKind.i64 n)::List.drop 1 (cells (l.map eI))=cells (((n::l.drop 1)).map eI):=by
      rw [cells_I,cells_I,List.map_cons,List.map_drop]
    rw [e1]
    have g4:=g2.put (ys:=n::l.drop 1) (by simp;omega)
    rw [Heap.set_comm n9.symm]
    have:=g4.fin (b:=[own q1 1 (s.map eI),own q2 1 ((n::l.drop 1).map eI)]) (h s (n::l.drop 1) k2 s2 hs (by simp;omega) (by omega) (by omega))
    have e2:(n::l.drop 1).length=l.length:=by simp;omega
    simp only [own,List.length_map,e2] at this ⊢
    exact this
  · (try simp (maxSteps:=1000000) (disch:=first | assumption | (apply ν6;assumption)) only [vz,vu,vv,eqS,eF_,↓c1_,↓c2_,tabs,reduceCtorEq,ι5,↓reduceIte,ν1,ν2,ν3,ν4,ν5,ι1,ι2,ι3,ι4,load_at g1.c3,store_at g1.c2])
    exact g1.fin (h s l k1 s1 hs hl (by omega) (by omega))
theorem app_rows {tab:Tab} {t e:Nat} {d ed:TD} {q q':Nat} {xs ys:List Int} {H:Heap} {K:AV→Heap→Prop} (h1:tab t=some d) (h2:d.k=.slice e) (h3:tab e=some ed) (h6:ed.size=1) (h7:ed.bytes≤16)
    (hx:H q=some (cells (xs.map eI))) (hy:H q'=some (cells (ys.map eI))) (hl:xs.length+ys.length≤1000000000)
    (h:∀r',H r'=none→K (own r' 1 ((xs++ys).map eI)) ((H.del q).set r' (cells ((xs++ys).map eI)))):appendV tab t t (own q 1 (xs.map eI)) (own q' 1 (ys.map eI)) H (wkK K):=by
  simp only [appendV,h1,h2,h3,srcV,baseV,hx,hy,h6,own,List.length_map,Nat.mul_one,Nat.zero_add,List.drop_zero]
  have l1:(cells (xs.map eI)).length=xs.length:=by rw [cells_I,List.length_map]
  have l2:(cells (ys.map eI)).length=ys.length:=by rw [cells_I,List.length_map]
  refine ⟨trivial,by omega,trivial,by omega,?_,by omega,?_,fun r' hr'=>wkK.keep ?_⟩
  · exact Nat.le_trans (Nat.mul_le_mul hl h7) (by omega)
  · rw [List.take_of_length_le (by omega)];exact cells_cell _
  · have:=h r' hr'
    rw [List.take_of_length_le (by omega),List.take_of_length_le (by omega),← cells_app,← List.map_append]
    simpa only [own,List.length_map,List.length_append] using this
theorem lasso_J1 {code:List Int} (hc:CodeC code) {H G:Heap} {r r2 r3 q1 q2:Nat} {k:Nat} {seed:Int} {s l:List Int} (g:LG H G r r2 r3 q1 q2 code k seed s l) (hk:k≤600000000) (hs:s.length+l.length≤64) (hl1:1≤l.length) {K:AV→Heap→Prop}
    (h:∀s l k' seed',s.length≤64→l.length≤64→k≤k'→k'≤k+102→K (.agg [Is s,Is l]) (H.set r (cur code k' seed'))):J75_1 (wkK K) (.ptr r 0) (.ptr r2 0) (.ptr r3 0) G:=by
  unfold J75_1
  refine one_spec hc 4 (by omega) (by omega) g.cr fun x k1 s1 hk1 hk2=>?_
  have g1:=g.cur k1 s1
  generalize G.set r (cur code k1 s1)=G1 at g1
  (try simp (maxSteps:=1000000) (disch:=first | assumption | (apply ν6;assumption)) only [vz,vu,vv,eqS,eF_,↓c1_,↓c2_,tabs,reduceCtorEq,ι5,↓reduceIte,ν1,ν2,ν3,ν4,ν5,ι1,ι2,ι3,ι4])
  refine ⟨fun hx=>?_,fun hx=>?_⟩
  · (try simp (maxSteps:=1000000) (disch:=first | assumption | (apply ν6;assumption)) only [vz,vu,vv,eqS,eF_,↓c1_,↓c2_,tabs,reduceCtorEq,ι5,↓reduceIte,ν1,ν2,ν3,ν4,ν5,ι1,ι2,ι3,ι4,load_at g1.c3])
    refine app_rows tab_23 rfl tab_3 rfl (by decide) g1.d1 g1.d2 (by omega) fun q hq=>?_
    have f:=g1.fresh hq
    have n:=g1.ne
    have g2:=g1.newStem (G':=G1.del q1) (fun y hy=>Heap.del_other hy) hq (s++l)
    have c3':((G1.del q1).set q (cells ((s++l).map eI))) r3=some [own q1 1 (s.map eI),own q2 1 (l.map eI)]:=by rw [Heap.set_other f.2.2.1.symm,Heap.del_other n.2.2.2.2.2.2.2.1.symm];exact g1.c3
    (try simp (maxSteps:=1000000) (disch:=first | assumption | (apply ν6;assumption)) only [vz,vu,vv,eqS,eF_,↓c1_,↓c2_,tabs,reduceCtorEq,ι5,↓reduceIte,ν1,ν2,ν3,ν4,ν5,ι1,ι2,ι3,ι4,store_at c3'])
    have:=lasso_J0 hc g2 (by omega) (by simp;omega) (by omega) hl1 fun s l k' s' a b c d=>h s l k' s' a b (by omega) (by omega)
    simpa only [own,List.length_map,List.length_append] using this
  · exact lasso_J0 hc g1 (by omega) (by omega) (by omega) hl1 fun s l k' s' a b c d=>h s l k' s' a b (by omega) (by omega)
theorem lasso_spec {code:List Int} (hc:CodeC code) {H:Heap} {r k:Nat} {seed:Int} (hr:H r=some (cur code k seed)) (hk:k≤500000000) {K:AV→Heap→Prop}
    (h:∀s l k' seed',s.length≤64→l.length≤64→k≤k'→k'≤k+300→K (.agg [Is s,Is l]) (H.set r (cur code k' seed'))):CallT Try.prog 75 [.ptr r 0] H K:=by
  refine CallT.fin ?_
  refine W75_ok ?_;simp (maxSteps:=1000000) (disch:=first | assumption | (apply ν6;assumption)) only [W75,vz,vu,vv,eqS,eF_,↓c1_,↓c2_,tabs,reduceCtorEq,ι5,↓reduceIte,ν1,ν2,ν3,ν4,ν5,ι1,ι2,ι3,ι4]
  intro r2 hr2
  have n4:r2≠r:=by rintro rfl;rw [hr] at hr2;cases hr2
  refine pick_spec hc 6 (by omega) (k:=k) (by omega) (by rw [Heap.set_other n4.symm];exact hr) fun x1 k1 s1 hx0 hx1 hk1 hk2=>?_
  refine letters_spec hc x1 (by omega) (k:=k1) (by omega) (Heap.set_same _ _ _) fun s q1 k2 s2 hl1 _ hk3 hk4 hq1=>?_
  simp only [Heap.set_none] at hq1
  obtain ⟨e1,e2,e3⟩:=hq1
  refine pick_spec hc 5 (by omega) (k:=k2) (by omega) (by rw [Heap.set_other e1.symm];exact Heap.set_same _ _ _) fun x2 k3 s3 hx2 hx3 hk5 hk6=>?_
  (try simp (maxSteps:=1000000) (disch:=first | assumption | (apply ν6;assumption)) only [vz,vu,vv,eqS,eF_,↓c1_,↓c2_,tabs,reduceCtorEq,ι5,↓reduceIte,ν1,ν2,ν3,ν4,ν5,ι1,ι2,ι3,ι4,i64_id (show -9223372036854775808≤1+x2 by omega) (show 1+x2≤9223372036854775807 by omega)])
  refine letters_spec hc (1+x2) (by omega) (k:=k3) (seed:=s3) (by omega) (by rw [Heap.set_other e1.symm,Heap.set_same]) fun l q2 k4 s4 hl2 _ hk7 hk8 hq2=>?_
  simp only [Heap.set_none] at hq2
  obtain ⟨f1,f2,f3,f4⟩:=hq2
  (try simp (maxSteps:=1000000) (disch:=first | assumption | (apply ν6;assumption)) only [vz,vu,vv,eqS,eF_,↓c1_,↓c2_,tabs,reduceCtorEq,ι5,↓reduceIte,ν1,ν2,ν3,ν4,ν5,ι1,ι2,ι3,ι4])
  intro r3 d1 d2 d3 d4 d5
  generalize hG:(((((H.set r2 [AV.p PV.nil,AV.p PV.nil]).set r (cur code k4 s4)).set q1 (cells (List.map eI s))).set q2 (cells (List.map eI l))).set r3 [AV.sl q1 1 0 s.length,AV.sl q2 1 0 l.length])=G
  have g:LG H G r r2 r3 q1 q2 code k4 s4 s l:=by
    subst hG
    refine ⟨?_,?_,?_,?_,?_,⟨f1.symm,e1,f2,n4,d3,Ne.symm d4,e2,Ne.symm d2,f3,Ne.symm d1⟩,⟨e3,f4,hr2,d5⟩,fun y b hy hyb=>?_⟩
    · simp [Heap.set,Ne.symm d3,f2.symm,e1.symm]
    · simp [Heap.set,Ne.symm d4,f3.symm,e2.symm,n4]
    · simp [Heap.set,own]
    · simp [Heap.set,Ne.symm d2,f1.symm]
    · simp [Heap.set,Ne.symm d1]
    · have y1:y≠r2:=fun e=>by rw [e,hr2] at hyb;cases hyb
      have y2:y≠q1:=fun e=>by rw [e,e3] at hyb;cases hyb
      have y3:y≠q2:=fun e=>by rw [e,f4] at hyb;cases hyb
      have y4:y≠r3:=fun e=>by rw [e,d5] at hyb;cases hyb
      simp [Heap.set,hy,y1,y2,y3,y4,hyb]
  clear hG
  have len1:s.length≤6:=by omega
  have len2:1≤l.length∧l.length≤6:=by omega
  have hk4':k4≤k+50:=by omega
  have hkk:k≤k4:=by omega
  refine one_spec hc 4 (by omega) (k:=k4) (by omega) g.cr fun x k5 s5 hk9 hk10=>?_
  have g1:=g.cur k5 s5
  generalize G.set r (cur code k5 s5)=G1 at g1
  (try simp (maxSteps:=1000000) (disch:=first | assumption | (apply ν6;assumption)) only [vz,vu,vv,eqS,eF_,↓c1_,↓c2_,tabs,reduceCtorEq,ι5,↓reduceIte,ν1,ν2,ν3,ν4,ν5,ι1,ι2,ι3,ι4])
  refine ⟨fun hx=>?_,fun hx=>?_⟩
  · (try simp (maxSteps:=1000000) (disch:=first | assumption | (apply ν6;assumption)) only [vz,vu,vv,eqS,eF_,↓c1_,↓c2_,tabs,reduceCtorEq,ι5,↓reduceIte,ν1,ν2,ν3,ν4,ν5,ι1,ι2,ι3,ι4,load_at g1.c3])
    refine app_rows tab_23 rfl tab_3 rfl (by decide) g1.d2 g1.d2 (by omega) fun q hq=>?_
    have f:=g1.fresh hq
    have n:=g1.ne
    have g2:=g1.newLoop (G':=G1.del q2) (fun y hy=>Heap.del_other hy) hq (l++l)
    have c3':((G1.del q2).set q (cells ((l++l).map eI))) r3=some [own q1 1 (s.map eI),own q2 1 (l.map eI)]:=by rw [Heap.set_other f.2.2.1.symm,Heap.del_other n.2.2.2.2.2.2.2.2.2.symm];exact g1.c3
    (try simp (maxSteps:=1000000) (disch:=first | assumption | (apply ν6;assumption)) only [vz,vu,vv,eqS,eF_,↓c1_,↓c2_,tabs,reduceCtorEq,ι5,↓reduceIte,ν1,ν2,ν3,ν4,ν5,ι1,ι2,ι3,ι4,store_at c3'])
    have:=lasso_J1 hc g2 (by omega) (by simp;omega) (by simp;omega) fun s l k' s' a b c d=>h s l k' s' a b (by omega) (by omega)
    simpa only [own,List.length_map,List.length_append] using this
  · exact lasso_J1 hc g1 (by omega) (by omega) (by omega) fun s l k' s' a b c d=>h s l k' s' a b (by omega) (by omega)
end Go.Proofs.Ytjdhigcefkihiaa
namespace Go.Proofs.Ytjdhigcefkihiaa
open Go Go.Sep Go.Pt
attribute [local irreducible] CallT
theorem place_spec {code:List Int} (hc:CodeC code) {k:Nat} {seed:Int} (hk:k≤900000000) {H:Heap} {r:Nat} (hr:H r=some (cur code k seed)) {K:AV→Heap→Prop}
    (h:∀x k' seed',-1≤x→x≤1001→k≤k'→k'≤k+2→K (I x) (H.set r (cur code k' seed'))):CallT Try.prog 76 [.ptr r 0] H K:=by
  refine W76_ok ?_;simp (maxSteps:=1000000) (disch:=first | assumption | (apply ν6;assumption)) only [W76,vz,vu,vv,eqS,eF_,↓c1_,↓c2_,tabs,reduceCtorEq,ι5,↓reduceIte,ν1,ν2,ν3,ν4,ν5,ι1,ι2,ι3,ι4]
  refine lit_gen tab_23 rfl tab_3 ⟨rfl,rfl⟩ [.int .i64 (-1),.int .i64 0,.int .i64 1,.int .i64 2,.int .i64 3,.int .i64 5,.int .i64 8,.int .i64 13,.int .i64 1000,.int .i64 1001] (by simp) ?_
  refine among_spec hc [-1,0,1,2,3,5,8,13,1000,1001] (by simp) (by simp) hk hr fun x k1 s1 hx h1 h2=>?_
  simp only [List.mem_cons,List.not_mem_nil,or_false] at hx
  exact h x k1 s1 (by omega) (by omega) h1 h2
theorem DrawHoldsAt_spec {code:List Int} (hc:CodeC code) {H:Heap} {K:AV→Heap→Prop} (h:∀f s l k,f.length≤20→s.length≤1000→l.length≤1000→-1≤k→k≤1001→K (.tup [Ds f,aL2 s l,I k]) H):CallT Try.prog 26 [.p (.sl (code.map e8))] H K:=by
  refine CallT.fin ?_
  refine W26_ok ?_;simp (maxSteps:=1000000) (disch:=first | assumption | (apply ν6;assumption)) only [W26,vz,vu,vv,eqS,eF_,↓c1_,↓c2_,tabs,reduceCtorEq,ι5,↓reduceIte,ν1,ν2,ν3,ν4,ν5,ι1,ι2,ι3,ι4]
  intro r2 hr2 r7 n7 hr7
  have st:=((St.nil H).cell hr2 [.p .nil,.p .nil]).cell (r:=r7) (by rw [Heap.set_other n7];exact hr7) (cur code 0 0)
  have ec:(H.set r2 [AV.p PV.nil,AV.p PV.nil]).set r7 [AV.p (PV.sl (List.map e8 code)),AV.p (PV.int IntKind.i64 0),AV.p (PV.int IntKind.u64 0)]=(H.set r2 [.p .nil,.p .nil]).set r7 (cur code 0 0):=rfl
  rw [ec]
  generalize (H.set r2 [.p .nil,.p .nil]).set r7 (cur code 0 0)=G at st ⊢
  clear ec hr2 n7 hr7
  refine said_spec hc (by omega) (st.get 0 rfl) fun f k1 s1 hf hk1 hk2=>?_
  replace st:=st.put 0 rfl (cur code k1 s1)
  generalize G.set r7 (cur code k1 s1)=G1 at st ⊢
  refine lasso_spec hc (st.get 0 rfl) (by omega) fun s l k2 s2 hs hl hk3 hk4=>?_
  replace st:=st.put 0 rfl (cur code k2 s2)
  generalize G1.set r7 (cur code k2 s2)=G2 at st ⊢
  simp only [List.set_cons_zero] at st
  (try simp (maxSteps:=1000000) (disch:=first | assumption | (apply ν6;assumption)) only [vz,vu,vv,eqS,eF_,↓c1_,↓c2_,tabs,reduceCtorEq,ι5,↓reduceIte,ν1,ν2,ν3,ν4,ν5,ι1,ι2,ι3,ι4])
  intro r6 hr6
  replace st:=st.cell hr6 [Is s,Is l]
  generalize G2.set r6 [Is s,Is l]=G3 at st ⊢
  clear hr6
  (try simp (maxSteps:=1000000) (disch:=first | assumption | (apply ν6;assumption)) only [vz,vu,vv,eqS,eF_,↓c1_,↓c2_,tabs,reduceCtorEq,ι5,↓reduceIte,ν1,ν2,ν3,ν4,ν5,ι1,ι2,ι3,ι4,load_at (st.get 0 rfl)])
  refine place_spec hc (by omega) (st.get 1 rfl) fun x k3 s3 hx1 hx2 hk5 hk6=>?_
  replace st:=st.put 1 rfl (cur code k3 s3)
  generalize G3.set r7 (cur code k3 s3)=G4 at st ⊢
  simp only [List.set_cons_zero,List.set_cons_succ] at st
  (try simp (maxSteps:=1000000) (disch:=first | assumption | (apply ν6;assumption)) only [vz,vu,vv,eqS,eF_,↓c1_,↓c2_,tabs,reduceCtorEq,ι5,↓reduceIte,ν1,ν2,ν3,ν4,ν5,ι1,ι2,ι3,ι4,load_at (st.get 0 rfl),store_at (st.get 2 rfl)])
  exact ⟨_,_,.forget (st.put 2 rfl [Is s,Is l]).le,h f s l x hf (by omega) (by omega) hx1 hx2⟩
theorem DrawJoinSaid_spec {code:List Int} (hc:CodeC code) {H:Heap} {K:AV→Heap→Prop} (h:∀op a b,a.length≤20→b.length≤20→K (.tup [I op,Ds a,Ds b]) H):CallT Try.prog 22 [.p (.sl (code.map e8))] H K:=by
  refine CallT.fin ?_
  refine W22_ok ?_;simp (maxSteps:=1000000) (disch:=first | assumption | (apply ν6;assumption)) only [W22,vz,vu,vv,eqS,eF_,↓c1_,↓c2_,tabs,reduceCtorEq,ι5,↓reduceIte,ν1,ν2,ν3,ν4,ν5,ι1,ι2,ι3,ι4]
  intro r7 hr7
  have st:=(St.nil H).cell hr7 (cur code 0 0)
  have ec:H.set r7 [AV.p (PV.sl (List.map e8 code)),AV.p (PV.int IntKind.i64 0),AV.p (PV.int IntKind.u64 0)]=H.set r7 (cur code 0 0):=rfl
  rw [ec]
  generalize H.set r7 (cur code 0 0)=G at st ⊢
  clear ec hr7
  have f2:flK 2=7∧fbK 2=70:=⟨rfl,rfl⟩
  refine pick_spec hc 6 (by omega) (by omega) (st.get 0 rfl) fun x k1 s1 hx0 hx1 hk1 hk2=>?_
  replace st:=st.put 0 rfl (cur code k1 s1)
  generalize G.set r7 (cur code k1 s1)=G1 at st ⊢
  (try simp (maxSteps:=1000000) (disch:=first | assumption | (apply ν6;assumption)) only [vz,vu,vv,eqS,eF_,↓c1_,↓c2_,tabs,reduceCtorEq,ι5,↓reduceIte,ν1,ν2,ν3,ν4,ν5,ι1,ι2,ι3,ι4])
  refine formula_val hc (d:=2) (by omega) (by omega) (st.get 0 rfl) fun a k2 s2 _ ha hk3 hk4=>?_
  replace st:=st.put 0 rfl (cur code k2 s2)
  generalize G1.set r7 (cur code k2 s2)=G2 at st ⊢
  refine formula_val hc (d:=2) (by omega) (by omega) (st.get 0 rfl) fun b k3 s3 _ hb hk5 hk6=>?_
  replace st:=st.put 0 rfl (cur code k3 s3)
  generalize G2.set r7 (cur code k3 s3)=G3 at st ⊢
  exact ⟨_,_,.forget st.le,h _ a b (by omega) (by omega)⟩
theorem DrawTurnSaid_spec {code:List Int} (hc:CodeC code) {H:Heap} {K:AV→Heap→Prop} (h:∀op a,a.length≤20→K (.tup [I op,Ds a]) H):CallT Try.prog 30 [.p (.sl (code.map e8))] H K:=by
  refine CallT.fin ?_
  refine W30_ok ?_;simp (maxSteps:=1000000) (disch:=first | assumption | (apply ν6;assumption)) only [W30,vz,vu,vv,eqS,eF_,↓c1_,↓c2_,tabs,reduceCtorEq,ι5,↓reduceIte,ν1,ν2,ν3,ν4,ν5,ι1,ι2,ι3,ι4]
  intro r7 hr7
  have st:=(St.nil H).cell hr7 (cur code 0 0)
  have ec:H.set r7 [AV.p (PV.sl (List.map e8 code)),AV.p (PV.int IntKind.i64 0),AV.p (PV.int IntKind.u64 0)]=H.set r7 (cur code 0 0):=rfl
  rw [ec]
  generalize H.set r7 (cur code 0 0)=G at st ⊢
  clear ec hr7
  refine lit_gen tab_23 rfl tab_3 ⟨rfl,rfl⟩ [.int .i64 3,.int .i64 3,.int .i64 4,.int .i64 4,.int .i64 5,.int .i64 1] (by simp) ?_
  refine among_spec hc [3,3,4,4,5,1] (by simp) (by simp) (by omega) (st.get 0 rfl) fun x k1 s1 hx h1 h2=>?_
  replace st:=st.put 0 rfl (cur code k1 s1)
  generalize G.set r7 (cur code k1 s1)=G1 at st ⊢
  refine said_spec hc (by omega) (st.get 0 rfl) fun f k2 s2 hf hk1 hk2=>?_
  replace st:=st.put 0 rfl (cur code k2 s2)
  generalize G1.set r7 (cur code k2 s2)=G2 at st ⊢
  exact ⟨_,_,.forget st.le,h _ f hf⟩
end Go.Proofs.Ytjdhigcefkihiaa
namespace Go.Pt
def compK (r:Nat→Bool→Bool) (n:Nat):Nat→Bool→Bool
  | 0,b=>b
  | j+1,b=>r (n - 1 - j) (compK r n j b)
def MonoR (r:Nat→Bool→Bool):Prop:=∀k,r k false=true→r k true=true
theorem compK_mono {r:Nat→Bool→Bool} (h:MonoR r) (n:Nat):∀j,compK r n j false=true→compK r n j true=true
  | 0,_=>rfl
  | j+1,e=>by
    have ih:=compK_mono h n j
    simp only [compK] at e ⊢
    have hm:=h (n - 1 - j)
    cases h1:compK r n j false<;>cases h2:compK r n j true<;>rw [h1] at e ih<;>rw [h2] at ih
    · exact e
    · exact hm e
    · exact absurd (ih rfl) (by simp)
    · exact e
theorem idem_of {f:Bool→Bool} (h:f false=true→f true=true) (b:Bool):f (f b)=f b:=by
  cases b<;>cases h1:f false<;>cases h2:f true<;>simp_all
structure NxOk (nx:Nat→Nat) (n st:Nat):Prop where
  step:∀k,k+1 < n→nx k=k+1
  back:nx (n - 1)=st
  lt:st < n
theorem sweep_get {nx:Nat→Nat} {n st:Nat} (hn:NxOk nx n st) (r:Nat→Bool→Bool) (row:List Bool) (hr:row.length=n):∀j,j≤n→∀k,k < n→(sweepK nx r ((List.range j).map fun i=>n - 1 - i) row).getD k default=if n - 1 - k < j then compK r n (n - k) (row.getD st default) else row.getD k default:=by
  intro j
  induction j with
  | zero=>intro _ k _;simp [sweepK]
  | succ j ih=>
    intro hj k hk
    have ih:=ih (by omega)
    rw [List.range_succ,List.map_append,List.map_singleton,sweepK_snoc,stepK]
    have hlen:=sweepK_len nx r ((List.range j).map fun i=>n - 1 - i) row
    have hnext:(sweepK nx r ((List.range j).map fun i=>n - 1 - i) row).getD (nx (n - 1 - j)) default=compK r n j (row.getD st default):=by
      by_cases h0:j=0
      · subst h0
        have hst:=hn.lt
        rw [Nat.sub_zero,hn.back,ih st hst,if_neg (by omega)];rfl
      · rw [hn.step _ (by omega),ih _ (by omega),if_pos (by omega)]
        congr 1;omega
    by_cases e:n - 1 - j=k
    · subst e
      rw [if_pos (by omega),hnext]
      have e2:n - (n - 1 - j)=j+1:=by omega
      rw [e2,compK]
      simp [List.getD,hlen,hr,hk]
    · rw [List.getD,List.getElem?_set_ne e,← List.getD,ih k hk]
      by_cases h2:n - 1 - k < j
      · rw [if_pos h2,if_pos (by omega)]
      · rw [if_neg h2,if_neg (by omega)]
theorem sweep_all {nx:Nat→Nat} {n st:Nat} (hn:NxOk nx n st) (r:Nat→Bool→Bool) (row:List Bool) (hr:row.length=n) {k:Nat} (hk:k < n):(sweepK nx r (dnK n) row).getD k default=compK r n (n - k) (row.getD st default):=by
  rw [dnK,sweep_get hn r row hr n (Nat.le_refl _) k hk,if_pos (by omega)]
theorem fixR_get {nx:Nat→Nat} {n st:Nat} (hn:NxOk nx n st) (b:Bool) {r:Nat→Bool→Bool} (hm:MonoR r) {k:Nat} (hk:k < n):(fixR nx n b r).getD k default=compK r n (n - k) (compK r n (n - st) b):=by
  have hst:=hn.lt
  rw [fixR,sweep_all hn r _ (by simp [sweepK_len]) hk,sweep_all hn r _ (by simp) hst]
  congr 2
  simp [List.getD,hst]
theorem fixR_fix {nx:Nat→Nat} {n st:Nat} (hn:NxOk nx n st) (b:Bool) {r:Nat→Bool→Bool} (hm:MonoR r) {k:Nat} (hk:k < n):(fixR nx n b r).getD k default=r k ((fixR nx n b r).getD (nx k) default):=by
  have hst:=hn.lt
  rw [fixR_get hn b hm hk]
  by_cases e:k+1 < n
  · rw [hn.step k e,fixR_get hn b hm e]
    have e2:n - k=(n - (k+1))+1:=by omega
    have e3:n - 1 - (n - (k+1))=k:=by omega
    rw [e2,compK,e3]
  · have:k=n - 1:=by omega
    subst this
    have e2:n - (n - 1)=0+1:=by omega
    have e3:n - 1 - 0=n - 1:=by omega
    rw [hn.back,fixR_get hn b hm hst,e2,compK,compK,e3,idem_of (f:=compK r n (n - st)) (compK_mono hm n _)]
theorem cellV_mono (bit:Int→Nat→Bool) (lt:Nat→Int) (nx:Nat→Nat) (x:Sd) (A Bz:List Bool):MonoR (cellV bit lt nx x A Bz):=by
  intro k
  simp only [cellV]
  repeat' split
  all_goals first | exact fun h=>h | skip
  all_goals cases Bz.getD k default<;>cases A.getD k default<;>simp
structure Las.Ok (w:Las) (st:Nat):Prop where
  nx:NxOk w.nx w.n st
theorem rowV_fix {w:Las} {st:Nat} (h:NxOk w.nx w.n st) (x:Sd) (A Bz:List Bool) {k:Nat} (hk:k < w.n):(rowV w x A Bz).getD k default=cellV w.bit w.lt w.nx x A Bz k ((rowV w x A Bz).getD (w.nx k) default):=
  fixR_fix h _ (cellV_mono w.bit w.lt w.nx x A Bz) hk
theorem runV_left (w:Las) (a b:List Sd):∀i,i≤a.length→runV w (a++b) i=runV w a i:=by
  intro i
  induction i with
  | zero=>intro _;rfl
  | succ i ih=>
    intro hi
    have e:(a++b).getD i default=a.getD i default:=by
      rw [List.getD,List.getD,List.getElem?_append_left (by omega)]
    simp only [runV,e,ih (by omega)]
theorem runV_right {w:Las} {a b:List Sd} (hb:∀i,i < b.length→sdOk (b.getD i default)=true∧need (b.getD i default).op≤vals b i):∀i,i≤b.length→runV w (a++b) (a.length+i)=runV w b i++runV w a a.length∧((runV w b i).length:Int)=vals b i:=by
  intro i
  induction i with
  | zero=>intro _;exact ⟨by rw [Nat.add_zero,runV_left w a b _ (Nat.le_refl _)];rfl,rfl⟩
  | succ i ih=>
    intro hi
    obtain ⟨h1,h2⟩:=ih (by omega)
    obtain ⟨o1,o2⟩:=hb i (by omega)
    have hnd:=sdOk_need o1
    have e:(a++b).getD (a.length+i) default=b.getD i default:=by
      rw [List.getD,List.getD,List.getElem?_append_right (by omega),Nat.add_sub_cancel_left]
    rw [← Nat.add_assoc]
    simp only [runV,vals,e,h1]
    rcases (by omega:need (b.getD i default).op=0∨need (b.getD i default).op=1∨need (b.getD i default).op=2) with hn | hn | hn
    · rw [if_pos hn,if_pos hn,hn];simp;omega
    · rw [if_neg (by omega),if_pos hn,if_neg (by omega),if_pos hn,hn]
      cases hs:runV w b i with
      | nil=>rw [hs] at h2;simp at h2;omega
      | cons x r=>rw [hs] at h2;simp at h2 ⊢;omega
    · rw [if_neg (by omega),if_neg (by omega),if_neg (by omega),if_neg (by omega),hn]
      cases hs:runV w b i with
      | nil=>rw [hs] at h2;simp at h2;omega
      | cons x r=>
        cases r with
        | nil=>rw [hs] at h2;simp at h2;omega
        | cons y r=>rw [hs] at h2;simp at h2 ⊢;omega
def rootV (w:Las) (f:List Sd):List Bool:=rowF w f (f.length - 1)
theorem root_run {w:Las} {f:List Sd} (g:GoodFm f):runV w f f.length=[rootV w f]:=run_all g
theorem root_two {w:Las} {a b:List Sd} {x:Sd} (ga:GoodFm a) (gb:GoodFm b) (hx:need x.op=2) (g:GoodFm (a++b++[x])):rootV w (a++b++[x])=rowV w x (rootV w a) (rootV w b):=by
  have h1:=root_run (w:=w) g
  have e:(a++b++[x]).length=(a++b).length+1:=by rw [List.length_append];rfl
  have ex:(a++b++[x]).getD (a++b).length default=x:=by simp [List.getD]
  rw [e,runV,ex,if_neg (by omega),if_neg (by omega),runV_left w (a++b) [x] _ (Nat.le_refl _)] at h1
  have h2:=(runV_right (w:=w) (a:=a) gb.ok b.length (Nat.le_refl _)).1
  rw [← List.length_append,root_run gb,root_run ga] at h2
  rw [h2] at h1
  injection h1 with h1 _
  exact h1.symm
theorem root_one {w:Las} {a:List Sd} {x:Sd} (ga:GoodFm a) (hx:need x.op=1) (g:GoodFm (a++[x])):rootV w (a++[x])=rowV w x [] (rootV w a):=by
  have h1:=root_run (w:=w) g
  have e:(a++[x]).length=a.length+1:=by simp
  have ex:(a++[x]).getD a.length default=x:=by simp [List.getD]
  rw [e,runV,ex,if_neg (by omega),if_pos hx,runV_left w a [x] _ (Nat.le_refl _),root_run ga] at h1
  injection h1 with h1 _
  exact h1.symm
end Go.Pt
namespace Go.Proofs.Ytjdhigcefkihiaa
open Go Go.Sep Go.Pt
attribute [local irreducible] CallT
theorem las_nx {s l:List Int} (h:1≤l.length):NxOk (lasL s l).nx (lasL s l).n s.length:=by
  refine ⟨fun k hk=>?_,?_,?_⟩
  · show nxW s l k=k+1
    rw [nxW,if_pos (show k+1 < s.length+l.length from hk)]
  · show nxW s l (s.length+l.length - 1)=s.length
    rw [nxW,if_neg (by omega)]
  · show s.length < s.length+l.length
    omega
theorem foldK_succ {s l:List Int} (h:1≤l.length) (k:Nat):foldK s l (k+1)=nxW s l (foldK s l k):=by
  unfold foldK
  by_cases h1:k+1 < s.length
  · rw [if_pos h1,if_pos (by omega),nxW,if_pos (by omega)]
  rw [if_neg h1]
  by_cases h2:k < s.length
  · rw [if_pos h2,nxW,if_pos (by omega)]
    have:k+1 - s.length=0:=by omega
    rw [this,Nat.zero_mod];omega
  · rw [if_neg h2]
    have e:k+1 - s.length=(k - s.length)+1:=by omega
    rw [e]
    generalize k - s.length=m
    have hm:=Nat.mod_lt m (show l.length > 0 by omega)
    by_cases h3:m % l.length+1 < l.length
    · rw [nxW,if_pos (by omega)]
      have:(m+1) % l.length=m % l.length+1:=by rw [Nat.add_mod,Nat.mod_eq_of_lt (show 1 < l.length by omega),Nat.mod_eq_of_lt h3]
      omega
    · rw [nxW,if_neg (by omega)]
      have:(m+1) % l.length=0:=by
        have e2:m % l.length=l.length - 1:=by omega
        rw [Nat.add_mod,e2]
        by_cases h4:l.length=1
        · rw [h4]
        · rw [Nat.mod_eq_of_lt (show 1 < l.length by omega)]
          have:l.length - 1+1=l.length:=by omega
          rw [this,Nat.mod_self]
      omega
theorem haV_two {op:Int} {a b:List Sd} (ga:GoodFm a) (gb:GoodFm b) (hx:need op=2) (g:GoodFm (a++b++[⟨op,0⟩])) {s l:List Int} (h:1≤l.length) (k:Nat) :
    haV (a++b++[⟨op,0⟩]) s l k=if op=5 then haV a s l k && haV b s l k else if op=6 then haV a s l k || haV b s l k
      else if op=7 then haV b s l k || (haV a s l k && haV (a++b++[⟨op,0⟩]) s l (k+1)) else haV b s l k && (haV a s l k || haV (a++b++[⟨op,0⟩]) s l (k+1)):=by
  have hr:=root_two (w:=lasL s l) ga gb hx g
  have hk:foldK s l k < (lasL s l).n:=foldK_lt h k
  have hf:=rowV_fix (las_nx (s:=s) h) ⟨op,0⟩ (rootV (lasL s l) a) (rootV (lasL s l) b) hk
  rw [← hr] at hf
  have e1:∀(f:List Sd) k,haV f s l k=(rootV (lasL s l) f).getD (foldK s l k) default:=fun _ _=>rfl
  simp only [e1]
  rw [hf,foldK_succ h]
  have hop:op=5∨op=6∨op=7∨op=8:=by
    rcases need_cases op with h | h | h | h<;>omega
  have e2:(lasL s l).nx=nxW s l:=rfl
  rw [e2]
  rcases hop with rfl | rfl | rfl | rfl<;>simp [cellV]
theorem haV_next {a:List Sd} (ga:GoodFm a) (g:GoodFm (a++[⟨4,0⟩])) {s l:List Int} (h:1≤l.length) (k:Nat):haV (a++[⟨4,0⟩]) s l k=haV a s l (k+1):=by
  have hr:=root_one (w:=lasL s l) ga rfl g
  have hk:foldK s l k < (lasL s l).n:=foldK_lt h k
  have hf:=rowV_fix (las_nx (s:=s) h) ⟨4,0⟩ [] (rootV (lasL s l) a) hk
  rw [← hr] at hf
  have e1:∀(f:List Sd) k,haV f s l k=(rootV (lasL s l) f).getD (foldK s l k) default:=fun _ _=>rfl
  rw [e1,e1,hf,foldK_succ h]
  rfl
theorem mdR_facts {f:List Sd} (h:(mdR f).2=true):GoodFm f∧(mdR f).1=f:=by
  unfold mdR at h ⊢
  split at h
  · rename_i hg
    rw [if_pos hg]
    exact ⟨goodF_iff.1 hg,rfl⟩
  · cases h
theorem joR_facts {op:Int} {a b:List Sd} (h:(joR op a b).2=true):need op=2∧GoodFm a∧GoodFm b∧GoodFm (a++b++[⟨op,0⟩])∧(joR op a b).1=a++b++[⟨op,0⟩]:=by
  unfold joR at h ⊢
  split at h
  · rename_i hg
    rw [if_pos hg]
    rw [Bool.and_eq_true,Bool.and_eq_true,decide_eq_true_eq] at hg
    obtain ⟨m1,m2⟩:=mdR_facts h
    exact ⟨hg.1,goodF_iff.1 hg.2.1,goodF_iff.1 hg.2.2,m1,m2⟩
  · cases h
theorem tuR_facts {op:Int} {a:List Sd} (h:(tuR op a).2=true):need op=1∧GoodFm a∧GoodFm (a++[⟨op,0⟩])∧(tuR op a).1=a++[⟨op,0⟩]:=by
  unfold tuR at h ⊢
  split at h
  · rename_i hg
    rw [if_pos hg]
    rw [Bool.and_eq_true,decide_eq_true_eq] at hg
    obtain ⟨m1,m2⟩:=mdR_facts h
    exact ⟨hg.1,goodF_iff.1 hg.2,m1,m2⟩
  · cases h
theorem tuR_len (op:Int) (a:List Sd):(tuR op a).1.length≤a.length+1:=by
  unfold tuR mdR
  split
  · split
    · simp
    · simp
  · simp
theorem joR_len (op:Int) (a b:List Sd):(joR op a b).1.length≤a.length+b.length+1:=by
  unfold joR mdR
  split
  · split
    · simp;omega
    · simp
  · simp
theorem haR_ok {f:List Sd} {s l:List Int} {k:Nat} (g:GoodFm f) (hg:goodL s l=true) (hk:k≤1000):haR f s l k=(haV f s l k,true):=by
  have e:haB f s l k=true:=by
    rw [haB,goodF_iff.2 g,hg,decide_eq_true (show (0:Int)≤k by omega),decide_eq_true (show (k:Int)≤1000 by omega)];rfl
  rw [haR,e];rfl
theorem FnUnrolled_true {code more:List Int} (hb:∀b∈code,0≤b∧b < 256) (hb2:∀b∈more,0≤b∧b < 256):Pu Try.prog 4 [.p (.sl (code.map e8)),.p (.sl (more.map e8))] (B true):=by
  refine Pu.of fun H=>?_
  refine W4_ok ?_;simp (maxSteps:=1000000) (disch:=first | assumption | (apply ν6;assumption)) only [W4,vz,vu,vv,eqS,eF_,↓c1_,↓c2_,tabs,reduceCtorEq,ι5,↓reduceIte,ν1,ν2,ν3,ν4,ν5,ι1,ι2,ι3,ι4]
  refine Pu.use (bigC code more) ?_
  (try simp (maxSteps:=1000000) (disch:=first | assumption | (apply ν6;assumption)) only [vz,vu,vv,eqS,eF_,↓c1_,↓c2_,tabs,reduceCtorEq,ι5,↓reduceIte,ν1,ν2,ν3,ν4,ν5,ι1,ι2,ι3,ι4])
  intro hsz
  have hc:CodeC code:=⟨hb,by omega⟩
  have hc2:CodeC more:=⟨hb2,by omega⟩
  have rest:∀G,Heap.le H G→J4_0 (fun r H'=>r=B true∧Heap.le H H') (.p (.sl (more.map e8))) G:=by
    intro G hle
    (try simp (maxSteps:=1000000) (disch:=first | assumption | (apply ν6;assumption)) only [vz,vu,vv,eqS,eF_,↓c1_,↓c2_,tabs,reduceCtorEq,ι5,↓reduceIte,ν1,ν2,ν3,ν4,ν5,ι1,ι2,ι3,ι4,J4_0])
    refine DrawTurnSaid_spec hc2 fun how g hg=>?_
    have htl:=tuR_len how g
    have i1:=TurnSaid_impl how g (by omega)
    have i2:=TurnSaid_ref how g (by omega)
    generalize (tuR how g).1=o at htl i1 i2
    generalize (tuR how g).2=ok at i1 i2
    (try simp (maxSteps:=1000000) (disch:=first | assumption | (apply ν6;assumption)) only [vz,vu,vv,eqS,eF_,↓c1_,↓c2_,tabs,reduceCtorEq,ι5,↓reduceIte,ν1,ν2,ν3,ν4,ν5,ι1,ι2,ι3,ι4])
    refine Pu.use i1 ?_
    (try simp (maxSteps:=1000000) (disch:=first | assumption | (apply ν6;assumption)) only [vz,vu,vv,eqS,eF_,↓c1_,↓c2_,tabs,reduceCtorEq,ι5,↓reduceIte,ν1,ν2,ν3,ν4,ν5,ι1,ι2,ι3,ι4])
    refine Pu.use i2 ?_
    (try simp (maxSteps:=1000000) (disch:=first | assumption | (apply ν6;assumption)) only [vz,vu,vv,eqS,eF_,↓c1_,↓c2_,tabs,reduceCtorEq,ι5,↓reduceIte,ν1,ν2,ν3,ν4,ν5,ι1,ι2,ι3,ι4])
    refine Pu.use (sameSaid_self o (by omega)) ?_
    exact ⟨rfl,hle⟩
  refine DrawJoinSaid_spec hc fun op a b ha hb=>?_
  (try simp (maxSteps:=1000000) (disch:=first | assumption | (apply ν6;assumption)) only [vz,vu,vv,eqS,eF_,↓c1_,↓c2_,tabs,reduceCtorEq,ι5,↓reduceIte,ν1,ν2,ν3,ν4,ν5,ι1,ι2,ι3,ι4])
  refine Pu.use (JoinSaid_impl op a b (by omega) (by omega)) ?_
  (try simp (maxSteps:=1000000) (disch:=first | assumption | (apply ν6;assumption)) only [vz,vu,vv,eqS,eF_,↓c1_,↓c2_,tabs,reduceCtorEq,ι5,↓reduceIte,ν1,ν2,ν3,ν4,ν5,ι1,ι2,ι3,ι4])
  refine Pu.use (JoinSaid_ref op a b (by omega) (by omega)) ?_
  have hjl:=joR_len op a b
  (try simp (maxSteps:=1000000) (disch:=first | assumption | (apply ν6;assumption)) only [vz,vu,vv,eqS,eF_,↓c1_,↓c2_,tabs,reduceCtorEq,ι5,↓reduceIte,ν1,ν2,ν3,ν4,ν5,ι1,ι2,ι3,ι4])
  refine Pu.use (sameSaid_self _ (by omega)) ?_
  (try simp (maxSteps:=1000000) (disch:=first | assumption | (apply ν6;assumption)) only [vz,vu,vv,eqS,eF_,↓c1_,↓c2_,tabs,reduceCtorEq,ι5,↓reduceIte,ν1,ν2,ν3,ν4,ν5,ι1,ι2,ι3,ι4])
  refine DrawHoldsAt_spec hc2 fun f0 s l k _ hs hl hk0 hk1=>?_
  (try simp (maxSteps:=1000000) (disch:=first | assumption | (apply ν6;assumption)) only [vz,vu,vv,eqS,eF_,↓c1_,↓c2_,tabs,reduceCtorEq,ι5,↓reduceIte,ν1,ν2,ν3,ν4,ν5,ι1,ι2,ι3,ι4])
  intro r hr
  have st:=(St.nil H).cell hr [Is s,Is l]
  generalize H.set r [Is s,Is l]=G at st ⊢
  clear hr
  have hle:=st.le
  refine ⟨fun hok=>?_,fun _=>rest _ hle⟩
  obtain ⟨hn,ga,gb,gj,ej⟩:=joR_facts hok
  rw [ej]
  clear ej hjl
  refine Pu.use (GoodLassoR s l (by omega) (by omega)) ?_
  cases gl:goodL s l
  · (try simp (maxSteps:=1000000) (disch:=first | assumption | (apply ν6;assumption)) only [vz,vu,vv,eqS,eF_,↓c1_,↓c2_,tabs,reduceCtorEq,ι5,↓reduceIte,ν1,ν2,ν3,ν4,ν5,ι1,ι2,ι3,ι4])
    exact rest _ hle
  (try simp (maxSteps:=1000000) (disch:=first | assumption | (apply ν6;assumption)) only [vz,vu,vv,eqS,eF_,↓c1_,↓c2_,tabs,reduceCtorEq,ι5,↓reduceIte,ν1,ν2,ν3,ν4,ν5,ι1,ι2,ι3,ι4,load_at (st.get 0 rfl)])
  refine ⟨fun k0=>⟨fun k1=>?_,fun _=>rest _ hle⟩,fun _=>rest _ hle⟩
  obtain ⟨n,rfl⟩:∃n:Nat,k=n:=⟨k.toNat,by omega⟩
  have e1:IntKind.i64.wrap ((n:Int)+1)=((n+1:Nat):Int):=by rw [i64_id (by omega) (by omega)];simp
  obtain ⟨l1,l2⟩:=goodL_f gl
  have hl0:=ga.l1
  have hl3:=gb.l1
  have hl4:=gj.l1
  have t1:=HoldsAt_impl (a++b++[⟨op,0⟩]) (by omega) s l (by omega) (by omega) (n:Nat)
  rw [haR_ok gj gl (by omega)] at t1
  have t2:=HoldsAt_impl (a++b++[⟨op,0⟩]) (by omega) s l (by omega) (by omega) (n+1:Nat)
  rw [haR_ok gj gl (by omega)] at t2
  have t3:=HoldsAt_impl a (by omega) s l (by omega) (by omega) (n:Nat)
  rw [haR_ok ga gl (by omega)] at t3
  have t4:=HoldsAt_impl b (by omega) s l (by omega) (by omega) (n:Nat)
  rw [haR_ok gb gl (by omega)] at t4
  have hx:=haV_two ga gb hn gj (s:=s) l2.1 n
  rw [hx] at t1
  have rest1:J4_1 (fun r H'=>r=B true∧Heap.le H H') (.p (.sl (more.map e8))) (Ds a) (.ptr r 0) (I n) G:=by
    (try simp (maxSteps:=1000000) (disch:=first | assumption | (apply ν6;assumption)) only [vz,vu,vv,eqS,eF_,↓c1_,↓c2_,tabs,reduceCtorEq,ι5,↓reduceIte,ν1,ν2,ν3,ν4,ν5,ι1,ι2,ι3,ι4,J4_1,load_at (st.get 0 rfl),e1])
    refine Pu.use (TurnSaid_impl 4 a (by omega)) ?_
    have htl:=tuR_len 4 a
    (try simp (maxSteps:=1000000) (disch:=first | assumption | (apply ν6;assumption)) only [vz,vu,vv,eqS,eF_,↓c1_,↓c2_,tabs,reduceCtorEq,ι5,↓reduceIte,ν1,ν2,ν3,ν4,ν5,ι1,ι2,ι3,ι4,load_at (st.get 0 rfl),e1])
    refine Pu.use (HoldsAt_impl (tuR 4 a).1 (by omega) s l (by omega) (by omega) (n:Nat)) ?_
    (try simp (maxSteps:=1000000) (disch:=first | assumption | (apply ν6;assumption)) only [vz,vu,vv,eqS,eF_,↓c1_,↓c2_,tabs,reduceCtorEq,ι5,↓reduceIte,ν1,ν2,ν3,ν4,ν5,ι1,ι2,ι3,ι4,load_at (st.get 0 rfl),e1])
    have t5:=HoldsAt_impl a (by omega) s l (by omega) (by omega) (n+1:Nat)
    rw [haR_ok ga gl (by omega)] at t5
    refine Pu.use t5 ?_
    (try simp (maxSteps:=1000000) (disch:=first | assumption | (apply ν6;assumption)) only [vz,vu,vv,eqS,eF_,↓c1_,↓c2_,tabs,reduceCtorEq,ι5,↓reduceIte,ν1,ν2,ν3,ν4,ν5,ι1,ι2,ι3,ι4])
    refine ⟨fun hk=>?_,fun _=>rest _ hle⟩
    obtain ⟨_,_,gt,et⟩:=tuR_facts hk
    rw [et,haR_ok gt gl (by omega),haV_next ga gt l2.1 n]
    (try simp (maxSteps:=1000000) (disch:=first | assumption | (apply ν6;assumption)) only [vz,vu,vv,eqS,eF_,↓c1_,↓c2_,tabs,reduceCtorEq,ι5,↓reduceIte,ν1,ν2,ν3,ν4,ν5,ι1,ι2,ι3,ι4])
    exact rest _ hle
  have hop:op=5∨op=6∨op=7∨op=8:=by
    rcases need_cases op with h | h | h | h<;>omega
  rw [e1]
  refine Pu.use t1 ?_
  (try simp (maxSteps:=1000000) (disch:=first | assumption | (apply ν6;assumption)) only [vz,vu,vv,eqS,eF_,↓c1_,↓c2_,tabs,reduceCtorEq,ι5,↓reduceIte,ν1,ν2,ν3,ν4,ν5,ι1,ι2,ι3,ι4,load_at (st.get 0 rfl)])
  refine Pu.use t2 ?_
  (try simp (maxSteps:=1000000) (disch:=first | assumption | (apply ν6;assumption)) only [vz,vu,vv,eqS,eF_,↓c1_,↓c2_,tabs,reduceCtorEq,ι5,↓reduceIte,ν1,ν2,ν3,ν4,ν5,ι1,ι2,ι3,ι4,load_at (st.get 0 rfl)])
  refine Pu.use t3 ?_
  (try simp (maxSteps:=1000000) (disch:=first | assumption | (apply ν6;assumption)) only [vz,vu,vv,eqS,eF_,↓c1_,↓c2_,tabs,reduceCtorEq,ι5,↓reduceIte,ν1,ν2,ν3,ν4,ν5,ι1,ι2,ι3,ι4,load_at (st.get 0 rfl)])
  refine Pu.use t4 ?_
  generalize haV (a++b++[⟨op,0⟩]) s l (n+1)=later
  generalize haV a s l n=x
  generalize haV b s l n=y
  clear t1 t2 t3 t4 hx gj hn
  rcases hop with rfl | rfl | rfl | rfl<;>cases x<;>cases y<;>cases later
  all_goals
    (try simp (maxSteps:=1000000) (disch:=first | assumption | (apply ν6;assumption)) only [vz,vu,vv,eqS,eF_,↓c1_,↓c2_,tabs,reduceCtorEq,ι5,↓reduceIte,ν1,ν2,ν3,ν4,ν5,ι1,ι2,ι3,ι4,J4_2,J4_3,J4_4])
    first | exact rest1 | simpa using rest1
end Go.Proofs.Ytjdhigcefkihiaa
namespace Go.Proofs.Ytjdhigcefkihiaa.fnUnrolled
open Go Go.Sep Go.ChangeShapes Go.WideShapes Go.ChangeAt Go.RowKit
theorem own:ownKnob Try.prog.godebug=none:=by kernel_rfl
theorem told (avs:List AV) (h:ArgsT Try.prog [41,41] avs):CallT Try.prog 4 avs (fun _=>none) (fun v _=>v=.p (.bool true)):=by
  obtain ⟨a,b,rfl,h1,h⟩:=args_cons h
  obtain ⟨b,c,rfl,h2,h⟩:=args_cons h
  cases args_nil h
  obtain ⟨x1,hx1,rfl⟩:=arg_bytes h1
  obtain ⟨x2,hx2,rfl⟩:=arg_bytes h2
  exact (FnUnrolled_true hx1 hx2).use rfl
set_option maxRecDepth 100000 in
theorem lifted (os:Os) (started:os.Started) (H:Type) (enc:TypeId×Value→H) :
    ReturnsInHanded {} Try.checked os 4 .any (Rows.fnUnrolledSpec.pre6 enc Try.prog Try.f4 Rows.fnUnrolledRow.domain false) (Rows.fnUnrolledSpec.post enc Try.prog Try.f4 false true false false):=by
  refine returnsInHanded_of_change (C:=Try.checked) own started (by kernel_rfl) Try.func4
    (ChangeSpec.witness6 (enc:=enc) (C:=Try.checked) false ⟨#[],#[.slice none 0 0,.slice none 0 0],[]⟩ 12 (by kernel_rfl) (by kernel_rfl) (by kernel_rfl) (by kernel_rfl)) ?_
  intro W base args ds gs before hval hW _ _
  refine row_of_true (n:=12) (tb:=4) (by kernel_rfl) rfl (by kernel_rfl) (by kernel_rfl) ?_ ?_ ?_ hval hW
  · have:(Try.f4.params.toList.all fun t=>Try.prog.readableRec t && decide (t < Try.prog.types.size) && plainB Try.prog 12 t)=true:=by kernel_rfl
    intro t ht
    have:=List.all_eq_true.1 this t ht
    rw [Bool.and_eq_true,Bool.and_eq_true,decide_eq_true_eq] at this
    exact ⟨this.1.1,this.1.2,this.2⟩
  · intro ds hd
    rw [Try.params4] at hd
    match ds,hd with
    | [a,b],_=>rfl
  · rw [Try.params4]
    exact told
theorem over:Rows.fnUnrolledRow.holds Try.pinned (OpenSpec.ofChange Rows.fnUnrolledSpec):=
  OpenClaim.holds_of_wide 4 Try.f4 rfl rfl rfl rfl rfl rfl rfl ⟨rfl,rfl,rfl,rfl,rfl⟩ rfl rfl rfl rfl rfl (by kernel_rfl) Try.func4 (by kernel_rfl)
    (of_decide_eq_true (by kernel_rfl)) (by unfold Func.isWrapper;first | (rw [if_pos (by decide +kernel)];kernel_rfl) | (rw [if_neg (by decide +kernel)];exact ⟨rfl,rfl⟩))
    (fun os started H enc _=>lifted os started H enc)
theorem proved:Rows.FnUnrolledSaid:=
  over
#print axioms proved
end Go.Proofs.Ytjdhigcefkihiaa.fnUnrolled
