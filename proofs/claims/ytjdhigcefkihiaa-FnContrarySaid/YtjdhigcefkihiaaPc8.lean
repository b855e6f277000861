/- The row of the law FnContrary: whatever the arguments, it answers true, and what it is told reads as it did. -/
import Derived.Test.YtjdhigcefkihiaaPc7
import Derived.Test.YtjdhigcefkihiaaRows
import Derived.WalkKit
import Derived.ProofKit
import Derived.OpenShut
set_option linter.unusedVariables false
set_option linter.unusedSimpArgs false
open Nat renaming reduceAdd→ν1,reduceLeDiff→ν2,reduceLT→ν3,reduceMul→ν4,reduceSub→ν5
open Int renaming reduceToNat→ι1,reduceSub→ι2,reduceAdd→ι3,reduceNeg→ι4
open Array renaming toList→ι5
open Ne renaming symm→ν6
open List renaming forall_mem_cons→ν7
namespace Go.Proofs.Ytjdhigcefkihiaa
open Go Go.Sep Go.Pt
attribute [local irreducible] CallT
def foldK (s l:List Int) (k:Nat):Nat:=if k < s.length then k else s.length+(k - s.length) % l.length
theorem foldK_lt {s l:List Int} (h:1≤l.length) (k:Nat):foldK s l k < s.length+l.length:=by
  unfold foldK
  split
  · omega
  · have:=Nat.mod_lt (k - s.length) (show l.length > 0 by omega)
    omega
def haV (f:List Sd) (s l:List Int) (k:Nat):Bool:=(rowF (lasL s l) f (f.length - 1)).getD (foldK s l k) default
def haB (f:List Sd) (s l:List Int) (k:Int):Bool:=goodF f && (goodL s l && (decide (0≤k) && decide (k≤1000)))
def haR (f:List Sd) (s l:List Int) (k:Int):Bool×Bool:=if haB f s l k then (haV f s l k.toNat,true) else (false,false)
theorem goodL_f {s l:List Int} (h:goodL s l=true):s.length≤24∧1≤l.length∧l.length≤24:=by
  simp only [goodL,Bool.and_eq_true,decide_eq_true_eq] at h
  exact ⟨h.1.1,h.1.2⟩
theorem l10Fold_spec (s l:List Int) (h1:s.length≤24) (h2:1≤l.length∧l.length≤24) (k:Nat) (hk:k≤100000):Pu Try.prog 112 [aL2 s l,I k] (I (foldK s l k:Nat)):=by
  refine Pu.of fun H=>?_
  refine W112_ok ?_;simp (maxSteps:=1000000) (disch:=first | assumption | (apply ν6;assumption)) only [W112,vz,vu,vv,eqS,eF_,↓c1_,↓c2_,tabs,reduceCtorEq,ι5,↓reduceIte,ν1,ν2,ν3,ν4,ν5,ι1,ι2,ι3,ι4]
  intro r hr
  have hle:=Heap.le_set (b:=[Is s,Is l]) hr
  (try simp (maxSteps:=1000000) (disch:=first | assumption | (apply ν6;assumption)) only [vz,vu,vv,eqS,eF_,↓c1_,↓c2_,tabs,reduceCtorEq,ι5,↓reduceIte,ν1,ν2,ν3,ν4,ν5,ι1,ι2,ι3,ι4])
  refine ⟨fun h3=>?_,fun h3=>?_⟩
  · rw [foldK,if_pos (by omega)];exact ⟨rfl,hle⟩
  · have e1:IntKind.i64.wrap ((k:Int) - (s.length:Int))=((k - s.length:Nat):Int):=by rw [i64_id (by omega) (by omega)];omega
    have e2:((k - s.length:Nat):Int).tmod (l.length:Int)=(((k - s.length) % l.length:Nat):Int):=by rw [Int.tmod_eq_emod_of_nonneg (by omega)];exact (Int.natCast_emod _ _).symm
    have:=Nat.mod_lt (k - s.length) (show l.length > 0 by omega)
    rw [foldK,if_neg (by omega),e1,e2,i64_id (by omega) (by omega)]
    exact ⟨by omega,by simp,hle⟩
theorem isIndex_spec (k:Int):Pu Try.prog 79 [I k] (B (decide (0≤k) && decide (k≤1000))):=by
  refine Pu.of fun H=>?_
  refine W79_ok ?_;simp (maxSteps:=1000000) (disch:=first | assumption | (apply ν6;assumption)) only [W79,vz,vu,vv,eqS,eF_,↓c1_,↓c2_,tabs,reduceCtorEq,ι5,↓reduceIte,ν1,ν2,ν3,ν4,ν5,ι1,ι2,ι3,ι4]
  exact ⟨fun h=>by rw [decide_eq_true h,Bool.true_and],fun h=>by rw [decide_eq_false h,Bool.false_and]⟩
theorem HoldsAt_ref (f:List Sd) (hf:f.length≤1048576) (s l:List Int) (hs:s.length≤1048576) (hl:l.length≤1048576) (k:Int):Pu Try.prog 32 [Ds f,aL2 s l,I k] (.tup [B (haR f s l k).1,B (haR f s l k).2]):=by
  refine Pu.of fun H=>?_
  refine W32_ok ?_;simp (maxSteps:=1000000) (disch:=first | assumption | (apply ν6;assumption)) only [W32,vz,vu,vv,eqS,eF_,↓c1_,↓c2_,tabs,reduceCtorEq,ι5,↓reduceIte,ν1,ν2,ν3,ν4,ν5,ι1,ι2,ι3,ι4]
  intro r hr
  have hle:=Heap.le_set (b:=[Is s,Is l]) hr
  have bad:haB f s l k=false→AV.tup [B false,B false]=.tup [B (haR f s l k).1,B (haR f s l k).2]∧Heap.le H (H.set r [Is s,Is l]):=fun hb=>by
    have e:haR f s l k=(false,false):=by rw [haR,hb];rfl
    rw [e];exact ⟨rfl,hle⟩
  refine Pu.use (GoodSaid_spec f hf) ?_
  cases hg:goodF f
  · (try simp (maxSteps:=1000000) (disch:=first | assumption | (apply ν6;assumption)) only [vz,vu,vv,eqS,eF_,↓c1_,↓c2_,tabs,reduceCtorEq,ι5,↓reduceIte,ν1,ν2,ν3,ν4,ν5,ι1,ι2,ι3,ι4])
    exact bad (by rw [haB,hg];rfl)
  (try simp (maxSteps:=1000000) (disch:=first | assumption | (apply ν6;assumption)) only [vz,vu,vv,eqS,eF_,↓c1_,↓c2_,tabs,reduceCtorEq,ι5,↓reduceIte,ν1,ν2,ν3,ν4,ν5,ι1,ι2,ι3,ι4])
  refine Pu.use (GoodLassoR s l (by omega) (by omega)) ?_
  cases hgl:goodL s l
  · (try simp (maxSteps:=1000000) (disch:=first | assumption | (apply ν6;assumption)) only [vz,vu,vv,eqS,eF_,↓c1_,↓c2_,tabs,reduceCtorEq,ι5,↓reduceIte,ν1,ν2,ν3,ν4,ν5,ι1,ι2,ι3,ι4])
    exact bad (by rw [haB,hg,hgl];rfl)
  (try simp (maxSteps:=1000000) (disch:=first | assumption | (apply ν6;assumption)) only [vz,vu,vv,eqS,eF_,↓c1_,↓c2_,tabs,reduceCtorEq,ι5,↓reduceIte,ν1,ν2,ν3,ν4,ν5,ι1,ι2,ι3,ι4])
  refine Pu.use (l1In_BQ k 0 1000) ?_
  cases hk:inB k 0 1000
  · (try simp (maxSteps:=1000000) (disch:=first | assumption | (apply ν6;assumption)) only [vz,vu,vv,eqS,eF_,↓c1_,↓c2_,tabs,reduceCtorEq,ι5,↓reduceIte,ν1,ν2,ν3,ν4,ν5,ι1,ι2,ι3,ι4])
    have:(decide (0≤k) && decide (k≤1000))=false:=by
      rw [Bool.eq_false_iff];intro h
      simp only [Bool.and_eq_true,decide_eq_true_eq] at h
      rw [inB_iff.2 h] at hk;cases hk
    exact bad (by rw [haB,hg,hgl,this];rfl)
  have hk:=inB_iff.1 hk
  obtain ⟨n,rfl⟩:∃n:Nat,k=n:=⟨k.toNat,by omega⟩
  obtain ⟨h1,h2⟩:=goodL_f hgl
  have g:=goodF_iff.1 hg
  have hl0:=g.l0
  have hl1:=g.l1
  have e:haR f s l n=(haV f s l n,true):=by
    rw [haR,haB,hg,hgl,decide_eq_true hk.1,decide_eq_true hk.2];rfl
  rw [e,haV]
  clear bad e
  (try simp (maxSteps:=1000000) (disch:=first | assumption | (apply ν6;assumption)) only [vz,vu,vv,eqS,eF_,↓c1_,↓c2_,tabs,reduceCtorEq,ι5,↓reduceIte,ν1,ν2,ν3,ν4,ν5,ι1,ι2,ι3,ι4])
  refine W82_ok ?_;simp (maxSteps:=1000000) (disch:=first | assumption | (apply ν6;assumption)) only [W82,vz,vu,vv,eqS,eF_,↓c1_,↓c2_,tabs,reduceCtorEq,ι5,↓reduceIte,ν1,ν2,ν3,ν4,ν5,ι1,ι2,ι3,ι4]
  intro r2 n2 hr2
  have hle2:=Heap.le_set (H:=H.set r [Is s,Is l]) (r:=r2) (b:=[Is s,Is l]) (by rw [Heap.set_other n2];exact hr2)
  refine Pu.use (l10Table_spec s l h1 h2 f g) ?_
  have e1:IntKind.i64.wrap ((f.length:Int) - 1)=((f.length - 1:Nat):Int):=by rw [i64_id (by omega) (by omega)];omega
  have htab:(tabV (lasL s l) f f.length).getD (f.length - 1) default=rowF (lasL s l) f (f.length - 1):=tabV_row (by omega)
  have htl:=tabV_len (lasL s l) f f.length
  have hrl:(rowF (lasL s l) f (f.length - 1)).length=s.length+l.length:=rowF_len _ _ _
  (try simp (maxSteps:=1000000) (disch:=first | assumption | (apply ν6;assumption)) only [vz,vu,vv,eqS,eF_,↓c1_,↓c2_,tabs,reduceCtorEq,ι5,↓reduceIte,ν1,ν2,ν3,ν4,ν5,ι1,ι2,ι3,ι4,e1,htab])
  refine ⟨by omega,by omega,?_⟩
  refine Pu.use (l10Fold_spec s l h1 h2 n (by omega)) ?_
  have hfo:=foldK_lt (s:=s) h2.1 n
  (try simp (maxSteps:=1000000) (disch:=first | assumption | (apply ν6;assumption)) only [vz,vu,vv,eqS,eF_,↓c1_,↓c2_,tabs,reduceCtorEq,ι5,↓reduceIte,ν1,ν2,ν3,ν4,ν5,ι1,ι2,ι3,ι4,e1,htab,hrl])
  exact ⟨by omega,by omega,Heap.le_trans hle hle2⟩
theorem HoldsAt_impl (f:List Sd) (hf:f.length≤1048576) (s l:List Int) (hs:s.length≤1048576) (hl:l.length≤1048576) (k:Int):Pu Try.prog 28 [Ds f,aL2 s l,I k] (.tup [B (haR f s l k).1,B (haR f s l k).2]):=by
  refine Pu.of fun H=>?_
  refine W28_ok ?_;simp (maxSteps:=1000000) (disch:=first | assumption | (apply ν6;assumption)) only [W28,vz,vu,vv,eqS,eF_,↓c1_,↓c2_,tabs,reduceCtorEq,ι5,↓reduceIte,ν1,ν2,ν3,ν4,ν5,ι1,ι2,ι3,ι4]
  intro r hr
  have hle:=Heap.le_set (b:=[Is s,Is l]) hr
  have bad:haB f s l k=false→AV.tup [B false,B false]=.tup [B (haR f s l k).1,B (haR f s l k).2]∧Heap.le H (H.set r [Is s,Is l]):=fun hb=>by
    have e:haR f s l k=(false,false):=by rw [haR,hb];rfl
    rw [e];exact ⟨rfl,hle⟩
  refine Pu.use (GoodSaid_impl f hf) ?_
  cases hg:goodF f
  · (try simp (maxSteps:=1000000) (disch:=first | assumption | (apply ν6;assumption)) only [vz,vu,vv,eqS,eF_,↓c1_,↓c2_,tabs,reduceCtorEq,ι5,↓reduceIte,ν1,ν2,ν3,ν4,ν5,ι1,ι2,ι3,ι4])
    exact bad (by rw [haB,hg];rfl)
  (try simp (maxSteps:=1000000) (disch:=first | assumption | (apply ν6;assumption)) only [vz,vu,vv,eqS,eF_,↓c1_,↓c2_,tabs,reduceCtorEq,ι5,↓reduceIte,ν1,ν2,ν3,ν4,ν5,ι1,ι2,ι3,ι4])
  refine Pu.use (GoodLassoI s l (by omega) (by omega)) ?_
  cases hgl:goodL s l
  · (try simp (maxSteps:=1000000) (disch:=first | assumption | (apply ν6;assumption)) only [vz,vu,vv,eqS,eF_,↓c1_,↓c2_,tabs,reduceCtorEq,ι5,↓reduceIte,ν1,ν2,ν3,ν4,ν5,ι1,ι2,ι3,ι4])
    exact bad (by rw [haB,hg,hgl];rfl)
  (try simp (maxSteps:=1000000) (disch:=first | assumption | (apply ν6;assumption)) only [vz,vu,vv,eqS,eF_,↓c1_,↓c2_,tabs,reduceCtorEq,ι5,↓reduceIte,ν1,ν2,ν3,ν4,ν5,ι1,ι2,ι3,ι4])
  refine Pu.use (isIndex_spec k) ?_
  cases hk:(decide (0≤k) && decide (k≤1000))
  · (try simp (maxSteps:=1000000) (disch:=first | assumption | (apply ν6;assumption)) only [vz,vu,vv,eqS,eF_,↓c1_,↓c2_,tabs,reduceCtorEq,ι5,↓reduceIte,ν1,ν2,ν3,ν4,ν5,ι1,ι2,ι3,ι4])
    exact bad (by rw [haB,hg,hgl,hk];rfl)
  have hk2:=hk
  rw [Bool.and_eq_true,decide_eq_true_eq,decide_eq_true_eq] at hk
  obtain ⟨n,rfl⟩:∃n:Nat,k=n:=⟨k.toNat,by omega⟩
  obtain ⟨h1,h2⟩:=goodL_f hgl
  have g:=goodF_iff.1 hg
  have hl0:=g.l0
  have hl1:=g.l1
  have e:haR f s l n=(haV f s l n,true):=by
    rw [haR,haB,hg,hgl,hk2];rfl
  rw [e,haV]
  clear bad e
  have hrl:(rowF (lasL s l) f (f.length - 1)).length=s.length+l.length:=rowF_len _ _ _
  have hfo:=foldK_lt (s:=s) h2.1 n
  have J:∀m:Nat,m=foldK s l n→J28_0 (fun v H1=>v=AV.tup [B ((rowF (lasL s l) f (f.length - 1)).getD (foldK s l n) default),B true]∧Heap.le H H1) (Ds f) (I m) (.ptr r 0) (H.set r [Is s,Is l]):=by
    intro m hm
    subst hm
    (try simp (maxSteps:=1000000) (disch:=first | assumption | (apply ν6;assumption)) only [vz,vu,vv,eqS,eF_,↓c1_,↓c2_,tabs,reduceCtorEq,ι5,↓reduceIte,ν1,ν2,ν3,ν4,ν5,ι1,ι2,ι3,ι4,J28_0])
    refine along_spec s l h1 h2 f g.okFm ?_
    rw [run_all g]
    (try simp (maxSteps:=1000000) (disch:=first | assumption | (apply ν6;assumption)) only [vz,vu,vv,eqS,eF_,↓c1_,↓c2_,tabs,reduceCtorEq,ι5,↓reduceIte,ν1,ν2,ν3,ν4,ν5,ι1,ι2,ι3,ι4,List.headD_cons,hrl])
    exact ⟨by omega,by omega,hle⟩
  (try simp (maxSteps:=1000000) (disch:=first | assumption | (apply ν6;assumption)) only [vz,vu,vv,eqS,eF_,↓c1_,↓c2_,tabs,reduceCtorEq,ι5,↓reduceIte,ν1,ν2,ν3,ν4,ν5,ι1,ι2,ι3,ι4])
  refine ⟨fun h3=>?_,fun h3=>?_⟩
  · have e1:IntKind.i64.wrap ((n:Int) - (s.length:Int))=((n - s.length:Nat):Int):=by rw [i64_id (by omega) (by omega)];omega
    have e2:((n - s.length:Nat):Int).tmod (l.length:Int)=(((n - s.length) % l.length:Nat):Int):=by rw [Int.tmod_eq_emod_of_nonneg (by omega)];exact (Int.natCast_emod _ _).symm
    have:=Nat.mod_lt (n - s.length) (show l.length > 0 by omega)
    have e3:IntKind.i64.wrap ((s.length:Int)+(((n - s.length) % l.length:Nat):Int))=((s.length+(n - s.length) % l.length:Nat):Int):=by rw [i64_id (by omega) (by omega)];simp
    rw [e1,e2,e3]
    exact ⟨by omega,J _ (by rw [foldK,if_neg (by omega)])⟩
  · exact J _ (by rw [foldK,if_pos (by omega)])
end Go.Proofs.Ytjdhigcefkihiaa
namespace Go.Proofs.Ytjdhigcefkihiaa
open Go Go.Sep Go.Pt
attribute [local irreducible] CallT
end Go.Proofs.Ytjdhigcefkihiaa
namespace Go.Proofs.Ytjdhigcefkihiaa
open Go Go.Sep Go.Pt
attribute [local irreducible] CallT
theorem eI_gd:Lay.Gd (LPl eI):=LPl.gd fun a x hx=>by
  simp only [List.mem_singleton] at hx;subst hx;exact .int _ _
theorem eE_gd:Lay.Gd (LPl eE):=LPl.gd fun a x hx=>by
  simp only [List.mem_cons,List.not_mem_nil,or_false] at hx
  rcases hx with rfl | rfl | rfl<;>exact .int _ _
theorem LIc.gd:Lay.Gd LIc:=by
  rintro a cs G D ⟨x,rfl,h⟩
  obtain ⟨h1,h2⟩:=LRow.gd eI_gd h
  exact ⟨fun c hc=>by rw [List.mem_singleton] at hc;subst hc;exact h1,h2⟩
theorem LIc.sh:Lay.Sh LIc:=by
  rintro a cs G D n G0 h0 ⟨x,rfl,h⟩
  exact ⟨shC n x,rfl,LRow.sh (LPl.sh eI) h0 h⟩
theorem LAu.gd {a:Au} {v:AV} {G:Heap} {D:List Nat} (h:LAu a v G D):Gd1 v∧∀y∈D,∀bs,G y=some bs→∀c∈bs,GdC c:=by
  obtain ⟨x,y,z,D1,D2,D3,rfl,rfl,h1,h2,h3⟩:=h
  have a1:=LRow.gd eI_gd h1
  have a2:=LRow.gd eE_gd h2
  have a3:=LRow.gd LIc.gd h3
  refine ⟨.inl ⟨_,rfl,fun c hc=>?_⟩,fun u hu=>?_⟩
  · simp only [List.mem_cons,List.not_mem_nil,or_false] at hc
    rcases hc with rfl | rfl | rfl | rfl
    · exact .p (.int _ _)
    · exact a1.1
    · exact a2.1
    · exact a3.1
  · simp only [List.mem_append] at hu
    rcases hu with hu | hu | hu
    · exact a1.2 u hu
    · exact a2.2 u hu
    · exact a3.2 u hu
theorem LAu.sh {a:Au} {v:AV} {G:Heap} {D:List Nat} {n:Nat} {G0:Heap} (h0:∀q,n≤q→G0 q=none) (h:LAu a v G D):LAu a (sh1 n v) (Heap.or G0 (shH n G)) (D.map (·+n)):=by
  obtain ⟨x,y,z,D1,D2,D3,rfl,rfl,h1,h2,h3⟩:=h
  exact ⟨shC n x,shC n y,shC n z,_,_,_,rfl,by rw [List.map_append,List.map_append],LRow.sh (LPl.sh eI) h0 h1,LRow.sh (LPl.sh eE) h0 h2,LRow.sh LIc.sh h0 h3⟩
end Go.Proofs.Ytjdhigcefkihiaa
namespace Go.Proofs.Ytjdhigcefkihiaa
open Go Go.Sep Go.Pt
attribute [local irreducible] CallT
theorem Heap.del_put {H:Heap} {r:Nat} {b:List AV} (h:H r=some b):(H.del r).set r b=H:=by
  funext y
  by_cases e:y=r
  · subst e;rw [Heap.set_same,h]
  · rw [Heap.set_other e,Heap.del_other e]
theorem St.start {H:Heap} {r:Nat} {b:List AV} (h:H r=some b):St (H.del r) [cellT r b] H:=by
  have:=(St.nil (H.del r)).cell (r:=r) (Heap.del_same _ _) b
  rwa [Heap.del_put h] at this
theorem set_le {H G:Heap} {Ts:List Th} {r:Nat} {b:List AV} (st:St (H.del r) Ts G) (c:Nat) (hc:Ts[c]?=some (cellT r b)):Heap.le (H.set r b) G:=by
  intro y v hv
  by_cases e:y=r
  · subst e;rw [Heap.set_same] at hv;rw [← hv];exact st.get c hc
  · rw [Heap.set_other e] at hv
    exact st.le y v (by rw [Heap.del_other e];exact hv)
end Go.Proofs.Ytjdhigcefkihiaa
namespace Go.Proofs.Ytjdhigcefkihiaa
open Go Go.Sep
attribute [local irreducible] CallT
theorem letters_spec {code:List Int} (hc:CodeC code) {k:Nat} {seed:Int} (n:Int) (hn:n≤1000) (hk:k≤800000000) {H:Heap} {r:Nat} (hr:H r=some (cur code k seed)) {K:AV→Heap→Prop}
    (h:∀(xs:List Int) q k' seed',(xs.length=n∨xs.length=0∧n≤0)→(∀x∈xs,0≤x∧x < 8)→k≤k'→k'≤k+2*xs.length→H q=none→K (own q 1 (xs.map eI)) ((H.set r (cur code k' seed')).set q (cells (xs.map eI)))) :
    CallT Try.prog 111 [.ptr r 0,I n] H K:=by
  refine CallT.ghost W111_hb fun q0 hq0=>?_
  have hq0r:q0≠r:=by rintro rfl;rw [hr] at hq0;cases hq0
  refine W111_ok ?_;simp (maxSteps:=1000000) (disch:=first | assumption | (apply ν6;assumption)) only [W111,vz,vu,vv,eqS,eF_,↓c1_,↓c2_,tabs,reduceCtorEq,ι5,↓reduceIte,ν1,ν2,ν3,ν4,ν5,ι1,ι2,ι3,ι4]
  refine L111_0_rule (([]:List Int),q0,k,seed) (fun s=>I (n - s.1.length)) (fun s=>own s.2.1 1 (s.1.map eI)) (fun s=>(H.set r (cur code s.2.2.1 s.2.2.2)).set s.2.1 (cells (s.1.map eI)))
    (fun s=>H s.2.1=none∧(s.1=[]∨s.1.length≤n)∧(∀x∈s.1,0≤x∧x < 8)∧k≤s.2.2.1∧s.2.2.1≤k+2*s.1.length) (fun s=>(n - s.1.length).toNat) ⟨⟨hq0,.inl rfl,by simp,by simp,by simp⟩,?_,.nilo _ _ _,?_⟩ ?_
  · simp;exact .refl _
  · (intro y b hy;simp only [Heap.set,Heap.del] at hy ⊢;(repeat' split at hy)<;>(repeat' split)<;>simp_all [cells])
  · rintro ⟨xs,q,k',s'⟩ ⟨hq,h1,h2,h3,h4⟩
    dsimp only at hq h1 h2 h3 h4
    have hqr:q≠r:=by rintro rfl;rw [hr] at hq;cases hq
    (try simp (maxSteps:=1000000) (disch:=first | assumption | (apply ν6;assumption)) only [vz,vu,vv,eqS,eF_,↓c1_,↓c2_,tabs,reduceCtorEq,ι5,↓reduceIte,ν1,ν2,ν3,ν4,ν5,ι1,ι2,ι3,ι4,B111_0])
    refine ⟨fun h5=>?_,fun h5=>?_⟩
    · have hx:xs.length < n:=by omega
      refine pick_spec hc 8 (by omega) (k:=k') (by omega) (r:=r) (by rw [Heap.set_other hqr.symm,Heap.set_same]) fun x k2 s2 hx0 hx1 hk2 hk3=>?_
      refine push_own (es:=xs.map eI) (cs:=eI x) tab_23 rfl tab_3 rfl rfl rfl rfl (by omega) (by omega) rfl (by rw [Heap.set_other hqr,Heap.set_same]) (sizedMap (f:=eI) (fun _=>rfl) _) (by simp;omega) (by simp;omega) fun q' hq'=>?_
      simp only [Heap.set_none] at hq'
      obtain ⟨q1,q2,q3⟩:=hq'
      (try simp (maxSteps:=1000000) (disch:=first | assumption | (apply ν6;assumption)) only [vz,vu,vv,eqS,eF_,↓c1_,↓c2_,tabs,reduceCtorEq,ι5,↓reduceIte,ν1,ν2,ν3,ν4,ν5,ι1,ι2,ι3,ι4])
      refine ⟨(xs++[x],q',k2,s2),⟨q3.2,.inr ?_,?_,?_,?_⟩,?_,?_,?_,?_⟩
      · simp;omega
      · simp only [List.mem_append,List.mem_singleton];rintro y (hy | rfl)
        · exact h2 y hy
        · omega
      · simp only;omega
      · simp;omega
      · simp;omega
      · rw [wk_int,i64_id (by omega) (by omega)];simp;omega
      · simp [AV.wk.refl]
      · simp only [List.map_append,List.map_cons,List.map_nil];(intro y b hy;simp only [Heap.set,Heap.del] at hy ⊢;(repeat' split at hy)<;>(repeat' split)<;>simp_all [cells])
    · have hl:(xs.length:Int)=n∨xs.length=0∧n≤0:=by
        rcases h1 with rfl | h1
        · right;simp at h5 ⊢;omega
        · left;omega
      have:=h xs q k' s' hl h2 h3 h4 hq
      exact this
theorem wk_lit {q:Nat} {H:Heap} {K:AV→Heap→Prop} (xs:List Int) {n:Nat} (hn:n=xs.length) (hq:H q=none) (h:K (Is xs) H):wkK K (.sl q 1 0 n) (H.set q (xs.map fun n=>I n)):=by
  subst hn
  refine ⟨Is xs,H,?_,h⟩
  have:=Wk.own_le (q:=q) (sz:=1) (es:=xs.map eI) (H:=H) (H':=H.set q (xs.map fun n=>I n)) (by omega) (szI _) hq (by rw [cells_I];exact Heap.le_refl _)
  simpa only [own,List.length_map] using this
structure LG (H G:Heap) (r r2 r3 q1 q2:Nat) (code:List Int) (k:Nat) (seed:Int) (s l:List Int):Prop where
  cr:G r=some (cur code k seed)
  c2:G r2=some [.p .nil,.p .nil]
  c3:G r3=some [own q1 1 (s.map eI),own q2 1 (l.map eI)]
  d1:G q1=some (cells (s.map eI))
  d2:G q2=some (cells (l.map eI))
  ne:q1≠q2∧q1≠r∧q2≠r∧r2≠r∧r3≠r∧r2≠r3∧q1≠r2∧q1≠r3∧q2≠r2∧q2≠r3
  nn:H q1=none∧H q2=none∧H r2=none∧H r3=none
  le:∀y b,y≠r→H y=some b→G y=some b
theorem LG.fin {H G:Heap} {r r2 r3 q1 q2:Nat} {code:List Int} {k:Nat} {seed:Int} {s l:List Int} (g:LG H G r r2 r3 q1 q2 code k seed s l) {K:AV→Heap→Prop} (h:K (.agg [Is s,Is l]) (H.set r (cur code k seed))) {b:List AV} :
    wkK K (.agg [own q1 1 (s.map eI),own q2 1 (l.map eI)]) (G.set r2 b):=by
  obtain ⟨n1,n2,n3,n4,n5,n6,n7,n8,n9,n10⟩:=g.ne
  obtain ⟨m1,m2,m3,m4⟩:=g.nn
  refine ⟨_,_,.trans (Wk.frz (r:=q1) (sz:=1) (es:=s.map eI) (v':=.agg [Is s,own q2 1 (l.map eI)]) (by omega) (by rw [Heap.set_other n7];exact g.d1) (szI s) (.agg (.cons .here (.cons (.same _) .nil))))
    (.trans (Wk.frz (r:=q2) (sz:=1) (es:=l.map eI) (v':=.agg [Is s,Is l]) (by omega) (by rw [Heap.del_other n1.symm,Heap.set_other n9];exact g.d2) (szI l) (.agg (.cons (.same _) (.cons .here .nil)))) (.forget ?_)),h⟩
  intro y b' hy
  by_cases e:y=r
  · subst e
    rw [Heap.set_same] at hy
    rw [Heap.del_other n3.symm,Heap.del_other n2.symm,Heap.set_other n4.symm,g.cr,hy]
  · rw [Heap.set_other e] at hy
    have y1:y≠q1:=fun e=>by rw [e,m1] at hy;cases hy
    have y2:y≠q2:=fun e=>by rw [e,m2] at hy;cases hy
    have y3:y≠r2:=fun e=>by rw [e,m3] at hy;cases hy
    rw [Heap.del_other y2,Heap.del_other y1,Heap.set_other y3]
    exact g.le y b' e hy
theorem LG.cur {H G:Heap} {r r2 r3 q1 q2:Nat} {code:List Int} {k:Nat} {seed:Int} {s l:List Int} (g:LG H G r r2 r3 q1 q2 code k seed s l) (k1:Nat) (s1:Int):LG H (G.set r (Proofs.Ytjdhigcefkihiaa.cur code k1 s1)) r r2 r3 q1 q2 code k1 s1 s l:=by
  obtain ⟨n1,n2,n3,n4,n5,n6,n7,n8,n9,n10⟩:=g.ne
  exact ⟨Heap.set_same _ _ _,by rw [Heap.set_other n4];exact g.c2,by rw [Heap.set_other n5];exact g.c3,by rw [Heap.set_other n2];exact g.d1,by rw [Heap.set_other n3];exact g.d2,g.ne,g.nn,
      fun y b e hy=>by rw [Heap.set_other e];exact g.le y b e hy⟩
theorem LG.fresh {H G:Heap} {r r2 r3 q1 q2:Nat} {code:List Int} {k:Nat} {seed:Int} {s l:List Int} (g:LG H G r r2 r3 q1 q2 code k seed s l) {q:Nat} (hq:G q=none):q≠r∧q≠r2∧q≠r3∧q≠q1∧q≠q2∧H q=none:=by
  have h1:q≠r:=fun e=>by rw [e,g.cr] at hq;cases hq
  refine ⟨h1,(fun e=>by rw [e,g.c2] at hq;cases hq),(fun e=>by rw [e,g.c3] at hq;cases hq),(fun e=>by rw [e,g.d1] at hq;cases hq),(fun e=>by rw [e,g.d2] at hq;cases hq),?_⟩
  cases hh:H q with
  | none=>rfl
  | some b=>rw [g.le q b h1 hh] at hq;cases hq
theorem LG.newLoop {H G:Heap} {r r2 r3 q1 q2:Nat} {code:List Int} {k:Nat} {seed:Int} {s l:List Int} (g:LG H G r r2 r3 q1 q2 code k seed s l) {G':Heap} (hG:∀y,y≠q2→G' y=G y) {q:Nat} (hq:G q=none) (ys:List Int) :
    LG H ((G'.set q (cells (ys.map eI))).set r3 [own q1 1 (s.map eI),own q 1 (ys.map eI)]) r r2 r3 q1 q code k seed s ys:=by
  obtain ⟨n1,n2,n3,n4,n5,n6,n7,n8,n9,n10⟩:=g.ne
  obtain ⟨m1,m2,m3,m4⟩:=g.nn
  obtain ⟨f1,f2,f3,f4,f5,f6⟩:=g.fresh hq
  refine ⟨?_,?_,Heap.set_same _ _ _,?_,?_,⟨f4.symm,n2,f1,n4,n5,n6,n7,n8,f2,f3⟩,⟨m1,f6,m3,m4⟩,fun y b e hy=>?_⟩
  · rw [Heap.set_other n5.symm,Heap.set_other f1.symm,hG _ n3.symm];exact g.cr
  · rw [Heap.set_other n6,Heap.set_other f2.symm,hG _ n9.symm];exact g.c2
  · rw [Heap.set_other n8,Heap.set_other f4.symm,hG _ n1];exact g.d1
  · rw [Heap.set_other f3,Heap.set_same]
  · rw [Heap.set_other (fun e=>by rw [e,m4] at hy;cases hy),Heap.set_other (fun e=>by rw [e,f6] at hy;cases hy),hG _ (fun e=>by rw [e,m2] at hy;cases hy)];exact g.le y b e hy
theorem LG.newStem {H G:Heap} {r r2 r3 q1 q2:Nat} {code:List Int} {k:Nat} {seed:Int} {s l:List Int} (g:LG H G r r2 r3 q1 q2 code k seed s l) {G':Heap} (hG:∀y,y≠q1→G' y=G y) {q:Nat} (hq:G q=none) (ys:List Int) :
    LG H ((G'.set q (cells (ys.map eI))).set r3 [own q 1 (ys.map eI),own q2 1 (l.map eI)]) r r2 r3 q q2 code k seed ys l:=by
  obtain ⟨n1,n2,n3,n4,n5,n6,n7,n8,n9,n10⟩:=g.ne
  obtain ⟨m1,m2,m3,m4⟩:=g.nn
  obtain ⟨f1,f2,f3,f4,f5,f6⟩:=g.fresh hq
  refine ⟨?_,?_,Heap.set_same _ _ _,?_,?_,⟨f5,f1,n3,n4,n5,n6,f2,f3,n9,n10⟩,⟨f6,m2,m3,m4⟩,fun y b e hy=>?_⟩
  · rw [Heap.set_other n5.symm,Heap.set_other f1.symm,hG _ n2.symm];exact g.cr
  · rw [Heap.set_other n6,Heap.set_other f2.symm,hG _ n7.symm];exact g.c2
  · rw [Heap.set_other f3,Heap.set_same]
  · rw [Heap.set_other n10,Heap.set_other f5.symm,hG _ n1.symm];exact g.d2
  · rw [Heap.set_other (fun e=>by rw [e,m4] at hy;cases hy),Heap.set_other (fun e=>by rw [e,f6] at hy;cases hy),hG _ (fun e=>by rw [e,m1] at hy;cases hy)];exact g.le y b e hy
theorem LG.put {H G:Heap} {r r2 r3 q1 q2:Nat} {code:List Int} {k:Nat} {seed:Int} {s l:List Int} (g:LG H G r r2 r3 q1 q2 code k seed s l) {ys:List Int} (hl:ys.length=l.length) :
    LG H (G.set q2 (cells (ys.map eI))) r r2 r3 q1 q2 code k seed s ys:=by
  obtain ⟨n1,n2,n3,n4,n5,n6,n7,n8,n9,n10⟩:=g.ne
  obtain ⟨m1,m2,m3,m4⟩:=g.nn
  refine ⟨?_,?_,?_,?_,Heap.set_same _ _ _,g.ne,g.nn,fun y b e hy=>?_⟩
  · rw [Heap.set_other n3.symm];exact g.cr
  · rw [Heap.set_other n9.symm];exact g.c2
  · rw [Heap.set_other n10.symm,g.c3];simp only [own,List.length_map,hl]
  · rw [Heap.set_other n1];exact g.d1
  · rw [Heap.set_other (fun e=>by rw [e,m2] at hy;cases hy)];exact g.le y b e hy
theorem lasso_J0 {code:List Int} (hc:CodeC code) {H G:Heap} {r r2 r3 q1 q2:Nat} {k:Nat} {seed:Int} {s l:List Int} (g:LG H G r r2 r3 q1 q2 code k seed s l) (hk:k≤700000000) (hs:s.length≤64) (hl:l.length≤64) (hl1:1≤l.length) {K:AV→Heap→Prop}
    (h:∀s l k' seed',s.length≤64→l.length≤64→k≤k'→k'≤k+100→K (.agg [Is s,Is l]) (H.set r (cur code k' seed'))):J75_0 (wkK K) (.ptr r 0) (.ptr r2 0) (.ptr r3 0) G:=by
  obtain ⟨n1,n2,n3,n4,n5,n6,n7,n8,n9,n10⟩:=g.ne
  unfold J75_0
  refine pick_spec hc 40 (by omega) (by omega) g.cr fun x k1 s1 hx0 hx1 hk1 hk2=>?_
  have g1:=g.cur k1 s1
  generalize hG1:G.set r (cur code k1 s1)=G1 at g1
  have len25:∀(n:Int) (ys:List Int),n≤25→(ys.length=n∨ys.length=0∧n≤0)→ys.length≤25:=by intro n ys h1 h2;omega
  (try simp (maxSteps:=1000000) (disch:=first | assumption | (apply ν6;assumption)) only [vz,vu,vv,eqS,eF_,↓c1_,↓c2_,tabs,reduceCtorEq,ι5,↓reduceIte,ν1,ν2,ν3,ν4,ν5,ι1,ι2,ι3,ι4])
  refine ⟨fun hx=>?_,fun hx=>⟨fun hx=>?_,fun hx=>⟨fun hx=>?_,fun hx=>?_⟩⟩⟩
  · (try simp (maxSteps:=1000000) (disch:=first | assumption | (apply ν6;assumption)) only [vz,vu,vv,eqS,eF_,↓c1_,↓c2_,tabs,reduceCtorEq,ι5,↓reduceIte,ν1,ν2,ν3,ν4,ν5,ι1,ι2,ι3,ι4,buildSliceV,zerosA,List.replicate_succ,List.replicate_zero,List.flatten_cons,List.flatten_nil])
    intro q hq
    refine wk_lit [0,24,25] rfl hq ?_
    refine among_spec hc [0,24,25] (by simp) (by simp) (by omega) g1.cr fun n k2 s2 hn hk3 hk4=>?_
    have hn':n≤25:=by simp at hn;omega
    have g2:=g1.cur k2 s2
    generalize G1.set r (cur code k2 s2)=G2 at g2
    refine letters_spec hc n (by omega) (by omega) g2.cr fun ys q3 k3 s3 hlen _ hk5 hk6 hq3=>?_
    have hy:=len25 n ys hn' hlen
    have g3:=g2.cur k3 s3
    have hq3':(G2.set r (cur code k3 s3)) q3=none:=by rw [Heap.set_other (g2.fresh hq3).1];exact hq3
    have f3:=g3.fresh hq3'
    generalize G2.set r (cur code k3 s3)=G3 at g3 hq3'
    have g4:=g3.newLoop (fun _ _=>rfl) hq3' ys
    have c3':(G3.set q3 (cells (ys.map eI))) r3=some [own q1 1 (s.map eI),own q2 1 (l.map eI)]:=by rw [Heap.set_other f3.2.2.1.symm];exact g3.c3
    have c2':(G3.set q3 (cells (ys.map eI))) r2=some [.p .nil,.p .nil]:=by rw [Heap.set_other f3.2.1.symm];exact g3.c2
    generalize G3.set q3 (cells (ys.map eI))=G4 at g4 c3' c2'
    (try simp (maxSteps:=1000000) (disch:=first | assumption | (apply ν6;assumption)) only [vz,vu,vv,eqS,eF_,↓c1_,↓c2_,tabs,reduceCtorEq,ι5,↓reduceIte,ν1,ν2,ν3,ν4,ν5,ι1,ι2,ι3,ι4,store_at c3',store_at c2'])
    rw [Heap.set_comm n6]
    have:=g4.fin (b:=[own q1 1 (s.map eI),own q3 1 (ys.map eI)]) (h s ys k3 s3 hs (by omega) (by omega) (by omega))
    simpa only [own,List.length_map] using this
  · (try simp (maxSteps:=1000000) (disch:=first | assumption | (apply ν6;assumption)) only [vz,vu,vv,eqS,eF_,↓c1_,↓c2_,tabs,reduceCtorEq,ι5,↓reduceIte,ν1,ν2,ν3,ν4,ν5,ι1,ι2,ι3,ι4,buildSliceV,zerosA,List.replicate_succ,List.replicate_zero,List.flatten_cons,List.flatten_nil])
    intro q hq
    refine wk_lit [24,25] rfl hq ?_
    refine among_spec hc [24,25] (by simp) (by simp) (by omega) g1.cr fun n k2 s2 hn hk3 hk4=>?_
    have hn':n≤25:=by simp at hn;omega
    have g2:=g1.cur k2 s2
    generalize G1.set r (cur code k2 s2)=G2 at g2
    refine letters_spec hc n (by omega) (by omega) g2.cr fun ys q3 k3 s3 hlen _ hk5 hk6 hq3=>?_
    have hy:=len25 n ys hn' hlen
    have g3:=g2.cur k3 s3
    have hq3':(G2.set r (cur code k3 s3)) q3=none:=by rw [Heap.set_other (g2.fresh hq3).1];exact hq3
    have f3:=g3.fresh hq3'
    generalize G2.set r (cur code k3 s3)=G3 at g3 hq3'
    have g4:=g3.newStem (fun _ _=>rfl) hq3' ys
    have c3':(G3.set q3 (cells (ys.map eI))) r3=some [own q1 1 (s.map eI),own q2 1 (l.map eI)]:=by rw [Heap.set_other f3.2.2.1.symm];exact g3.c3
    have c2':(G3.set q3 (cells (ys.map eI))) r2=some [.p .nil,.p .nil]:=by rw [Heap.set_other f3.2.1.symm];exact g3.c2
    generalize G3.set q3 (cells (ys.map eI))=G4 at g4 c3' c2'
    (try simp (maxSteps:=1000000) (disch:=first | assumption | (apply ν6;assumption)) only [vz,vu,vv,eqS,eF_,↓c1_,↓c2_,tabs,reduceCtorEq,ι5,↓reduceIte,ν1,ν2,ν3,ν4,ν5,ι1,ι2,ι3,ι4,store_at c3',store_at c2'])
    rw [Heap.set_comm n6]
    have:=g4.fin (b:=[own q3 1 (ys.map eI),own q2 1 (l.map eI)]) (h ys l k3 s3 (by omega) hl (by omega) (by omega))
    simpa only [own,List.length_map] using this
  · (try simp (maxSteps:=1000000) (disch:=first | assumption | (apply ν6;assumption)) only [vz,vu,vv,eqS,eF_,↓c1_,↓c2_,tabs,reduceCtorEq,ι5,↓reduceIte,ν1,ν2,ν3,ν4,ν5,ι1,ι2,ι3,ι4,buildSliceV,zerosA,List.replicate_succ,List.replicate_zero,List.flatten_cons,List.flatten_nil,load_at g1.c3])
    intro q hq
    refine wk_lit [-1,7,8] rfl hq ?_
    (try simp (maxSteps:=1000000) (disch:=first | assumption | (apply ν6;assumption)) only [vz,vu,vv,eqS,eF_,↓c1_,↓c2_,tabs,reduceCtorEq,ι5,↓reduceIte,ν1,ν2,ν3,ν4,ν5,ι1,ι2,ι3,ι4,load_at g1.c3])
    refine among_spec hc [-1,7,8] (by simp) (by simp) (by omega) g1.cr fun n k2 s2 hn hk3 hk4=>?_
    have g2:=g1.cur k2 s2
    generalize G1.set r (cur code k2 s2)=G2 at g2
    (try simp (maxSteps:=1000000) (disch:=first | assumption | (apply ν6;assumption)) only [vz,vu,vv,eqS,eF_,↓c1_,↓c2_,tabs,reduceCtorEq,ι5,↓reduceIte,ν1,ν2,ν3,ν4,ν5,ι1,ι2,ι3,ι4,load_at g2.c3,store_at g2.d2,store_at g2.c2])
    refine ⟨by omega,by omega,by rw [cells_I,List.length_map];omega,?_⟩
    have e1:AV.p (PV.int IntKind.i64 n)::List.drop 1 (cells (l.map eI))=cells (((n::l.drop 1)).map eI):=by
      rw [cells_I,cells_I,List.map_cons,List.map_drop]
    rw [e1]
    have g4:=g2.put (ys:=n::l.drop 1) (by simp;omega)
    rw [Heap.set_comm n9.symm]
    have:=g4.fin (b:=[own q1 1 (s.map eI),own q2 1 ((n::l.drop 1).map eI)]) (h s (n::l.drop 1) k2 s2 hs (by simp;omega) (by omega) (by omega))
    have e2:(n::l.drop 1).length=l.length:=by simp;omega
    simp only [own,List.length_map,e2] at this ⊢
    exact this
  · (try simp (maxSteps:=1000000) (disch:=first | assumption | (apply ν6;assumption)) only [vz,vu,vv,eqS,eF_,↓c1_,↓c2_,tabs,reduceCtorEq,ι5,↓reduceIte,ν1,ν2,ν3,ν4,ν5,ι1,ι2,ι3,ι4,load_at g1.c3,store_at g1.c2])
    exact g1.fin (h s l k1 s1 hs hl (by omega) (by omega))
theorem app_rows {tab:Tab} {t e:Nat} {d ed:TD} {q q':Nat} {xs ys:List Int} {H:Heap} {K:AV→Heap→Prop} (h1:tab t=some d) (h2:d.k=.slice e) (h3:tab e=some ed) (h6:ed.size=1) (h7:ed.bytes≤16)
    (hx:H q=some (cells (xs.map eI))) (hy:H q'=some (cells (ys.map eI))) (hl:xs.length+ys.length≤1000000000)
    (h:∀r',H r'=none→K (own r' 1 ((xs++ys).map eI)) ((H.del q).set r' (cells ((xs++ys).map eI)))):appendV tab t t (own q 1 (xs.map eI)) (own q' 1 (ys.map eI)) H (wkK K):=by
  simp only [appendV,h1,h2,h3,srcV,baseV,hx,hy,h6,own,List.length_map,Nat.mul_one,Nat.zero_add,List.drop_zero]
  have l1:(cells (xs.map eI)).length=xs.length:=by rw [cells_I,List.length_map]
  have l2:(cells (ys.map eI)).length=ys.length:=by rw [cells_I,List.length_map]
  refine ⟨trivial,by omega,trivial,by omega,?_,by omega,?_,fun r' hr'=>wkK.keep ?_⟩
  · exact Nat.le_trans (Nat.mul_le_mul hl h7) (by omega)
  · rw [List.take_of_length_le (by omega)];exact cells_cell _
  · have:=h r' hr'
    rw [List.take_of_length_le (by omega),List.take_of_length_le (by omega),← cells_app,← List.map_append]
    simpa only [own,List.length_map,List.length_append] using this
theorem lasso_J1 {code:List Int} (hc:CodeC code) {H G:Heap} {r r2 r3 q1 q2:Nat} {k:Nat} {seed:Int} {s l:List Int} (g:LG H G r r2 r3 q1 q2 code k seed s l) (hk:k≤600000000) (hs:s.length+l.length≤64) (hl1:1≤l.length) {K:AV→Heap→Prop}
    (h:∀s l k' seed',s.length≤64→l.length≤64→k≤k'→k'≤k+102→K (.agg [Is s,Is l]) (H.set r (cur code k' seed'))):J75_1 (wkK K) (.ptr r 0) (.ptr r2 0) (.ptr r3 0) G:=by
  unfold J75_1
  refine one_spec hc 4 (by omega) (by omega) g.cr fun x k1 s1 hk1 hk2=>?_
  have g1:=g.cur k1 s1
  generalize G.set r (cur code k1 s1)=G1 at g1
  (try simp (maxSteps:=1000000) (disch:=first | assumption | (apply ν6;assumption)) only [vz,vu,vv,eqS,eF_,↓c1_,↓c2_,tabs,reduceCtorEq,ι5,↓reduceIte,ν1,ν2,ν3,ν4,ν5,ι1,ι2,ι3,ι4])
  refine ⟨fun hx=>?_,fun hx=>?_⟩
  · (try simp (maxSteps:=1000000) (disch:=first | assumption | (apply ν6;assumption)) only [vz,vu,vv,eqS,eF_,↓c1_,↓c2_,tabs,reduceCtorEq,ι5,↓reduceIte,ν1,ν2,ν3,ν4,ν5,ι1,ι2,ι3,ι4,load_at g1.c3])
    refine app_rows tab_23 rfl tab_3 rfl (by decide) g1.d1 g1.d2 (by omega) fun q hq=>?_
    have f:=g1.fresh hq
    have n:=g1.ne
    have g2:=g1.newStem (G':=G1.del q1) (fun y hy=>Heap.del_other hy) hq (s++l)
    have c3':((G1.del q1).set q (cells ((s++l).map eI))) r3=some [own q1 1 (s.map eI),own q2 1 (l.map eI)]:=by rw [Heap.set_other f.2.2.1.symm,Heap.del_other n.2.2.2.2.2.2.2.1.symm];exact g1.c3
    (try simp (maxSteps:=1000000) (disch:=first | assumption | (apply ν6;assumption)) only [vz,vu,vv,eqS,eF_,↓c1_,↓c2_,tabs,reduceCtorEq,ι5,↓reduceIte,ν1,ν2,ν3,ν4,ν5,ι1,ι2,ι3,ι4,store_at c3'])
    have:=lasso_J0 hc g2 (by omega) (by simp;omega) (by omega) hl1 fun s l k' s' a b c d=>h s l k' s' a b (by omega) (by omega)
    simpa only [own,List.length_map,List.length_append] using this
  · exact lasso_J0 hc g1 (by omega) (by omega) (by omega) hl1 fun s l k' s' a b c d=>h s l k' s' a b (by omega) (by omega)
theorem lasso_spec {code:List Int} (hc:CodeC code) {H:Heap} {r k:Nat} {seed:Int} (hr:H r=some (cur code k seed)) (hk:k≤500000000) {K:AV→Heap→Prop}
    (h:∀s l k' seed',s.length≤64→l.length≤64→k≤k'→k'≤k+300→K (.agg [Is s,Is l]) (H.set r (cur code k' seed'))):CallT Try.prog 75 [.ptr r 0] H K:=by
  refine CallT.fin ?_
  refine W75_ok ?_;simp (maxSteps:=1000000) (disch:=first | assumption | (apply ν6;assumption)) only [W75,vz,vu,vv,eqS,eF_,↓c1_,↓c2_,tabs,reduceCtorEq,ι5,↓reduceIte,ν1,ν2,ν3,ν4,ν5,ι1,ι2,ι3,ι4]
  intro r2 hr2
  have n4:r2≠r:=by rintro rfl;rw [hr] at hr2;cases hr2
  refine pick_spec hc 6 (by omega) (k:=k) (by omega) (by rw [Heap.set_other n4.symm];exact hr) fun x1 k1 s1 hx0 hx1 hk1 hk2=>?_
  refine letters_spec hc x1 (by omega) (k:=k1) (by omega) (Heap.set_same _ _ _) fun s q1 k2 s2 hl1 _ hk3 hk4 hq1=>?_
  simp only [Heap.set_none] at hq1
  obtain ⟨e1,e2,e3⟩:=hq1
  refine pick_spec hc 5 (by omega) (k:=k2) (by omega) (by rw [Heap.set_other e1.symm];exact Heap.set_same _ _ _) fun x2 k3 s3 hx2 hx3 hk5 hk6=>?_
  (try simp (maxSteps:=1000000) (disch:=first | assumption | (apply ν6;assumption)) only [vz,vu,vv,eqS,eF_,↓c1_,↓c2_,tabs,reduceCtorEq,ι5,↓reduceIte,ν1,ν2,ν3,ν4,ν5,ι1,ι2,ι3,ι4,i64_id (show -9223372036854775808≤1+x2 by omega) (show 1+x2≤9223372036854775807 by omega)])
  refine letters_spec hc (1+x2) (by omega) (k:=k3) (seed:=s3) (by omega) (by rw [Heap.set_other e1.symm,Heap.set_same]) fun l q2 k4 s4 hl2 _ hk7 hk8 hq2=>?_
  simp only [Heap.set_none] at hq2
  obtain ⟨f1,f2,f3,f4⟩:=hq2
  (try simp (maxSteps:=1000000) (disch:=first | assumption | (apply ν6;assumption)) only [vz,vu,vv,eqS,eF_,↓c1_,↓c2_,tabs,reduceCtorEq,ι5,↓reduceIte,ν1,ν2,ν3,ν4,ν5,ι1,ι2,ι3,ι4])
  intro r3 d1 d2 d3 d4 d5
  generalize hG:(((((H.set r2 [AV.p PV.nil,AV.p PV.nil]).set r (cur code k4 s4)).set q1 (cells (List.map eI s))).set q2 (cells (List.map eI l))).set r3 [AV.sl q1 1 0 s.length,AV.sl q2 1 0 l.length])=G
  have g:LG H G r r2 r3 q1 q2 code k4 s4 s l:=by
    subst hG
    refine ⟨?_,?_,?_,?_,?_,⟨f1.symm,e1,f2,n4,d3,Ne.symm d4,e2,Ne.symm d2,f3,Ne.symm d1⟩,⟨e3,f4,hr2,d5⟩,fun y b hy hyb=>?_⟩
    · simp [Heap.set,Ne.symm d3,f2.symm,e1.symm]
    · simp [Heap.set,Ne.symm d4,f3.symm,e2.symm,n4]
    · simp [Heap.set,own]
    · simp [Heap.set,Ne.symm d2,f1.symm]
    · simp [Heap.set,Ne.symm d1]
    · have y1:y≠r2:=fun e=>by rw [e,hr2] at hyb;cases hyb
      have y2:y≠q1:=fun e=>by rw [e,e3] at hyb;cases hyb
      have y3:y≠q2:=fun e=>by rw [e,f4] at hyb;cases hyb
      have y4:y≠r3:=fun e=>by rw [e,d5] at hyb;cases hyb
      simp [Heap.set,hy,y1,y2,y3,y4,hyb]
  clear hG
  have len1:s.length≤6:=by omega
  have len2:1≤l.length∧l.length≤6:=by omega
  have hk4':k4≤k+50:=by omega
  have hkk:k≤k4:=by omega
  refine one_spec hc 4 (by omega) (k:=k4) (by omega) g.cr fun x k5 s5 hk9 hk10=>?_
  have g1:=g.cur k5 s5
  generalize G.set r (cur code k5 s5)=G1 at g1
  (try simp (maxSteps:=1000000) (disch:=first | assumption | (apply ν6;assumption)) only [vz,vu,vv,eqS,eF_,↓c1_,↓c2_,tabs,reduceCtorEq,ι5,↓reduceIte,ν1,ν2,ν3,ν4,ν5,ι1,ι2,ι3,ι4])
  refine ⟨fun hx=>?_,fun hx=>?_⟩
  · (try simp (maxSteps:=1000000) (disch:=first | assumption | (apply ν6;assumption)) only [vz,vu,vv,eqS,eF_,↓c1_,↓c2_,tabs,reduceCtorEq,ι5,↓reduceIte,ν1,ν2,ν3,ν4,ν5,ι1,ι2,ι3,ι4,load_at g1.c3])
    refine app_rows tab_23 rfl tab_3 rfl (by decide) g1.d2 g1.d2 (by omega) fun q hq=>?_
    have f:=g1.fresh hq
    have n:=g1.ne
    have g2:=g1.newLoop (G':=G1.del q2) (fun y hy=>Heap.del_other hy) hq (l++l)
    have c3':((G1.del q2).set q (cells ((l++l).map eI))) r3=some [own q1 1 (s.map eI),own q2 1 (l.map eI)]:=by rw [Heap.set_other f.2.2.1.symm,Heap.del_other n.2.2.2.2.2.2.2.2.2.symm];exact g1.c3
    (try simp (maxSteps:=1000000) (disch:=first | assumption | (apply ν6;assumption)) only [vz,vu,vv,eqS,eF_,↓c1_,↓c2_,tabs,reduceCtorEq,ι5,↓reduceIte,ν1,ν2,ν3,ν4,ν5,ι1,ι2,ι3,ι4,store_at c3'])
    have:=lasso_J1 hc g2 (by omega) (by simp;omega) (by simp;omega) fun s l k' s' a b c d=>h s l k' s' a b (by omega) (by omega)
    simpa only [own,List.length_map,List.length_append] using this
  · exact lasso_J1 hc g1 (by omega) (by omega) (by omega) fun s l k' s' a b c d=>h s l k' s' a b (by omega) (by omega)
end Go.Proofs.Ytjdhigcefkihiaa
namespace Go.Proofs.Ytjdhigcefkihiaa
open Go Go.Sep Go.Pt
attribute [local irreducible] CallT
theorem place_spec {code:List Int} (hc:CodeC code) {k:Nat} {seed:Int} (hk:k≤900000000) {H:Heap} {r:Nat} (hr:H r=some (cur code k seed)) {K:AV→Heap→Prop}
    (h:∀x k' seed',-1≤x→x≤1001→k≤k'→k'≤k+2→K (I x) (H.set r (cur code k' seed'))):CallT Try.prog 76 [.ptr r 0] H K:=by
  refine W76_ok ?_;simp (maxSteps:=1000000) (disch:=first | assumption | (apply ν6;assumption)) only [W76,vz,vu,vv,eqS,eF_,↓c1_,↓c2_,tabs,reduceCtorEq,ι5,↓reduceIte,ν1,ν2,ν3,ν4,ν5,ι1,ι2,ι3,ι4]
  refine lit_gen tab_23 rfl tab_3 ⟨rfl,rfl⟩ [.int .i64 (-1),.int .i64 0,.int .i64 1,.int .i64 2,.int .i64 3,.int .i64 5,.int .i64 8,.int .i64 13,.int .i64 1000,.int .i64 1001] (by simp) ?_
  refine among_spec hc [-1,0,1,2,3,5,8,13,1000,1001] (by simp) (by simp) hk hr fun x k1 s1 hx h1 h2=>?_
  simp only [List.mem_cons,List.not_mem_nil,or_false] at hx
  exact h x k1 s1 (by omega) (by omega) h1 h2
theorem DrawHoldsAt_spec {code:List Int} (hc:CodeC code) {H:Heap} {K:AV→Heap→Prop} (h:∀f s l k,f.length≤20→s.length≤1000→l.length≤1000→-1≤k→k≤1001→K (.tup [Ds f,aL2 s l,I k]) H):CallT Try.prog 26 [.p (.sl (code.map e8))] H K:=by
  refine CallT.fin ?_
  refine W26_ok ?_;simp (maxSteps:=1000000) (disch:=first | assumption | (apply ν6;assumption)) only [W26,vz,vu,vv,eqS,eF_,↓c1_,↓c2_,tabs,reduceCtorEq,ι5,↓reduceIte,ν1,ν2,ν3,ν4,ν5,ι1,ι2,ι3,ι4]
  intro r2 hr2 r7 n7 hr7
  have st:=((St.nil H).cell hr2 [.p .nil,.p .nil]).cell (r:=r7) (by rw [Heap.set_other n7];exact hr7) (cur code 0 0)
  have ec:(H.set r2 [AV.p PV.nil,AV.p PV.nil]).set r7 [AV.p (PV.sl (List.map e8 code)),AV.p (PV.int IntKind.i64 0),AV.p (PV.int IntKind.u64 0)]=(H.set r2 [.p .nil,.p .nil]).set r7 (cur code 0 0):=rfl
  rw [ec]
  generalize (H.set r2 [.p .nil,.p .nil]).set r7 (cur code 0 0)=G at st ⊢
  clear ec hr2 n7 hr7
  refine said_spec hc (by omega) (st.get 0 rfl) fun f k1 s1 hf hk1 hk2=>?_
  replace st:=st.put 0 rfl (cur code k1 s1)
  generalize G.set r7 (cur code k1 s1)=G1 at st ⊢
  refine lasso_spec hc (st.get 0 rfl) (by omega) fun s l k2 s2 hs hl hk3 hk4=>?_
  replace st:=st.put 0 rfl (cur code k2 s2)
  generalize G1.set r7 (cur code k2 s2)=G2 at st ⊢
  simp only [List.set_cons_zero] at st
  (try simp (maxSteps:=1000000) (disch:=first | assumption | (apply ν6;assumption)) only [vz,vu,vv,eqS,eF_,↓c1_,↓c2_,tabs,reduceCtorEq,ι5,↓reduceIte,ν1,ν2,ν3,ν4,ν5,ι1,ι2,ι3,ι4])
  intro r6 hr6
  replace st:=st.cell hr6 [Is s,Is l]
  generalize G2.set r6 [Is s,Is l]=G3 at st ⊢
  clear hr6
  (try simp (maxSteps:=1000000) (disch:=first | assumption | (apply ν6;assumption)) only [vz,vu,vv,eqS,eF_,↓c1_,↓c2_,tabs,reduceCtorEq,ι5,↓reduceIte,ν1,ν2,ν3,ν4,ν5,ι1,ι2,ι3,ι4,load_at (st.get 0 rfl)])
  refine place_spec hc (by omega) (st.get 1 rfl) fun x k3 s3 hx1 hx2 hk5 hk6=>?_
  replace st:=st.put 1 rfl (cur code k3 s3)
  generalize G3.set r7 (cur code k3 s3)=G4 at st ⊢
  simp only [List.set_cons_zero,List.set_cons_succ] at st
  (try simp (maxSteps:=1000000) (disch:=first | assumption | (apply ν6;assumption)) only [vz,vu,vv,eqS,eF_,↓c1_,↓c2_,tabs,reduceCtorEq,ι5,↓reduceIte,ν1,ν2,ν3,ν4,ν5,ι1,ι2,ι3,ι4,load_at (st.get 0 rfl),store_at (st.get 2 rfl)])
  exact ⟨_,_,.forget (st.put 2 rfl [Is s,Is l]).le,h f s l x hf (by omega) (by omega) hx1 hx2⟩
end Go.Proofs.Ytjdhigcefkihiaa
namespace Go.Proofs.Ytjdhigcefkihiaa
open Go Go.Sep Go.Pt
attribute [local irreducible] CallT
theorem mdR_facts {f:List Sd} (h:(mdR f).2=true):GoodFm f∧(mdR f).1=f:=by
  unfold mdR at h ⊢
  split at h
  · rename_i hg
    rw [if_pos hg]
    exact ⟨goodF_iff.1 hg,rfl⟩
  · cases h
theorem haR_ok {f:List Sd} {s l:List Int} {k:Nat} (g:GoodFm f) (hg:goodL s l=true) (hk:k≤1000):haR f s l k=(haV f s l k,true):=by
  have e:haB f s l k=true:=by
    rw [haB,goodF_iff.2 g,hg,decide_eq_true (show (0:Int)≤k by omega),decide_eq_true (show (k:Int)≤1000 by omega)];rfl
  rw [haR,e];rfl
end Go.Proofs.Ytjdhigcefkihiaa
namespace Go.Proofs.Ytjdhigcefkihiaa
open Go Go.Sep Go.Pt
attribute [local irreducible] CallT
theorem puR_facts {f:List Sd} {n:Bool} (h:(puR f n).2=true):GoodFm f∧GoodFm (puR f n).1∧(puR f n).1=psF f 20 (f.length - 1) n:=by
  unfold puR at h ⊢
  split at h
  · rename_i hg
    rw [if_pos hg]
    obtain ⟨m1,m2⟩:=mdR_facts h
    rw [m2]
    exact ⟨goodF_iff.1 hg,m1,rfl⟩
  · cases h
theorem puR_len (f:List Sd) (n:Bool):(puR f n).1.length≤40:=by
  unfold puR mdR
  split
  · rename_i hg
    split
    · have g:=goodF_iff.1 hg
      exact psF_len g (by have:=g.l0;omega) n
    · simp
  · simp
theorem pu_ps {f:List Sd} {n:Bool} (h:(puR f n).2=true) {s l:List Int} (hl:1≤l.length):PsOk (lasL s l) f (f.length - 1) n (puR f n).1:=by
  obtain ⟨g,_,e⟩:=puR_facts h
  rw [e]
  have hl0:=g.l0
  have hl1:=g.l1
  refine psF_ok (fun k hk=>?_) g 20 (f.length - 1) n (by omega) (by omega)
  exact nxW_lt hl
theorem haV_pu {f:List Sd} {n:Bool} (h:(puR f n).2=true) {s l:List Int} (hl:1≤l.length) (k:Nat):haV (puR f n).1 s l k=xor n (haV f s l k):=by
  obtain ⟨g,gr,e⟩:=puR_facts h
  have hp:=(pu_ps h (s:=s) hl).row
  rw [rootR_V gr] at hp
  have hk:foldK s l k < s.length+l.length:=foldK_lt hl k
  have hlen:(rowF (lasL s l) f (f.length - 1)).length=s.length+l.length:=rowF_len _ _ _
  have e1:haV (puR f n).1 s l k=(rootV (lasL s l) (puR f n).1).getD (foldK s l k) default:=rfl
  rw [e1,hp,haV]
  simp [List.getD,hlen,hk]
theorem ip_pu {f:List Sd} {n:Bool} (h:(puR f n).2=true):ipR (puR f n).1=(true,true):=by
  obtain ⟨g,gr,e⟩:=puR_facts h
  rw [ipR,if_pos (goodF_iff.2 gr),ipB_of (pu_ps h (s:=[]) (l:=[0]) (by simp)).not3]
theorem ai_pu {f:List Sd} {n:Bool} (h:(puR f n).2=true):aiR (puR f n).1=aiR f∧(aiR f).2=true:=by
  obtain ⟨g,gr,e⟩:=puR_facts h
  have ha:=(pu_ps h (s:=[]) (l:=[0]) (by simp)).at_
  rw [subF_all g] at ha
  rw [aiR,aiR,if_pos (goodF_iff.2 gr),if_pos (goodF_iff.2 g),ha]
  exact ⟨rfl,rfl⟩
theorem aiR_len (f:List Sd):(aiR f).1.length≤f.length:=by
  unfold aiR
  split
  · exact Nat.le_trans (sc_len _) (atL_len f)
  · simp
theorem DrawIsPushed_spec {code:List Int} (hc:CodeC code) {H:Heap} {K:AV→Heap→Prop} (h:∀f,f.length≤40→K (Ds f) H):CallT Try.prog 44 [.p (.sl (code.map e8))] H K:=by
  refine CallT.fin ?_
  refine W44_ok ?_;simp (maxSteps:=1000000) (disch:=first | assumption | (apply ν6;assumption)) only [W44,vz,vu,vv,eqS,eF_,↓c1_,↓c2_,tabs,reduceCtorEq,ι5,↓reduceIte,ν1,ν2,ν3,ν4,ν5,ι1,ι2,ι3,ι4]
  intro r7 hr7
  have st:=(St.nil H).cell hr7 (cur code 0 0)
  have ec:H.set r7 [AV.p (PV.sl (List.map e8 code)),AV.p (PV.int IntKind.i64 0),AV.p (PV.int IntKind.u64 0)]=H.set r7 (cur code 0 0):=rfl
  rw [ec]
  generalize H.set r7 (cur code 0 0)=G at st ⊢
  clear ec hr7
  refine said_spec hc (by omega) (st.get 0 rfl) fun f k2 s2 hf hk1 hk2=>?_
  replace st:=st.put 0 rfl (cur code k2 s2)
  generalize G.set r7 (cur code k2 s2)=G2 at st ⊢
  refine one_spec hc 2 (by omega) (by omega) (st.get 0 rfl) fun n k3 s3 hk3 hk4=>?_
  replace st:=st.put 0 rfl (cur code k3 s3)
  generalize G2.set r7 (cur code k3 s3)=G3 at st ⊢
  refine Pu.use (PushNot_ref f (by omega) n) ?_
  have hpl:=puR_len f n
  (try simp (maxSteps:=1000000) (disch:=first | assumption | (apply ν6;assumption)) only [vz,vu,vv,eqS,eF_,↓c1_,↓c2_,tabs,reduceCtorEq,ι5,↓reduceIte,ν1,ν2,ν3,ν4,ν5,ι1,ι2,ι3,ι4])
  refine ⟨fun _=>?_,fun _=>⟨_,_,.forget st.le,h f (by omega)⟩⟩
  refine one_spec hc 2 (by omega) (by omega) (st.get 0 rfl) fun b k4 s4 hk5 hk6=>?_
  replace st:=st.put 0 rfl (cur code k4 s4)
  generalize G3.set r7 (cur code k4 s4)=G4 at st ⊢
  cases b
  · (try simp (maxSteps:=1000000) (disch:=first | assumption | (apply ν6;assumption)) only [vz,vu,vv,eqS,eF_,↓c1_,↓c2_,tabs,reduceCtorEq,ι5,↓reduceIte,ν1,ν2,ν3,ν4,ν5,ι1,ι2,ι3,ι4])
    exact ⟨_,_,.forget st.le,h f (by omega)⟩
  · (try simp (maxSteps:=1000000) (disch:=first | assumption | (apply ν6;assumption)) only [vz,vu,vv,eqS,eF_,↓c1_,↓c2_,tabs,reduceCtorEq,ι5,↓reduceIte,ν1,ν2,ν3,ν4,ν5,ι1,ι2,ι3,ι4])
    exact ⟨_,_,.forget st.le,h _ (by omega)⟩
theorem haR_facts {f:List Sd} {s l:List Int} {k:Int} (h:(haR f s l k).2=true):goodL s l=true∧(∃n:Nat,k=n∧n≤1000)∧GoodFm f:=by
  unfold haR at h
  split at h
  · rename_i hb
    simp only [haB,Bool.and_eq_true,decide_eq_true_eq] at hb
    exact ⟨hb.2.1,⟨k.toNat,by omega,by omega⟩,goodF_iff.1 hb.1⟩
  · cases h
theorem FnContrary_true {code more:List Int} (hb:∀b∈code,0≤b∧b < 256) (hb2:∀b∈more,0≤b∧b < 256):Pu Try.prog 6 [.p (.sl (code.map e8)),.p (.sl (more.map e8))] (B true):=by
  refine Pu.of fun H=>?_
  refine W6_ok ?_;simp (maxSteps:=1000000) (disch:=first | assumption | (apply ν6;assumption)) only [W6,vz,vu,vv,eqS,eF_,↓c1_,↓c2_,tabs,reduceCtorEq,ι5,↓reduceIte,ν1,ν2,ν3,ν4,ν5,ι1,ι2,ι3,ι4]
  refine Pu.use (bigC code more) ?_
  (try simp (maxSteps:=1000000) (disch:=first | assumption | (apply ν6;assumption)) only [vz,vu,vv,eqS,eF_,↓c1_,↓c2_,tabs,reduceCtorEq,ι5,↓reduceIte,ν1,ν2,ν3,ν4,ν5,ι1,ι2,ι3,ι4])
  intro hsz
  have hc:CodeC code:=⟨hb,by omega⟩
  have hc2:CodeC more:=⟨hb2,by omega⟩
  have rest:∀G,Heap.le H G→J6_0 (fun r H'=>r=B true∧Heap.le H H') (.p (.sl (more.map e8))) G:=by
    intro G hle
    (try simp (maxSteps:=1000000) (disch:=first | assumption | (apply ν6;assumption)) only [vz,vu,vv,eqS,eF_,↓c1_,↓c2_,tabs,reduceCtorEq,ι5,↓reduceIte,ν1,ν2,ν3,ν4,ν5,ι1,ι2,ι3,ι4,J6_0])
    refine DrawIsPushed_spec hc2 fun g hg=>?_
    (try simp (maxSteps:=1000000) (disch:=first | assumption | (apply ν6;assumption)) only [vz,vu,vv,eqS,eF_,↓c1_,↓c2_,tabs,reduceCtorEq,ι5,↓reduceIte,ν1,ν2,ν3,ν4,ν5,ι1,ι2,ι3,ι4])
    refine Pu.use (IsPushed_impl g (by omega)) ?_
    (try simp (maxSteps:=1000000) (disch:=first | assumption | (apply ν6;assumption)) only [vz,vu,vv,eqS,eF_,↓c1_,↓c2_,tabs,reduceCtorEq,ι5,↓reduceIte,ν1,ν2,ν3,ν4,ν5,ι1,ι2,ι3,ι4])
    refine Pu.use (IsPushed_ref g (by omega)) ?_
    (try simp (maxSteps:=1000000) (disch:=first | assumption | (apply ν6;assumption)) only [vz,vu,vv,eqS,eF_,↓c1_,↓c2_,tabs,reduceCtorEq,ι5,↓reduceIte,ν1,ν2,ν3,ν4,ν5,ι1,ι2,ι3,ι4])
    first | exact ⟨rfl,hle⟩ | exact hle
  refine DrawHoldsAt_spec hc fun f s l k hf hs hl hk0 hk1=>?_
  (try simp (maxSteps:=1000000) (disch:=first | assumption | (apply ν6;assumption)) only [vz,vu,vv,eqS,eF_,↓c1_,↓c2_,tabs,reduceCtorEq,ι5,↓reduceIte,ν1,ν2,ν3,ν4,ν5,ι1,ι2,ι3,ι4])
  intro r hr
  have st:=(St.nil H).cell hr [Is s,Is l]
  generalize H.set r [Is s,Is l]=G at st ⊢
  clear hr
  have hle:=st.le
  have hpl0:=puR_len f true
  have hpl1:=puR_len f false
  (try simp (maxSteps:=1000000) (disch:=first | assumption | (apply ν6;assumption)) only [vz,vu,vv,eqS,eF_,↓c1_,↓c2_,tabs,reduceCtorEq,ι5,↓reduceIte,ν1,ν2,ν3,ν4,ν5,ι1,ι2,ι3,ι4,load_at (st.get 0 rfl)])
  refine Pu.use (HoldsAt_impl f (by omega) s l (by omega) (by omega) k) ?_
  (try simp (maxSteps:=1000000) (disch:=first | assumption | (apply ν6;assumption)) only [vz,vu,vv,eqS,eF_,↓c1_,↓c2_,tabs,reduceCtorEq,ι5,↓reduceIte,ν1,ν2,ν3,ν4,ν5,ι1,ι2,ι3,ι4,load_at (st.get 0 rfl)])
  refine Pu.use (HoldsAt_ref f (by omega) s l (by omega) (by omega) k) ?_
  (try simp (maxSteps:=1000000) (disch:=first | assumption | (apply ν6;assumption)) only [vz,vu,vv,eqS,eF_,↓c1_,↓c2_,tabs,reduceCtorEq,ι5,↓reduceIte,ν1,ν2,ν3,ν4,ν5,ι1,ι2,ι3,ι4])
  refine Pu.use (GoodSaid_impl f (by omega)) ?_
  refine Pu.use (GoodSaid_spec f (by omega)) ?_
  (try simp (maxSteps:=1000000) (disch:=first | assumption | (apply ν6;assumption)) only [vz,vu,vv,eqS,eF_,↓c1_,↓c2_,tabs,reduceCtorEq,ι5,↓reduceIte,ν1,ν2,ν3,ν4,ν5,ι1,ι2,ι3,ι4])
  refine Pu.use (PushNot_impl f (by omega) true) ?_
  (try simp (maxSteps:=1000000) (disch:=first | assumption | (apply ν6;assumption)) only [vz,vu,vv,eqS,eF_,↓c1_,↓c2_,tabs,reduceCtorEq,ι5,↓reduceIte,ν1,ν2,ν3,ν4,ν5,ι1,ι2,ι3,ι4])
  refine Pu.use (PushNot_impl f (by omega) false) ?_
  (try simp (maxSteps:=1000000) (disch:=first | assumption | (apply ν6;assumption)) only [vz,vu,vv,eqS,eF_,↓c1_,↓c2_,tabs,reduceCtorEq,ι5,↓reduceIte,ν1,ν2,ν3,ν4,ν5,ι1,ι2,ι3,ι4])
  refine Pu.use (PushNot_ref f (by omega) true) ?_
  (try simp (maxSteps:=1000000) (disch:=first | assumption | (apply ν6;assumption)) only [vz,vu,vv,eqS,eF_,↓c1_,↓c2_,tabs,reduceCtorEq,ι5,↓reduceIte,ν1,ν2,ν3,ν4,ν5,ι1,ι2,ι3,ι4])
  refine Pu.use (PushNot_ref f (by omega) false) ?_
  (try simp (maxSteps:=1000000) (disch:=first | assumption | (apply ν6;assumption)) only [vz,vu,vv,eqS,eF_,↓c1_,↓c2_,tabs,reduceCtorEq,ι5,↓reduceIte,ν1,ν2,ν3,ν4,ν5,ι1,ι2,ι3,ι4])
  refine Pu.use (sameSaid_self _ (by omega)) ?_
  (try simp (maxSteps:=1000000) (disch:=first | assumption | (apply ν6;assumption)) only [vz,vu,vv,eqS,eF_,↓c1_,↓c2_,tabs,reduceCtorEq,ι5,↓reduceIte,ν1,ν2,ν3,ν4,ν5,ι1,ι2,ι3,ι4])
  refine Pu.use (sameSaid_self _ (by omega)) ?_
  (try simp (maxSteps:=1000000) (disch:=first | assumption | (apply ν6;assumption)) only [vz,vu,vv,eqS,eF_,↓c1_,↓c2_,tabs,reduceCtorEq,ι5,↓reduceIte,ν1,ν2,ν3,ν4,ν5,ι1,ι2,ι3,ι4,load_at (st.get 0 rfl)])
  have rest1:J6_1 (fun r H'=>r=B true∧Heap.le H H') (.p (.sl (more.map e8))) (Ds f) (.ptr r 0) (I k) (B (haR f s l k).1) (B (haR f s l k).2) (Ds (puR f false).1) (B (puR f false).2) G:=by
    (try simp (maxSteps:=1000000) (disch:=first | assumption | (apply ν6;assumption)) only [vz,vu,vv,eqS,eF_,↓c1_,↓c2_,tabs,reduceCtorEq,ι5,↓reduceIte,ν1,ν2,ν3,ν4,ν5,ι1,ι2,ι3,ι4,J6_1])
    refine ⟨fun ho=>⟨fun hp=>?_,fun _=>rest _ hle⟩,fun _=>rest _ hle⟩
    obtain ⟨gl,⟨n,rfl,hn⟩,g⟩:=haR_facts ho
    obtain ⟨_,gr,_⟩:=puR_facts hp
    obtain ⟨l1,l2⟩:=goodL_f gl
    have t:=HoldsAt_impl (puR f false).1 (by omega) s l (by omega) (by omega) (n:Nat)
    rw [haR_ok gr gl hn,haV_pu hp l2.1] at t
    rw [haR_ok g gl hn]
    obtain ⟨a1,a2⟩:=ai_pu hp
    have i1:=AtomsIn_impl f (by omega)
    have i2:=AtomsIn_impl (puR f false).1 (by omega)
    rw [a1] at i2
    have hal:=aiR_len f
    have i3:=IsPushed_impl (puR f false).1 (by omega)
    rw [ip_pu hp] at i3
    rw [a2] at i1 i2
    generalize (aiR f).1=A at i1 i2 hal
    (try simp (maxSteps:=1000000) (disch:=first | assumption | (apply ν6;assumption)) only [vz,vu,vv,eqS,eF_,↓c1_,↓c2_,tabs,reduceCtorEq,ι5,↓reduceIte,ν1,ν2,ν3,ν4,ν5,ι1,ι2,ι3,ι4,load_at (st.get 0 rfl)])
    refine Pu.use t ?_
    (try simp (maxSteps:=1000000) (disch:=first | assumption | (apply ν6;assumption)) only [vz,vu,vv,eqS,eF_,↓c1_,↓c2_,tabs,reduceCtorEq,ι5,↓reduceIte,ν1,ν2,ν3,ν4,ν5,ι1,ι2,ι3,ι4])
    refine Pu.use i3 ?_
    (try simp (maxSteps:=1000000) (disch:=first | assumption | (apply ν6;assumption)) only [vz,vu,vv,eqS,eF_,↓c1_,↓c2_,tabs,reduceCtorEq,ι5,↓reduceIte,ν1,ν2,ν3,ν4,ν5,ι1,ι2,ι3,ι4])
    refine Pu.use i1 ?_
    (try simp (maxSteps:=1000000) (disch:=first | assumption | (apply ν6;assumption)) only [vz,vu,vv,eqS,eF_,↓c1_,↓c2_,tabs,reduceCtorEq,ι5,↓reduceIte,ν1,ν2,ν3,ν4,ν5,ι1,ι2,ι3,ι4])
    refine Pu.use i2 ?_
    have fin:CallT Try.prog 43 [Is A,Is A] G fun v198 H21=>unV .not v198 fun v199=>condV v199 (AV.p (PV.bool false)=B true∧Heap.le H H21) (J6_0 (fun r H'=>r=B true∧Heap.le H H') (.p (.sl (more.map e8))) H21):=by
      refine Pu.use (sameInts_self A (by omega)) ?_
      (try simp (maxSteps:=1000000) (disch:=first | assumption | (apply ν6;assumption)) only [vz,vu,vv,eqS,eF_,↓c1_,↓c2_,tabs,reduceCtorEq,ι5,↓reduceIte,ν1,ν2,ν3,ν4,ν5,ι1,ι2,ι3,ι4])
      exact rest _ hle
    cases haV f s l n
    · (try simp (maxSteps:=1000000) (disch:=first | assumption | (apply ν6;assumption)) only [vz,vu,vv,eqS,eF_,↓c1_,↓c2_,tabs,reduceCtorEq,ι5,↓reduceIte,ν1,ν2,ν3,ν4,ν5,ι1,ι2,ι3,ι4])
      exact ⟨fun h=>by simp at h,fun _=>fin⟩
    · (try simp (maxSteps:=1000000) (disch:=first | assumption | (apply ν6;assumption)) only [vz,vu,vv,eqS,eF_,↓c1_,↓c2_,tabs,reduceCtorEq,ι5,↓reduceIte,ν1,ν2,ν3,ν4,ν5,ι1,ι2,ι3,ι4])
      exact ⟨fun h=>by simp at h,fun _=>fin⟩
  refine ⟨fun ho=>⟨fun hp=>?_,fun _=>rest1⟩,fun _=>rest1⟩
  obtain ⟨gl,⟨n,rfl,hn⟩,g⟩:=haR_facts ho
  obtain ⟨_,gr,_⟩:=puR_facts hp
  obtain ⟨l1,l2⟩:=goodL_f gl
  have t:=HoldsAt_impl (puR f true).1 (by omega) s l (by omega) (by omega) (n:Nat)
  rw [haR_ok gr gl hn,haV_pu hp l2.1] at t
  have i3:=IsPushed_impl (puR f true).1 (by omega)
  rw [ip_pu hp] at i3
  rw [haR_ok g gl hn] at rest1 ⊢
  refine Pu.use t ?_
  (try simp (maxSteps:=1000000) (disch:=first | assumption | (apply ν6;assumption)) only [vz,vu,vv,eqS,eF_,↓c1_,↓c2_,tabs,reduceCtorEq,ι5,↓reduceIte,ν1,ν2,ν3,ν4,ν5,ι1,ι2,ι3,ι4])
  refine Pu.use i3 ?_
  generalize haV f s l n=b at rest1 ⊢
  cases b
  · (try simp (maxSteps:=1000000) (disch:=first | assumption | (apply ν6;assumption)) only [vz,vu,vv,eqS,eF_,↓c1_,↓c2_,tabs,reduceCtorEq,ι5,↓reduceIte,ν1,ν2,ν3,ν4,ν5,ι1,ι2,ι3,ι4])
    exact ⟨fun h=>by simp at h,fun _=>rest1⟩
  · (try simp (maxSteps:=1000000) (disch:=first | assumption | (apply ν6;assumption)) only [vz,vu,vv,eqS,eF_,↓c1_,↓c2_,tabs,reduceCtorEq,ι5,↓reduceIte,ν1,ν2,ν3,ν4,ν5,ι1,ι2,ι3,ι4])
    exact ⟨fun h=>by simp at h,fun _=>rest1⟩
end Go.Proofs.Ytjdhigcefkihiaa
namespace Go.Proofs.Ytjdhigcefkihiaa.fnContrary
open Go Go.Sep Go.ChangeShapes Go.WideShapes Go.ChangeAt Go.RowKit
theorem own:ownKnob Try.prog.godebug=none:=by kernel_rfl
theorem told (avs:List AV) (h:ArgsT Try.prog [41,41] avs):CallT Try.prog 6 avs (fun _=>none) (fun v _=>v=.p (.bool true)):=by
  obtain ⟨a,b,rfl,h1,h⟩:=args_cons h
  obtain ⟨b,c,rfl,h2,h⟩:=args_cons h
  cases args_nil h
  obtain ⟨x1,hx1,rfl⟩:=arg_bytes h1
  obtain ⟨x2,hx2,rfl⟩:=arg_bytes h2
  exact (FnContrary_true hx1 hx2).use rfl
set_option maxRecDepth 100000 in
theorem lifted (os:Os) (started:os.Started) (H:Type) (enc:TypeId×Value→H) :
    ReturnsInHanded {} Try.checked os 6 .any (Rows.fnContrarySpec.pre6 enc Try.prog Try.f6 Rows.fnContraryRow.domain false) (Rows.fnContrarySpec.post enc Try.prog Try.f6 false true false false):=by
  refine returnsInHanded_of_change (C:=Try.checked) own started (by kernel_rfl) Try.func6
    (ChangeSpec.witness6 (enc:=enc) (C:=Try.checked) false ⟨#[],#[.slice none 0 0,.slice none 0 0],[]⟩ 12 (by kernel_rfl) (by kernel_rfl) (by kernel_rfl) (by kernel_rfl)) ?_
  intro W base args ds gs before hval hW _ _
  refine row_of_true (n:=12) (tb:=4) (by kernel_rfl) rfl (by kernel_rfl) (by kernel_rfl) ?_ ?_ ?_ hval hW
  · have:(Try.f6.params.toList.all fun t=>Try.prog.readableRec t && decide (t < Try.prog.types.size) && plainB Try.prog 12 t)=true:=by kernel_rfl
    intro t ht
    have:=List.all_eq_true.1 this t ht
    rw [Bool.and_eq_true,Bool.and_eq_true,decide_eq_true_eq] at this
    exact ⟨this.1.1,this.1.2,this.2⟩
  · intro ds hd
    rw [Try.params6] at hd
    match ds,hd with
    | [a,b],_=>rfl
  · rw [Try.params6]
    exact told
theorem over:Rows.fnContraryRow.holds Try.pinned (OpenSpec.ofChange Rows.fnContrarySpec):=
  OpenClaim.holds_of_wide 6 Try.f6 rfl rfl rfl rfl rfl rfl rfl ⟨rfl,rfl,rfl,rfl,rfl⟩ rfl rfl rfl rfl rfl (by kernel_rfl) Try.func6 (by kernel_rfl)
    (of_decide_eq_true (by kernel_rfl)) (by unfold Func.isWrapper;first | (rw [if_pos (by decide +kernel)];kernel_rfl) | (rw [if_neg (by decide +kernel)];exact ⟨rfl,rfl⟩))
    (fun os started H enc _=>lifted os started H enc)
theorem proved:Rows.FnContrarySaid:=
  over
#print axioms proved
end Go.Proofs.Ytjdhigcefkihiaa.fnContrary
