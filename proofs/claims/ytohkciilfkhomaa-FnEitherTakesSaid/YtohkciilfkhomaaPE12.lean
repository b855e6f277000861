/- The row of the law FnEitherTakes: whatever the arguments, it answers true, and what it is told reads as it did. -/
import Derived.Test.YtohkciilfkhomaaPE11
import Derived.Test.YtohkciilfkhomaaRows
import Derived.WalkKit
import Derived.ProofKit
import Derived.OpenShut
set_option linter.unusedVariables false
set_option linter.unusedSimpArgs false
open Nat renaming reduceAdd→ν1,reduceLeDiff→ν2,reduceLT→ν3,reduceMul→ν4,reduceSub→ν5
open Int renaming reduceToNat→ι1,reduceSub→ι2,reduceAdd→ι3,reduceNeg→ι4
open Array renaming toList→ι5
open Ne renaming symm→ν6
open List renaming forall_mem_cons→ν7
namespace Go.Proofs.Ytohkciilfkhomaa
open Go Go.Sep Go.Pt
attribute [local irreducible] CallT
theorem sm_good {a:Au} (h:goodA a=true):smAu a:=by
  have f:=good_facts h
  obtain ⟨h1,h2⟩:=f.fi
  have h3:=f.ed
  have h4:=f.gl
  refine ⟨by omega,by omega,by omega,fun c hc=>?_⟩
  have:=(f.gi c hc).2
  omega
theorem sm_zero:smAu zeroA:=⟨by simp [zeroA],by simp [zeroA],by simp [zeroA],by simp [zeroA]⟩
theorem sm_ei (a b:Au):smAu (eiR a b).1:=by
  unfold eiR
  split
  · rename_i h
    rw [Bool.and_eq_true] at h
    exact sm_good h.2
  · exact sm_zero
theorem DrawEither_spec {code:List Int} (hc:CodeC code) {H:Heap} {K:AV→Heap→Prop} (h:∀a b,smAu a→smAu b→K (.tup [aAu a,aAu b]) H):CallT Try.prog 6 [.p (.sl (code.map e8))] H K:=by
  refine CallT.fin ?_
  refine W6_ok ?_;simp (maxSteps:=1000000) (disch:=first | assumption | (apply ν6;assumption)) only [W6,vz,vu,vv,eqS,eF_,↓c1_,↓c2_,tabs,reduceCtorEq,ι5,↓reduceIte,ν1,ν2,ν3,ν4,ν5,ι1,ι2,ι3,ι4]
  intro r2 hr2 r3 n3 hr3
  have st:=((St.nil H).cell hr2 [I 0,.p .nil,.p .nil,.p .nil]).cell (r:=r3) (by rw [Heap.set_other n3];exact hr3) [I 0,.p .nil,.p .nil,.p .nil]
  have ec:(H.set r2 [AV.p (PV.int IntKind.i64 0),AV.p PV.nil,AV.p PV.nil,AV.p PV.nil]).set r3 [AV.p (PV.int IntKind.i64 0),AV.p PV.nil,AV.p PV.nil,AV.p PV.nil]=(H.set r2 [I 0,.p .nil,.p .nil,.p .nil]).set r3 [I 0,.p .nil,.p .nil,.p .nil]:=rfl
  rw [ec]
  generalize (H.set r2 [I 0,.p .nil,.p .nil,.p .nil]).set r3 [I 0,.p .nil,.p .nil,.p .nil]=G at st ⊢
  clear ec hr2 n3 hr3
  refine DrawBoth_spec hc fun a b sa sb=>?_
  (try simp (maxSteps:=1000000) (disch:=first | assumption | (apply ν6;assumption)) only [vz,vu,vv,eqS,eF_,↓c1_,↓c2_,tabs,reduceCtorEq,ι5,↓reduceIte,ν1,ν2,ν3,ν4,ν5,ι1,ι2,ι3,ι4,store_at (st.get 1 rfl)])
  replace st:=st.put 1 rfl [I a.states,Is a.first,Es a.edges,Ls a.goals]
  generalize G.set r2 [I a.states,Is a.first,Es a.edges,Ls a.goals]=G3 at st ⊢
  (try simp (maxSteps:=1000000) (disch:=first | assumption | (apply ν6;assumption)) only [vz,vu,vv,eqS,eF_,↓c1_,↓c2_,tabs,reduceCtorEq,ι5,↓reduceIte,ν1,ν2,ν3,ν4,ν5,ι1,ι2,ι3,ι4,store_at (st.get 0 rfl)])
  replace st:=st.put 0 rfl [I b.states,Is b.first,Es b.edges,Ls b.goals]
  generalize G3.set r3 [I b.states,Is b.first,Es b.edges,Ls b.goals]=G4 at st ⊢
  (try simp (maxSteps:=1000000) (disch:=first | assumption | (apply ν6;assumption)) only [vz,vu,vv,eqS,eF_,↓c1_,↓c2_,tabs,reduceCtorEq,ι5,↓reduceIte,ν1,ν2,ν3,ν4,ν5,ι1,ι2,ι3,ι4,load_at (st.get 1 rfl),load_at (st.get 0 rfl)])
  exact ⟨_,H,.forget st.le,h a b sa sb⟩
theorem FnEitherTakes_true {code more:List Int} (hb:∀b∈code,0≤b∧b < 256) (hb2:∀b∈more,0≤b∧b < 256):Pu Try.prog 3 [.p (.sl (code.map e8)),.p (.sl (more.map e8))] (B true):=by
  refine Pu.of fun H=>?_
  refine W3_ok ?_;simp (maxSteps:=1000000) (disch:=first | assumption | (apply ν6;assumption)) only [W3,vz,vu,vv,eqS,eF_,↓c1_,↓c2_,tabs,reduceCtorEq,ι5,↓reduceIte,ν1,ν2,ν3,ν4,ν5,ι1,ι2,ι3,ι4]
  refine Pu.use (bigC code more) ?_
  (try simp (maxSteps:=1000000) (disch:=first | assumption | (apply ν6;assumption)) only [vz,vu,vv,eqS,eF_,↓c1_,↓c2_,tabs,reduceCtorEq,ι5,↓reduceIte,ν1,ν2,ν3,ν4,ν5,ι1,ι2,ι3,ι4])
  intro hsz
  have hc:CodeC code:=⟨hb,by omega⟩
  have hc2:CodeC more:=⟨hb2,by omega⟩
  refine DrawEither_spec hc fun a b sa sb=>?_
  (try simp (maxSteps:=1000000) (disch:=first | assumption | (apply ν6;assumption)) only [vz,vu,vv,eqS,eF_,↓c1_,↓c2_,tabs,reduceCtorEq,ι5,↓reduceIte,ν1,ν2,ν3,ν4,ν5,ι1,ι2,ι3,ι4])
  intro r5 hr5 r6 n6 hr6
  have st:=((St.nil H).cell hr5 [I 0,.p .nil,.p .nil,.p .nil]).cell (r:=r6) (by rw [Heap.set_other n6];exact hr6) [I 0,.p .nil,.p .nil,.p .nil]
  have ec:(H.set r5 [AV.p (PV.int IntKind.i64 0),AV.p PV.nil,AV.p PV.nil,AV.p PV.nil]).set r6 [AV.p (PV.int IntKind.i64 0),AV.p PV.nil,AV.p PV.nil,AV.p PV.nil]=(H.set r5 [I 0,.p .nil,.p .nil,.p .nil]).set r6 [I 0,.p .nil,.p .nil,.p .nil]:=rfl
  rw [ec]
  generalize (H.set r5 [I 0,.p .nil,.p .nil,.p .nil]).set r6 [I 0,.p .nil,.p .nil,.p .nil]=G at st ⊢
  clear ec hr5 n6 hr6
  (try simp (maxSteps:=1000000) (disch:=first | assumption | (apply ν6;assumption)) only [vz,vu,vv,eqS,eF_,↓c1_,↓c2_,tabs,reduceCtorEq,ι5,↓reduceIte,ν1,ν2,ν3,ν4,ν5,ι1,ι2,ι3,ι4,store_at (st.get 1 rfl)])
  replace st:=st.put 1 rfl [I a.states,Is a.first,Es a.edges,Ls a.goals]
  generalize G.set r5 [I a.states,Is a.first,Es a.edges,Ls a.goals]=G3 at st ⊢
  (try simp (maxSteps:=1000000) (disch:=first | assumption | (apply ν6;assumption)) only [vz,vu,vv,eqS,eF_,↓c1_,↓c2_,tabs,reduceCtorEq,ι5,↓reduceIte,ν1,ν2,ν3,ν4,ν5,ι1,ι2,ι3,ι4,store_at (st.get 0 rfl)])
  replace st:=st.put 0 rfl [I b.states,Is b.first,Es b.edges,Ls b.goals]
  generalize G3.set r6 [I b.states,Is b.first,Es b.edges,Ls b.goals]=G4 at st ⊢
  (try simp (maxSteps:=1000000) (disch:=first | assumption | (apply ν6;assumption)) only [vz,vu,vv,eqS,eF_,↓c1_,↓c2_,tabs,reduceCtorEq,ι5,↓reduceIte,ν1,ν2,ν3,ν4,ν5,ι1,ι2,ι3,ι4,load_at (st.get 1 rfl),load_at (st.get 0 rfl)])
  refine Pu.use (aus_val (Either_impl a b sa sb)) ?_
  obtain ⟨m,hm⟩:∃m,(eiR a b).1=m:=⟨_,rfl⟩
  obtain ⟨ok,hok⟩:∃ok,(eiR a b).2=ok:=⟨_,rfl⟩
  have sm:=sm_ei a b
  have href:=aus_val (Either_ref a b sa sb)
  rw [hm] at sm href ⊢
  rw [hok] at href ⊢
  (try simp (maxSteps:=1000000) (disch:=first | assumption | (apply ν6;assumption)) only [vz,vu,vv,eqS,eF_,↓c1_,↓c2_,tabs,reduceCtorEq,ι5,↓reduceIte,ν1,ν2,ν3,ν4,ν5,ι1,ι2,ι3,ι4])
  intro r7 hr7
  replace st:=st.cell hr7 [I m.states,Is m.first,Es m.edges,Ls m.goals]
  generalize G4.set r7 [I m.states,Is m.first,Es m.edges,Ls m.goals]=G5 at st ⊢
  clear hr7
  (try simp (maxSteps:=1000000) (disch:=first | assumption | (apply ν6;assumption)) only [vz,vu,vv,eqS,eF_,↓c1_,↓c2_,tabs,reduceCtorEq,ι5,↓reduceIte,ν1,ν2,ν3,ν4,ν5,ι1,ι2,ι3,ι4,load_at (st.get 2 rfl),load_at (st.get 1 rfl)])
  refine Pu.use href ?_
  (try simp (maxSteps:=1000000) (disch:=first | assumption | (apply ν6;assumption)) only [vz,vu,vv,eqS,eF_,↓c1_,↓c2_,tabs,reduceCtorEq,ι5,↓reduceIte,ν1,ν2,ν3,ν4,ν5,ι1,ι2,ι3,ι4])
  intro r9 hr9
  replace st:=st.cell hr9 [I m.states,Is m.first,Es m.edges,Ls m.goals]
  generalize G5.set r9 [I m.states,Is m.first,Es m.edges,Ls m.goals]=G6 at st ⊢
  clear hr9
  (try simp (maxSteps:=1000000) (disch:=first | assumption | (apply ν6;assumption)) only [vz,vu,vv,eqS,eF_,↓c1_,↓c2_,tabs,reduceCtorEq,ι5,↓reduceIte,ν1,ν2,ν3,ν4,ν5,ι1,ι2,ι3,ι4,load_at (st.get 1 rfl),load_at (st.get 0 rfl)])
  refine Pu.use (sameAuto_self m sm) ?_
  (try simp (maxSteps:=1000000) (disch:=first | assumption | (apply ν6;assumption)) only [vz,vu,vv,eqS,eF_,↓c1_,↓c2_,tabs,reduceCtorEq,ι5,↓reduceIte,ν1,ν2,ν3,ν4,ν5,ι1,ι2,ι3,ι4])
  refine DrawTakes_spec hc2 fun c s l sc hs hl=>?_
  (try simp (maxSteps:=1000000) (disch:=first | assumption | (apply ν6;assumption)) only [vz,vu,vv,eqS,eF_,↓c1_,↓c2_,tabs,reduceCtorEq,ι5,↓reduceIte,ν1,ν2,ν3,ν4,ν5,ι1,ι2,ι3,ι4])
  intro r11 hr11 r12 n12 hr12
  replace st:=(st.cell hr11 [I 0,.p .nil,.p .nil,.p .nil]).cell (r:=r12) (by rw [Heap.set_other n12];exact hr12) [.p .nil,.p .nil]
  have ec:(G6.set r11 [AV.p (PV.int IntKind.i64 0),AV.p PV.nil,AV.p PV.nil,AV.p PV.nil]).set r12 [AV.p PV.nil,AV.p PV.nil]=(G6.set r11 [I 0,.p .nil,.p .nil,.p .nil]).set r12 [.p .nil,.p .nil]:=rfl
  rw [ec]
  generalize (G6.set r11 [I 0,.p .nil,.p .nil,.p .nil]).set r12 [.p .nil,.p .nil]=G7 at st ⊢
  clear ec hr11 n12 hr12
  (try simp (maxSteps:=1000000) (disch:=first | assumption | (apply ν6;assumption)) only [vz,vu,vv,eqS,eF_,↓c1_,↓c2_,tabs,reduceCtorEq,ι5,↓reduceIte,ν1,ν2,ν3,ν4,ν5,ι1,ι2,ι3,ι4,store_at (st.get 1 rfl)])
  replace st:=st.put 1 rfl [I c.states,Is c.first,Es c.edges,Ls c.goals]
  generalize G7.set r11 [I c.states,Is c.first,Es c.edges,Ls c.goals]=G8 at st ⊢
  (try simp (maxSteps:=1000000) (disch:=first | assumption | (apply ν6;assumption)) only [vz,vu,vv,eqS,eF_,↓c1_,↓c2_,tabs,reduceCtorEq,ι5,↓reduceIte,ν1,ν2,ν3,ν4,ν5,ι1,ι2,ι3,ι4,store_at (st.get 0 rfl)])
  replace st:=st.put 0 rfl [Is s,Is l]
  generalize G8.set r12 [Is s,Is l]=G9 at st ⊢
  have hle:=st.le
  cases ok
  · (try simp (maxSteps:=1000000) (disch:=first | assumption | (apply ν6;assumption)) only [vz,vu,vv,eqS,eF_,↓c1_,↓c2_,tabs,reduceCtorEq,ι5,↓reduceIte,ν1,ν2,ν3,ν4,ν5,ι1,ι2,ι3,ι4])
    exact hle
  (try simp (maxSteps:=1000000) (disch:=first | assumption | (apply ν6;assumption)) only [vz,vu,vv,eqS,eF_,↓c1_,↓c2_,tabs,reduceCtorEq,ι5,↓reduceIte,ν1,ν2,ν3,ν4,ν5,ι1,ι2,ι3,ι4,load_at (st.get 0 rfl)])
  refine Pu.use (GoodLasso_any s l (by omega) (by omega)) ?_
  cases gl:goodL s l
  · (try simp (maxSteps:=1000000) (disch:=first | assumption | (apply ν6;assumption)) only [vz,vu,vv,eqS,eF_,↓c1_,↓c2_,tabs,reduceCtorEq,ι5,↓reduceIte,ν1,ν2,ν3,ν4,ν5,ι1,ι2,ι3,ι4])
    exact hle
  have hg:(goodA a=true∧goodA b=true)∧goodA (eiT a b)=true∧m=eiT a b:=by
    unfold eiR at hok hm
    split at hok
    · rename_i h
      rw [Bool.and_eq_true,Bool.and_eq_true] at h
      rw [if_pos (by rw [Bool.and_eq_true,Bool.and_eq_true];exact h)] at hm
      exact ⟨h.1,h.2,hm.symm⟩
    · cases hok
  obtain ⟨⟨ga,gb⟩,gm,rfl⟩:=hg
  obtain ⟨b1,b2⟩:=goodL_f gl
  have t1:=TakesWord_impl a sa s l (by omega) (by omega)
  have t2:=TakesWord_impl b sb s l (by omega) (by omega)
  have t3:=TakesWord_impl (eiT a b) sm s l (by omega) (by omega)
  have k1:twR a s l=(twF (wpA a s l),true):=by simp [twR,ga,gl]
  have k2:twR b s l=(twF (wpA b s l),true):=by simp [twR,gb,gl]
  have k3:twR (eiT a b) s l=(twF (wpA a s l) || twF (wpA b s l),true):=by
    rw [← takes_ei ga gb gm b1 b2];simp [twR,gm,gl]
  rw [k1] at t1
  rw [k2] at t2
  rw [k3] at t3
  (try simp (maxSteps:=1000000) (disch:=first | assumption | (apply ν6;assumption)) only [vz,vu,vv,eqS,eF_,↓c1_,↓c2_,tabs,reduceCtorEq,ι5,↓reduceIte,ν1,ν2,ν3,ν4,ν5,ι1,ι2,ι3,ι4,load_at (st.get 0 rfl),load_at (st.get 5 rfl)])
  refine Pu.use t1 ?_
  (try simp (maxSteps:=1000000) (disch:=first | assumption | (apply ν6;assumption)) only [vz,vu,vv,eqS,eF_,↓c1_,↓c2_,tabs,reduceCtorEq,ι5,↓reduceIte,ν1,ν2,ν3,ν4,ν5,ι1,ι2,ι3,ι4,load_at (st.get 0 rfl),load_at (st.get 4 rfl)])
  refine Pu.use t2 ?_
  (try simp (maxSteps:=1000000) (disch:=first | assumption | (apply ν6;assumption)) only [vz,vu,vv,eqS,eF_,↓c1_,↓c2_,tabs,reduceCtorEq,ι5,↓reduceIte,ν1,ν2,ν3,ν4,ν5,ι1,ι2,ι3,ι4,load_at (st.get 0 rfl),load_at (st.get 3 rfl)])
  refine Pu.use t3 ?_
  (try simp (maxSteps:=1000000) (disch:=first | assumption | (apply ν6;assumption)) only [vz,vu,vv,eqS,eF_,↓c1_,↓c2_,tabs,reduceCtorEq,ι5,↓reduceIte,ν1,ν2,ν3,ν4,ν5,ι1,ι2,ι3,ι4])
  exact ⟨fun h=>⟨by simp [h],hle⟩,fun h=>⟨by simp [h],hle⟩⟩
end Go.Proofs.Ytohkciilfkhomaa
namespace Go.Proofs.Ytohkciilfkhomaa.fnEitherTakes
open Go Go.Sep Go.ChangeShapes Go.WideShapes Go.ChangeAt Go.RowKit
theorem own:ownKnob Try.prog.godebug=none:=by kernel_rfl
theorem told (avs:List AV) (h:ArgsT Try.prog [22,22] avs):CallT Try.prog 3 avs (fun _=>none) (fun v _=>v=.p (.bool true)):=by
  obtain ⟨a,b,rfl,h1,h⟩:=args_cons h
  obtain ⟨b,c,rfl,h2,h⟩:=args_cons h
  cases args_nil h
  obtain ⟨x1,hx1,rfl⟩:=arg_bytes h1
  obtain ⟨x2,hx2,rfl⟩:=arg_bytes h2
  exact (FnEitherTakes_true hx1 hx2).use rfl
set_option maxRecDepth 100000 in
theorem lifted (os:Os) (started:os.Started) (H:Type) (enc:TypeId×Value→H) :
    ReturnsInHanded {} Try.checked os 3 .any (Rows.fnEitherTakesSpec.pre6 enc Try.prog Try.f3 Rows.fnEitherTakesRow.domain false) (Rows.fnEitherTakesSpec.post enc Try.prog Try.f3 false true false false):=by
  refine returnsInHanded_of_change (C:=Try.checked) own started (by kernel_rfl) Try.func3
    (ChangeSpec.witness6 (enc:=enc) (C:=Try.checked) false ⟨#[],#[.slice none 0 0,.slice none 0 0],[]⟩ 12 (by kernel_rfl) (by kernel_rfl) (by kernel_rfl) (by kernel_rfl)) ?_
  intro W base args ds gs before hval hW _ _
  refine row_of_true (n:=12) (tb:=4) (by kernel_rfl) rfl (by kernel_rfl) (by kernel_rfl) ?_ ?_ ?_ hval hW
  · have:(Try.f3.params.toList.all fun t=>Try.prog.readableRec t && decide (t < Try.prog.types.size) && plainB Try.prog 12 t)=true:=by kernel_rfl
    intro t ht
    have:=List.all_eq_true.1 this t ht
    rw [Bool.and_eq_true,Bool.and_eq_true,decide_eq_true_eq] at this
    exact ⟨this.1.1,this.1.2,this.2⟩
  · intro ds hd
    rw [Try.params3] at hd
    match ds,hd with
    | [a,b],_=>rfl
  · rw [Try.params3]
    exact told
theorem over:Rows.fnEitherTakesRow.holds Try.pinned (OpenSpec.ofChange Rows.fnEitherTakesSpec):=
  OpenClaim.holds_of_wide 3 Try.f3 rfl rfl rfl rfl rfl rfl rfl ⟨rfl,rfl,rfl,rfl,rfl⟩ rfl rfl rfl rfl rfl (by kernel_rfl) Try.func3 (by kernel_rfl)
    (of_decide_eq_true (by kernel_rfl)) (by unfold Func.isWrapper;first | (rw [if_pos (by decide +kernel)];kernel_rfl) | (rw [if_neg (by decide +kernel)];exact ⟨rfl,rfl⟩))
    (fun os started H enc _=>lifted os started H enc)
theorem proved:Rows.FnEitherTakesSaid:=
  over
#print axioms proved
end Go.Proofs.Ytohkciilfkhomaa.fnEitherTakes
