/- Sep, part 12: regions made short. -/
import Derived.Test.YthlbkcgnacemgaaSep11
namespace Go.Sep
open Go Go.RowKit

/-- An operation of a region, made short: its guard's slot, where it puts its value, what it does. -/
inductive XOp where
  | run (d : Option Nat) (o : Op)
  | guarded (g : Nat) (want : Bool) (d : Option Nat) (o : Op)
  | bad

def xop (ops : Array Oper) (o : Oper) : XOp :=
  match o.guard with
  | none => .run o.dst o.op
  | some (j, want) => match guardSlot ops j with
    | some g => .guarded g want o.dst o.op
    | none => .bad

/-- Two ways of a guard. -/
def gd (b want : Bool) (A B : Prop) : Prop := (b = want → A) ∧ (b = (!want) → B)
theorem gd_tt {A B : Prop} : gd true true A B = A := by simp [gd]
theorem gd_ff {A B : Prop} : gd false false A B = A := by simp [gd]
theorem gd_tf {A B : Prop} : gd true false A B = B := by simp [gd]
theorem gd_ft {A B : Prop} : gd false true A B = B := by simp [gd]
theorem gd.of {b want : Bool} {A B : Prop} (h : b = want → A) (k : b = (!want) → B) : gd b want A B := ⟨h, k⟩

def vcX (P : Program) (tab : Tab) (Q : List AV → Heap → Prop) : List XOp → List AV → Heap → Prop
  | [], env, H => Q env H
  | .run d o :: rest, env, H => opV P tab o env H fun v H' => vcX P tab Q rest (setD env d v) H'
  | .guarded g want d o :: rest, env, H =>
    match env.getD g .any with
    | .p (.bool b) =>
      gd b want (opV P tab o (env.set g (.p (.bool want))) H fun v H' => vcX P tab Q rest (setD (env.set g (.p (.bool want))) d v) H')
        (vcX P tab Q rest (setD (env.set g (.p (.bool (!want)))) d .und) H)
    | .tup [] => vcX P tab Q rest (setD env d .und) H
    | _ => False
  | .bad :: _, _, _ => False

theorem opV_mono {P : Program} {tab : Tab} {o : Op} {env : List AV} {H : Heap} {K K' : AV → Heap → Prop} (h : opV P tab o env H K) (e : K = K') : opV P tab o env H K' := e ▸ h

theorem vcX_vcO {P : Program} {tab : Tab} {ops : Array Oper} {Q : List AV → Heap → Prop} : ∀ (l : List Oper) (env : List AV) (H : Heap), vcX P tab Q (l.map (xop ops)) env H → vcO P tab ops Q l env H := by
  intro l env H h
  have key : ∀ (l : List Oper), (fun env H => vcX P tab Q (l.map (xop ops)) env H) = fun env H => vcO P tab ops Q l env H := by
    intro l
    induction l with
    | nil => rfl
    | cons o l ih =>
      funext env H
      have ih' : ∀ env H, vcX P tab Q (l.map (xop ops)) env H = vcO P tab ops Q l env H := fun env H => congrFun (congrFun ih env) H
      simp only [List.map_cons, vcO]
      cases hg : o.guard with
      | none => simp only [xop, hg, vcX, ih']
      | some p =>
        obtain ⟨j, want⟩ := p
        cases hs : guardSlot ops j with
        | none => simp only [xop, hg, hs, vcX]
        | some g => simp only [xop, hg, hs, vcX, ih', gd]; rfl
  have := congrFun (congrFun (key l) env) H
  exact this ▸ h

theorem CT.regX {P : Program} {tab : Tab} (hT : tab.Ok P) {id : Nat} {ops : Array Oper} {Q : Post} {env : List AV} {H : Heap} {l : List XOp} (hl : ops.toList.map (xop ops) = l)
    (h : vcX P tab (Q .normal) l env H) : CT P (.region id ops false) Q env H :=
  CT.region hT (vcX_vcO _ _ _ (by rw [hl]; exact h))

/-- A region, and then the rest. -/
theorem CT.seqX {P : Program} {tab : Tab} (hT : tab.Ok P) {id : Nat} {ops : Array Oper} {y : Code} {Q : Post} {env : List AV} {H : Heap} {l : List XOp} (hl : ops.toList.map (xop ops) = l)
    (h : vcX P tab (fun env H => CT P y Q env H) l env H) : CT P (.seq (.region id ops false) y) Q env H :=
  CT.seq (CT.regX hT hl h)

/-! ### Code made short -/
inductive XC where
  | skip
  | reg (l : List XOp)
  | draw (l : List (XOp × List Nat))
  | seq (a b : XC)
  | cond (c : Operand) (a b : XC)
  | block (id : Nat) (a : XC)
  | loop (a : XC)
  | exit (id : Nat)
  | ret
  | bad

def edgesOf (o : Oper) : List Nat := (o.after.toList.filter fun e => Region.binds .any e).map (·.on)

def compile : Code → XC
  | .skip => .skip
  | .region _ ops false => .reg (ops.toList.map (xop ops))
  | .region _ ops true => .draw (ops.toList.map fun o => (xop ops o, edgesOf o))
  | .seq a b => .seq (compile a) (compile b)
  | .cond c a b => .cond c (compile a) (compile b)
  | .block id a => .block id (compile a)
  | .loop a => .loop (compile a)
  | .exit id => .exit id
  | .ret => .ret
  | _ => .bad

/-- Code of this short form, run where the slots hold 'env' and the live blocks are H, ends as Q says. -/
def CX (P : Program) (x : XC) (Q : Post) (env : List AV) (H : Heap) : Prop := ∀ c, compile c = x → CT P c Q env H

section
variable {P : Program} {tab : Tab} {Q : Post} {env : List AV} {H : Heap}

theorem compile_skip {c : Code} (h : compile c = .skip) : c = .skip := by
  unfold compile at h; split at h <;> first | rfl | cases h
theorem compile_ret {c : Code} (h : compile c = .ret) : c = .ret := by
  unfold compile at h; split at h <;> first | rfl | cases h
theorem compile_exit {c : Code} {i : Nat} (h : compile c = .exit i) : c = .exit i := by
  unfold compile at h; split at h <;> cases h; rfl
theorem compile_seq {c : Code} {x y : XC} (h : compile c = .seq x y) : ∃ a b, c = .seq a b ∧ compile a = x ∧ compile b = y := by
  unfold compile at h; split at h <;> cases h; exact ⟨_, _, rfl, rfl, rfl⟩
theorem compile_cond {c : Code} {o : Operand} {x y : XC} (h : compile c = .cond o x y) : ∃ a b, c = .cond o a b ∧ compile a = x ∧ compile b = y := by
  unfold compile at h; split at h <;> cases h; exact ⟨_, _, rfl, rfl, rfl⟩
theorem compile_block {c : Code} {i : Nat} {x : XC} (h : compile c = .block i x) : ∃ a, c = .block i a ∧ compile a = x := by
  unfold compile at h; split at h <;> cases h; exact ⟨_, rfl, rfl⟩
theorem compile_loop {c : Code} {x : XC} (h : compile c = .loop x) : ∃ a, c = .loop a ∧ compile a = x := by
  unfold compile at h; split at h <;> cases h; exact ⟨_, rfl, rfl⟩
theorem compile_reg {c : Code} {l : List XOp} (h : compile c = .reg l) : ∃ id ops, c = .region id ops false ∧ ops.toList.map (xop ops) = l := by
  unfold compile at h; split at h <;> cases h; exact ⟨_, _, rfl, rfl⟩
theorem compile_draw {c : Code} {l : List (XOp × List Nat)} (h : compile c = .draw l) : ∃ id ops, c = .region id ops true ∧ (ops.toList.map fun o => (xop ops o, edgesOf o)) = l := by
  unfold compile at h; split at h <;> cases h; exact ⟨_, _, rfl, rfl⟩

theorem CX.mono {x : XC} {Q' : Post} (h : CX P x Q env H) (k : ∀ e env' H', Q e env' H' → Q' e env' H') : CX P x Q' env H := fun c hc => (h c hc).mono k

theorem CX.skip (h : Q .normal env H) : CX P .skip Q env H := by
  intro c hc; obtain rfl := compile_skip hc; exact CT.skip h
theorem CX.ret (h : Q .ret env H) : CX P .ret Q env H := by
  intro c hc; obtain rfl := compile_ret hc; exact CT.ret h
theorem CX.exit {i : Nat} (h : Q (.exit i) env H) : CX P (.exit i) Q env H := by
  intro c hc; obtain rfl := compile_exit hc; exact CT.exit h

def Post.thenX (P : Program) (y : XC) (Q : Post) : Post
  | .normal, env, H => CX P y Q env H
  | e, env, H => Q e env H

theorem CX.seq {x y : XC} (h : CX P x (Post.thenX P y Q) env H) : CX P (.seq x y) Q env H := by
  intro c hc
  obtain ⟨a, b, rfl, ha, hb⟩ := compile_seq hc
  refine CT.seq ((h a ha).mono ?_)
  intro e env' H' hq
  cases e <;> first | exact hq b hb | exact hq

theorem CX.cond {c : Operand} {x y : XC} {b : Bool} (hc : ev env c = .p (.bool b)) (ht : b = true → CX P x Q env H) (hf : b = false → CX P y Q env H) : CX P (.cond c x y) Q env H := by
  intro c' hc'
  obtain ⟨a, d, rfl, ha, hd⟩ := compile_cond hc'
  exact CT.cond hc (fun e => ht e _ ha) (fun e => hf e _ hd)

theorem CX.block {id : Nat} {x : XC} (h : CX P x (Post.block id Q) env H) : CX P (.block id x) Q env H := by
  intro c hc
  obtain ⟨a, rfl, ha⟩ := compile_block hc
  exact CT.block (h _ ha)

theorem CX.loop {x : XC} {σ : Type} (I : σ → List AV → Heap → Prop) (μ : σ → Nat) (s0 : σ) (h0 : I s0 env H)
    (round : ∀ s env H, I s env H → CX P x (fun e env' H' => match e with
      | .normal => ∃ s', I s' env' H' ∧ μ s' < μ s
      | e => Q e env' H') env H) : CX P (.loop x) Q env H := by
  intro c hc
  obtain ⟨a, rfl, ha⟩ := compile_loop hc
  exact CT.loop I μ s0 h0 fun s env H hI => round s env H hI _ ha

theorem CX.reg (hT : tab.Ok P) {l : List XOp} (h : vcX P tab (Q .normal) l env H) : CX P (.reg l) Q env H := by
  intro c hc
  obtain ⟨id, ops, rfl, hl⟩ := compile_reg hc
  exact CT.regX hT hl h

/-- A region and then the rest. -/
theorem CX.regs (hT : tab.Ok P) {l : List XOp} {y : XC} (h : vcX P tab (fun env H => CX P y Q env H) l env H) : CX P (.seq (.reg l) y) Q env H :=
  CX.seq (CX.reg hT h)

theorem CX.weak {x : XC} {env' : List AV} {H' : Heap} (hl : env'.length = env.length)
    (he : ∀ (i : Nat) (v v' : AV), env[i]? = some v → env'[i]? = some v' → AV.wk v v') (hH : Heap.le H' H) (h : CX P x Q env' H') : CX P x Q env H :=
  fun c hc => CT.weak hl he hH (h c hc)
end

theorem CallT.of_x {P : Program} {tab : Tab} (hT : tab.Ok P) {f : Nat} {fn : Func} (hf : P.funcs[f]? = some fn) {x : XC} (hx : (fn.body.map compile) = some x) (hn : (fn.name == "runtime.NumGoroutine") = false)
    {nt : Nat} (hnt : fn.ntmps = nt) {rs : Array ResultVar} (hrs : fn.results = rs)
    {args : List AV} {H : Heap} {K : AV → Heap → Prop} (h : CX P x (retQ tab rs.toList K) (args ++ List.replicate (nt - args.length) .any) H) : CallT P f args H K := by
  cases hb : fn.body with
  | none => rw [hb] at hx; cases hx
  | some c =>
    rw [hb] at hx
    simp only [Option.map_some, Option.some.injEq] at hx
    subst hnt; subst hrs
    exact CallT.of_body hT hf hb hn (h c hx)

end Go.Sep
