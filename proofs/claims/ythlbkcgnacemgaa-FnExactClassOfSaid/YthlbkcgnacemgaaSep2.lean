/- Sep, part 2: the triples for calls and code, and the rules for control. -/
import Derived.Test.YthlbkcgnacemgaaSep1
namespace Go.Sep
open Go Go.RowKit

def EnvRel (Z : Fro) (φ : Pm) (env : List AV) (tmps : Array Value) : Prop :=
  tmps.size = env.length ∧ ∀ (i : Nat) (av : AV) (x : Value), env[i]? = some av → tmps[i]? = some x → Cv Z φ av x

theorem EnvRel.mono {Z Z' : Fro} {φ φ' : Pm} {env : List AV} {tmps : Array Value} (hZ : Fro.le Z Z') (hφ : Pm.le φ φ') (h : EnvRel Z φ env tmps) : EnvRel Z' φ' env tmps :=
  ⟨h.1, fun i av x hi hx => (h.2 i av x hi hx).mono hZ hφ⟩

theorem EnvRel.set {Z : Fro} {φ : Pm} {env : List AV} {tmps : Array Value} (h : EnvRel Z φ env tmps) (d : Nat) {av : AV} {x : Value} (hc : Cv Z φ av x) :
    EnvRel Z φ (env.set d av) (tmps.setIfInBounds d x) := by
  refine ⟨by simpa using h.1, ?_⟩
  intro i bv y hi hy
  by_cases e : d = i
  · subst e
    have hd : d < env.length := by
      have := (List.getElem?_eq_some_iff.1 hi).1; simpa using this
    rw [List.getElem?_set_self hd] at hi
    cases hi
    rw [Array.getElem?_setIfInBounds_self] at hy
    split at hy
    · cases hy; exact hc
    · cases hy
  · rw [List.getElem?_set_ne e] at hi
    rw [Array.getElem?_setIfInBounds_ne (Ne.symm (Ne.symm e))] at hy
    exact h.2 i bv y hi hy

def constA : Value → AV
  | .int k n => .p (.int k n)
  | .bool b => .p (.bool b)
  | .string s => .p (.str s)
  | .slice none 0 0 => .p .nil
  | .pointer none => .nilp
  | .nilFunc => .nilfn
  | _ => .any

theorem constA_ok (Z : Fro) (φ : Pm) (v : Value) : Cv Z φ (constA v) v := by
  unfold constA
  split
  · exact .p (.int _ _)
  · exact .p (.bool _)
  · exact .p (.str _)
  · exact .p .nil
  · exact .nilp
  · exact .nilfn
  · exact .any _

def ev (env : List AV) : Operand → AV
  | .tmp t => env.getD t .any
  | .const v => constA v
  | .global _ => .any
  | .func f => .fn f []

theorem ev_ok {Z : Fro} {φ : Pm} {env : List AV} {a : Act} (h : EnvRel Z φ env a.tmps) (o : Operand) : Cv Z φ (ev env o) (a.eval o) := by
  cases o with
  | tmp t =>
    simp only [ev, Act.eval]
    by_cases hl : t < env.length
    · have h1 : env[t]? = some env[t] := List.getElem?_eq_getElem hl
      have hl2 : t < a.tmps.size := Nat.lt_of_lt_of_eq hl h.1.symm
      have h2 : a.tmps[t]? = some a.tmps[t] := Array.getElem?_eq_getElem hl2
      have := h.2 t _ _ h1 h2
      simpa [List.getD, h1, h2, Array.getD_eq_getD_getElem?] using this
    · have h1 : env[t]? = none := List.getElem?_eq_none (Nat.le_of_not_lt hl)
      simp only [List.getD, h1, Option.getD_none]
      exact .any _
  | const v => exact constA_ok _ _ v
  | global g => exact .any _
  | func f => exact .fn f [] #[] rfl (fun i av x hi => by simp at hi)

structure Rel (B0 : Nat) (w0 : World) (F : Heap) (Z : Fro) (φ : Pm) (H : Heap) (env : List AV) (a : Act) (w : World) : Prop where
  disj : Disj H F
  sim : Sim Z φ B0 w0 (H.or F) w
  env : EnvRel Z φ env a.tmps
  defers : a.defers = []

/-- What holds behind a piece of code. -/
def Up (B0 : Nat) (w0 : World) (F : Heap) (Z : Fro) (φ : Pm) (T : List AV → Heap → Prop) (a : Act) (w : World) : Prop :=
  ∃ env H Z' φ', T env H ∧ Fro.le Z Z' ∧ Pm.le φ φ' ∧ Rel B0 w0 F Z' φ' H env a w

theorem Up.mono {B0 : Nat} {w0 : World} {F : Heap} {Z : Fro} {φ : Pm} {T T' : List AV → Heap → Prop} {a : Act} {w : World} (h : Up B0 w0 F Z φ T a w) (k : ∀ env H, T env H → T' env H) : Up B0 w0 F Z φ T' a w :=
  let ⟨env, H, Z', φ', t, hz, hp, r⟩ := h
  ⟨env, H, Z', φ', k _ _ t, hz, hp, r⟩

abbrev Post := Exit → List AV → Heap → Prop

/-- Code, run where the slots hold 'env' and the live blocks are H, ends as Q says. -/
def CT (P : Program) (c : Code) (Q : Post) (env : List AV) (H : Heap) : Prop :=
  ∀ B0 w0 F Z φ a w, Rel B0 w0 F Z φ H env a w → c.wp P (fun e a' w' => Up B0 w0 F Z φ (Q e) a' w') a w

def HasBody (P : Program) (f : Nat) : Prop := ∃ fn c, P.funcs[f]? = some fn ∧ fn.body = some c ∧ (fn.name == "runtime.NumGoroutine") = false

def ArgsRel (Z : Fro) (φ : Pm) (args : List AV) (xs : Array Value) : Prop :=
  xs.size = args.length ∧ ∀ (i : Nat) (av : AV) (x : Value), args[i]? = some av → xs[i]? = some x → Cv Z φ av x

/-- What holds behind a call. -/
def UpV (B0 : Nat) (w0 : World) (F : Heap) (Z : Fro) (φ : Pm) (K : AV → Heap → Prop) (x : Value) (w : World) : Prop :=
  ∃ v H Z' φ', K v H ∧ Fro.le Z Z' ∧ Pm.le φ φ' ∧ Disj H F ∧ Sim Z' φ' B0 w0 (H.or F) w ∧ Cv Z' φ' v x

theorem UpV.mono {B0 : Nat} {w0 : World} {F : Heap} {Z : Fro} {φ : Pm} {K K' : AV → Heap → Prop} {x : Value} {w : World} (h : UpV B0 w0 F Z φ K x w) (k : ∀ v H, K v H → K' v H) : UpV B0 w0 F Z φ K' x w :=
  let ⟨v, H, Z', φ', t, r⟩ := h
  ⟨v, H, Z', φ', k _ _ t, r⟩

/-- A call of function f returns, and its result and the live blocks are as Q says. -/
def CallT (P : Program) (f : Nat) (args : List AV) (H : Heap) (Q : AV → Heap → Prop) : Prop :=
  HasBody P f ∧ ∀ B0 w0 F Z φ w xs, Disj H F → Sim Z φ B0 w0 (H.or F) w → ArgsRel Z φ args xs →
    Calls P f xs w (fun e w' => ∃ x, e = .returned x ∧ UpV B0 w0 F Z φ Q x w')

theorem CallT.mono {P : Program} {f : Nat} {args : List AV} {H : Heap} {Q Q' : AV → Heap → Prop} (h : CallT P f args H Q) (k : ∀ v H', Q v H' → Q' v H') : CallT P f args H Q' :=
  ⟨h.1, fun B0 w0 F Z φ w xs hd hs ha => (h.2 B0 w0 F Z φ w xs hd hs ha).mono fun _ _ ⟨x, e, u⟩ => ⟨x, e, u.mono k⟩⟩

theorem CT.mono {P : Program} {c : Code} {Q Q' : Post} {env : List AV} {H : Heap} (h : CT P c Q env H) (k : ∀ e env' H', Q e env' H' → Q' e env' H') : CT P c Q' env H :=
  fun B0 w0 F Z φ a w r => wp_mono (h B0 w0 F Z φ a w r) fun e _ _ u => u.mono (k e)

/-! ### Control -/
theorem CT.skip {P : Program} {Q : Post} {env : List AV} {H : Heap} (h : Q .normal env H) : CT P .skip Q env H :=
  fun _ _ _ Z φ _ _ r => wp_skip ⟨env, H, Z, φ, h, Fro.le_refl _, Pm.le_refl _, r⟩
theorem CT.label {P : Program} {Q : Post} {env : List AV} {H : Heap} {l : Nat} (h : Q .normal env H) : CT P (.label l) Q env H :=
  fun _ _ _ Z φ _ _ r => wp_label ⟨env, H, Z, φ, h, Fro.le_refl _, Pm.le_refl _, r⟩
theorem CT.exit {P : Program} {Q : Post} {env : List AV} {H : Heap} {i : Nat} (h : Q (.exit i) env H) : CT P (.exit i) Q env H :=
  fun _ _ _ Z φ _ _ r => wp_exit ⟨env, H, Z, φ, h, Fro.le_refl _, Pm.le_refl _, r⟩
theorem CT.ret {P : Program} {Q : Post} {env : List AV} {H : Heap} (h : Q .ret env H) : CT P .ret Q env H :=
  fun _ _ _ Z φ _ _ r => wp_ret ⟨env, H, Z, φ, h, Fro.le_refl _, Pm.le_refl _, r⟩

/-- What code behind another piece is asked for. -/
def Post.then (P : Program) (y : Code) (Q : Post) : Post
  | .normal, env, H => CT P y Q env H
  | e, env, H => Q e env H

theorem CT.seq {P : Program} {x y : Code} {Q : Post} {env : List AV} {H : Heap} (h : CT P x (Post.then P y Q) env H) : CT P (.seq x y) Q env H := by
  intro B0 w0 F Z φ a w r
  refine wp_seq (wp_mono (h B0 w0 F Z φ a w r) ?_)
  intro e a' w' u
  obtain ⟨env', H', Z', φ', t, hz, hp, r'⟩ := u
  cases e with
  | normal =>
    refine wp_mono (t B0 w0 F Z' φ' a' w' r') ?_
    rintro e2 a2 w2 ⟨env2, H2, Z2, φ2, t2, hz2, hp2, r2⟩
    exact ⟨env2, H2, Z2, φ2, t2, Fro.le_trans hz hz2, Pm.le_trans hp hp2, r2⟩
  | _ => exact ⟨env', H', Z', φ', t, hz, hp, r'⟩

theorem CT.cond {P : Program} {c : Operand} {x y : Code} {Q : Post} {env : List AV} {H : Heap} {b : Bool} (hc : ev env c = .p (.bool b))
    (ht : b = true → CT P x Q env H) (hf : b = false → CT P y Q env H) : CT P (.cond c x y) Q env H := by
  intro B0 w0 F Z φ a w r
  have hv := ev_ok r.env c
  rw [hc] at hv
  have : a.eval c = .bool b := by
    generalize a.eval c = x at hv
    cases hv with
    | p h => cases h; rfl
  exact wp_cond_split this (fun e => ht e B0 w0 F Z φ a w r) (fun e => hf e B0 w0 F Z φ a w r)

/-- Both ways, where the bool is not known. -/
theorem CT.condU {P : Program} {c : Operand} {x y : Code} {Q : Post} {env : List AV} {H : Heap} (hc : ev env c = .ub)
    (ht : CT P x Q env H) (hf : CT P y Q env H) : CT P (.cond c x y) Q env H := by
  intro B0 w0 F Z φ a w r
  have hv := ev_ok r.env c
  rw [hc] at hv
  obtain ⟨b, this⟩ : ∃ b, a.eval c = .bool b := by
    generalize a.eval c = x at hv
    cases hv with
    | ub b => exact ⟨b, rfl⟩
  exact wp_cond_split this (fun _ => ht B0 w0 F Z φ a w r) (fun _ => hf B0 w0 F Z φ a w r)

def Post.block (id : Nat) (Q : Post) : Post
  | .exit i, env, H => if i = id then Q .normal env H else Q (.exit i) env H
  | e, env, H => Q e env H

theorem CT.block {P : Program} {id : Nat} {c : Code} {Q : Post} {env : List AV} {H : Heap} (h : CT P c (Post.block id Q) env H) : CT P (.block id c) Q env H := by
  intro B0 w0 F Z φ a w r
  refine wp_block (wp_mono (h B0 w0 F Z φ a w r) ?_)
  intro e a' w' u
  cases e with
  | exit i =>
    simp only [Exit.inBlock]
    split
    · rename_i hi
      refine u.mono fun env' H' t => ?_
      simpa only [Post.block, if_pos hi] using t
    · rename_i hi
      refine u.mono fun env' H' t => ?_
      simpa only [Post.block, if_neg hi] using t
  | _ => exact u

/-- A loop: what holds at each round's head, and a measure. -/
theorem CT.loop {P : Program} {c : Code} {Q : Post} {env : List AV} {H : Heap} {σ : Type} (I : σ → List AV → Heap → Prop) (μ : σ → Nat) (s0 : σ) (h0 : I s0 env H)
    (round : ∀ s env H, I s env H → CT P c (fun e env' H' => match e with
      | .normal => ∃ s', I s' env' H' ∧ μ s' < μ s
      | e => Q e env' H') env H) : CT P (.loop c) Q env H := by
  intro B0 w0 F Z φ a w r
  intro b k cs
  have key : ∀ n s, μ s = n → ∀ env H Z φ a w, I s env H → Rel B0 w0 F Z φ H env a w →
      ∃ e a' w', Up B0 w0 F Z φ (Q e) a' w' ∧ Arrives P (lone (b.at a (.code c :: .inLoop c :: k)) cs w) b k cs e a' w' := by
    intro n
    induction n using Nat.strongRecOn with
    | _ n ih =>
      intro s hn env H Z φ a w hI r
      obtain ⟨e, a₁, w₁, u, harr⟩ := round s env H hI B0 w0 F Z φ a w r b (.inLoop c :: k) cs
      obtain ⟨env', H', Z', φ', t, hz, hp, r'⟩ := u
      cases e with
      | normal =>
        obtain ⟨s', hI', hlt⟩ := t
        obtain ⟨e₂, a₂, w₂, u₂, harr₂⟩ := ih (μ s') (hn ▸ hlt) s' rfl env' H' Z' φ' a₁ w₁ hI' r'
        obtain ⟨env2, H2, Z2, φ2, t2, hz2, hp2, r2⟩ := u₂
        exact ⟨e₂, a₂, w₂, ⟨env2, H2, Z2, φ2, t2, Fro.le_trans hz hz2, Pm.le_trans hp hp2, r2⟩, .of_steps (Steps.trans harr (.one step_inLoop)) harr₂⟩
      | exit id => exact ⟨_, a₁, w₁, ⟨env', H', Z', φ', t, hz, hp, r'⟩, .pass (x := .inLoop c) rfl (fun _ _ => .inl (by simp)) harr⟩
      | goto l => exact ⟨_, a₁, w₁, ⟨env', H', Z', φ', t, hz, hp, r'⟩, .pass (x := .inLoop c) rfl (fun _ _ => .inl (by simp)) harr⟩
      | ret => exact ⟨_, a₁, w₁, ⟨env', H', Z', φ', t, hz, hp, r'⟩, .pass (x := .inLoop c) rfl (fun _ _ => .inl (by simp)) harr⟩
      | panic ch => exact ⟨_, a₁, w₁, ⟨env', H', Z', φ', t, hz, hp, r'⟩, .pass (x := .inLoop c) rfl (fun _ _ => .inl (by simp)) harr⟩
      | outgrown => exact ⟨_, a₁, w₁, ⟨env', H', Z', φ', t, hz, hp, r'⟩, .pass (x := .inLoop c) rfl (fun _ _ => .inl (by simp)) harr⟩
  obtain ⟨e, a', w', hq, harr⟩ := key _ s0 rfl env H Z φ a w h0 r
  exact ⟨e, a', w', hq, .of_steps (.one step_loop) harr⟩

/-- The slots may be told more weakly. -/
inductive AV.wk : AV → AV → Prop
  | any (v : AV) : AV.wk v .any
  | refl (v : AV) : AV.wk v v
  | nil : AV.wk (.p .nil) (.p (.sl []))
  | nilo (r sz off : Nat) : AV.wk (.p .nil) (.sl r sz off 0)
  | esl : AV.wk .esl (.p (.sl []))
  | eslo (r sz off : Nat) : AV.wk .esl (.sl r sz off 0)
  | agg (vs vs' : List AV) (hl : vs.length = vs'.length) (h : ∀ (i : Nat) (v v' : AV), vs[i]? = some v → vs'[i]? = some v' → AV.wk v v') : AV.wk (.agg vs) (.agg vs')
  | tup (vs vs' : List AV) (hl : vs.length = vs'.length) (h : ∀ (i : Nat) (v v' : AV), vs[i]? = some v → vs'[i]? = some v' → AV.wk v v') : AV.wk (.tup vs) (.tup vs')
theorem AV.wk_ok {Z : Fro} {φ : Pm} {v v' : AV} {x : Value} (h : AV.wk v v') (c : Cv Z φ v x) : Cv Z φ v' x := by
  induction h generalizing x with
  | any v => exact .any x
  | refl v => exact c
  | nil => cases c with | p h => cases h; exact .p (.emp none 0)
  | nilo r sz off => cases c with | p h => cases h; exact .slz r sz off none
  | esl => cases c with | esl a => exact .p (.emp a 0)
  | eslo r sz off => cases c with | esl a => exact .slz r sz off a
  | agg vs vs' hl h ih =>
    cases c with
    | agg _ xs hs hh =>
      refine .agg vs' xs (hs.trans hl) fun i av x hi hx => ?_
      have hlt : i < vs.length := by rw [hl]; exact (List.getElem?_eq_some_iff.1 hi).1
      exact ih i _ av (List.getElem?_eq_getElem hlt) hi (hh i _ x (List.getElem?_eq_getElem hlt) hx)
  | tup vs vs' hl h ih =>
    cases c with
    | tup _ xs hs hh =>
      refine .tup vs' xs (hs.trans hl) fun i av x hi hx => ?_
      have hlt : i < vs.length := by rw [hl]; exact (List.getElem?_eq_some_iff.1 hi).1
      exact ih i _ av (List.getElem?_eq_getElem hlt) hi (hh i _ x (List.getElem?_eq_getElem hlt) hx)

theorem CT.weak {P : Program} {c : Code} {Q : Post} {env env' : List AV} {H H' : Heap} (hl : env'.length = env.length)
    (he : ∀ (i : Nat) (v v' : AV), env[i]? = some v → env'[i]? = some v' → AV.wk v v') (hH : Heap.le H' H) (h : CT P c Q env' H') : CT P c Q env H := by
  intro B0 w0 F Z φ a w r
  refine h B0 w0 F Z φ a w ⟨r.disj.of_le hH, r.sim.forget (Heap.or_le hH r.disj), ⟨r.env.1.trans hl.symm, ?_⟩, r.defers⟩
  intro i v' x hi hx
  have hlt : i < env.length := by rw [← hl]; exact (List.getElem?_eq_some_iff.1 hi).1
  exact AV.wk_ok (he i _ v' (List.getElem?_eq_getElem hlt) hi) (r.env.2 i _ x (List.getElem?_eq_getElem hlt) hx)

end Go.Sep
