/- Sep, part 10: the operations in one, regions, and functions. -/
import Derived.Test.YthlbkcgnacemgaaSep9w
namespace Go.Sep
open Go Go.RowKit

theorem arr1 {α : Type} {xs : Array α} (h : xs.size = 1) : ∃ a, xs = #[a] := by
  match xs, h with
  | ⟨[a]⟩, _ => exact ⟨a, rfl⟩
theorem arr2 {α : Type} {xs : Array α} (h : xs.size = 2) : ∃ a b, xs = #[a, b] := by
  match xs, h with
  | ⟨[a, b]⟩, _ => exact ⟨a, b, rfl⟩

theorem mmV_ok {P : Program} {Z : Fro} {φ : Pm} {w : World} {b : Builtin} {a c : AV} {x y : Value} (ca : Cv Z φ a x) (cc : Cv Z φ c y) {K : AV → Prop} (h : mmV b a c K) :
    ∃ v z, K v ∧ Cv Z φ v z ∧ ∀ (ts : Array TypeId) (ty : TypeId) (cs : Array Bool), (builtin b ts ty cs #[x, y]).run P w = .ok (.value z) w := by
  unfold mmV at h
  split at h
  · cases ca with | p hz => cases hz; cases cc with | p hz2 => cases hz2; exact ⟨_, _, h, .p (.int _ _), fun _ _ _ => rfl⟩
  · cases ca with | p hz => cases hz; cases cc with | p hz2 => cases hz2; exact ⟨_, _, h, .p (.int _ _), fun _ _ _ => rfl⟩
  · exact h.elim

def nilCheckV (x : AV) (K : AV → Prop) : Prop :=
  match x with
  | .ptr r off => K (.ptr r off)
  | .fp cs => K (.fp cs)
  | .fn f caps => K (.fn f caps)
  | .sl r sz off len => K (.sl r sz off len)
  | .p v => K (.p v)
  | _ => False

def indexV (tab : Tab) (t : Nat) (x i : AV) (K : AV → Prop) : Prop :=
  match tab t, x, i with
  | some d, .p (.str s), .p (.int _ n) => d.k.agg = false ∧ match d.k with
    | .str => 0 ≤ n ∧ n < s.size ∧ K (.p (.int .u8 (s.get! n.toNat).toNat))
    | _ => False
  | _, _, _ => False

theorem indexV_ok {P : Program} {tab : Tab} (hT : tab.Ok P) {Z : Fro} {φ : Pm} {w : World} {t : Nat} {a i : AV} {x y : Value} (ca : Cv Z φ a x) (ci : Cv Z φ i y) {K : AV → Prop} (h : indexV tab t a i K) :
    ∃ v z, K v ∧ Cv Z φ v z ∧ (Instr.index t x y).run P w = .ok z w := by
  unfold indexV at h
  split at h
  case h_2 => exact h.elim
  rename_i d s k n hdt
  obtain ⟨_, h⟩ := h
  split at h
  case h_2 => exact h.elim
  rename_i hk
  have hu := (hT t d hdt).k
  rw [hk] at hu
  simp only [TK.ok] at hu
  obtain ⟨h0, h1, hK⟩ := h
  cases ca with
  | p hz =>
    cases hz
    cases ci with
    | p hz2 =>
      cases hz2
      refine ⟨_, _, hK, .p (.int _ _), ?_⟩
      have hlt : n.toNat < s.size := by omega
      have hg : s[n.toNat]? = some s[n.toNat] := getElem?_pos s _ hlt
      have hgb : s.get! n.toNat = s[n.toNat] := by
        have hlt2 : n.toNat < s.data.size := hlt
        show s.data[n.toNat]! = s.data[n.toNat]
        exact getElem!_pos s.data _ hlt2
      simp [Instr.index, asIntOf, run_underlying hu, h0, hg, hgb]

def callV (P : Program) (tab : Tab) (c : Call) (env : List AV) (H : Heap) (K : AV → Heap → Prop) : Prop :=
  match c.callee, c.args.toList.map (ev env) with
  | .builtin .len, [x] => match c.argTypes.toList with
    | [t] => lenV tab t x (K · H)
    | _ => False
  | .builtin .append, [s, x] => match c.argTypes.toList with
    | [t0, t1] => appendV tab t0 t1 s x H (wkK K)
    | _ => False
  | .builtin b, [x, y] => mmV b x y (K · H)
  | .value f, args => match ev env f with
    | .fn g caps => CallT P g (args ++ caps) H K
    | _ => False
  | _, _ => False

/-- One of two. -/
def pk (t : Bool) (A B : Prop) : Prop := (t = true → A) ∧ (t = false → B)
theorem pk_t {A B : Prop} : pk true A B = A := by simp [pk]
theorem pk_f {A B : Prop} : pk false A B = B := by simp [pk]
theorem pk.of {t : Bool} {A B : Prop} (h : t = true → A) (k : t = false → B) : pk t A B := ⟨h, k⟩

def opV (P : Program) (tab : Tab) (o : Op) (env : List AV) (H : Heap) (K : AV → Heap → Prop) : Prop :=
  match o with
  | .move x => K (ev env x) H
  | .assign x => K (ev env x) H
  | .pick c a b => match ev env c with
    | .p (.bool t) => pk t (K (ev env a) H) (K (ev env b) H)
    | _ => False
  | .alloc t => allocV tab t H K
  | .box _ x => boxV (ev env x) H K
  | .build t ps => buildV tab t (ps.toList.map fun p => (p.1, ev env p.2)) (K · H)
  | .buildSlice t n ps => buildSliceV tab t n (ps.toList.map fun p => (p.1, ev env p.2)) H (wkK K)
  | .load t a => loadV tab t (ev env a) H (K · H)
  | .store t a x => storeV tab t (ev env a) (ev env x) H (K .any ·)
  | .nilCheck x => nilCheckV (ev env x) (K · H)
  | .binOp op t x y _ => binV tab op t (ev env x) (ev env y) (K · H)
  | .unOp op _ x => unV op (ev env x) (K · H)
  | .convert s d x => convV tab s d (ev env x) (K · H)
  | .makeFunc (.func f) first caps => first.toList = [] ∧ K (.fn f (caps.toList.map (ev env))) H
  | .makeSlice t l c => makeSliceV tab t (ev env l) (ev env c) H K
  | .slice t x lo hi mx => sliceV tab t (ev env x) (lo.map (ev env)) (hi.map (ev env)) (mx.map (ev env)) (K · H)
  | .fieldAddr t x f => fieldAddrV tab t (ev env x) f (K · H)
  | .field t x f => fieldV tab t (ev env x) f (K · H)
  | .indexAddr t x i => indexAddrV tab t (ev env x) (ev env i) (K · H)
  | .index t x i => indexV tab t (ev env x) (ev env i) (K · H)
  | .extract x i => extractV (ev env x) i (K · H)
  | .call c => callV P tab c env H K
  | _ => False

theorem PartsRel.of_ev {Z : Fro} {φ : Pm} {env : List AV} {a : Act} (h : EnvRel Z φ env a.tmps) : ∀ (l : List (Nat × Operand)), PartsRel Z φ (l.map fun p => (p.1, ev env p.2)) (l.map fun p => (p.1, a.eval p.2)) := by
  intro l
  induction l with
  | nil => trivial
  | cons p l ih => exact ⟨rfl, ev_ok h p.2, ih⟩

theorem OptRel.of_ev {Z : Fro} {φ : Pm} {env : List AV} {a : Act} (h : EnvRel Z φ env a.tmps) (o : Option Operand) : OptRel Z φ (o.map (ev env)) (o.map a.eval) := by
  cases o with
  | none => trivial
  | some x => exact ev_ok h x

theorem op_ok {P : Program} {tab : Tab} (hT : tab.Ok P) {B0 : Nat} {w0 : World} {F : Heap} {Z : Fro} {φ : Pm} {H : Heap} {env : List AV} {a : Act} {w : World} (r : Rel B0 w0 F Z φ H env a w)
    {o : Oper} {K : AV → Heap → Prop} (h : opV P tab o.op env H K) {next : Act → World → Prop} {Q : Exit → Act → World → Prop} (cont : ∀ x w', UpV B0 w0 F Z φ K x w' → next (a.put o.dst x) w') : o.wp P a w next Q := by
  have val : ∀ {s : Sem Value}, (execOp a.eval o = do pure (.value (← s))) → (∃ y w', s.run P w = .ok y w' ∧ UpV B0 w0 F Z φ K y w') → o.wp P a w next Q := by
    intro s he ⟨y, w', hr, hu⟩
    unfold Oper.wp
    rw [he]
    simp only [Sem.run_bind, hr, Result.andThen_ok, Sem.run_pure]
    exact cont y w' hu
  have pure_ : ∀ {s : Sem Value}, (execOp a.eval o = do pure (.value (← s))) → (∃ v y, K v H ∧ Cv Z φ v y ∧ s.run P w = .ok y w) → o.wp P a w next Q := by
    intro s he ⟨v, y, hK, hc, hr⟩
    exact val he ⟨y, w, hr, v, H, Z, φ, hK, Fro.le_refl _, Pm.le_refl _, r.disj, r.sim, hc⟩
  have e := r.env
  unfold opV at h
  split at h
  case h_1 x ho => exact pure_ (s := pure (a.eval x)) (by simp [execOp, ho]) ⟨_, _, h, ev_ok e x, rfl⟩
  case h_2 x ho => exact pure_ (s := pure (a.eval x)) (by simp [execOp, ho]) ⟨_, _, h, ev_ok e x, rfl⟩
  case h_3 c x y ho =>
    split at h
    case h_2 => exact h.elim
    rename_i t hc
    have hv := ev_ok e c
    rw [hc] at hv
    have hcv : a.eval c = .bool t := by
      generalize a.eval c = z at hv
      cases hv with | p h => cases h; rfl
    cases t with
    | true => exact pure_ (s := pure (a.eval x)) (by simp [execOp, ho, hcv, asBool]) ⟨_, _, h.1 rfl, ev_ok e x, rfl⟩
    | false => exact pure_ (s := pure (a.eval y)) (by simp [execOp, ho, hcv, asBool]) ⟨_, _, h.2 rfl, ev_ok e y, rfl⟩
  case h_4 t ho => exact val (by simp only [execOp, ho]) (allocV_ok hT r.disj r.sim h)
  case h_5 t x ho => exact val (by simp only [execOp, ho]) (boxV_ok (t := t) r.disj r.sim (ev_ok e x) h)
  case h_6 t ps ho => exact pure_ (s := Instr.build t (ps.map fun (i, x) => (i, a.eval x))) (by simp only [execOp, ho]) (buildV_ok hT (by rw [Array.toList_map]; exact PartsRel.of_ev e ps.toList) h)
  case h_7 t n ps ho => exact val (s := Instr.buildSlice t n (ps.map fun (i, x) => (i, a.eval x))) (by simp only [execOp, ho]) (by obtain ⟨y, w', h1, h2⟩ := buildSliceV_ok hT r.disj r.sim (by rw [Array.toList_map]; exact PartsRel.of_ev e ps.toList) h; exact ⟨y, w', h1, h2.ofWk⟩)
  case h_8 t x ho => exact pure_ (by simp only [execOp, ho]) (loadV_ok hT r.sim (ev_ok e x) h)
  case h_9 t x y ho =>
    obtain ⟨H', w', hK, hd, hs, hr⟩ := storeV_ok hT r.disj r.sim (ev_ok e x) (ev_ok e y) h
    unfold Oper.wp
    simp only [execOp, ho, Sem.run_bind, hr, Result.andThen_ok, Sem.run_pure]
    exact cont undef w' ⟨.any, H', Z, φ, hK, Fro.le_refl _, Pm.le_refl _, hd, hs, .any _⟩
  case h_10 x ho =>
    have hv := ev_ok e x
    unfold nilCheckV at h
    have key : ∀ {v : AV}, Cv Z φ v (a.eval x) → K v H → (execOp a.eval o = pure (.value (a.eval x))) → o.wp P a w next Q := by
      intro v hc hK he
      refine pure_ (s := pure (a.eval x)) (by rw [he]; rfl) ⟨v, _, hK, hc, rfl⟩
    split at h
    case h_6 => exact h.elim
    all_goals
      rename_i heq
      rw [heq] at hv
      refine key hv h ?_
      simp only [execOp, ho]
      generalize a.eval x = z at hv
      first
        | (cases hv with | p hz => cases hz <;> rfl)
        | (cases hv <;> rfl)
  case h_11 op t x y ty ho => exact pure_ (by simp only [execOp, ho]) (binV_ok hT (ev_ok e x) (ev_ok e y) h x y)
  case h_12 op t x ho => exact pure_ (by simp only [execOp, ho]) (unV_ok (ev_ok e x) h)
  case h_13 s d x ho => exact pure_ (by simp only [execOp, ho]) (convV_ok hT (ev_ok e x) h)
  case h_14 f first caps ho =>
    obtain ⟨hf, hK⟩ := h
    have hf2 : first = #[] := by apply Array.ext'; simpa using hf
    subst hf2
    refine pure_ (s := pure (.func (.func f) #[] (caps.map a.eval))) (by simp [execOp, ho, Instr.makeFunc]) ⟨_, _, hK, .fn f _ _ (by simp) ?_, rfl⟩
    intro i av x hi hx
    rw [List.getElem?_map] at hi
    rw [Array.getElem?_map] at hx
    cases hc : caps.toList[i]? with
    | none => rw [hc] at hi; cases hi
    | some c =>
      rw [hc] at hi; cases hi
      rw [← Array.getElem?_toList, hc] at hx; cases hx
      exact ev_ok e c
  case h_15 t l c ho => exact val (by simp only [execOp, ho]) (makeSliceV_ok hT r.disj r.sim (ev_ok e l) (ev_ok e c) h)
  case h_16 t x lo hi mx ho => exact pure_ (by simp only [execOp, ho]) (sliceV_ok hT (ev_ok e x) (OptRel.of_ev e lo) (OptRel.of_ev e hi) (OptRel.of_ev e mx) h)
  case h_17 t x f ho => exact pure_ (by simp only [execOp, ho]) (fieldAddrV_ok hT (ev_ok e x) h)
  case h_18 t x f ho => exact pure_ (by simp only [execOp, ho]) (fieldV_ok hT (ev_ok e x) h)
  case h_19 t x i ho => exact pure_ (by simp only [execOp, ho]) (indexAddrV_ok hT (ev_ok e x) (ev_ok e i) h)
  case h_20 t x i ho => exact pure_ (by simp only [execOp, ho]) (indexV_ok hT (ev_ok e x) (ev_ok e i) h)
  case h_21 x i ho => exact pure_ (by simp only [execOp, ho]) (extractV_ok (ev_ok e x) h)
  case h_22 c ho =>
    unfold callV at h
    have hargs : ∀ {l : List AV}, c.args.toList.map (ev env) = l → ArgsRel Z φ l (c.args.map a.eval) := by
      intro l hl
      subst hl
      refine ⟨by simp, ?_⟩
      intro i av x hi hx
      rw [List.getElem?_map] at hi
      rw [Array.getElem?_map] at hx
      cases hc : c.args.toList[i]? with
      | none => rw [hc] at hi; cases hi
      | some z =>
        rw [hc] at hi; cases hi
        rw [← Array.getElem?_toList, hc] at hx; cases hx
        exact ev_ok e z
    split at h
    · rename_i x hcal hl
      split at h
      case h_2 => exact h.elim
      rename_i t hts
      have hr := hargs hl
      have hts2 : c.argTypes = #[t] := by apply Array.ext'; simpa using hts
      obtain ⟨z, hz⟩ : ∃ z, c.args.map a.eval = #[z] := arr1 hr.1
      have hcz : Cv Z φ x z := hr.2 0 x z rfl (by rw [hz]; rfl)
      exact pure_ (s := Builtin.len_ #[t] o.type #[z]) (by simp [execOp, ho, resolve, hcal, invoke, builtin, hz, hts2]) (lenV_ok hT hcz o.type h)
    · rename_i s x hcal hl
      split at h
      case h_2 => exact h.elim
      rename_i t0 t1 hts
      have hr := hargs hl
      have hts2 : c.argTypes = #[t0, t1] := by apply Array.ext'; simpa using hts
      obtain ⟨z, y, hz⟩ : ∃ z y, c.args.map a.eval = #[z, y] := arr2 hr.1
      have hcz : Cv Z φ s z := hr.2 0 s z rfl (by rw [hz]; rfl)
      have hcy : Cv Z φ x y := hr.2 1 x y rfl (by rw [hz]; rfl)
      exact val (s := Builtin.append_ #[t0, t1] o.type #[z, y]) (by simp [execOp, ho, resolve, hcal, invoke, builtin, hz, hts2]) (by obtain ⟨y', w', h1, h2⟩ := appendV_ok hT r.disj r.sim hcz hcy o.type h; exact ⟨y', w', h1, h2.ofWk⟩)
    · rename_i b x y _ hcal hl
      have hr := hargs hl
      obtain ⟨z, y', hz⟩ : ∃ z y, c.args.map a.eval = #[z, y] := arr2 hr.1
      have hcz : Cv Z φ x z := hr.2 0 x z rfl (by rw [hz]; rfl)
      have hcy : Cv Z φ y y' := hr.2 1 y y' rfl (by rw [hz]; rfl)
      obtain ⟨v, z2, hK, hc, hrun⟩ := mmV_ok (P := P) (w := w) hcz hcy h
      unfold Oper.wp
      simp only [execOp, ho, resolve, hcal, Sem.run_bind, Sem.run_pure, Result.andThen_ok, invoke, hz, hrun]
      exact cont z2 w ⟨v, H, Z, φ, hK, Fro.le_refl _, Pm.le_refl _, r.disj, r.sim, hc⟩
    · rename_i f hcal
      split at h
      case h_2 => exact h.elim
      rename_i g caps hfv
      have hv := ev_ok e f
      rw [hfv] at hv
      have hr := hargs rfl
      obtain ⟨⟨fn, body, h1, h2, h3⟩, hcall⟩ := h
      obtain ⟨xs, hxs, hsz, hrel⟩ : ∃ xs, a.eval f = .func (.func g) #[] xs ∧ xs.size = caps.length ∧ ∀ (i : Nat) (av : AV) (x : Value), caps[i]? = some av → xs[i]? = some x → Cv Z φ av x := by
        generalize a.eval f = z at hv
        cases hv with | fn _ _ xs hs hh => exact ⟨xs, rfl, hs, hh⟩
      have hall : ArgsRel Z φ (c.args.toList.map (ev env) ++ caps) (c.args.map a.eval ++ xs) := by
        refine ⟨by rw [Array.size_append, List.length_append, hr.1, hsz], ?_⟩
        intro i av x hi hx
        by_cases hlt : i < (c.args.toList.map (ev env)).length
        · rw [List.getElem?_append_left hlt] at hi
          rw [Array.getElem?_append_left (by rw [hr.1]; exact hlt)] at hx
          exact hr.2 i av x hi hx
        · rw [List.getElem?_append_right (by omega)] at hi
          rw [Array.getElem?_append_right (by rw [hr.1]; omega), hr.1] at hx
          exact hrel _ av x hi hx
      have hb : ¬ (fn.body = none) := by rw [h2]; simp
      have h3' : ¬ (fn.name = "runtime.NumGoroutine") := by simpa using h3
      have hrun : (execOp a.eval o).run P w = .ok (.enter g (c.args.map a.eval ++ xs)) w := by
        simp [execOp, ho, resolve, hcal, hxs, Deferred.ofValue, invoke, callFunc, h1, h3', hb]
      unfold Oper.wp
      rw [hrun]
      show Calls P g _ w _
      refine (hcall B0 w0 F Z φ w _ r.disj r.sim hall).mono ?_
      rintro e' w' ⟨x, rfl, hu⟩
      exact cont x w' hu
    · exact h.elim
  case h_23 => exact h.elim

/-! ### Regions -/
def setD (env : List AV) (d : Option Tmp) (v : AV) : List AV :=
  match d with
  | some t => env.set t v
  | none => env

theorem Rel.put {B0 : Nat} {w0 : World} {F : Heap} {Z : Fro} {φ : Pm} {H : Heap} {env : List AV} {a : Act} {w : World} (r : Rel B0 w0 F Z φ H env a w) (d : Option Tmp) {v : AV} {x : Value} (c : Cv Z φ v x) :
    Rel B0 w0 F Z φ H (setD env d v) (a.put d x) w := by
  cases d with
  | none => exact r
  | some t => exact ⟨r.disj, r.sim, r.env.set t c, r.defers⟩

theorem Rel.call {B0 : Nat} {w0 : World} {F : Heap} {Z Z' : Fro} {φ φ' : Pm} {H H' : Heap} {env : List AV} {a : Act} {w w' : World} (r : Rel B0 w0 F Z φ H env a w) (hZ : Fro.le Z Z') (hφ : Pm.le φ φ')
    (hd : Disj H' F) (hs : Sim Z' φ' B0 w0 (H'.or F) w') : Rel B0 w0 F Z' φ' H' env a w' := ⟨hd, hs, r.env.mono hZ hφ, r.defers⟩

def guardSlot (ops : Array Oper) (j : Nat) : Option Tmp := (ops[j]?).bind (·.dst)

/-- What a slot holds whose operation was not wanted. -/
abbrev AV.und : AV := .tup []
theorem und_ok (Z : Fro) (φ : Pm) : Cv Z φ .und undef := .tup [] #[] rfl (fun i av x hi => by simp at hi)

/-- A list of operations of a region, one behind the other. -/
def vcO (P : Program) (tab : Tab) (ops : Array Oper) (Q : List AV → Heap → Prop) : List Oper → List AV → Heap → Prop
  | [], env, H => Q env H
  | o :: rest, env, H =>
    match o.guard with
    | none => opV P tab o.op env H fun v H' => vcO P tab ops Q rest (setD env o.dst v) H'
    | some (j, want) =>
      match guardSlot ops j with
      | some d => match env.getD d .any with
        | .p (.bool b) =>
          (b = want → opV P tab o.op (env.set d (.p (.bool want))) H fun v H' => vcO P tab ops Q rest (setD (env.set d (.p (.bool want))) o.dst v) H') ∧
          (b = (!want) → vcO P tab ops Q rest (setD (env.set d (.p (.bool (!want)))) o.dst .und) H)
        | .tup [] => vcO P tab ops Q rest (setD env o.dst .und) H
        | _ => False
      | none => False

theorem yielded_ok {Z : Fro} {φ : Pm} {env : List AV} {a : Act} (e : EnvRel Z φ env a.tmps) {ops : Array Oper} {j d : Nat} {b : Bool} (hd : guardSlot ops j = some d) (hv : env.getD d .any = .p (.bool b)) :
    yielded ops a.tmps j = some b ∧ a.tmps.getD d undef = .bool b ∧ d < env.length := by
  have hl : d < env.length := by
    rcases Nat.lt_or_ge d env.length with h | h
    · exact h
    · simp [List.getD, List.getElem?_eq_none h] at hv
  have hg : env[d]? = some (.p (.bool b)) := by
    have h1 : env[d]? = some env[d] := List.getElem?_eq_getElem hl
    have : env.getD d .any = env[d] := by simp [List.getD, h1]
    rw [h1, ← this, hv]
  have hl2 : d < a.tmps.size := by rw [e.1]; exact hl
  have h2 : a.tmps[d]? = some a.tmps[d] := Array.getElem?_eq_getElem hl2
  have hc := e.2 d _ _ hg h2
  have hb : a.tmps[d] = .bool b := by
    generalize a.tmps[d] = z at hc
    cases hc with | p h => cases h; rfl
  refine ⟨?_, ?_, hl⟩
  · unfold guardSlot at hd
    simp [yielded, hd, h2, hb]
  · simp [Array.getD_eq_getD_getElem?, h2, hb]

theorem yielded_und {Z : Fro} {φ : Pm} {env : List AV} {a : Act} (e : EnvRel Z φ env a.tmps) {ops : Array Oper} {j d : Nat} (hd : guardSlot ops j = some d) (hv : env.getD d .any = .tup []) :
    yielded ops a.tmps j = none := by
  have hl : d < env.length := by
    rcases Nat.lt_or_ge d env.length with h | h
    · exact h
    · simp [List.getD, List.getElem?_eq_none h] at hv
  have hg : env[d]? = some (.tup []) := by
    have h1 : env[d]? = some env[d] := List.getElem?_eq_getElem hl
    have : env.getD d .any = env[d] := by simp [List.getD, h1]
    rw [h1, ← this, hv]
  have hl2 : d < a.tmps.size := by rw [e.1]; exact hl
  have h2 : a.tmps[d]? = some a.tmps[d] := Array.getElem?_eq_getElem hl2
  have hc := e.2 d _ _ hg h2
  have hb : ∃ xs, a.tmps[d] = .tuple xs := by
    generalize a.tmps[d] = z at hc
    cases hc with | tup _ xs _ _ => exact ⟨xs, rfl⟩
  obtain ⟨xs, hb⟩ := hb
  unfold guardSlot at hd
  simp [yielded, hd, h2, hb]

theorem Rel.lit {B0 : Nat} {w0 : World} {F : Heap} {Z : Fro} {φ : Pm} {H : Heap} {env : List AV} {a : Act} {w : World} (r : Rel B0 w0 F Z φ H env a w) {d : Nat} {b : Bool} (hv : env.getD d .any = .p (.bool b)) :
    Rel B0 w0 F Z φ H (env.set d (.p (.bool b))) a w := by
  have : env.set d (.p (.bool b)) = env := by
    apply List.ext_getElem?
    intro i
    by_cases h : d = i
    · subst h
      rcases Nat.lt_or_ge d env.length with h | h
      · rw [List.getElem?_set_self h]
        have h1 : env[d]? = some env[d] := List.getElem?_eq_getElem h
        have : env.getD d .any = env[d] := by simp [List.getD, h1]
        rw [h1, ← this, hv]
      · rw [List.getElem?_eq_none (by simpa using h), List.getElem?_eq_none h]
    · rw [List.getElem?_set_ne h]
  rw [this]; exact r

theorem upon_mono {P : Program} {o : Oper} {a : Act} {next next' : Act → World → Prop} {Q Q' : Exit → Act → World → Prop} (hn : ∀ a w, next a w → next' a w) (hQ : ∀ e a w, Q e a w → Q' e a w) :
    ∀ (r : Result Next), o.upon P a next Q r → o.upon P a next' Q' r := by
  intro r h
  have hl : LetsOut Q → LetsOut Q' := fun ⟨a, w, h⟩ => ⟨a, w, hQ _ _ _ h⟩
  match r, h with
  | .ok (.value v) w', h => exact hn _ _ h
  | .ok .skip w', h => exact hn _ _ h
  | .ok (.defer d) w', h => exact hn _ _ h
  | .ok (.enter f args) w', h =>
    refine Calls.mono (R := _) h ?_
    intro e w'' he
    cases e with
    | returned v => exact hn _ _ he
    | panicked c => exact hQ _ _ _ he
    | outgrown => exact hl he
  | .ok (.row row args) w', h => exact Rows.mono (R := _) h fun v w'' hv => hn _ _ hv
  | .halt (.panic v) w', h => exact hQ _ _ _ h

theorem wpOps_mono' {P : Program} {ops : Array Oper} {R R' : Exit → Act → World → Prop} (hR : ∀ e a w, R e a w → R' e a w) : ∀ (is : List Nat) (a : Act) (w : World), wpOps P ops R is a w → wpOps P ops R' is a w := by
  intro is
  induction is with
  | nil => intro a w h; exact hR _ _ _ h
  | cons i is ih =>
    intro a w h
    simp only [wpOps] at h ⊢
    split
    · rename_i hi
      simp only [hi] at h
      exact ih a w h
    · rename_i o hi
      simp only [hi] at h
      split
      · rename_i hw
        rw [if_pos hw] at h
        rcases h with h | ⟨h1, a₀, w₀, h2⟩
        · exact .inl (upon_mono ih hR _ h)
        · exact .inr ⟨h1, a₀, w₀, hR _ _ _ h2⟩
      · rename_i hw
        rw [if_neg hw] at h
        exact ih _ w h

theorem vcO_ok {P : Program} {tab : Tab} (hT : tab.Ok P) {B0 : Nat} {w0 : World} {F : Heap} {ops : Array Oper} {Q : List AV → Heap → Prop} :
    ∀ (l : List Oper) (is : List Nat), is.map (fun i => ops[i]?) = l.map some → ∀ {Z : Fro} {φ : Pm} {H : Heap} {env : List AV} {a : Act} {w : World}, Rel B0 w0 F Z φ H env a w → vcO P tab ops Q l env H →
      wpOps P ops (fun e a' w' => Up B0 w0 F Z φ (fun env' H' => e = .normal ∧ Q env' H') a' w') is a w := by
  intro l
  induction l with
  | nil =>
    intro is his Z φ H env a w r h
    cases is with
    | nil => exact ⟨env, H, Z, φ, ⟨rfl, h⟩, Fro.le_refl _, Pm.le_refl _, r⟩
    | cons i is => simp at his
  | cons o l ih =>
    intro is his Z φ H env a w r h
    cases is with
    | nil => simp at his
    | cons i is =>
      simp only [List.map_cons, List.cons.injEq] at his
      obtain ⟨hi, his⟩ := his
      have lift : ∀ {Z' : Fro} {φ' : Pm} {e : Exit} {a' : Act} {w' : World}, Fro.le Z Z' → Pm.le φ φ' → Up B0 w0 F Z' φ' (fun env' H' => e = .normal ∧ Q env' H') a' w' → Up B0 w0 F Z φ (fun env' H' => e = .normal ∧ Q env' H') a' w' := by
        rintro Z' φ' e a' w' hz hp ⟨env2, H2, Z2, φ2, t, hz2, hp2, r2⟩
        exact ⟨env2, H2, Z2, φ2, t, Fro.le_trans hz hz2, Pm.le_trans hp hp2, r2⟩
      have mono : ∀ {is : List Nat} {a : Act} {w : World} {R R' : Exit → Act → World → Prop}, (∀ e a w, R e a w → R' e a w) → wpOps P ops R is a w → wpOps P ops R' is a w := by
        intro is a w R R' hR
        exact wpOps_mono' hR is a w
      have step : ∀ {env' : List AV}, Rel B0 w0 F Z φ H env' a w → opV P tab o.op env' H (fun v H' => vcO P tab ops Q l (setD env' o.dst v) H') →
          o.wp P a w (wpOps P ops (fun e a' w' => Up B0 w0 F Z φ (fun env' H' => e = .normal ∧ Q env' H') a' w') is) (fun e a' w' => Up B0 w0 F Z φ (fun env' H' => e = .normal ∧ Q env' H') a' w') := by
        intro env' r' hop
        refine op_ok hT r' hop ?_
        rintro x w' ⟨v, H', Z', φ', hK, hz, hp, hd, hs, hc⟩
        exact mono (fun e a w => lift hz hp) (ih is his ((r'.call hz hp hd hs).put o.dst hc) hK)
      simp only [wpOps, hi]
      unfold vcO at h
      split at h
      · rename_i hg
        have hw : Region.wanted o (yielded ops a.tmps) = true := by simp [Region.wanted, hg]
        rw [if_pos hw]
        exact .inl (step r h)
      · rename_i j want hg
        split at h
        case h_2 => exact h.elim
        rename_i d hd
        split at h
        case h_3 => exact h.elim
        case h_2 =>
          rename_i hv
          have hy := yielded_und r.env hd hv
          have hw : Region.wanted o (yielded ops a.tmps) = false := by simp [Region.wanted, hg, hy]
          rw [if_neg (by simp [hw])]
          exact ih is his (r.put o.dst (und_ok Z φ)) h
        rename_i b hv
        obtain ⟨hy, _, _⟩ := yielded_ok r.env hd hv
        by_cases hb : b = want
        · have hw : Region.wanted o (yielded ops a.tmps) = true := by simp [Region.wanted, hg, hy, hb]
          rw [if_pos hw]
          subst hb
          exact .inl (step (r.lit hv) (h.1 rfl))
        · have hw : Region.wanted o (yielded ops a.tmps) = false := by simp [Region.wanted, hg, hy, hb]
          rw [if_neg (by simp [hw])]
          have hb' : b = (!want) := by cases b <;> cases want <;> simp_all
          have hv' := hv
          rw [hb'] at hv'
          exact ih is his ((r.lit hv').put o.dst (und_ok Z φ)) (h.2 hb')

theorem CT.region {P : Program} {tab : Tab} (hT : tab.Ok P) {id : Nat} {ops : Array Oper} {Q : Post} {env : List AV} {H : Heap} (h : vcO P tab ops (Q .normal) ops.toList env H) : CT P (.region id ops false) Q env H := by
  intro B0 w0 F Z φ a w r
  refine wp_region (wpOps_mono' ?_ _ a w (vcO_ok hT ops.toList (List.range ops.size) ?_ r h))
  · rintro e a' w' ⟨env', H', Z', φ', ⟨rfl, hq⟩, rest⟩
    exact ⟨env', H', Z', φ', hq, rest⟩
  · apply List.ext_getElem?
    intro i
    simp only [List.getElem?_map]
    by_cases hi : i < ops.size
    · rw [List.getElem?_range hi]
      simp [hi]
    · rw [List.getElem?_eq_none (by simpa using hi), List.getElem?_eq_none (by simpa using hi)]; rfl

/-- A region that draws its order, operation by operation, in the order of a list. -/
def vcD (P : Program) (tab : Tab) (ops : Array Oper) (Q : List AV → Heap → Prop) (is : List Nat) (env : List AV) (H : Heap) : Prop :=
  vcO P tab ops Q (is.filterMap fun i => ops[i]?) env H

theorem CT.regionDraw {P : Program} {tab : Tab} (hT : tab.Ok P) {id : Nat} {ops : Array Oper} {Q : Post} {env : List AV} {H : Heap}
    (h : ∀ t, vcD P tab ops (Q .normal) (Region.schedule (P.follows .mixedOrders) ops t) env H) (hin : ∀ t, ∀ i ∈ Region.schedule (P.follows .mixedOrders) ops t, i < ops.size) : CT P (.region id ops true) Q env H := by
  intro B0 w0 F Z φ a w r
  refine wp_region_draw fun t => ?_
  refine wpOps_mono' ?_ _ a w.drew (vcO_ok hT _ (Region.schedule (P.follows .mixedOrders) ops t) ?_ ⟨r.disj, r.sim.drew, r.env, r.defers⟩ (h t))
  · rintro e a' w' ⟨env', H', Z', φ', ⟨rfl, hq⟩, rest⟩
    exact ⟨env', H', Z', φ', hq, rest⟩
  · have := hin t
    generalize Region.schedule (P.follows .mixedOrders) ops t = is at this
    induction is with
    | nil => rfl
    | cons i is ih =>
      have hi := this i (by simp)
      simp only [List.map_cons, List.filterMap_cons, Array.getElem?_eq_getElem hi]
      rw [ih (fun j hj => this j (by simp [hj]))]

end Go.Sep
