/- Sep, part 13: loops with the slots that a round writes forgotten; small facts. -/
import Derived.Test.YthlbkcgnacemgaaSep12
namespace Go.Sep
open Go Go.RowKit

def XOp.dst : XOp → List Nat
  | .run (some d) _ => [d]
  | .guarded g _ (some d) _ => [g, d]
  | .guarded g _ none _ => [g]
  | _ => []

/-- The slots that code writes. -/
def writes : XC → List Nat
  | .reg l => l.flatMap XOp.dst
  | .draw l => l.flatMap fun p => p.1.dst
  | .seq a b => writes a ++ writes b
  | .cond _ a b => writes a ++ writes b
  | .block _ a => writes a
  | .loop a => writes a
  | _ => []

def havoc (ws : List Nat) (env : List AV) : List AV := ws.foldl (fun e i => e.set i .any) env
def setAll (env : List AV) : List (Nat × AV) → List AV
  | [] => env
  | (i, v) :: l => setAll (env.set i v) l

/-- Slots told more weakly. -/
def wkE : List AV → List AV → Prop
  | [], [] => True
  | v :: e, v' :: e' => AV.wk v v' ∧ wkE e e'
  | _, _ => False

theorem wk_any (v : AV) : AV.wk v .any = True := eq_true (.any v)
theorem wk_refl (v : AV) : AV.wk v v = True := eq_true (.refl v)
theorem wk_of {v v' : AV} (h : v' = v) : AV.wk v v' := h ▸ .refl v'
theorem wk_nil : AV.wk (.p .nil) (.p (.sl [])) := .nil
theorem wk_num {k : IntKind} {m n : Int} (h : m = n) : AV.wk (.p (.int k m)) (.p (.int k n)) := by subst h; exact wk_of rfl
def wkL : List AV → List AV → Prop
  | [], [] => True
  | v :: e, v' :: e' => AV.wk v v' ∧ wkL e e'
  | _, _ => False
theorem wkL_ok : ∀ {env env' : List AV}, wkL env env' → env.length = env'.length ∧ ∀ (i : Nat) (v v' : AV), env[i]? = some v → env'[i]? = some v' → AV.wk v v'
  | [], [], _ => ⟨rfl, fun i v v' h => by simp at h⟩
  | v :: e, v' :: e', h => by
    obtain ⟨h1, h2⟩ := h
    obtain ⟨l, k⟩ := wkL_ok h2
    refine ⟨by simp [l], ?_⟩
    intro i u u' hu hu'
    cases i with
    | zero => simp at hu hu'; subst hu; subst hu'; exact h1
    | succ i => simp at hu hu'; exact k i u u' hu hu'
  | [], _ :: _, h => h.elim
  | _ :: _, [], h => h.elim
theorem wk_agg {vs vs' : List AV} (h : wkL vs vs') : AV.wk (.agg vs) (.agg vs') := .agg _ _ (wkL_ok h).1 (wkL_ok h).2
theorem wk_tup {vs vs' : List AV} (h : wkL vs vs') : AV.wk (.tup vs) (.tup vs') := .tup _ _ (wkL_ok h).1 (wkL_ok h).2
theorem wk_agg' {vs vs' : List AV} : AV.wk (.agg vs) (.agg vs') ↔ wkL vs vs' := by
  refine ⟨fun h => ?_, wk_agg⟩
  have key : ∀ (a b : List AV), a.length = b.length → (∀ (i : Nat) (v v' : AV), a[i]? = some v → b[i]? = some v' → AV.wk v v') → wkL a b := by
    intro a
    induction a with
    | nil => intro b hl _; cases b with
      | nil => trivial
      | cons _ _ => simp at hl
    | cons x a ih => intro b hl hh; cases b with
      | nil => simp at hl
      | cons y b => exact ⟨hh 0 x y rfl rfl, ih b (by simpa using hl) fun i v v' h1 h2 => hh (i + 1) v v' (by simpa using h1) (by simpa using h2)⟩
  cases h with
  | refl => exact key _ _ rfl fun i v v' h1 h2 => by rw [h1] at h2; cases h2; exact .refl v
  | agg _ _ hl hh => exact key _ _ hl hh

theorem wkE_ok : ∀ {env env' : List AV}, wkE env env' → env'.length = env.length ∧ ∀ (i : Nat) (v v' : AV), env[i]? = some v → env'[i]? = some v' → AV.wk v v'
  | [], [], _ => ⟨rfl, fun i v v' h => by simp at h⟩
  | v :: e, v' :: e', h => by
    obtain ⟨h1, h2⟩ := h
    obtain ⟨l, k⟩ := wkE_ok h2
    refine ⟨by simp [l], ?_⟩
    intro i u u' hu hu'
    cases i with
    | zero => simp at hu hu'; subst hu; subst hu'; exact h1
    | succ i => simp at hu hu'; exact k i u u' hu hu'
  | [], _ :: _, h => h.elim
  | _ :: _, [], h => h.elim

theorem getD_map {α β : Type} {xs : List α} {i : Nat} (h : i < xs.length) (f : α → β) (d : β) : (xs.map f).getD i d = f xs[i] := by simp [List.getD, h]

def loopQ (Q : Post) (T : List AV → Heap → Prop) : Post
  | .normal, env, H => T env H
  | e, env, H => Q e env H

theorem CX.loopL {P : Program} {x : XC} {Q : Post} {env : List AV} {H : Heap} {σ : Type} (upd : σ → List (Nat × AV)) (TH : σ → Heap) (pre : σ → Prop) (μ : σ → Nat) (s0 : σ) {ws : List Nat} (_hws : writes x = ws)
    (h0 : pre s0 ∧ wkE env (setAll (havoc ws env) (upd s0)) ∧ Heap.le (TH s0) H)
    (round : ∀ s, pre s → CX P x (loopQ Q fun env' H' => ∃ s', pre s' ∧ μ s' < μ s ∧ wkE env' (setAll (havoc ws env) (upd s')) ∧ Heap.le (TH s') H') (setAll (havoc ws env) (upd s)) (TH s)) :
    CX P (.loop x) Q env H := by
  refine CX.loop (fun s env' H' => pre s ∧ wkE env' (setAll (havoc ws env) (upd s)) ∧ Heap.le (TH s) H') μ s0 h0 ?_
  rintro s env' H' ⟨hp, hw, hH⟩
  obtain ⟨hl, hk⟩ := wkE_ok hw
  refine CX.weak hl hk hH ((round s hp).mono ?_)
  intro e env2 H2 hq
  cases e <;> first | exact hq | (obtain ⟨s', h1, h2, h3, h4⟩ := hq; exact ⟨s', ⟨h1, h3, h4⟩, h2⟩)

end Go.Sep
