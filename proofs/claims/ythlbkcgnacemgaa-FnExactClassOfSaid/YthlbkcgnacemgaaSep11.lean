/- Sep, part 11: functions: results, and a call out of its body. -/
import Derived.Test.YthlbkcgnacemgaaSep10
namespace Go.Sep
open Go Go.RowKit

theorem TD.Ok.of {P : Program} {t : Nat} {d : TD} {z : Value} (k : d.k.ok P t) (hi : (P.info? t).map (fun i => (i.zero, i.size, i.bytes)) = some (some z, d.size, d.bytes)) (hz : z.cells.toList.map constA = d.zero)
    (zlen : d.zero.length = d.size) (pos : 0 < d.size) (one : d.k.agg = false → d.size = 1) : TD.Ok P t d := by
  refine ⟨k, ?_, zlen, pos, one⟩
  cases h : P.info? t with
  | none => rw [h] at hi; cases hi
  | some i =>
    rw [h] at hi
    simp only [Option.map_some, Option.some.injEq, Prod.mk.injEq] at hi
    exact ⟨i, z, rfl, hi.2.1, hi.2.2, hi.1, hz⟩

theorem Tab.Ok.of_list {P : Program} {l : List (Nat × TD)} (h : ∀ p ∈ l, TD.Ok P p.1 p.2) : Tab.Ok P (fun t => (l.find? (fun p => p.1 == t)).map (·.2)) := by
  intro t d hd
  dsimp only at hd
  cases hf : l.find? (fun p => p.1 == t) with
  | none => rw [hf] at hd; cases hd
  | some p =>
    rw [hf] at hd
    cases hd
    have h1 := List.mem_of_find?_eq_some hf
    have h2 := List.find?_some hf
    have h3 : p.1 = t := by simpa using h2
    rw [← h3]; exact h p h1

/-! ### Functions -/
/-- What a function's results are, out of its slots. -/
def resV (tab : Tab) (rs : List ResultVar) (env : List AV) (H : Heap) (K : List AV → Prop) : Prop :=
  match rs with
  | [] => K []
  | .tmp t :: rs => resV tab rs env H fun vs => K (env.getD t .any :: vs)
  | .cell a t :: rs => loadV tab t (env.getD a .any) H fun v => resV tab rs env H fun vs => K (v :: vs)

def tupA : List AV → AV
  | [v] => v
  | vs => .tup vs

theorem resV_ok {P : Program} {tab : Tab} (hT : tab.Ok P) {Z : Fro} {φ : Pm} {B0 : Nat} {w0 w : World} {H F : Heap} (s : Sim Z φ B0 w0 (H.or F) w) {env : List AV} {a : Act} (e : EnvRel Z φ env a.tmps) :
    ∀ (rs : List ResultVar) {K : List AV → Prop}, resV tab rs env H K → ∃ vs xs, K vs ∧ RelL Z φ vs xs ∧
      (rs.mapM fun | .tmp t => pure (a.tmps.getD t undef) | .cell p t => do loadVar t (← asAddr (a.tmps.getD p undef)) : Sem (List Value)).run P w = .ok xs w := by
  have slot : ∀ t, Cv Z φ (env.getD t .any) (a.tmps.getD t undef) := fun t => ev_ok e (.tmp t)
  intro rs
  induction rs with
  | nil => intro K h; exact ⟨[], [], h, RelL.nil _ _, rfl⟩
  | cons q rs ih =>
    intro K h
    have one : ∀ {v : AV} {x : Value} {vs : List AV} {xs : List Value}, Cv Z φ v x → RelL Z φ vs xs → RelL Z φ (v :: vs) (x :: xs) := by
      intro v x vs xs hc hr
      refine ⟨by simp [hr.1], ?_⟩
      intro i av y hi hy
      cases i with
      | zero => simp at hi hy; subst hi; subst hy; exact hc
      | succ i => simp at hi hy; exact hr.2 i av y hi hy
    cases q with
    | tmp t =>
      obtain ⟨vs, xs, hK, hr, hrun⟩ := ih h
      refine ⟨_, _ :: xs, hK, one (slot t) hr, ?_⟩
      simp only [List.mapM_cons, Sem.run_bind, Sem.run_pure, Result.andThen_ok, hrun]
    | cell p t =>
      obtain ⟨v, y, hK, hc, hl⟩ := loadV_ok hT s (slot p) h
      obtain ⟨vs, xs, hK, hr, hrun⟩ := ih hK
      refine ⟨_, y :: xs, hK, one hc hr, ?_⟩
      have hl2 : (do loadVar t (← asAddr (a.tmps.getD p undef)) : Sem Value).run P w = .ok y w := by
        generalize a.tmps.getD p undef = z at hl
        unfold Instr.loadAt at hl
        cases z with
        | pointer o =>
          cases o with
          | some ad => simpa [Instr.sureAddr, asAddr] using hl
          | none => simp [Instr.sureAddr] at hl
        | _ => simp [Instr.sureAddr] at hl
      rw [List.mapM_cons]
      rw [Sem.run_bind]
      have hl3 : ((match ResultVar.cell p t with | .tmp t => pure (a.tmps.getD t undef) | .cell p t => do loadVar t (← asAddr (a.tmps.getD p undef)) : Sem Value)).run P w = .ok y w := hl2
      rw [hl3]
      simp only [Result.andThen_ok, Sem.run_bind, hrun, Sem.run_pure]

/-- The body's end: what is asked of the results. -/
def retQ (tab : Tab) (rs : List ResultVar) (K : AV → Heap → Prop) : Post
  | .normal, env, H => resV tab rs env H fun vs => K (tupA vs) H
  | .ret, env, H => resV tab rs env H fun vs => K (tupA vs) H
  | _, _, _ => False

theorem retQ_ok {P : Program} {tab : Tab} (hT : tab.Ok P) {fn : Func} {Z : Fro} {φ : Pm} {B0 : Nat} {w0 w : World} {H F : Heap} (s : Sim Z φ B0 w0 (H.or F) w) {env : List AV} {a : Act} (e : EnvRel Z φ env a.tmps)
    {K : AV → Prop} (h : resV tab fn.results.toList env H fun vs => K (tupA vs)) : ∃ v x, K v ∧ Cv Z φ v x ∧ (results fn a.tmps).run P w = .ok x w := by
  obtain ⟨vs, xs, hK, hr, hrun⟩ := resV_ok hT s e fn.results.toList h
  have hm : (fn.results.mapM fun | .tmp t => pure (a.tmps.getD t undef) | .cell p t => do loadVar t (← asAddr (a.tmps.getD p undef)) : Sem (Array Value)).run P w = .ok xs.toArray w := by
    rw [Array.mapM_eq_mapM_toList, Sem.run_map, hrun]; rfl
  have hres : (results fn a.tmps).run P w = .ok (if h : xs.toArray.size = 1 then xs.toArray[0] else .tuple xs.toArray) w := by
    unfold results
    rw [Sem.run_bind]
    refine Eq.trans (congrArg (fun r => Result.andThen r _) hm) ?_
    simp only [Result.andThen_ok, Sem.run_pure]
  match vs, xs, hr.1, hr, hK, hres with
  | [v], [x], _, hr, hK, hres => exact ⟨v, x, hK, hr.2 0 v x rfl rfl, by rw [hres]; rfl⟩
  | [], [], _, hr, hK, hres => exact ⟨_, .tuple #[], hK, .tup [] #[] rfl (fun i av x h => by simp at h), by rw [hres]; rfl⟩
  | v :: v' :: vs, x :: x' :: xs, hl, hr, hK, hres =>
    refine ⟨_, .tuple (x :: x' :: xs).toArray, hK, .tup _ _ (by simpa using hl) (fun i av y hi hy => hr.2 i av y hi (by simpa using hy)), ?_⟩
    rw [hres]
    simp

/-- A call, out of what the function's body does. -/
theorem CallT.of_body {P : Program} {tab : Tab} (hT : tab.Ok P) {f : Nat} {fn : Func} {c : Code} (hf : P.funcs[f]? = some fn) (hb : fn.body = some c) (hn : (fn.name == "runtime.NumGoroutine") = false)
    {args : List AV} {H : Heap} {K : AV → Heap → Prop} (h : CT P c (retQ tab fn.results.toList K) (args ++ List.replicate (fn.ntmps - args.length) .any) H) : CallT P f args H K := by
  refine ⟨⟨fn, c, hf, hb, hn⟩, ?_⟩
  intro B0 w0 F Z φ w xs hd hs ha
  refine calls_of_wp hf hb ?_
  have r : Rel B0 w0 F Z φ H (args ++ List.replicate (fn.ntmps - args.length) .any) { tmps := xs ++ Array.replicate (fn.ntmps - xs.size) undef, defers := [] } w := by
    refine ⟨hd, hs, ⟨by simp [ha.1], ?_⟩, rfl⟩
    intro i av x hi hx
    by_cases hl : i < args.length
    · rw [List.getElem?_append_left hl] at hi
      rw [Array.getElem?_append_left (by rw [ha.1]; exact hl)] at hx
      exact ha.2 i av x hi hx
    · rw [List.getElem?_append_right (by omega), List.getElem?_replicate] at hi
      split at hi
      · cases hi; exact .any x
      · cases hi
  refine wp_mono (h B0 w0 F Z φ _ w r) ?_
  rintro e a' w' ⟨env', H', Z', φ', hq, hz, hp, r'⟩
  have fin : (resV tab fn.results.toList env' H' fun vs => K (tupA vs) H') → bodyPost P fn (fun e w' => ∃ x, e = .returned x ∧ UpV B0 w0 F Z φ K x w') .ret a' w' := by
    intro hq
    obtain ⟨v, x, hK, hc, hrun⟩ := retQ_ok (K := fun v => K v H') hT r'.sim r'.env hq
    exact ⟨r'.defers, x, hrun, x, rfl, v, H', Z', φ', hK, hz, hp, r'.disj, r'.sim, hc⟩
  cases e with
  | normal => exact fin hq
  | ret => exact fin hq
  | _ => exact hq.elim

end Go.Sep
