/- Sep, part 14: forgetting, freezing, weakening, around calls. -/
import Derived.Test.YthlbkcgnacemgaaSep13
namespace Go.Sep
open Go Go.RowKit

/-- A call's outcome, told more weakly. -/
theorem CallT.wk {P : Program} {f : Nat} {args : List AV} {H : Heap} {Q Q' : AV → Heap → Prop} (h : CallT P f args H Q) (k : ∀ v H1, Q v H1 → ∃ v' H2, Wk v H1 v' H2 ∧ Q' v' H2) : CallT P f args H Q' := by
  refine ⟨h.1, ?_⟩
  intro B0 w0 F Z φ w xs hd hs ha
  refine (h.2 B0 w0 F Z φ w xs hd hs ha).mono ?_
  rintro e w' ⟨x, rfl, v, H1, Z1, φ1, hq, h1, h2, h3, h4, h5⟩
  obtain ⟨v', H2, hw, hq'⟩ := k v H1 hq
  obtain ⟨Z2, φ2, b1, b2, b3, b4, b5⟩ := UpV.wk hw h3 h4 h5
  exact ⟨x, rfl, v', H2, Z2, φ2, hq', Fro.le_trans h1 b1, Pm.le_trans h2 b2, b3, b4, b5⟩

/-- A call that leaves the heap as it was, but for what nobody needs. -/
theorem CallT.le {P : Program} {f : Nat} {args : List AV} {H : Heap} {Q : AV → Prop} (h : CallT P f args H (fun v H' => Q v ∧ Heap.le H H')) : CallT P f args H (fun v H' => Q v ∧ H' = H) :=
  h.wk fun v _ ⟨hq, hl⟩ => ⟨v, H, .forget hl, hq, rfl⟩

/-- A function that is one of values alone. -/
structure Pu (P : Program) (f : Nat) (args : List AV) (v : AV) : Prop where
  all : ∀ H, CallT P f args H (fun r H' => r = v ∧ H' = H)

theorem Pu.of {P : Program} {f : Nat} {args : List AV} {v : AV} (h : ∀ H, CallT P f args H (fun r H' => r = v ∧ Heap.le H H')) : Pu P f args v := ⟨fun H => (h H).le⟩

theorem Pu.use {P : Program} {f : Nat} {args : List AV} {v : AV} (h : Pu P f args v) {H : Heap} {K : AV → Heap → Prop} (k : K v H) : CallT P f args H K :=
  (h.all H).mono fun _ _ ⟨h1, h2⟩ => by subst h1; subst h2; exact k

/-- A call out of the body, where only what is still needed of the heap counts. -/
theorem Pu.of_x {P : Program} {tab : Tab} (hT : tab.Ok P) {f : Nat} {fn : Func} (hf : P.funcs[f]? = some fn) {x : XC} (hx : (fn.body.map compile) = some x) (hn : (fn.name == "runtime.NumGoroutine") = false)
    {nt : Nat} (hnt : fn.ntmps = nt) {rs : Array ResultVar} (hrs : fn.results = rs)
    {args : List AV} {v : AV} (h : ∀ H, CX P x (retQ tab rs.toList fun r H' => r = v ∧ Heap.le H H') (args ++ List.replicate (nt - args.length) .any) H) : Pu P f args v :=
  Pu.of fun H => CallT.of_x hT hf hx hn hnt hrs (h H)

/-- Weaker arguments. -/
theorem CallT.args {P : Program} {f : Nat} {args args' : List AV} {H : Heap} {Q : AV → Heap → Prop} (h : CallT P f args' H Q) (hw : wkE args args') : CallT P f args H Q := by
  obtain ⟨hl, hk⟩ := wkE_ok hw
  refine ⟨h.1, ?_⟩
  intro B0 w0 F Z φ w xs hd hs ha
  refine h.2 B0 w0 F Z φ w xs hd hs ⟨ha.1.trans hl.symm, ?_⟩
  intro i v' x hi hx
  have hlt : i < args.length := by rw [← hl]; exact (List.getElem?_eq_some_iff.1 hi).1
  exact AV.wk_ok (hk i _ v' (List.getElem?_eq_getElem hlt) hi) (ha.2 i _ x (List.getElem?_eq_getElem hlt) hx)

/-- A call from what is told more weakly, of arguments and heap. -/
theorem CallT.pre {P : Program} {f : Nat} {args args' : List AV} {H H' : Heap} {Q : AV → Heap → Prop} (h : CallT P f args' H' Q) (hw : Wk (.tup args) H (.tup args') H') : CallT P f args H Q := by
  refine ⟨h.1, ?_⟩
  intro B0 w0 F Z φ w xs hd hs ha
  obtain ⟨Z2, φ2, b1, b2, b3, b4, b5⟩ := UpV.wk hw hd hs (Cv.tup args xs ha.1 ha.2)
  cases b5 with
  | tup _ _ c1 c2 =>
    refine (h.2 B0 w0 F Z2 φ2 w xs b3 b4 ⟨c1, c2⟩).mono ?_
    rintro e w' ⟨x, rfl, v, H1, Z1, φ1, hq, h1, h2, h3, h4, h5⟩
    exact ⟨x, rfl, v, H1, Z1, φ1, hq, Fro.le_trans b1 h1, Pm.le_trans b2 h2, h3, h4, h5⟩

/-- What a call leaves alone may lie beside it. -/
theorem CallT.frame {P : Program} {f : Nat} {args : List AV} {H : Heap} {Q : AV → Heap → Prop} (h : CallT P f args H Q) {r : Nat} {b : List AV} (hr : H r = none) :
    CallT P f args (H.set r b) (fun v H'' => ∃ H', H'' = H'.set r b ∧ H' r = none ∧ Q v H') := by
  refine ⟨h.1, ?_⟩
  intro B0 w0 F Z φ w xs hd hs ha
  have hFr : F r = none := hd r (by rw [Heap.set_same]; simp)
  have hd' : Disj H (F.set r b) := by
    intro x hx
    have hxr : x ≠ r := fun e => by subst e; exact hx hr
    rw [Heap.set_other hxr]
    exact hd x (by rw [Heap.set_other hxr]; exact hx)
  have heq : ∀ (G : Heap), G r = none → (G.set r b).or F = G.or (F.set r b) := by
    intro G hG
    funext x
    by_cases hx : x = r
    · subst hx; simp [Heap.or, Heap.set, hG]
    · simp [Heap.or, Heap.set, hx]
  rw [heq H hr] at hs
  refine (h.2 B0 w0 (F.set r b) Z φ w xs hd' hs ha).mono ?_
  rintro e w' ⟨x, rfl, v, H1, Z1, φ1, hq, h1, h2, h3, h4, h5⟩
  have hH1 : H1 r = none := by
    cases hh : H1 r with
    | none => rfl
    | some c => have := h3 r (by simp [hh]); rw [Heap.set_same] at this; cases this
  refine ⟨x, rfl, v, H1.set r b, Z1, φ1, ⟨H1, rfl, hH1, hq⟩, h1, h2, ?_, by rw [heq H1 hH1]; exact h4, h5⟩
  intro y hy
  by_cases hyr : y = r
  · subst hyr; exact hFr
  · rw [Heap.set_other hyr] at hy
    have := h3 y hy
    rwa [Heap.set_other hyr] at this

end Go.Sep
