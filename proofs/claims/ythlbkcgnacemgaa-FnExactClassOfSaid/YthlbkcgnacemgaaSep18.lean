/- Sep, part 18: regions that draw their order. -/
import Derived.Test.YthlbkcgnacemgaaSep17f
namespace Go.Sep
open Go Go.RowKit

abbrev DOps := List (XOp × List Nat)
def opAt (l : DOps) (i : Nat) : XOp := (l.getD i (.bad, [])).1
def edg (l : DOps) (i : Nat) : List Nat := (l.getD i (.bad, [])).2

/-- A canonical order: the operations, and with each those reads before it that must read the same behind it. -/
abbrev Canon := List (Nat × List Nat)

def Keeps (e : List AV) (d : Option Nat) (u : AV) : Prop := ∀ t, d = some t → e.getD t .any = u

def vcS (P : Program) (tab : Tab) (l : DOps) (Q : List AV → Heap → Prop) : Canon → List AV → Heap → Prop
  | [], env, H => Q env H
  | (i, ps) :: rest, env, H => stV P tab (opAt l i) env H fun v H' =>
      (∀ a ∈ ps, stV P tab (opAt l a) (setD env (opAt l i).d v) H' fun u _ => Keeps (setD env (opAt l i).d v) (opAt l a).d u) ∧
      vcS P tab l Q rest (setD env (opAt l i).d v) H'

def dstNot (d : Option Nat) (ts : List Nat) : Bool := match d with | some t => !ts.contains t | none => true
def dstNe (d d' : Option Nat) : Bool := match d, d' with | some t, some t' => t != t' | _, _ => true
/-- Two operations that do not touch each other's slots. -/
def indep (x y : XOp) : Bool := dstNot x.d y.rd && dstNot y.d x.rd && dstNe x.d y.d

/-- May i, which stands before j, be done behind it? (The operations 'mid' stand between.) -/
def passes (l : DOps) (i j : Nat) (ps : List Nat) (mid : List Nat) : Bool :=
  (opAt l i).nh && indep (opAt l i) (opAt l j) &&
  (!(opAt l i).isRead || (ps.contains i && dstNot (opAt l i).d (opAt l i).rd && mid.all (fun k => dstNot (opAt l k).d (opAt l i).rd) && mid.all (fun k => dstNe (opAt l k).d (opAt l i).d)))

def inRange (n : Nat) (d : Option Nat) : Bool := match d with | some t => decide (t < n) | none => true

theorem setD_getD_ne {env : List AV} {d : Option Nat} {t : Nat} {v : AV} (h : ∀ s, d = some s → s ≠ t) : (setD env d v).getD t .any = env.getD t .any := by
  cases d with
  | none => rfl
  | some s => simp only [setD, List.getD]; rw [List.getElem?_set_ne (h s rfl)]

theorem setD_getD_same {env : List AV} {s : Nat} {v : AV} (h : s < env.length) : (setD env (some s) v).getD s .any = v := by
  simp [setD, List.getD, h]

theorem setD_comm {env : List AV} {d d' : Option Nat} {v v' : AV} (h : dstNe d d' = true) : setD (setD env d v) d' v' = setD (setD env d' v') d v := by
  cases d <;> cases d' <;> simp only [setD]
  rename_i a b
  exact List.set_comm _ _ (by simpa [dstNe] using h)

theorem setD_len (env : List AV) (d : Option Nat) (v : AV) : (setD env d v).length = env.length := by cases d <;> simp [setD]

theorem dstNot_ok {d : Option Nat} {ts : List Nat} (h : dstNot d ts = true) : ∀ s t, d = some s → t ∈ ts → s ≠ t := by
  rintro s t rfl ht rfl
  simp [dstNot] at h; exact h ht

/-- The first of the rest, j, is done ahead of the canonical ones before it. -/
theorem bubble {P : Program} {tab : Tab} {l : DOps} {Q : List AV → Heap → Prop} {j : Nat} {ps : List Nat} {post : Canon} : ∀ (pre : List Nat) (env : List AV) (H : Heap),
    (∀ k ∈ pre, inRange env.length (opAt l k).d = true) → (∀ p q, pre = p ++ q → ∀ i q', q = i :: q' → passes l i j ps q' = true) → vcS P tab l Q (pre.map (fun i => (i, [])) ++ (j, ps) :: post) env H →
    ∃ E, (∀ t, (∀ k ∈ pre, ∀ s, (opAt l k).d = some s → s ≠ t) → E.getD t .any = env.getD t .any) ∧
      stV P tab (opAt l j) env H fun v H' => (∀ a ∈ ps, stV P tab (opAt l a) (setD E (opAt l j).d v) H' fun u _ => Keeps (setD E (opAt l j).d v) (opAt l a).d u) ∧
        vcS P tab l Q (pre.map (fun i => (i, [])) ++ post) (setD env (opAt l j).d v) H' := by
  intro pre
  induction pre with
  | nil => intro env H _ _ h; exact ⟨env, fun _ _ => rfl, h⟩
  | cons a pre ih =>
    intro env H hr hp h
    have ha := hp [] (a :: pre) rfl a pre rfl
    simp only [passes, Bool.and_eq_true, indep] at ha
    obtain ⟨⟨hnh, ⟨hi1, hi2⟩, hi3⟩, hrd⟩ := ha
    obtain ⟨S, u0, hlin⟩ := stV_lin (P := P) (tab := tab) hnh env H
    have h' : stV P tab (opAt l a) env H (fun v H' => (∀ b ∈ ([] : List Nat), stV P tab (opAt l b) (setD env (opAt l a).d v) H' fun u _ => Keeps (setD env (opAt l a).d v) (opAt l b).d u) ∧
        vcS P tab l Q (pre.map (fun i => (i, [])) ++ (j, ps) :: post) (setD env (opAt l a).d v) H') := h
    obtain ⟨hS, _, hv⟩ := (hlin _).1 h'
    obtain ⟨E, hE, hst⟩ := ih (setD env (opAt l a).d u0) H (fun k hk => by rw [setD_len]; exact hr k (by simp [hk])) (fun p q e i q' e' => hp (a :: p) q (by rw [e]; rfl) i q' e') hv
    refine ⟨E, ?_, ?_⟩
    · intro t ht
      rw [hE t (fun k hk => ht k (by simp [hk])), setD_getD_ne (fun s hs => ht a (by simp) s hs)]
    · rw [stV_congr (env' := env) (fun t ht => setD_getD_ne fun s hs => dstNot_ok hi1 s t hs ht)] at hst
      have step : ∀ v H', ((∀ b ∈ ps, stV P tab (opAt l b) (setD E (opAt l j).d v) H' fun u _ => Keeps (setD E (opAt l j).d v) (opAt l b).d u) ∧
          vcS P tab l Q (pre.map (fun i => (i, [])) ++ post) (setD (setD env (opAt l a).d u0) (opAt l j).d v) H') →
          ((∀ b ∈ ps, stV P tab (opAt l b) (setD E (opAt l j).d v) H' fun u _ => Keeps (setD E (opAt l j).d v) (opAt l b).d u) ∧
          vcS P tab l Q ((a :: pre).map (fun i => (i, [])) ++ post) (setD env (opAt l j).d v) H') := by
        rintro v H' ⟨hk, hq⟩
        refine ⟨hk, ?_⟩
        show stV P tab (opAt l a) (setD env (opAt l j).d v) H' _
        have hsame : ∀ t ∈ (opAt l a).rd, (setD env (opAt l j).d v).getD t .any = env.getD t .any := fun t ht => setD_getD_ne fun s hs => dstNot_ok hi2 s t hs ht
        have hgoal : (∀ b ∈ ([] : List Nat), stV P tab (opAt l b) (setD (setD env (opAt l j).d v) (opAt l a).d u0) H' fun u _ => Keeps (setD (setD env (opAt l j).d v) (opAt l a).d u0) (opAt l b).d u) ∧
            vcS P tab l Q (pre.map (fun i => (i, [])) ++ post) (setD (setD env (opAt l j).d v) (opAt l a).d u0) H' := by
          refine ⟨fun b hb => by simp at hb, ?_⟩
          rw [setD_comm (by cases h1 : (opAt l a).d <;> cases h2 : (opAt l j).d <;> simp_all [dstNe]; exact fun e => hi3 e.symm)]
          exact hq
        cases hread : (opAt l a).isRead with
        | false =>
          obtain ⟨S', u', hpure⟩ := stV_pure (P := P) (tab := tab) hnh hread env
          have e0 := (hpure H (fun v _ => v = u0)).1 ((hlin _).2 ⟨hS, rfl⟩)
          rw [stV_congr hsame]
          refine (hpure H' _).2 ⟨e0.1, ?_⟩
          rw [e0.2]; exact hgoal
        | true =>
          simp only [hread, Bool.not_true, Bool.false_or, Bool.and_eq_true, List.contains_eq_mem, decide_eq_true_eq] at hrd
          obtain ⟨⟨⟨hmem, hself⟩, hmid⟩, hmid2⟩ := hrd
          have hk1 := hk a hmem
          have hEa : ∀ t ∈ (opAt l a).rd, (setD E (opAt l j).d v).getD t .any = env.getD t .any := by
            intro t ht
            rw [setD_getD_ne fun s hs => dstNot_ok hi2 s t hs ht]
            rw [hE t (fun k hk' s hs => dstNot_ok (List.all_eq_true.1 hmid k hk') s t hs ht)]
            exact setD_getD_ne fun s hs => dstNot_ok hself s t hs ht
          rw [stV_congr (env' := setD env (opAt l j).d v) (fun t ht => (hEa t ht).trans (hsame t ht).symm)] at hk1
          obtain ⟨S', u', hl'⟩ := stV_lin (P := P) (tab := tab) hnh (setD env (opAt l j).d v) H'
          obtain ⟨hS', hkeep⟩ := (hl' _).1 hk1
          refine (hl' _).2 ⟨hS', ?_⟩
          cases hda : (opAt l a).d with
          | none => rw [hda] at hgoal; exact hgoal
          | some s =>
            have hu : u' = u0 := by
              rw [← hkeep s hda]
              rw [setD_getD_ne (fun s' hs' => by
                have := hi3; rw [hda, hs'] at this; simp only [dstNe, bne_iff_ne, ne_eq] at this; exact fun e => this e.symm)]
              rw [hE s (fun k hk' s' hs' => by
                have h1 := List.all_eq_true.1 hmid2 k hk'
                rw [hda, hs'] at h1; simpa [dstNe] using h1)]
              rw [hda]
              have hin := hr a (by simp)
              rw [hda] at hin
              exact setD_getD_same (by simpa [inRange] using hin)
            rw [hu]; rw [hda] at hgoal; exact hgoal
      exact stV_mono step hst

/-- A new variable: it may be laid at any time. -/
def isAl (tab : Tab) : XOp → Bool
  | .run (some _) (.alloc t) => (tab t).isSome
  | _ => false
/-- May i, which stands before the new variable j, be done behind it? -/
def passesA (tab : Tab) (l : DOps) (i : Nat) (pi : List Nat) (j : Nat) : Bool :=
  isAl tab (opAt l j) && indep (opAt l i) (opAt l j) && pi.all fun a => dstNot (opAt l j).d (opAt l a).rd && dstNe (opAt l j).d (opAt l a).d

theorem isAl_ok {tab : Tab} {x : XOp} (h : isAl tab x = true) : ∃ d t td, x = .run (some d) (.alloc t) ∧ tab t = some td := by
  unfold isAl at h
  split at h
  · obtain ⟨td, htd⟩ := Option.isSome_iff_exists.1 h; exact ⟨_, _, td, rfl, htd⟩
  · cases h

theorem bubbleA {P : Program} {tab : Tab} {l : DOps} {Q : List AV → Heap → Prop} {j : Nat} {ps : List Nat} {post : Canon} : ∀ (pre : Canon) (env : List AV) (H : Heap),
    (∀ i pi, (i, pi) ∈ pre → passesA tab l i pi j = true) → vcS P tab l Q (pre ++ (j, ps) :: post) env H →
      isAl tab (opAt l j) = true → stV P tab (opAt l j) env H fun v H' => vcS P tab l Q (pre ++ post) (setD env (opAt l j).d v) H' := by
  intro pre
  induction pre with
  | nil => intro env H _ h _; exact stV_mono (fun v H' hh => hh.2) h
  | cons p pre ih =>
    obtain ⟨a, pa⟩ := p
    intro env H hp h hal
    have ha := hp a pa (by simp)
    simp only [passesA, Bool.and_eq_true, indep, List.all_eq_true] at ha
    obtain ⟨⟨_, ⟨hi1, hi2⟩, hi3⟩, hps⟩ := ha
    obtain ⟨d, t, td, hj, htab⟩ := isAl_ok hal
    have h' : stV P tab (opAt l a) env H (fun v H' => (∀ b ∈ pa, stV P tab (opAt l b) (setD env (opAt l a).d v) H' fun u _ => Keeps (setD env (opAt l a).d v) (opAt l b).d u) ∧
        vcS P tab l Q (pre ++ (j, ps) :: post) (setD env (opAt l a).d v) H') := h
    have h2 := stV_mono (fun v H' (hh : _ ∧ _) => And.intro hh.1 (ih (setD env (opAt l a).d v) H' (fun i pi hi => hp i pi (by simp [hi])) hh.2 hal)) h'
    have hdj : (opAt l j).d = some d := by rw [hj]; rfl
    rw [hdj] at hi2 hi3 hps ⊢
    have hgoal : ∀ r, H r = none → vcS P tab l Q ((a, pa) :: pre ++ post) (setD env (some d) (.ptr r 0)) (H.set r td.zero) := by
      intro r hr
      show stV P tab (opAt l a) (setD env (some d) (.ptr r 0)) (H.set r td.zero) _
      have h4 := stV_frame (z := td.zero) hr h2
      rw [stV_congr (env' := setD env (some d) (.ptr r 0)) (fun t' ht => (setD_getD_ne fun s hs => dstNot_ok hi2 s t' hs ht).symm)] at h4
      refine stV_mono ?_ h4
      rintro v H'' ⟨H', rfl, hr', hk, hst⟩
      rw [hj] at hst
      simp only [stV, opV, allocV, htab, XOp.d] at hst
      have hq := hst r hr'
      have hcomm : setD (setD env (some d) (.ptr r 0)) (opAt l a).d v = setD (setD env (opAt l a).d v) (some d) (.ptr r 0) := by
        rw [setD_comm]
        cases hd : (opAt l a).d with
        | none => rfl
        | some s => rw [hd] at hi3; simp only [dstNe, bne_iff_ne, ne_eq] at hi3 ⊢; exact fun e => hi3 e.symm
      refine ⟨fun b hb => ?_, by rw [hcomm]; exact hq⟩
      have hb1 := hps b hb
      have h5 := stV_frame (z := td.zero) hr' (hk b hb)
      rw [hcomm]
      rw [stV_congr (env' := setD (setD env (opAt l a).d v) (some d) (.ptr r 0)) (fun t' ht => (setD_getD_ne fun s hs => dstNot_ok hb1.1 s t' hs ht).symm)] at h5
      refine stV_mono ?_ h5
      rintro u H5 ⟨H6, _, _, hkeep⟩ t' ht'
      rw [setD_getD_ne (fun s hs => by
        have := hb1.2; rw [ht', hs] at this; simpa [dstNe] using this)]
      exact hkeep t' ht'
    rw [hj]
    simp only [stV, opV, allocV, htab]
    exact hgoal

end Go.Sep
