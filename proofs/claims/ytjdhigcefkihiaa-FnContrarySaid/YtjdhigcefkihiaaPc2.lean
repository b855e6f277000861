/- Texts laid together: SepC. -/
import Derived.Test.YtjdhigcefkihiaaPc1
import Derived.ProofKit
import Derived.RangeFuncWrites
import Derived.RangeFuncCalls
import Derived.WalkKit
import Derived.OwnWalkIn
set_option linter.unusedVariables false
set_option linter.unusedSimpArgs false
open Nat renaming reduceAdd → ν1, reduceLeDiff → ν2, reduceLT → ν3, reduceMul → ν4, reduceSub → ν5
open Int renaming reduceToNat → ι1, reduceSub → ι2, reduceAdd → ι3, reduceNeg → ι4
open Array renaming toList → ι5
open Ne renaming symm → ν6
open List renaming forall_mem_cons → ν7
namespace Go.Sep
open Go Go.RowKit
abbrev NB := Option ((Nat → AV) × List AV)
def newV (o : NB) (H : Heap) (K : AV → Heap → Prop) : Prop := match o with
  | some p => ∀ r, H r = none → K (p.1 r) (H.set r p.2)
  | none => False
def safeV (o : NB) : Prop := match o with
  | some _ => True
  | none => False
def ifN (c : Prop) [Decidable c] (o : NB) : NB := if c then o else none
theorem newV_if {c : Prop} [Decidable c] {o : NB} {H : Heap} {K : AV → Heap → Prop} : newV (ifN c o) H K = (c ∧ newV o H K) := by
  unfold ifN; by_cases h : c <;> simp [h, newV]
theorem safeV_iff {o : NB} : safeV o ↔ ∃ p, o = some p := by cases o <;> simp [safeV]
def allocN (tab : Tab) (t : Nat) : NB := match tab t with
  | some d => some (fun r => .ptr r 0, d.zero)
  | none => none
def buildN (tab : Tab) (t len : Nat) (ps : List (Nat × AV)) : NB := match tab t with
  | some d => match d.k with
    | .slice e => match tab e with
      | some ed => ifN (len * ed.size ≤ 16777216) (match fillV (fun i => some (i * ed.size, ed.size)) (zerosA len ed.zero) ps with
        | some cs => some (fun r => .sl r ed.size 0 len, cs)
        | none => none)
      | none => none
    | _ => none
  | none => none
def makeN (tab : Tab) (t : Nat) (l c : AV) : NB := match tab t with
  | some d => match d.k with
    | .slice e => match tab e with
      | some ed => match l with
        | .p (.int _ n) => match c with
          | .p (.int _ m) => ifN (0 ≤ n ∧ n ≤ m ∧ m * ed.bytes ≤ 140737488355328 ∧ m ≤ 9223372036854775807) (some (fun r => .sl r ed.size 0 n.toNat, zerosA n.toNat ed.zero))
          | _ => none
        | _ => none
      | none => none
    | _ => none
  | none => none
def newOf (tab : Tab) (x : XOp) (env : List AV) : NB := match x with
  | .run (some _) (.alloc t) => allocN tab t
  | .run (some _) (.buildSlice t n ps) => buildN tab t n (ps.toList.map fun p => (p.1, ev env p.2))
  | .run (some _) (.makeSlice t l c) => makeN tab t (ev env l) (ev env c)
  | _ => none
def newLike : XOp → Bool
  | .run (some _) (.alloc _) => true
  | .run (some _) (.buildSlice _ _ _) => true
  | .run (some _) (.makeSlice _ _ _) => true
  | _ => false
theorem newLike_nh {x : XOp} (h : newLike x = true) : x.nh = false := by
  unfold newLike at h
  split at h <;> first | rfl | cases h
theorem newOf_congr {tab : Tab} {x : XOp} {env env' : List AV} (h : ∀ t ∈ x.rd, env.getD t .any = env'.getD t .any) : newOf tab x env = newOf tab x env' := by
  unfold newOf
  split
  · rfl
  · rename_i t n ps
    have key : ∀ y, y ∈ (Op.buildSlice t n ps).operands.toList → ev env y = ev env' y := fun y hy => ev_congr h hy
    have : (ps.toList.map fun p => (p.1, ev env p.2)) = ps.toList.map fun p => (p.1, ev env' p.2) := List.map_congr_left fun p hp => by rw [key p.2 (by simp only [Op.operands]; exact List.mem_map.2 ⟨p, hp, rfl⟩)]
    rw [this]
  · rename_i t l c
    have key : ∀ y, y ∈ (Op.makeSlice t l c).operands.toList → ev env y = ev env' y := fun y hy => ev_congr h hy
    rw [key l (by simp [Op.operands]), key c (by simp [Op.operands])]
  · rfl
theorem newV_st {P : Program} {tab : Tab} {x : XOp} {env : List AV} {H : Heap} {K : AV → Heap → Prop} (h : newV (newOf tab x env) H K) : stV P tab x env H K := by
  unfold newOf at h
  split at h
  · rename_i t
    simp only [stV, opV, allocV, allocN] at h ⊢
    cases ht : tab t <;> rw [ht] at h <;> exact h
  · rename_i t n ps
    simp only [stV, opV, buildSliceV, buildN] at h ⊢
    cases ht : tab t <;> rw [ht] at h <;> first | exact h | skip
    rename_i d
    dsimp only at *
    cases hk : d.k <;> rw [hk] at h <;> first | exact h | skip
    rename_i e
    dsimp only at *
    cases he : tab e <;> rw [he] at h <;> first | exact h | skip
    rename_i ed
    dsimp only at *
    rw [newV_if] at h
    refine ⟨h.1, ?_⟩
    have h2 := h.2
    generalize fillV (fun i => some (i * ed.size, ed.size)) (zerosA n ed.zero) (List.map (fun p => (p.fst, ev env p.snd)) ps.toList) = fv at h2 ⊢
    cases fv with
    | none => exact h2
    | some cs => exact fun r hr => ⟨_, _, .refl _ _, h2 r hr⟩
  · rename_i t l c
    simp only [stV, opV, makeSliceV, makeN] at h ⊢
    cases ht : tab t <;> rw [ht] at h <;> first | exact h | skip
    rename_i d
    dsimp only at *
    cases hk : d.k <;> rw [hk] at h <;> first | exact h | skip
    rename_i e
    dsimp only at *
    cases he : tab e <;> rw [he] at h <;> first | exact h | skip
    rename_i ed
    dsimp only at *
    unfold numV
    generalize ev env l = vl at h ⊢
    generalize ev env c = vc at h ⊢
    cases vl <;> first | exact h | skip
    rename_i a
    cases a <;> first | exact h | skip
    dsimp only at *
    cases vc <;> first | exact h | skip
    rename_i b
    cases b <;> first | exact h | skip
    dsimp only at *
    rw [newV_if] at h
    exact ⟨h.1.1, h.1.2.1, h.1.2.2.1, h.1.2.2.2, h.2⟩
  · exact h.elim
theorem st_newV {P : Program} {tab : Tab} {d t : Nat} {env : List AV} {H : Heap} {K : AV → Heap → Prop} (h : stV P tab (.run (some d) (.alloc t)) env H K) : newV (newOf tab (.run (some d) (.alloc t)) env) H K := by
  simp only [stV, opV, allocV, newOf, allocN] at h ⊢
  cases ht : tab t <;> rw [ht] at h <;> exact h
def stX (P : Program) (tab : Tab) (m : Bool) (x : XOp) (env : List AV) (H : Heap) (K : AV → Heap → Prop) : Prop := match m with
  | true => newV (newOf tab x env) H K
  | false => stV P tab x env H K
theorem stX_st {P : Program} {tab : Tab} {m : Bool} {x : XOp} {env : List AV} {H : Heap} {K : AV → Heap → Prop} (h : stX P tab m x env H K) : stV P tab x env H K := by
  cases m with
  | true => exact newV_st h
  | false => exact h
theorem newV_mono {o : NB} {H : Heap} {K K' : AV → Heap → Prop} (k : ∀ v H', K v H' → K' v H') (h : newV o H K) : newV o H K' := by
  cases o with
  | none => exact h
  | some p => exact fun r hr => k _ _ (h r hr)
theorem stX_mono {P : Program} {tab : Tab} {m : Bool} {x : XOp} {env : List AV} {H : Heap} {K K' : AV → Heap → Prop} (k : ∀ v H', K v H' → K' v H') (h : stX P tab m x env H K) : stX P tab m x env H K' := by
  cases m with
  | true => exact newV_mono k h
  | false => exact stV_mono k h
theorem stX_congr {P : Program} {tab : Tab} {m : Bool} {x : XOp} {env env' : List AV} (h : ∀ t ∈ x.rd, env.getD t .any = env'.getD t .any) (H : Heap) (K : AV → Heap → Prop) : stX P tab m x env H K = stX P tab m x env' H K := by
  cases m with
  | true => simp only [stX, newOf_congr h]
  | false => exact stV_congr h H K
theorem stX_frame {P : Program} {tab : Tab} {m : Bool} {x : XOp} {env : List AV} {H : Heap} {K : AV → Heap → Prop} {r : Nat} {z : List AV} (hr : H r = none) (h : stX P tab m x env H K) : stX P tab m x env (H.set r z) (Kf K r z) := by
  cases m with
  | true =>
    simp only [stX] at *
    cases ho : newOf tab x env <;> rw [ho] at h
    · exact h
    · exact new_frame hr h
  | false => exact stV_frame hr h
end Go.Sep
namespace Go.Sep
open Go Go.RowKit
abbrev DOps := List (XOp × List Nat)
def opAt (l : DOps) (i : Nat) : XOp := (l.getD i (.bad, [])).1
def edg (l : DOps) (i : Nat) : List Nat := (l.getD i (.bad, [])).2
abbrev Canon := List (Nat × List Nat)
def Keeps (e : List AV) (d : Option Nat) (u : AV) : Prop := ∀ t, d = some t → e.getD t .any = u
def vcS (P : Program) (tab : Tab) (l : DOps) (Q : List AV → Heap → Prop) : Canon → List AV → Heap → Prop
  | [], env, H => Q env H
  | (i, ps) :: rest, env, H => (∀ a ∈ ps, a ≠ i → newLike (opAt l a) = true → safeV (newOf tab (opAt l a) env)) ∧
      stX P tab (ps.contains i) (opAt l i) env H fun v H' =>
      (∀ a ∈ ps, newLike (opAt l a) = false → stV P tab (opAt l a) (setD env (opAt l i).d v) H' fun u _ => Keeps (setD env (opAt l i).d v) (opAt l a).d u) ∧
      vcS P tab l Q rest (setD env (opAt l i).d v) H'
theorem vcS_nil {P : Program} {tab : Tab} {l : DOps} {Q : List AV → Heap → Prop} {i : Nat} {rest : Canon} {env : List AV} {H : Heap} :
    vcS P tab l Q ((i, []) :: rest) env H ↔ stV P tab (opAt l i) env H fun v H' => vcS P tab l Q rest (setD env (opAt l i).d v) H' := by
  show (_ ∧ stX P tab false _ _ _ _) ↔ _
  constructor
  · exact fun h => stV_mono (fun v H' hh => hh.2) h.2
  · exact fun h => ⟨fun a ha => by simp at ha, stV_mono (fun v H' hh => ⟨fun a ha => by simp at ha, hh⟩) h⟩
def dstNot (d : Option Nat) (ts : List Nat) : Bool := match d with | some t => !ts.contains t | none => true
def dstNe (d d' : Option Nat) : Bool := match d, d' with | some t, some t' => t != t' | _, _ => true
def indep (x y : XOp) : Bool := dstNot x.d y.rd && dstNot y.d x.rd && dstNe x.d y.d
def passes (l : DOps) (i j : Nat) (ps : List Nat) (mid : List Nat) : Bool :=
  (opAt l i).nh && indep (opAt l i) (opAt l j) &&
  (!(opAt l i).isRead || (ps.contains i && dstNot (opAt l i).d (opAt l i).rd && mid.all (fun k => dstNot (opAt l k).d (opAt l i).rd) && mid.all (fun k => dstNe (opAt l k).d (opAt l i).d)))
def inRange (n : Nat) (d : Option Nat) : Bool := match d with | some t => decide (t < n) | none => true
theorem setD_getD_ne {env : List AV} {d : Option Nat} {t : Nat} {v : AV} (h : ∀ s, d = some s → s ≠ t) : (setD env d v).getD t .any = env.getD t .any := by
  cases d with
  | none => rfl
  | some s => simp only [setD, List.getD]; rw [List.getElem?_set_ne (h s rfl)]
theorem setD_getD_same {env : List AV} {s : Nat} {v : AV} (h : s < env.length) : (setD env (some s) v).getD s .any = v := by
  simp [setD, List.getD, h]
theorem setD_comm {env : List AV} {d d' : Option Nat} {v v' : AV} (h : dstNe d d' = true) : setD (setD env d v) d' v' = setD (setD env d' v') d v := by
  cases d <;> cases d' <;> simp only [setD]
  rename_i a b
  exact List.set_comm _ _ (by simpa [dstNe] using h)
theorem setD_len (env : List AV) (d : Option Nat) (v : AV) : (setD env d v).length = env.length := by cases d <;> simp [setD]
theorem dstNot_ok {d : Option Nat} {ts : List Nat} (h : dstNot d ts = true) : ∀ s t, d = some s → t ∈ ts → s ≠ t := by
  rintro s t rfl ht rfl
  simp [dstNot] at h; exact h ht
theorem bubble {P : Program} {tab : Tab} {l : DOps} {Q : List AV → Heap → Prop} {j : Nat} {ps : List Nat} {post : Canon} : ∀ (pre : List Nat) (env : List AV) (H : Heap),
    (∀ k ∈ pre, inRange env.length (opAt l k).d = true) → (∀ p q, pre = p ++ q → ∀ i q', q = i :: q' → passes l i j ps q' = true) → vcS P tab l Q (pre.map (fun i => (i, [])) ++ (j, ps) :: post) env H →
    ∃ E, (∀ t, (∀ k ∈ pre, ∀ s, (opAt l k).d = some s → s ≠ t) → E.getD t .any = env.getD t .any) ∧
      stV P tab (opAt l j) env H fun v H' => (∀ a ∈ ps, newLike (opAt l a) = false → stV P tab (opAt l a) (setD E (opAt l j).d v) H' fun u _ => Keeps (setD E (opAt l j).d v) (opAt l a).d u) ∧
        vcS P tab l Q (pre.map (fun i => (i, [])) ++ post) (setD env (opAt l j).d v) H' := by
  intro pre
  induction pre with
  | nil =>
    intro env H _ _ h
    refine ⟨env, fun _ _ => rfl, ?_⟩
    exact stX_st (show _ ∧ stX P tab (ps.contains j) (opAt l j) env H _ from h).2
  | cons a pre ih =>
    intro env H hr hp h
    have ha := hp [] (a :: pre) rfl a pre rfl
    simp only [passes, Bool.and_eq_true, indep] at ha
    obtain ⟨⟨hnh, ⟨hi1, hi2⟩, hi3⟩, hrd⟩ := ha
    obtain ⟨S, u0, hlin⟩ := stV_lin (P := P) (tab := tab) hnh env H
    have h' := vcS_nil.1 (show vcS P tab l Q ((a, []) :: (pre.map (fun i => (i, [])) ++ (j, ps) :: post)) env H from h)
    obtain ⟨hS, hv⟩ := (hlin _).1 h'
    obtain ⟨E, hE, hst⟩ := ih (setD env (opAt l a).d u0) H (fun k hk => by rw [setD_len]; exact hr k (by simp [hk])) (fun p q e i q' e' => hp (a :: p) q (by rw [e]; rfl) i q' e') hv
    refine ⟨E, ?_, ?_⟩
    · intro t ht
      rw [hE t (fun k hk => ht k (by simp [hk])), setD_getD_ne (fun s hs => ht a (by simp) s hs)]
    · rw [stV_congr (env' := env) (fun t ht => setD_getD_ne fun s hs => dstNot_ok hi1 s t hs ht)] at hst
      refine stV_mono ?_ hst
      rintro v H' ⟨hk, hq⟩
      refine ⟨hk, ?_⟩
      refine vcS_nil.2 ?_
      show stV P tab (opAt l a) (setD env (opAt l j).d v) H' _
      have hsame : ∀ t ∈ (opAt l a).rd, (setD env (opAt l j).d v).getD t .any = env.getD t .any := fun t ht => setD_getD_ne fun s hs => dstNot_ok hi2 s t hs ht
      have hgoal : vcS P tab l Q (pre.map (fun i => (i, [])) ++ post) (setD (setD env (opAt l j).d v) (opAt l a).d u0) H' := by
        rw [setD_comm (by cases h1 : (opAt l a).d <;> cases h2 : (opAt l j).d <;> simp_all [dstNe]; exact fun e => hi3 e.symm)]
        exact hq
      cases hread : (opAt l a).isRead with
      | false =>
        obtain ⟨S', u', hpure⟩ := stV_pure (P := P) (tab := tab) hnh hread env
        have e0 := (hpure H (fun v _ => v = u0)).1 ((hlin _).2 ⟨hS, rfl⟩)
        rw [stV_congr hsame]
        refine (hpure H' _).2 ⟨e0.1, ?_⟩
        rw [e0.2]; exact hgoal
      | true =>
        simp only [hread, Bool.not_true, Bool.false_or, Bool.and_eq_true, List.contains_eq_mem, decide_eq_true_eq] at hrd
        obtain ⟨⟨⟨hmem, hself⟩, hmid⟩, hmid2⟩ := hrd
        have hk1 := hk a hmem (by
          cases hnl : newLike (opAt l a) with
          | false => rfl
          | true => rw [newLike_nh hnl] at hnh; cases hnh)
        have hEa : ∀ t ∈ (opAt l a).rd, (setD E (opAt l j).d v).getD t .any = env.getD t .any := by
          intro t ht
          rw [setD_getD_ne fun s hs => dstNot_ok hi2 s t hs ht]
          rw [hE t (fun k hk' s hs => dstNot_ok (List.all_eq_true.1 hmid k hk') s t hs ht)]
          exact setD_getD_ne fun s hs => dstNot_ok hself s t hs ht
        rw [stV_congr (env' := setD env (opAt l j).d v) (fun t ht => (hEa t ht).trans (hsame t ht).symm)] at hk1
        obtain ⟨S', u', hl'⟩ := stV_lin (P := P) (tab := tab) hnh (setD env (opAt l j).d v) H'
        obtain ⟨hS', hkeep⟩ := (hl' _).1 hk1
        refine (hl' _).2 ⟨hS', ?_⟩
        cases hda : (opAt l a).d with
        | none => rw [hda] at hgoal; exact hgoal
        | some s =>
          have hu : u' = u0 := by
            rw [← hkeep s hda]
            rw [setD_getD_ne (fun s' hs' => by
              have := hi3; rw [hda, hs'] at this; simp only [dstNe, bne_iff_ne, ne_eq] at this; exact fun e => this e.symm)]
            rw [hE s (fun k hk' s' hs' => by
              have h1 := List.all_eq_true.1 hmid2 k hk'
              rw [hda, hs'] at h1; simpa [dstNe] using h1)]
            rw [hda]
            have hin := hr a (by simp)
            rw [hda] at hin
            exact setD_getD_same (by simpa [inRange] using hin)
          rw [hu]; rw [hda] at hgoal; exact hgoal
def isAl (tab : Tab) : XOp → Bool
  | .run (some _) (.alloc t) => (tab t).isSome
  | _ => false
def passesA (tab : Tab) (l : DOps) (i : Nat) (pi : List Nat) (j : Nat) : Bool :=
  (isAl tab (opAt l j) || (newLike (opAt l j) && ((pi.contains j && j != i) || ((opAt l i).nh && pi.isEmpty)))) && indep (opAt l i) (opAt l j) && pi.all fun a => dstNot (opAt l j).d (opAt l a).rd && (newLike (opAt l a) || dstNe (opAt l j).d (opAt l a).d)
def isFl (tab : Tab) (l : DOps) (j : Nat) (ps : List Nat) : Bool := isAl tab (opAt l j) || (newLike (opAt l j) && ps.contains j)
theorem isAl_ok {tab : Tab} {x : XOp} (h : isAl tab x = true) : ∃ d t td, x = .run (some d) (.alloc t) ∧ tab t = some td := by
  unfold isAl at h
  split at h
  · obtain ⟨td, htd⟩ := Option.isSome_iff_exists.1 h; exact ⟨_, _, td, rfl, htd⟩
  · cases h
theorem isAl_safe {tab : Tab} {x : XOp} (h : isAl tab x = true) (env : List AV) : ∃ p, newOf tab x env = some p := by
  obtain ⟨d, t, td, rfl, htd⟩ := isAl_ok h
  exact ⟨(fun r => .ptr r 0, td.zero), by simp only [newOf, allocN, htd]⟩
theorem bubbleA {P : Program} {tab : Tab} {l : DOps} {Q : List AV → Heap → Prop} {j : Nat} {ps : List Nat} {post : Canon} : ∀ (pre : Canon) (env : List AV) (H : Heap),
    (∀ i pi, (i, pi) ∈ pre → passesA tab l i pi j = true) → vcS P tab l Q (pre ++ (j, ps) :: post) env H →
      isFl tab l j ps = true → newV (newOf tab (opAt l j) env) H fun v H' => vcS P tab l Q (pre ++ post) (setD env (opAt l j).d v) H' := by
  intro pre
  induction pre with
  | nil =>
    intro env H _ h hal
    have h' := (show _ ∧ stX P tab (ps.contains j) (opAt l j) env H _ from h).2
    simp only [isFl, Bool.or_eq_true, Bool.and_eq_true] at hal
    cases hc : ps.contains j with
    | true =>
      rw [hc] at h'
      have h2 : stX P tab true (opAt l j) env H fun v H' => vcS P tab l Q post (setD env (opAt l j).d v) H' := by
        refine stX_mono ?_ h'
        exact fun v H' hh => hh.2
      exact h2
    | false =>
      rw [hc] at h'
      rcases hal with hal | hal
      · obtain ⟨d, t, td, hj, htd⟩ := isAl_ok hal
        have h2 : stV P tab (opAt l j) env H fun v H' => vcS P tab l Q post (setD env (opAt l j).d v) H' := by
          refine stX_mono (m := false) ?_ h'
          exact fun v H' hh => hh.2
        rw [hj] at h2 ⊢
        exact st_newV h2
      · rw [hc] at hal; cases hal.2
  | cons p pre ih =>
    obtain ⟨a, pa⟩ := p
    intro env H hp h hal
    have ha := hp a pa (by simp)
    simp only [passesA, Bool.and_eq_true, indep, List.all_eq_true] at ha
    obtain ⟨⟨hsafe, ⟨hi1, hi2⟩, hi3⟩, hps⟩ := ha
    obtain ⟨hdem, hst⟩ := (show _ ∧ stX P tab (pa.contains a) (opAt l a) env H _ from h)
    have hst2 := stX_mono (fun v H' (hh : _ ∧ _) => And.intro hh.1 (ih (setD env (opAt l a).d v) H' (fun i pi hi => hp i pi (by simp [hi])) hh.2 hal)) hst
    have hcon : ∀ v, newOf tab (opAt l j) (setD env (opAt l a).d v) = newOf tab (opAt l j) env := fun v => newOf_congr fun t ht => setD_getD_ne fun s hs => dstNot_ok hi1 s t hs ht
    obtain ⟨p, hpn⟩ : ∃ p, newOf tab (opAt l j) env = some p := by
      simp only [Bool.or_eq_true, Bool.and_eq_true] at hsafe
      rcases hsafe with h1 | ⟨h1, h2 | ⟨h2, h3⟩⟩
      · exact isAl_safe h1 env
      · refine safeV_iff.1 (hdem j (by simpa using h2.1) (by simpa using h2.2) h1)
      · have : pa = [] := by simpa using h3
        subst this
        obtain ⟨S, u, hl⟩ := stV_lin (P := P) (tab := tab) h2 env H
        obtain ⟨_, _, hv⟩ := (hl _).1 (show stV P tab (opAt l a) env H _ from hst2)
        rw [hcon] at hv
        cases ho : newOf tab (opAt l j) env with
        | none => rw [ho] at hv; exact hv.elim
        | some p => exact ⟨p, rfl⟩
    rw [hpn]
    intro r hr
    have hsame : ∀ (b : Nat), dstNot (opAt l j).d (opAt l b).rd = true → ∀ (e : List AV), ∀ t ∈ (opAt l b).rd, (setD e (opAt l j).d (p.1 r)).getD t .any = e.getD t .any :=
      fun b hb e t ht => setD_getD_ne fun s hs => dstNot_ok hb s t hs ht
    refine ⟨fun b hb hne hnl => ?_, ?_⟩
    · rw [newOf_congr (hsame b (hps b hb).1 env)]
      exact hdem b hb hne hnl
    · show stX P tab (pa.contains a) (opAt l a) (setD env (opAt l j).d (p.1 r)) (H.set r p.2) _
      have h4 := stX_frame (z := p.2) hr hst2
      rw [← stX_congr (hsame a hi2 env)] at h4
      refine stX_mono ?_ h4
      rintro v H'' ⟨H', rfl, hr', hk, hnew⟩
      rw [hcon, hpn] at hnew
      have hq := hnew r hr'
      have hcomm : setD (setD env (opAt l j).d (p.1 r)) (opAt l a).d v = setD (setD env (opAt l a).d v) (opAt l j).d (p.1 r) := setD_comm (by
        cases h1 : (opAt l a).d <;> cases h2 : (opAt l j).d <;> simp_all [dstNe]; exact fun e => hi3 e.symm)
      refine ⟨fun b hb hnl => ?_, by rw [hcomm]; exact hq⟩
      have hb1 := hps b hb
      simp only [Bool.or_eq_true, hnl, Bool.false_eq_true, false_or] at hb1
      have h5 := stV_frame (z := p.2) hr' (hk b hb hnl)
      rw [hcomm]
      rw [← stV_congr (hsame b hb1.1 _)] at h5
      refine stV_mono ?_ h5
      rintro u H5 ⟨H6, _, _, hkeep⟩ t' ht'
      rw [setD_getD_ne (fun s hs => by
        have := hb1.2; rw [ht', hs] at this; simpa [dstNe] using this)]
      exact hkeep t' ht'
end Go.Sep
namespace Go.Sep
open Go Go.RowKit
def passesN (l : DOps) (i j : Nat) : Bool := (opAt l i).nh && indep (opAt l i) (opAt l j)
theorem bubbleN {P : Program} {tab : Tab} {l : DOps} {Q : List AV → Heap → Prop} {j : Nat} {post : Canon} (hj : (opAt l j).nh = true) : ∀ (pre : List Nat) (env : List AV) (H : Heap),
    (∀ i ∈ pre, passesN l i j = true) → vcS P tab l Q (pre.map (fun i => (i, [])) ++ (j, []) :: post) env H →
      stV P tab (opAt l j) env H fun v H' => vcS P tab l Q (pre.map (fun i => (i, [])) ++ post) (setD env (opAt l j).d v) H' := by
  intro pre
  induction pre with
  | nil => intro env H _ h; exact vcS_nil.1 h
  | cons a pre ih =>
    intro env H hp h
    have ha := hp a (by simp)
    simp only [passesN, Bool.and_eq_true, indep] at ha
    obtain ⟨hnh, ⟨hi1, hi2⟩, hi3⟩ := ha
    obtain ⟨S, u0, hlin⟩ := stV_lin (P := P) (tab := tab) hnh env H
    have h' := vcS_nil.1 (show vcS P tab l Q ((a, []) :: (pre.map (fun i => (i, [])) ++ (j, []) :: post)) env H from h)
    obtain ⟨hS, hv⟩ := (hlin _).1 h'
    have hst := ih (setD env (opAt l a).d u0) H (fun i hi => hp i (by simp [hi])) hv
    rw [stV_congr (env' := env) (fun t ht => setD_getD_ne fun s hs => dstNot_ok hi1 s t hs ht)] at hst
    obtain ⟨S', u', hlj⟩ := stV_lin (P := P) (tab := tab) hj env H
    obtain ⟨hS', hq⟩ := (hlj _).1 hst
    refine (hlj _).2 ⟨hS', ?_⟩
    refine vcS_nil.2 ?_
    show stV P tab (opAt l a) (setD env (opAt l j).d u') H _
    rw [stV_congr (env' := env) (fun t ht => setD_getD_ne fun s hs => dstNot_ok hi2 s t hs ht)]
    refine (hlin _).2 ⟨hS, ?_⟩
    show vcS P tab l Q (pre.map (fun i => (i, [])) ++ post) (setD (setD env (opAt l j).d u') (opAt l a).d u0) H
    rw [setD_comm (by cases h1 : (opAt l a).d <;> cases h2 : (opAt l j).d <;> simp_all [dstNe]; exact fun e => hi3 e.symm)]
    exact hq
def pass1 (tab : Tab) (l : DOps) (i : Nat) (pi : List Nat) (j : Nat) (ps mid : List Nat) : Bool := if isFl tab l j ps then passesA tab l i pi j else if (opAt l j).nh then passesN l i j else passes l i j ps mid
def goodH (tab : Tab) (l : DOps) (A : List (List Nat)) (i : Nat) (pi : List Nat) : List Nat → Canon → Bool
  | _, [] => true
  | mid, (j, ps) :: rest => ((A.getD j []).contains i || pass1 tab l i pi j ps mid) && goodH tab l A i pi (mid ++ [j]) rest
def good (tab : Tab) (l : DOps) (A : List (List Nat)) : Canon → Bool
  | [] => true
  | (i, ps) :: rest => goodH tab l A i ps [] rest && (!(opAt l i).nh || ps.isEmpty) && good tab l A rest
theorem passes_mid {l : DOps} {i j : Nat} {ps mid mid' : List Nat} (hm : ∀ k ∈ mid', k ∈ mid) (h : passes l i j ps mid = true) : passes l i j ps mid' = true := by
  simp only [passes, Bool.and_eq_true, Bool.or_eq_true, List.all_eq_true] at *
  refine ⟨h.1, ?_⟩
  rcases h.2 with h2 | ⟨⟨⟨h2, h3⟩, h4⟩, h5⟩
  · exact .inl h2
  · exact .inr ⟨⟨⟨h2, h3⟩, fun k hk => h4 k (hm k hk)⟩, fun k hk => h5 k (hm k hk)⟩
theorem goodH_sub {tab : Tab} {l : DOps} {A : List (List Nat)} {i : Nat} {pi : List Nat} {c c' : Canon} (hs : c'.Sublist c) : ∀ {mid mid' : List Nat}, (∀ k ∈ mid', k ∈ mid) → goodH tab l A i pi mid c = true → goodH tab l A i pi mid' c' = true := by
  induction hs with
  | slnil => intro mid mid' _ _; rfl
  | cons a _ ih =>
    intro mid mid' hm h
    obtain ⟨j, ps⟩ := a
    simp only [goodH, Bool.and_eq_true] at h
    exact ih (fun k hk => by simp [hm k hk]) h.2
  | cons_cons a _ ih =>
    intro mid mid' hm h
    obtain ⟨j, ps⟩ := a
    simp only [goodH, Bool.and_eq_true, Bool.or_eq_true] at h ⊢
    refine ⟨?_, ih (fun k hk => by
      simp only [List.mem_append, List.mem_singleton] at hk ⊢
      rcases hk with hk | hk
      · exact .inl (hm k hk)
      · exact .inr hk) h.2⟩
    rcases h.1 with h1 | h1
    · exact .inl h1
    · refine .inr ?_
      unfold pass1 at *
      split
      · rename_i hn; rw [if_pos hn] at h1; exact h1
      · rename_i hn; rw [if_neg hn] at h1
        split
        · rename_i hn; rw [if_pos hn] at h1; exact h1
        · rename_i hn; rw [if_neg hn] at h1; exact passes_mid hm h1
theorem good_sub {tab : Tab} {l : DOps} {A : List (List Nat)} {c c' : Canon} (hs : c'.Sublist c) : good tab l A c = true → good tab l A c' = true := by
  induction hs with
  | slnil => intro _; rfl
  | cons a _ ih =>
    intro h
    obtain ⟨j, ps⟩ := a
    simp only [good, Bool.and_eq_true] at h
    exact ih h.2
  | cons_cons a hs ih =>
    intro h
    obtain ⟨j, ps⟩ := a
    simp only [good, Bool.and_eq_true] at h ⊢
    exact ⟨⟨goodH_sub hs (fun _ hk => hk) h.1.1, h.1.2⟩, ih h.2⟩
theorem good_at {tab : Tab} {l : DOps} {A : List (List Nat)} {j : Nat} {ps : List Nat} {post : Canon} : ∀ (p : Canon) (i : Nat) (pi : List Nat) (q : Canon), good tab l A (p ++ (i, pi) :: q ++ (j, ps) :: post) = true → (A.getD j []).contains i = false →
    pass1 tab l i pi j ps (q.map (·.1)) = true ∧ ((opAt l i).nh = true → pi = []) := by
  intro p
  induction p with
  | cons a p ih =>
    intro i pi q h hA
    obtain ⟨k, pk⟩ := a
    simp only [List.cons_append, good, Bool.and_eq_true] at h
    exact ih i pi q h.2 hA
  | nil =>
    intro i pi q h hA
    simp only [List.nil_append, List.cons_append, good, Bool.and_eq_true] at h
    refine ⟨?_, fun hn => by have := h.1.2; simp only [hn, Bool.not_true, Bool.false_or, List.isEmpty_iff] at this; exact this⟩
    have key : ∀ (q : Canon) (mid : List Nat), goodH tab l A i pi mid (q ++ (j, ps) :: post) = true → pass1 tab l i pi j ps (mid ++ q.map (·.1)) = true := by
      intro q
      induction q with
      | nil =>
        intro mid hg
        simp only [List.nil_append, goodH, Bool.and_eq_true, Bool.or_eq_true, hA, Bool.false_eq_true, false_or] at hg
        simpa using hg.1
      | cons b q ihq =>
        intro mid hg
        obtain ⟨k, pk⟩ := b
        simp only [List.cons_append, goodH, Bool.and_eq_true] at hg
        have := ihq _ hg.2
        simpa using this
    have := key q [] h.1.1
    simpa using this
end Go.Sep
namespace Go.Sep
open Go Go.RowKit
inductive VOrd (l : DOps) : List Nat → List Nat → Prop where
  | nil (D : List Nat) : VOrd l D []
  | cons {D is : List Nat} {j : Nat} (h1 : j ∉ D) (h2 : ∀ e ∈ edg l j, e ∈ D) (t : VOrd l (j :: D) is) : VOrd l D (j :: is)
def okA (l : DOps) (A : List (List Nat)) : Bool :=
  (List.range l.length).all fun i => (edg l i).all (fun e => decide (e < i)) && (A.getD i []).all fun k => (edg l i).contains k || (edg l i).any fun e => (A.getD e []).contains k
theorem anc_done {l : DOps} {A : List (List Nat)} (hA : okA l A = true) {D : List Nat} (hD : ∀ d ∈ D, ∀ e ∈ edg l d, e ∈ D) : ∀ (n i : Nat), i < n → i < l.length → (∀ e ∈ edg l i, e ∈ D) → ∀ k ∈ A.getD i [], k ∈ D := by
  intro n
  induction n with
  | zero => intro i h; omega
  | succ n ih =>
    intro i hi hl he k hk
    have h := List.all_eq_true.1 hA i (List.mem_range.2 hl)
    simp only [Bool.and_eq_true, List.all_eq_true, decide_eq_true_eq, Bool.or_eq_true, List.contains_eq_mem, List.any_eq_true] at h
    rcases h.2 k hk with h1 | ⟨e, he1, he2⟩
    · exact he k h1
    · have hlt := h.1 e he1
      exact ih e (by omega) (by omega) (hD e (he e he1)) k he2
theorem st_ok {P : Program} {tab : Tab} (hT : tab.Ok P) {B0 : Nat} {w0 : World} {F : Heap} {Z : Fro} {φ : Pm} {H : Heap} {env : List AV} {a : Act} {w : World} (r : Rel B0 w0 F Z φ H env a w)
    {ops : Array Oper} {o : Oper} {K : AV → Heap → Prop} (h : stV P tab (xop ops o) env H K) {next : Act → World → Prop} {Q : Exit → Act → World → Prop} (cont : ∀ x w', UpV B0 w0 F Z φ K x w' → DrawnLe w w' → next (a.put o.dst x) w') :
    if Region.wanted o (yielded ops a.tmps) then o.wp P a w next Q ∨ (o.asks P a w ∧ LetsOut Q) else next (a.put o.dst undef) w := by
  unfold xop at h
  split at h
  · rename_i hg
    have hw : Region.wanted o (yielded ops a.tmps) = true := by simp [Region.wanted, hg]
    rw [if_pos hw]
    exact .inl (op_okD hT r h cont)
  · rename_i j want hg
    split at h
    · rename_i g hs
      simp only [stV] at h
      split at h
      case h_3 => exact h.elim
      case h_2 =>
        rename_i hv
        have hy := yielded_und r.env hs hv
        have hw : Region.wanted o (yielded ops a.tmps) = false := by simp [Region.wanted, hg, hy]
        rw [if_neg (by simp [hw])]
        exact cont undef w ⟨.und, H, Z, φ, h, Fro.le_refl _, Pm.le_refl _, r.disj, r.sim, und_ok Z φ⟩ (.same rfl)
      rename_i b hv
      obtain ⟨hy, _, _⟩ := yielded_ok r.env hs hv
      by_cases hb : b = want
      · have hw : Region.wanted o (yielded ops a.tmps) = true := by simp [Region.wanted, hg, hy, hb]
        rw [if_pos hw]
        exact .inl (op_okD hT r (h.1 hb) cont)
      · have hw : Region.wanted o (yielded ops a.tmps) = false := by simp [Region.wanted, hg, hy, hb]
        rw [if_neg (by simp [hw])]
        have hb' : b = (!want) := by cases b <;> cases want <;> simp_all
        exact cont undef w ⟨.und, H, Z, φ, h.2 hb', Fro.le_refl _, Pm.le_refl _, r.disj, r.sim, und_ok Z φ⟩ (.same rfl)
    · exact h.elim
theorem xop_d (ops : Array Oper) (o : Oper) (hb : xop ops o ≠ .bad) : (xop ops o).d = o.dst := by
  unfold xop at *
  split at *
  · rfl
  · split at *
    · rfl
    · exact absurd rfl hb
theorem split_mem {c : Canon} {j : Nat} (h : j ∈ c.map (·.1)) : ∃ pre ps post, c = pre ++ (j, ps) :: post ∧ j ∉ pre.map (·.1) := by
  induction c with
  | nil => simp at h
  | cons a c ih =>
    obtain ⟨i, pi⟩ := a
    by_cases e : i = j
    · subst e; exact ⟨[], pi, c, rfl, by simp⟩
    · have : j ∈ c.map (·.1) := by
        simp only [List.map_cons, List.mem_cons] at h
        rcases h with h | h
        · exact absurd h.symm e
        · exact h
      obtain ⟨pre, ps, post, rfl, hn⟩ := ih this
      exact ⟨(i, pi) :: pre, ps, post, rfl, by simp only [List.map_cons, List.mem_cons, not_or]; exact ⟨fun h => e h.symm, hn⟩⟩
theorem draw_run {P : Program} {tab : Tab} (hT : tab.Ok P) {B0 : Nat} {w0 : World} {F : Heap} {ops : Array Oper} {l : DOps} (hl : (ops.toList.map fun o => (xop ops o, edgesOf o)) = l) {A : List (List Nat)} (hA : okA l A = true)
    {Q : List AV → Heap → Prop} {N : Nat} (hN : ∀ k, k < l.length → inRange N (opAt l k).d = true) :
    ∀ (is D : List Nat) (c : Canon), VOrd l D is → is.Perm (c.map (·.1)) → (c.map (·.1)).Nodup → (∀ i ∈ c.map (·.1), i ∉ D ∧ i < l.length) → (∀ d ∈ D, ∀ e ∈ edg l d, e ∈ D) → good tab l A c = true →
      ∀ {Z : Fro} {φ : Pm} {H : Heap} {env : List AV} {a : Act} {w : World}, Rel B0 w0 F Z φ H env a w → env.length = N → vcS P tab l Q c env H →
      wpOps P ops (fun e a' w' => Up B0 w0 F Z φ (fun env' H' => e = .normal ∧ Q env' H') a' w') is a w := by
  intro is
  induction is with
  | nil =>
    intro D c _ hp _ _ _ _ Z φ H env a w r _ h
    have : c = [] := by
      have := hp.length_eq
      simp only [List.length_nil, List.length_map] at this
      exact List.eq_nil_of_length_eq_zero this.symm
    subst this
    exact ⟨env, H, Z, φ, ⟨rfl, h⟩, Fro.le_refl _, Pm.le_refl _, r⟩
  | cons j is ih =>
    intro D c hv hp hnd hin hD hg Z φ H env a w r hlen h
    cases hv with
    | cons hjD hje hv =>
    have hjc : j ∈ c.map (·.1) := hp.subset (by simp)
    obtain ⟨pre, ps, post, rfl, hjp⟩ := split_mem hjc
    have hjl := (hin j hjc).2
    have hanc := anc_done hA hD (j + 1) j (by omega) hjl hje
    have hnot : ∀ i ∈ pre.map (·.1), (A.getD j []).contains i = false := by
      intro i hi
      have h1 := (hin i (by simp only [List.map_append, List.mem_append]; exact .inl hi)).1
      cases hc : (A.getD j []).contains i with
      | false => rfl
      | true => exact absurd (hanc i (by simpa using hc)) h1
    have hat : ∀ (p : Canon) (i : Nat) (pi : List Nat) (q : Canon), pre = p ++ (i, pi) :: q →
        pass1 tab l i pi j ps (q.map (·.1)) = true ∧ ((opAt l i).nh = true → pi = []) := by
      intro p i pi q e
      subst e
      exact good_at p i pi q hg (hnot i (by simp))
    have hstep : stV P tab (opAt l j) env H fun v H' => vcS P tab l Q (pre ++ post) (setD env (opAt l j).d v) H' := by
      by_cases hal : isFl tab l j ps = true
      · refine newV_st (bubbleA pre env H (fun i pi hi => ?_) h hal)
        obtain ⟨p, q, e⟩ := List.append_of_mem hi
        have := (hat p i pi q e).1
        unfold pass1 at this
        rwa [if_pos hal] at this
      have hat : ∀ (p : Canon) (i : Nat) (pi : List Nat) (q : Canon), pre = p ++ (i, pi) :: q →
          (if (opAt l j).nh then passesN l i j else passes l i j ps (q.map (·.1))) = true ∧ ((opAt l i).nh = true → pi = []) := by
        intro p i pi q e
        obtain ⟨h1, h2⟩ := hat p i pi q e
        unfold pass1 at h1
        rw [if_neg hal] at h1
        exact ⟨h1, h2⟩
      have hnh : ∀ (p : Canon) (i : Nat) (pi : List Nat) (q : Canon), pre = p ++ (i, pi) :: q → pi = [] := by
        intro p i pi q e
        obtain ⟨h1, h2⟩ := hat p i pi q e
        apply h2
        split at h1
        · simp only [passesN, Bool.and_eq_true] at h1; exact h1.1
        · simp only [passes, Bool.and_eq_true] at h1; exact h1.1.1
      have hpre : pre = (pre.map (·.1)).map (fun i => (i, ([] : List Nat))) := by
        have : ∀ (pre' : Canon), (∀ p i pi q, pre' = p ++ (i, pi) :: q → pi = []) → pre' = (pre'.map (·.1)).map (fun i => (i, ([] : List Nat))) := by
          intro pre'
          induction pre' with
          | nil => intro _; rfl
          | cons b pre' ihp =>
            intro hh
            obtain ⟨i, pi⟩ := b
            have e1 := hh [] i pi pre' rfl
            subst e1
            simp only [List.map_cons, List.cons.injEq, true_and]
            exact ihp fun p i' pi' q e => hh ((i, []) :: p) i' pi' q (by rw [e]; rfl)
        exact this pre hnh
      generalize hpi : pre.map (·.1) = pi at *
      rw [hpre] at h ⊢
      by_cases hj : (opAt l j).nh = true
      · have hps : ps = [] := by
          have := good_sub (c' := [(j, ps)]) (List.Sublist.trans (List.singleton_sublist.2 (by simp)) (List.Sublist.refl _)) hg
          simp only [good, goodH, hj, Bool.not_true, Bool.false_or, Bool.and_eq_true, List.isEmpty_iff, Bool.true_and, and_true] at this
          exact this
        subst hps
        refine bubbleN hj pi env H ?_ h
        intro i hi
        rw [← hpi] at hi
        obtain ⟨⟨i', pi'⟩, hm, rfl⟩ := List.mem_map.1 hi
        obtain ⟨p, q, e⟩ := List.append_of_mem hm
        have := (hat p i' pi' q e).1
        rwa [if_pos hj] at this
      · obtain ⟨E, _, hst⟩ := bubble (post := post) pi env H (by
          intro k hk
          rw [hlen]
          rw [← hpi] at hk
          exact hN k (hin k (by simp only [List.map_append, List.mem_append]; exact .inl hk)).2) (by
          intro p q e i q' e'
          subst e'
          rw [← hpi] at e
          obtain ⟨p1, q1, rfl, hp1, hq1⟩ := List.map_eq_append_iff.1 e
          obtain ⟨⟨i1, pi1⟩, q2, rfl, hi1, hq2⟩ := List.map_eq_cons_iff.1 hq1
          have := (hat p1 i1 pi1 q2 rfl).1
          rw [if_neg hj] at this
          simp only at hi1
          rw [← hi1, ← hq2]; exact this) h
        exact stV_mono (fun v H' hh => hh.2) hst
    have hoj : ∃ o, ops[j]? = some o ∧ opAt l j = xop ops o := by
      have h1 : j < ops.size := by rw [← hl] at hjl; simpa using hjl
      refine ⟨ops[j], Array.getElem?_eq_getElem h1, ?_⟩
      unfold opAt
      rw [← hl]
      simp [List.getD, h1]
    obtain ⟨o, ho, hox⟩ := hoj
    rw [hox] at hstep
    have hbad : xop ops o ≠ .bad := by
      intro e; rw [e] at hstep; exact hstep
    have hd := xop_d ops o hbad
    simp only [wpOps, ho]
    have hsub : (pre ++ post).Sublist (pre ++ (j, ps) :: post) := List.Sublist.append (List.Sublist.refl _) (List.sublist_cons_self _ _)
    have lift : ∀ {Z' : Fro} {φ' : Pm} {e : Exit} {a' : Act} {w' : World}, Fro.le Z Z' → Pm.le φ φ' → Up B0 w0 F Z' φ' (fun env' H' => e = .normal ∧ Q env' H') a' w' → Up B0 w0 F Z φ (fun env' H' => e = .normal ∧ Q env' H') a' w' := by
      rintro Z' φ' e a' w' hz hp ⟨env2, H2, Z2, φ2, t, hz2, hp2, r2⟩
      exact ⟨env2, H2, Z2, φ2, t, Fro.le_trans hz hz2, Pm.le_trans hp hp2, r2⟩
    refine st_ok hT r hstep ?_
    rintro x w' ⟨v, H', Z', φ', hK, hz, hpm, hdj, hs, hc⟩ hkeep
    rw [hd] at hK
    refine wpOps_mono' (fun e a w => lift hz hpm) is _ w' (ih (j :: D) (pre ++ post) hv ?_ ?_ ?_ ?_ (good_sub hsub hg) ((r.call hz hpm hdj hs hkeep).put o.dst hc) (by rw [setD_len]; exact hlen) hK)
    · have h1 : (j :: is).Perm (j :: (pre ++ post).map (·.1)) := by
        refine hp.trans ?_
        simp only [List.map_append, List.map_cons]
        exact List.perm_middle
      exact h1.cons_inv
    · exact (hsub.map _).nodup hnd
    · intro i hi
      have h1 := hin i ((hsub.map _).subset hi)
      refine ⟨?_, h1.2⟩
      simp only [List.mem_cons, not_or]
      refine ⟨?_, h1.1⟩
      intro e
      subst e
      have h2 : ((i :: (pre ++ post).map (·.1))).Nodup := by
        refine List.Perm.nodup ?_ hnd
        simp only [List.map_append, List.map_cons]
        exact List.perm_middle
      exact (List.nodup_cons.1 h2).1 hi
    · intro d hd' e he
      simp only [List.mem_cons] at hd' ⊢
      rcases hd' with rfl | hd'
      · exact .inr (hje e he)
      · exact .inr (hD d hd' e he)
end Go.Sep
namespace Go.Sep
open Go Go.RowKit
theorem go_ok {ops : Array Oper} {l : DOps} (hl : (ops.toList.map fun o => (xop ops o, edgesOf o)) = l) (hlt : ∀ i, i < ops.size → ∀ e ∈ edg l i, e < i) :
    ∀ (fuel t : Nat) (listed : Array Bool) (acc D : List Nat), listed.size = ops.size → (∀ i, i < ops.size → (i ∈ D ↔ listed.getD i true = true)) →
      ((List.range ops.size).filter (fun i => !listed.getD i true)).length = fuel →
      ∃ is, Region.linearise.go .any ops fuel t listed acc = acc.reverse ++ is ∧ VOrd l D is ∧ is.Perm ((List.range ops.size).filter (fun i => !listed.getD i true)) := by
  have hedg : ∀ i o, ops[i]? = some o → edg l i = edgesOf o := by
    intro i o ho
    have hi : i < ops.size := (Array.getElem?_eq_some_iff.1 ho).1
    have he : ops[i] = o := (Array.getElem?_eq_some_iff.1 ho).2
    unfold edg
    rw [← hl]
    simp [List.getD, hi, he]
  have hready : ∀ (i : Nat) (o : Oper) (listed : Array Bool), ops[i]? = some o → ((o.after.all fun e => !Region.binds .any e || listed.getD e.on false) = true ↔ ∀ e ∈ edg l i, listed.getD e false = true) := by
    intro i o listed ho
    rw [hedg i o ho]
    unfold edgesOf
    rw [← Array.all_toList]
    simp only [List.all_eq_true, Bool.or_eq_true, Bool.not_eq_true', List.mem_map, List.mem_filter, forall_exists_index, and_imp]
    constructor
    · intro h e x hx hb he
      subst he
      rcases h x hx with h1 | h1
      · rw [hb] at h1; cases h1
      · exact h1
    · intro h x hx
      cases hb : Region.binds .any x with
      | false => exact .inl rfl
      | true => exact .inr (h x.on x hx hb rfl)
  intro fuel
  induction fuel with
  | zero =>
    intro t listed acc D hs hD hf
    refine ⟨[], by simp [Region.linearise.go], .nil D, ?_⟩
    rw [List.eq_nil_of_length_eq_zero hf]
  | succ fuel ih =>
    intro t listed acc D hs hD hf
    have hne : ∃ i, i < ops.size ∧ listed.getD i true = false ∧ ∀ k, k < i → listed.getD k true = true := by
      have hex : ∃ i, i < ops.size ∧ listed.getD i true = false := by
        have : ((List.range ops.size).filter (fun i => !listed.getD i true)) ≠ [] := by
          intro e; rw [e] at hf; simp at hf
        obtain ⟨i, hi⟩ := List.exists_mem_of_ne_nil _ this
        simp only [List.mem_filter, List.mem_range, Bool.not_eq_true'] at hi
        exact ⟨i, hi.1, hi.2⟩
      obtain ⟨i0, h1, h2⟩ := hex
      have : ∀ n, ∀ i, i < n → i < ops.size → listed.getD i true = false → ∃ i, i < ops.size ∧ listed.getD i true = false ∧ ∀ k, k < i → listed.getD k true = true := by
        intro n
        induction n with
        | zero => intro i hi; omega
        | succ n ihn =>
          intro i hi hl2 hf2
          by_cases hall : ∀ k, k < i → listed.getD k true = true
          · exact ⟨i, hl2, hf2, hall⟩
          · obtain ⟨k, hk⟩ := Classical.not_forall.1 hall
            obtain ⟨hk1, hk2⟩ := Classical.not_imp.1 hk
            exact ihn k (by omega) (by omega) (by simpa using hk2)
      exact this (i0 + 1) i0 (by omega) h1 h2
    obtain ⟨i0, hi0, hu0, hall⟩ := hne
    have conv : ∀ e, e < ops.size → listed.getD e false = listed.getD e true := by
      intro e he
      simp [Array.getD_eq_getD_getElem?, show e < listed.size by omega]
    simp only [Region.linearise.go]
    generalize hrs : ((List.range ops.size).filter fun i => !listed.getD i true && ((ops[i]?).map (·.after.all fun e => !Region.binds .any e || listed.getD e.on false)).getD false) = rs
    have hmem : ∀ i, i ∈ rs ↔ i < ops.size ∧ listed.getD i true = false ∧ ∀ e ∈ edg l i, listed.getD e false = true := by
      intro i
      rw [← hrs]
      simp only [List.mem_filter, List.mem_range, Bool.and_eq_true, Bool.not_eq_true']
      constructor
      · rintro ⟨h1, h2, h3⟩
        refine ⟨h1, h2, ?_⟩
        rw [Array.getElem?_eq_getElem h1] at h3
        simp only [Option.map_some, Option.getD_some] at h3
        exact (hready i ops[i] listed (Array.getElem?_eq_getElem h1)).1 h3
      · rintro ⟨h1, h2, h3⟩
        refine ⟨h1, h2, ?_⟩
        rw [Array.getElem?_eq_getElem h1]
        simp only [Option.map_some, Option.getD_some]
        exact (hready i ops[i] listed (Array.getElem?_eq_getElem h1)).2 h3
    have hin0 : i0 ∈ rs := (hmem i0).2 ⟨hi0, hu0, fun e he => by
      have hel := hlt i0 hi0 e he
      rw [conv e (by omega)]; exact hall e hel⟩
    have hpos : 0 < rs.length := List.length_pos_of_mem hin0
    have hidx : t % rs.length < rs.length := Nat.mod_lt _ hpos
    rw [List.getElem?_eq_getElem hidx]
    dsimp only
    have hj := (hmem _).1 (List.getElem_mem hidx)
    generalize rs[t % rs.length] = j at hj
    obtain ⟨hj1, hj2, hj3⟩ := hj
    have hset : ∀ k, k < ops.size → (listed.setIfInBounds j true).getD k true = (if k = j then true else listed.getD k true) := by
      intro k hk
      simp only [Array.getD_eq_getD_getElem?, Array.getElem?_setIfInBounds]
      by_cases e : k = j
      · subst e; simp [show k < listed.size by omega]
      · simp [e, Ne.symm e]
    have hfil : ((List.range ops.size).filter (fun i => !listed.getD i true)).Perm (j :: (List.range ops.size).filter (fun i => !(listed.setIfInBounds j true).getD i true)) := by
      have h1 : (List.range ops.size).filter (fun i => !(listed.setIfInBounds j true).getD i true) = ((List.range ops.size).filter (fun i => !listed.getD i true)).filter (fun i => i != j) := by
        rw [List.filter_filter]
        apply List.filter_congr
        intro k hk
        rw [hset k (List.mem_range.1 hk)]
        by_cases e : k = j <;> simp [e]
      rw [h1]
      have hnd : ((List.range ops.size).filter (fun i => !listed.getD i true)).Nodup := List.filter_sublist.nodup List.nodup_range
      have hmj : j ∈ (List.range ops.size).filter (fun i => !listed.getD i true) := List.mem_filter.2 ⟨List.mem_range.2 hj1, by rw [hj2]; rfl⟩
      rw [← List.Nodup.erase_eq_filter hnd]
      exact List.perm_cons_erase hmj
    obtain ⟨is, h1, h2, h3⟩ := ih (t / rs.length) (listed.setIfInBounds j true) (j :: acc) (j :: D) (by simpa using hs)
      (by
        intro k hk
        rw [hset k hk]
        by_cases e : k = j
        · subst e; simp
        · simp only [List.mem_cons, e, false_or, if_false]; exact hD k hk)
      (by
        have := hfil.length_eq
        simp only [List.length_cons] at this
        omega)
    refine ⟨j :: is, ?_, .cons ?_ ?_ h2, ?_⟩
    · rw [h1]; simp
    · intro hm
      rw [(hD j hj1).1 hm] at hj2; cases hj2
    · intro e he
      have hel := hlt j hj1 e he
      have := hj3 e he
      rw [conv e (by omega)] at this
      exact (hD e (by omega)).2 this
    · exact (List.Perm.cons j h3).trans hfil.symm
def rangeOk (l : DOps) (N : Nat) : Bool := (List.range l.length).all fun k => inRange N (opAt l k).d
def permOk (n : Nat) (c : Canon) : Bool := (List.range n).isPerm (c.map (·.1))
theorem perm_of {n : Nat} {c : Canon} (h : permOk n c = true) : (List.range n).Perm (c.map (·.1)) := List.isPerm_iff.1 h
theorem CX.draw_ops {P : Program} {tab : Tab} (hT : tab.Ok P) (hm : P.follows .mixedOrders = true) {l : DOps} {Q : Post} {env : List AV} {H : Heap} (A : List (List Nat)) (c : Canon) (N : Nat) (hN : env.length = N)
    (hchk : (okA l A && rangeOk l N && permOk l.length c && good tab l A c) = true) (h : vcS P tab l (Q .normal) c env H) : ∀ code, compile code = .draw l → ∃ id ops, code = .region id ops true ∧ ∀ B0 w0 F Z φ a w, Rel B0 w0 F Z φ H env a w → ∀ t,
    wpOps P ops (fun e a' w' => e = .normal ∧ Up B0 w0 F Z φ (Q .normal) a' w') (Region.schedule (P.follows .mixedOrders) ops t) a w.drew := by
  subst hN
  intro code hcode
  obtain ⟨id, ops, rfl, hl⟩ := compile_draw hcode
  simp only [Bool.and_eq_true] at hchk
  obtain ⟨⟨⟨hA, hR⟩, hp⟩, hg⟩ := hchk
  have hn : ops.size = l.length := by rw [← hl]; simp
  have hlt : ∀ i, i < ops.size → ∀ e ∈ edg l i, e < i := by
    intro i hi e he
    have := List.all_eq_true.1 hA i (List.mem_range.2 (by omega))
    simp only [Bool.and_eq_true, List.all_eq_true, decide_eq_true_eq] at this
    exact this.1 e he
  have hperm := perm_of hp
  refine ⟨id, ops, rfl, fun B0 w0 F Z φ a w r t => ?_⟩
  have hsch : Region.schedule (P.follows .mixedOrders) ops t = Region.linearise.go .any ops ops.size t (Array.replicate ops.size false) [] := by
    unfold Region.schedule
    rw [hm]
    simp [Region.linearise]
  rw [hsch]
  obtain ⟨is, h1, h2, h3⟩ := go_ok hl hlt ops.size t (Array.replicate ops.size false) [] [] (by simp) (by
    intro i hi; simp [Array.getD_eq_getD_getElem?, hi]) (by
    rw [List.filter_eq_self.2]
    · simp
    · intro i hi
      have := List.mem_range.1 hi
      simp [Array.getD_eq_getD_getElem?, this])
  have h4 : ((List.range ops.size).filter (fun i => !(Array.replicate ops.size false).getD i true)) = List.range ops.size := by
    rw [List.filter_eq_self.2]
    intro i hi
    have := List.mem_range.1 hi
    simp [Array.getD_eq_getD_getElem?, this]
  rw [h4, hn] at h3
  rw [h1]
  simp only [List.reverse_nil, List.nil_append]
  refine wpOps_mono' ?_ is a w.drew (draw_run hT hl hA (N := env.length) (fun k hk => List.all_eq_true.1 hR k (List.mem_range.2 hk)) is [] c h2 (h3.trans hperm) (hperm.nodup List.nodup_range) (fun i hi => ⟨by simp, ?_⟩) (by simp) hg
    ⟨r.disj, r.sim.drew, r.env, r.defers⟩ rfl h)
  · rintro e a' w' ⟨env', H', Z', φ', ⟨rfl, hq⟩, rest⟩
    exact ⟨rfl, env', H', Z', φ', hq, rest⟩
  · exact List.mem_range.1 (hperm.symm.subset hi)
theorem CX.draw {P : Program} {tab : Tab} (hT : tab.Ok P) (hm : P.follows .mixedOrders = true) {l : DOps} {Q : Post} {env : List AV} {H : Heap} (A : List (List Nat)) (c : Canon) (N : Nat) (hN : env.length = N)
    (hchk : (okA l A && rangeOk l N && permOk l.length c && good tab l A c) = true) (h : vcS P tab l (Q .normal) c env H) : CX P (.draw l) Q env H := by
  intro code hcode
  obtain ⟨id, ops, rfl, k⟩ := CX.draw_ops hT hm A c N hN hchk h code hcode
  intro B0 w0 F Z φ a w r
  refine wp_region_draw fun t => wpOps_mono' ?_ _ _ _ (k B0 w0 F Z φ a w r t)
  rintro e a' w' ⟨rfl, u⟩
  exact u
end Go.Sep
namespace Go.Sep
open Go Go.RowKit
abbrev DCanon := List (XOp × (Bool × (List XOp × List XOp)))
def dmV (tab : Tab) : List XOp → List AV → Prop
  | [], _ => True
  | a :: ds, env => safeV (newOf tab a env) ∧ dmV tab ds env
def psV (P : Program) (tab : Tab) : List XOp → List AV → Heap → Prop
  | [], _, _ => True
  | a :: ps, env, H => (stV P tab a env H fun u _ => Keeps env a.d u) ∧ psV P tab ps env H
def vcY (P : Program) (tab : Tab) (Q : List AV → Heap → Prop) : DCanon → List AV → Heap → Prop
  | [], env, H => Q env H
  | (.run d o, (m, (ds, ps))) :: rest, env, H => dmV tab ds env ∧ stX P tab m (.run d o) env H fun v H' => psV P tab ps (setD env d v) H' ∧ vcY P tab Q rest (setD env d v) H'
  | (.guarded g want d o, (m, (ds, ps))) :: rest, env, H => dmV tab ds env ∧ m = false ∧
    match env.getD g .any with
    | .p (.bool b) =>
      gd b want (opV P tab o (env.set g (.p (.bool want))) H fun v H' => psV P tab ps (setD (env.set g (.p (.bool want))) d v) H' ∧ vcY P tab Q rest (setD (env.set g (.p (.bool want))) d v) H')
        (psV P tab ps (setD (env.set g (.p (.bool (!want)))) d .und) H ∧ vcY P tab Q rest (setD (env.set g (.p (.bool (!want)))) d .und) H)
    | .tup [] => psV P tab ps (setD env d .und) H ∧ vcY P tab Q rest (setD env d .und) H
    | _ => False
  | (.bad, _) :: _, _, _ => False
def dOf (l : DOps) (c : Canon) : DCanon := c.map fun p => (opAt l p.1, (p.2.contains p.1, ((p.2.filter fun a => a != p.1 && newLike (opAt l a)).map (opAt l), (p.2.filter fun a => !newLike (opAt l a)).map (opAt l))))
theorem dmV_all {tab : Tab} {l : DOps} {env : List AV} : ∀ {ds : List Nat}, dmV tab (ds.map (opAt l)) env → ∀ a ∈ ds, safeV (newOf tab (opAt l a) env) := by
  intro ds
  induction ds with
  | nil => intro _ a ha; simp at ha
  | cons b ds ih =>
    rintro ⟨h1, h2⟩ a ha
    rcases List.mem_cons.1 ha with rfl | ha
    · exact h1
    · exact ih h2 a ha
theorem psV_all {P : Program} {tab : Tab} {l : DOps} {env : List AV} {H : Heap} : ∀ {ps : List Nat}, psV P tab (ps.map (opAt l)) env H → ∀ a ∈ ps, stV P tab (opAt l a) env H fun u _ => Keeps env (opAt l a).d u := by
  intro ps
  induction ps with
  | nil => intro _ a ha; simp at ha
  | cons b ps ih =>
    rintro ⟨h1, h2⟩ a ha
    rcases List.mem_cons.1 ha with rfl | ha
    · exact h1
    · exact ih h2 a ha
theorem set_getD_self {env : List AV} {g : Nat} {v : AV} (h : env.getD g .any = v) : env.set g v = env := by
  apply List.ext_getElem?
  intro i
  rw [List.getElem?_set]
  split
  · rename_i e; subst e
    split
    · rename_i hl; simp only [List.getD, List.getElem?_eq_getElem hl, Option.getD_some] at h; rw [List.getElem?_eq_getElem hl, h]
    · rename_i hl; rw [List.getElem?_eq_none (by omega)]
  · rfl
theorem vcY_vcS {P : Program} {tab : Tab} {l : DOps} {Q : List AV → Heap → Prop} : ∀ (c : Canon) (env : List AV) (H : Heap), vcY P tab Q (dOf l c) env H → vcS P tab l Q c env H := by
  intro c
  induction c with
  | nil => intro env H h; exact h
  | cons p c ih =>
    obtain ⟨i, ps⟩ := p
    intro env H h
    have hm : ∀ {A : Prop}, dmV tab ((ps.filter fun a => a != i && newLike (opAt l a)).map (opAt l)) env ∧ A → (∀ a ∈ ps, a ≠ i → newLike (opAt l a) = true → safeV (newOf tab (opAt l a) env)) ∧ A :=
      fun hh => ⟨fun a ha hne hnl => dmV_all hh.1 a (List.mem_filter.2 ⟨ha, by simp [hne, hnl]⟩), hh.2⟩
    have hk : ∀ {env : List AV} {H : Heap}, psV P tab ((ps.filter fun a => !newLike (opAt l a)).map (opAt l)) env H → ∀ a ∈ ps, newLike (opAt l a) = false → stV P tab (opAt l a) env H fun u _ => Keeps env (opAt l a).d u :=
      fun hh a ha hnl => psV_all hh a (List.mem_filter.2 ⟨ha, by simp [hnl]⟩)
    simp only [dOf, List.map_cons] at h
    unfold vcS
    cases hx : opAt l i with
    | run d o =>
      rw [hx] at h
      simp only [vcY] at h
      refine ⟨(hm h).1, stX_mono (fun v H' hh => ⟨hk hh.1, ih _ _ hh.2⟩) h.2⟩
    | guarded g want d o =>
      rw [hx] at h
      simp only [vcY] at h
      refine ⟨(hm h).1, ?_⟩
      obtain ⟨_, h0, h⟩ := h
      rw [h0]
      show stV P tab (.guarded g want d o) env H _
      split at h
      · rename_i b hb
        simp only [stV, XOp.d, hb]
        refine ⟨fun e => ?_, fun e => ?_⟩
        · have hh := h.1 e
          rw [set_getD_self (by rw [hb, e])] at hh
          exact opV_mono' (fun v H' hh => ⟨hk hh.1, ih _ _ hh.2⟩) hh
        · have hh := h.2 e
          rw [set_getD_self (by rw [hb, e])] at hh
          exact ⟨hk hh.1, ih _ _ hh.2⟩
      · rename_i hb
        simp only [stV, XOp.d, hb]
        exact ⟨hk h.1, ih _ _ h.2⟩
      · exact h.elim
    | bad => rw [hx] at h; exact h.elim
theorem CX.drawD {P : Program} {tab : Tab} (hT : tab.Ok P) (hm : P.follows .mixedOrders = true) {l : DOps} {Q : Post} {env : List AV} {H : Heap} (A : List (List Nat)) (c : Canon) (N : Nat) (hN : env.length = N)
    (hchk : (okA l A && rangeOk l N && permOk l.length c && good tab l A c) = true) (d : DCanon) (hd : dOf l c = d) (h : vcY P tab (Q .normal) d env H) : CX P (.draw l) Q env H :=
  CX.draw hT hm A c N hN hchk (vcY_vcS _ _ _ (hd ▸ h))
end Go.Sep
namespace Go.Sep
open Go Go.RowKit
abbrev own (r sz : Nat) (es : List (List PV)) : AV := .sl r sz 0 es.length
def cells (es : List (List PV)) : List AV := es.flatten.map .p
def Sized (sz : Nat) (es : List (List PV)) : Prop := ∀ e ∈ es, e.length = sz
theorem cells_len {sz : Nat} {es : List (List PV)} (h : Sized sz es) : (cells es).length = es.length * sz := by
  rw [cells, List.length_map, flatten_len es h]
theorem cells_app (a b : List (List PV)) : cells (a ++ b) = cells a ++ cells b := by simp [cells]
theorem cells_take {sz : Nat} {es : List (List PV)} (h : Sized sz es) : ((cells es).drop 0).take (es.length * sz) = cells es := by
  rw [List.drop_zero, ← cells_len h, List.take_length]
theorem cells_cell (es : List (List PV)) : (cells es).all AV.isCell = true := by
  simp only [cells, List.all_eq_true, List.mem_map, forall_exists_index, and_imp]
  rintro _ p _ rfl; rfl
theorem Sized.app {sz : Nat} {a b : List (List PV)} (ha : Sized sz a) (hb : Sized sz b) : Sized sz (a ++ b) := by
  intro e he; rcases List.mem_append.1 he with h | h
  · exact ha e h
  · exact hb e h
theorem Sized.nil (sz : Nat) : Sized sz [] := by intro e he; cases he
theorem Sized.cons {sz : Nat} {e : List PV} {es : List (List PV)} (h : e.length = sz) (t : Sized sz es) : Sized sz (e :: es) := by
  intro x hx; rcases List.mem_cons.1 hx with rfl | hx
  · exact h
  · exact t x hx
theorem Wk.own {q sz : Nat} {es : List (List PV)} {H : Heap} (hpos : 0 < sz) (hs : Sized sz es) (hr : H q = some (cells es)) : Wk (own q sz es) H (.p (.sl es)) (H.del q) :=
  Wk.frz hpos hr hs .here
theorem lit1 {tab : Tab} {t e : Nat} {d ed : TD} {v : PV} {H : Heap} {K : AV → Heap → Prop} (h1 : tab t = some d) (h2 : d.k = .slice e) (h3 : tab e = some ed) (h4 : ed.size = 1 ∧ ed.zero.length = 1)
    (h : K (.p (.sl [[v]])) H) : buildSliceV tab t 1 [(0, .p v)] H (wkK K) := by
  obtain ⟨z, hz⟩ : ∃ z, ed.zero = [z] := by
    match ed.zero, h4.2 with
    | [z], _ => exact ⟨z, rfl⟩
  simp only [buildSliceV, h1, h2, h3, h4.1]
  refine ⟨by omega, ?_⟩
  simp only [fillV, zerosA, hz, List.replicate, List.flatten, AV.cells, splice]
  intro r hr
  refine ⟨_, _, Wk.trans (Wk.frz (r := r) (sz := 1) (es := [[v]]) (v := .sl r 1 0 1) (v' := .p (.sl [[v]])) (by omega) ?_ (by simp) .here) (.forget ?_), h⟩
  · rw [Heap.set_same]; rfl
  · rw [Heap.del_set hr]; exact Heap.le_refl _
theorem app_own {tab : Tab} {t0 t1 e e1 sz : Nat} {d d1 ed : TD} {r : Nat} {es fs : List (List PV)} {x : AV} {H : Heap} {K : AV → Heap → Prop} (h1 : tab t0 = some d) (h2 : d.k = .slice e) (h3 : tab e = some ed) (h4 : tab t1 = some d1) (h5 : d1.k = .slice e1) (h6 : ed.size = sz) {bz : Nat} (h7 : ed.bytes = bz)
    (hx : x = .p (.sl fs) ∨ (x = .p .nil ∧ fs = [])) (hr : H r = some (cells es)) (hs : Sized sz es) (hf : Sized sz fs) (hl : (es.length + fs.length) * bz ≤ 140737488355328) (hl2 : es.length + fs.length ≤ 9223372036854775807)
    (h : ∀ r', H r' = none → K (own r' sz (es ++ fs)) ((H.del r).set r' (cells (es ++ fs)))) : appendV tab t0 t1 (own r sz es) x H (wkK K) := by
  subst h6
  subst h7
  have hsrc : ∀ (K' : List AV → Nat → Prop), K' (cells fs) fs.length → srcV H ed.size x K' := by
    intro K' hk
    rcases hx with rfl | ⟨rfl, rfl⟩
    · exact ⟨hf, hk⟩
    · exact hk
  simp only [appendV, h1, h2, h3, h4, h5]
  refine hsrc _ ?_
  simp only [baseV, hr, cells_take hs]
  refine ⟨trivial, by rw [cells_len hs]; omega, hl, hl2, cells_cell fs, fun r' hr' => wkK.keep ?_⟩
  have := h r' hr'
  simpa only [own, List.length_append, cells_app] using this
theorem app_nil {tab : Tab} {t0 t1 e e1 sz : Nat} {d d1 ed : TD} {fs : List (List PV)} {s x : AV} {H : Heap} {K : AV → Heap → Prop} (h1 : tab t0 = some d) (h2 : d.k = .slice e) (h3 : tab e = some ed) (h4 : tab t1 = some d1) (h5 : d1.k = .slice e1) (h6 : ed.size = sz) {bz : Nat} (h7 : ed.bytes = bz)
    (hb : s = .p .nil ∨ s = .esl) (hx : x = .p (.sl fs) ∨ (x = .p .nil ∧ fs = [])) (hf : Sized sz fs) (hl : fs.length * bz ≤ 140737488355328) (hl2 : fs.length ≤ 9223372036854775807)
    (h : ∀ r', H r' = none → K (own r' sz fs) (H.set r' (cells fs))) : appendV tab t0 t1 s x H (wkK K) := by
  subst h6
  subst h7
  have hsrc : ∀ (K' : List AV → Nat → Prop), K' (cells fs) fs.length → srcV H ed.size x K' := by
    intro K' hk
    rcases hx with rfl | ⟨rfl, rfl⟩
    · exact ⟨hf, hk⟩
    · exact hk
  simp only [appendV, h1, h2, h3, h4, h5]
  refine hsrc _ ?_
  have key : (0 + fs.length) * ed.bytes ≤ 140737488355328 ∧ 0 + fs.length ≤ 9223372036854775807 ∧ (cells fs).all AV.isCell = true ∧ ∀ r, H r = none → wkK K (.sl r ed.size 0 (0 + fs.length)) (H.set r ([] ++ cells fs)) := by
    refine ⟨by simpa using hl, by omega, cells_cell fs, fun r hr => wkK.keep ?_⟩
    simpa using h r hr
  rcases hb with rfl | rfl <;> exact key
theorem CX.acc {P : Program} {x : XC} {Q : Post} {env : List AV} {H : Heap} (d sz : Nat) (h0 : env.getD d .any = .p .nil) (h : ∀ r, H r = none → CX P x Q (env.set d (own r sz [])) (H.set r (cells []))) : CX P x Q env H := by
  intro c hc B0 w0 F Z φ a w rel
  obtain ⟨r, φ', q1, q2, q3, q4, q5⟩ := rel.sim.ghost
  have hHr : H r = none := by
    cases hh : H r with
    | none => rfl
    | some b => rw [Heap.or_left hh] at q1; cases q1
  have hFr : F r = none := by
    cases hh : F r with
    | none => rfl
    | some b => simp [Heap.or, hHr, hh] at q1
  rw [← Heap.or_set] at q5
  have hd : Disj (H.set r []) F := by
    intro y hy
    by_cases e : y = r
    · subst e; exact hFr
    · rw [Heap.set_other e] at hy; exact rel.disj y hy
  have he : EnvRel Z φ' (env.set d (own r sz [])) a.tmps := by
    refine ⟨by rw [List.length_set]; exact rel.env.1, ?_⟩
    intro i av v hi hv
    rw [List.getElem?_set] at hi
    split at hi
    · rename_i e; subst e
      split at hi
      · rename_i hl
        cases hi
        have hg : env[d]? = some (.p .nil) := by
          rw [List.getElem?_eq_getElem hl]; simp only [List.getD, List.getElem?_eq_getElem hl, Option.getD_some] at h0; rw [h0]
        have := rel.env.2 d _ v hg hv
        cases this with | p hz => cases hz; exact .slz _ _ _ _
      · cases hi
    · exact (rel.env.2 i av v hi hv).mono (Fro.le_refl _) q3
  refine wp_mono (h r hHr c hc B0 w0 F Z φ' a w ⟨hd, q5, he, rel.defers⟩) ?_
  rintro e2 a2 w2 ⟨env2, H2, Z2, φ2, t2, hz2, hp2, r2⟩
  exact ⟨env2, H2, Z2, φ2, t2, hz2, Pm.le_trans q3 hp2, r2⟩
end Go.Sep
namespace Go.Sep
open Go Go.RowKit
def zOf (w : World) : Fro := fun b i => w.cell? ⟨b, i, none⟩
mutual
inductive Typed (P : Program) : TypeId → List PV → Prop where
  | bool {t : TypeId} {b : Bool} (h : P.underlying t = some .bool) : Typed P t [.bool b]
  | int {t : TypeId} {k : IntKind} {n : Int} (h : P.underlying t = some (.int k)) (hw : (Lit.int k n).wf = true) : Typed P t [.int k n]
  | str {t : TypeId} {s : ByteArray} (h : P.underlying t = some .string) (hs : s.size ≤ maxLen) : Typed P t [.str s]
  | sl {t e : TypeId} {es : List (List PV)} (h : P.underlying t = some (.slice e)) (hl : es.length ≤ maxLen) (he : ∀ x ∈ es, Typed P e x) : Typed P t [.sl es]
  | struct {t : TypeId} {fs : Array Field} {pvs : List PV} (h : P.underlying t = some (.struct fs)) (hf : TypedAll P (fs.toList.map (·.type)) pvs) : Typed P t pvs
inductive TypedAll (P : Program) : List TypeId → List PV → Prop where
  | nil : TypedAll P [] []
  | cons {t : TypeId} {ts : List TypeId} {a b : List PV} (h : Typed P t a) (r : TypedAll P ts b) : TypedAll P (t :: ts) (a ++ b)
end
def contig (P : Program) : Nat → List Field → Nat → Bool
  | off, [], n => off == n
  | off, f :: fs, n => f.offset == off && contig P (off + P.cellsOf f.type) fs n
def plainB (P : Program) : Nat → TypeId → Bool
  | 0, _ => false
  | n + 1, t => match P.underlying t with
    | some .bool => P.cellsOf t == 1
    | some (.int _) => P.cellsOf t == 1
    | some .string => P.cellsOf t == 1
    | some (.slice e) => P.cellsOf t == 1 && decide (0 < P.cellsOf e) && plainB P n e
    | some (.struct fs) => contig P 0 fs.toList (P.cellsOf t) && fs.toList.all fun f => plainB P n f.type
    | _ => false
def Told (w : World) (pvs : List PV) (cs : List Value) : Prop := pvs.length = cs.length ∧ ∀ (i : Nat) (p : PV) (v : Value), pvs[i]? = some p → cs[i]? = some v → Cz (zOf w) p v
theorem Told.one {w : World} {p : PV} {v : Value} (h : Cz (zOf w) p v) : Told w [p] [v] := by
  refine ⟨rfl, ?_⟩
  intro i q x hq hx
  cases i with
  | zero => simp at hq hx; subst hq; subst hx; exact h
  | succ i => simp at hq
theorem Told.app {w : World} {a b : List PV} {c d : List Value} (h : Told w a c) (k : Told w b d) : Told w (a ++ b) (c ++ d) := by
  refine ⟨by simp [h.1, k.1], ?_⟩
  intro i q x hq hx
  by_cases hl : i < a.length
  · rw [List.getElem?_append_left hl] at hq
    rw [List.getElem?_append_left (by rw [← h.1]; exact hl)] at hx
    exact h.2 i q x hq hx
  · rw [List.getElem?_append_right (by omega)] at hq
    rw [List.getElem?_append_right (by rw [← h.1]; omega), ← h.1] at hx
    exact k.2 _ q x hq hx
theorem cell_spot {w : World} {a : Addr} {v : Value} (h : w.cell? a = some v) : a.spot = none := by
  unfold World.cell? at h
  split at h
  · split at h
    · cases h
    · rename_i hs; cases hp : a.spot with
      | none => rfl
      | some x => simp [hp] at hs
  · cases h
section
variable {H : Type} {enc : TypeId × Value → H} {P : Program} {w : World} {sp : Nat → Bool} {held : Bool}
theorem read_fields {fuel : Nat} {n : Nat} (cs : List Value) (hlen : cs.length = n) (rec : ∀ t cs (x : DataW H × List MemPlace), DataW.trod enc P w 0 sp held fuel t cs = some x → ∀ m, plainB P m t = true → ∃ pvs, Typed P t pvs ∧ Told w pvs cs) :
    ∀ (fs : List Field) (off m : Nat), contig P off fs n = true → (∀ f ∈ fs, plainB P m f.type = true) → (∀ f ∈ fs, ∃ x, DataW.trod enc P w 0 sp held fuel f.type ((cs.drop f.offset).take (P.cellsOf f.type)) = some x) →
      (∀ f ∈ fs, ∀ pvs, Told w pvs ((cs.drop f.offset).take (P.cellsOf f.type)) → True) →
      ∃ pvs, TypedAll P (fs.map (·.type)) pvs ∧ Told w pvs (cs.drop off) := by
  intro fs
  induction fs with
  | nil =>
    intro off m hc _ _ _
    simp only [contig, beq_iff_eq] at hc
    refine ⟨[], .nil, ?_⟩
    rw [List.drop_of_length_le (by omega)]
    exact ⟨rfl, fun i p v h => by simp at h⟩
  | cons f fs ih =>
    intro off m hc hp hx ht
    simp only [contig, Bool.and_eq_true, beq_iff_eq] at hc
    obtain ⟨x, hx0⟩ := hx f (by simp)
    obtain ⟨a, ha, hta⟩ := rec _ _ _ hx0 m (hp f (by simp))
    obtain ⟨b, hb, htb⟩ := ih (off + P.cellsOf f.type) m hc.2 (fun g hg => hp g (by simp [hg])) (fun g hg => hx g (by simp [hg])) (fun _ _ _ _ => trivial)
    refine ⟨a ++ b, .cons ha hb, ?_⟩
    rw [hc.1] at hta
    have : cs.drop off = (cs.drop off).take (P.cellsOf f.type) ++ cs.drop (off + P.cellsOf f.type) := by
      rw [← List.drop_drop, List.take_append_drop]
    rw [this]
    exact hta.app htb
theorem read_cells : ∀ (fuel : Nat) (t : TypeId) (cs : List Value) (x : DataW H × List MemPlace), DataW.trod enc P w 0 sp held fuel t cs = some x → ∀ m, plainB P m t = true → ∃ pvs, Typed P t pvs ∧ Told w pvs cs := by
  intro fuel
  induction fuel with
  | zero => intro t cs x h; simp [DataW.trod] at h
  | succ fuel ih =>
    intro t cs x h m hm
    cases m with
    | zero => simp [plainB] at hm
    | succ m =>
      unfold plainB at hm
      split at hm
      · rename_i hu
        obtain ⟨b, rfl, rfl⟩ := DataW.trod_bool hu h
        exact ⟨_, .bool hu, .one (.bool b)⟩
      · rename_i k hu
        obtain ⟨n, rfl, rfl, hw⟩ := DataW.trod_int hu h
        exact ⟨_, .int hu hw, .one (.int k n)⟩
      · rename_i hu
        obtain ⟨s, rfl, rfl, hs⟩ := DataW.trod_string hu h
        exact ⟨_, .str hu hs, .one (.str s)⟩
      · rename_i e hu
        simp only [Bool.and_eq_true, decide_eq_true_eq, beq_iff_eq] at hm
        obtain ⟨⟨_, hpos⟩, hpe⟩ := hm
        rcases DataW.trod_slice hu h with ⟨rfl, rfl⟩ | ⟨a, len, cap, elems, rest, n, hn, rfl, hx, hb, hlc, hcm, hel, hget, _, _⟩
        · exact ⟨[.sl []], .sl hu (Nat.zero_le _) (fun x hx => by cases hx), .one (.emp none 0)⟩
        · cases hn
          classical
          by_cases hz : len = 0
          · subst hz
            exact ⟨[.sl []], .sl hu (Nat.zero_le _) (fun x hx => by cases hx), .one (.emp (some a) cap)⟩
          · have hspot : a.spot = none := by
              have hg := hget 0 (by omega)
              rw [List.getElem?_eq_getElem (by rw [hel]; omega)] at hg
              obtain ⟨cs', hcs, hrec⟩ := Option.bind_eq_some_iff.1 hg
              obtain ⟨_, hl2, hc2⟩ := World.cells?_some hcs
              have h0 := hc2 0 hpos
              rw [List.getElem?_eq_getElem (by omega)] at h0
              have := cell_spot h0
              simpa [Addr.add] using this
            obtain ⟨ab, ao, as⟩ := a
            simp only at hspot
            subst hspot
            have hsome : ∀ i, i < len → ∃ ei : List PV, Typed P e ei ∧ ei.length = P.cellsOf e ∧ ∀ j p, ei[j]? = some p → ∃ v, w.cell? ⟨ab, ao + (i * P.cellsOf e + j), none⟩ = some v ∧ Cz (zOf w) p v := by
              intro i hi
              have hg := hget i hi
              rw [List.getElem?_eq_getElem (by rw [hel]; exact hi)] at hg
              obtain ⟨cs', hcs, hrec⟩ := Option.bind_eq_some_iff.1 hg
              obtain ⟨_, hl2, hc2⟩ := World.cells?_some hcs
              obtain ⟨pvs, h1, h2⟩ := ih _ _ _ hrec m hpe
              refine ⟨pvs, h1, by rw [h2.1, hl2], ?_⟩
              intro j p hj
              have hjl : j < cs'.length := by rw [← h2.1]; exact (List.getElem?_eq_some_iff.1 hj).1
              have hcj := hc2 j (by omega)
              rw [List.getElem?_eq_getElem hjl, addr_add, addr_add, Nat.add_assoc] at hcj
              exact ⟨cs'[j], hcj, h2.2 j p _ hj (List.getElem?_eq_getElem hjl)⟩
            let es : List (List PV) := (List.range len).map fun i => if hi : i < len then (hsome i hi).choose else []
            have hes : ∀ i (hi : i < len), es[i]? = some (hsome i hi).choose := by
              intro i hi
              simp only [es, List.getElem?_map, List.getElem?_range hi, Option.map_some, hi, dif_pos]
            have hlen : es.length = len := by simp [es]
            have hmem : ∀ x ∈ es, ∃ i, ∃ hi : i < len, x = (hsome i hi).choose := by
              intro x hx
              obtain ⟨i, hi⟩ := List.getElem?_of_mem hx
              have hil : i < len := by rw [← hlen]; exact (List.getElem?_eq_some_iff.1 hi).1
              rw [hes i hil] at hi
              exact ⟨i, hil, (Option.some.inj hi).symm⟩
            refine ⟨[.sl es], .sl hu (by rw [hlen]; omega) ?_, .one ?_⟩
            · intro x hx
              obtain ⟨i, hi, rfl⟩ := hmem x hx
              exact (hsome i hi).choose_spec.1
            · have hc : Cz (zOf w) (.sl es) (.slice (some ⟨ab, ao, none⟩) es.length cap) := by
                refine Cz.sl es (P.cellsOf e) ab ao cap (fun k => (w.cell? ⟨ab, ao + k, none⟩).getD undef) (by omega) ?_ ?_ ?_
                · intro x hx
                  obtain ⟨i, hi, rfl⟩ := hmem x hx
                  exact (hsome i hi).choose_spec.2.1
                · intro k hk
                  have hki : k / P.cellsOf e < len := by rw [hlen] at hk; exact Nat.div_lt_of_lt_mul (by rw [Nat.mul_comm]; exact hk)
                  have hs := (hsome _ hki).choose_spec
                  have hkj : k % P.cellsOf e < (hsome _ hki).choose.length := by rw [hs.2.1]; exact Nat.mod_lt _ hpos
                  obtain ⟨v, hv, _⟩ := hs.2.2 _ _ (List.getElem?_eq_getElem hkj)
                  rw [Nat.div_add_mod' k (P.cellsOf e)] at hv
                  show w.cell? _ = some _
                  rw [hv]; rfl
                · intro i ei hei j p hj
                  have hil : i < len := by rw [← hlen]; exact (List.getElem?_eq_some_iff.1 hei).1
                  rw [hes i hil] at hei
                  cases hei
                  obtain ⟨v, hv, hcz⟩ := (hsome i hil).choose_spec.2.2 j p hj
                  simp only [hv, Option.getD_some]
                  exact hcz
              rw [hlen] at hc
              exact hc
      · rename_i fs hu
        simp only [Bool.and_eq_true, List.all_eq_true] at hm
        obtain ⟨xs, n, hn, rfl, hl, hxl, hf⟩ := DataW.trod_struct hu h
        cases hn
        obtain ⟨pvs, h1, h2⟩ := read_fields cs hl ih fs.toList 0 m hm.1 hm.2 (by
          intro f hfm
          obtain ⟨i, hi⟩ := List.getElem?_of_mem hfm
          have hi2 : fs[i]? = some f := by simpa using hi
          have := hf i f hi2
          have hil : i < xs.length := by rw [hxl]; exact (Array.getElem?_eq_some_iff.1 hi2).1
          rw [List.getElem?_eq_getElem hil] at this
          exact ⟨_, this⟩) (fun _ _ _ _ => trivial)
        exact ⟨pvs, .struct hu h1, by simpa using h2⟩
      · cases hm
end
end Go.Sep
namespace Go.Sep
open Go Go.RowKit Go.ChangeShapes Go.WideShapes
inductive ArgT (P : Program) : TypeId → AV → Prop where
  | cell {t : TypeId} {p : PV} (hs : ∀ fs, P.underlying t ≠ some (.struct fs)) (h : Typed P t [p]) : ArgT P t (.p p)
  | agg {t : TypeId} {fs : Array Field} {pvs : List PV} (hu : P.underlying t = some (.struct fs)) (h : TypedAll P (fs.toList.map (·.type)) pvs) : ArgT P t (.agg (pvs.map .p))
inductive ArgsT (P : Program) : List TypeId → List AV → Prop where
  | nil : ArgsT P [] []
  | cons {t : TypeId} {ts : List TypeId} {v : AV} {vs : List AV} (h : ArgT P t v) (r : ArgsT P ts vs) : ArgsT P (t :: ts) (v :: vs)
section
variable {H : Type} {enc : TypeId × Value → H} {P : Program} {w : World} {sp : Nat → Bool} {held : Bool}
theorem arg_ok {t : TypeId} {v : Value} {d : DataW H} {ps : List MemPlace} {b : Nat} {φ : Pm} (h : DataW.Trod enc P w 0 sp held t v d ps) (hv : Value.okWide P w .any b t v) {n : Nat} (hp : plainB P n t = true) :
    ∃ av, ArgT P t av ∧ Cv (zOf w) φ av v := by
  obtain ⟨fuel, hf⟩ := h
  obtain ⟨pvs, hty, ht⟩ := read_cells fuel t _ _ hf n hp
  by_cases hs : ∃ fs, P.underlying t = some (.struct fs)
  · obtain ⟨fs, hu⟩ := hs
    obtain ⟨cs, rfl, _⟩ := okWide_struct hu hv
    refine ⟨.agg (pvs.map .p), ?_, ?_⟩
    · cases hty with
      | struct h' hf' => exact .agg h' hf'
      | bool h' => rw [hu] at h'; cases h'
      | int h' => rw [hu] at h'; cases h'
      | str h' => rw [hu] at h'; cases h'
      | sl h' => rw [hu] at h'; cases h'
    · refine .agg _ _ (by rw [List.length_map, ht.1]; simp [Value.cells]) ?_
      intro i av x hi hx
      rw [List.getElem?_map] at hi
      cases hq : pvs[i]? with
      | none => rw [hq] at hi; cases hi
      | some p =>
        rw [hq] at hi; cases hi
        exact .p (ht.2 i p x hq (by simpa [Value.cells] using hx))
  · have hs' : ∀ fs, P.underlying t ≠ some (.struct fs) := fun fs e => hs ⟨fs, e⟩
    have hc : v.cells = #[v] := by
      cases n with
      | zero => simp [plainB] at hp
      | succ n =>
        unfold plainB at hp
        unfold Value.okWide at hv
        split at hp <;> rename_i hu <;> (try rw [hu] at hv) <;> first | (exact absurd hu (hs' _)) | (cases hp; done) | skip
        all_goals
          cases v <;> first | rfl | skip
          all_goals simp_all [Cell.okWide, Cell.ok]
    rw [hc] at ht
    obtain ⟨p, rfl⟩ : ∃ p, pvs = [p] := by
      match pvs, ht.1 with
      | [p], _ => exact ⟨p, rfl⟩
    exact ⟨.p p, .cell hs' hty, .p (ht.2 0 p v rfl rfl)⟩
theorem args_ok {φ : Pm} {n b : Nat} : ∀ (ts : List TypeId) (vs : List Value) (ds : List (DataW H)) (ps : List MemPlace), DataW.TrodAll enc P w 0 sp held ts vs ds ps →
    (∀ (j : Nat) t v, ts[j]? = some t → vs[j]? = some v → Value.okWide P w .any b t v) → (∀ t ∈ ts, plainB P n t = true) →
    ∃ avs, ArgsT P ts avs ∧ vs.length = avs.length ∧ ∀ (i : Nat) (av : AV) (x : Value), avs[i]? = some av → vs[i]? = some x → Cv (zOf w) φ av x := by
  intro ts
  induction ts with
  | nil =>
    intro vs ds ps h _ _
    cases vs with
    | nil => exact ⟨[], .nil, rfl, fun i av x hi => by simp at hi⟩
    | cons v vs => exact h.elim
  | cons t ts ih =>
    intro vs ds ps h hv hp
    match vs, ds, h with
    | v :: vs, d :: ds, h =>
      obtain ⟨p, q, h1, h2, rfl⟩ := h
      obtain ⟨av, ha, hc⟩ := arg_ok (φ := φ) h1 (hv 0 t v rfl rfl) (hp t (by simp))
      obtain ⟨avs, hb, hl, hcs⟩ := ih vs ds q h2 (fun j t' v' ht hv' => hv (j + 1) t' v' (by simpa using ht) (by simpa using hv')) (fun t' ht => hp t' (by simp [ht]))
      refine ⟨av :: avs, .cons ha hb, by simp [hl], ?_⟩
      intro i av' x hi hx
      cases i with
      | zero => simp at hi hx; subst hi; subst hx; exact hc
      | succ i => simp at hi hx; exact hcs i av' x hi hx
theorem stay_all (hl : laidOutB P = true) {w' : World} {sp' : Nat → Bool} : ∀ (ts : List TypeId) (vs : List Value) (ds : List (DataW H)) (ps : List MemPlace), DataW.TrodAll enc P w 0 (fun _ => true) true ts vs ds ps →
    (∀ t ∈ ts, P.readableRec t = true ∧ t < P.types.size) → (∀ p ∈ ps, w.sameAt w' p) → (∀ p ∈ ps, sp' p.block = true) → DataW.TrodAll enc P w' 0 sp' true ts vs ds ps := by
  intro ts
  induction ts with
  | nil =>
    intro vs ds ps h _ _ _
    match vs, ds, h with
    | [], [], h => exact h
  | cons t ts ih =>
    intro vs ds ps h ht hs hb
    match vs, ds, h with
    | v :: vs, d :: ds, h =>
      obtain ⟨p, q, h1, h2, rfl⟩ := h
      exact ⟨p, q, WideElems.Trod_stays hl (ht t (by simp)).1 (ht t (by simp)).2 h1 (fun x hx => hs x (by simp [hx])) (fun x hx => hb x (by simp [hx])),
        ih vs ds q h2 (fun t' ht' => ht t' (by simp [ht'])) (fun x hx => hs x (by simp [hx])) (fun x hx => hb x (by simp [hx])), rfl⟩
theorem row_of_true (hl : laidOutB P = true) {f : Nat} {fn : Func} {s : ChangeSpec} {tb : TypeId} {n : Nat} (hvars : s.vars = []) (hres : fn.resultTypes = #[tb]) (hb : P.underlying tb = some .bool)
    (hts : ∀ t ∈ fn.params.toList, P.readableRec t = true ∧ t < P.types.size ∧ plainB P n t = true)
    (hfn : ∀ ds : List (DataW H), ds.length = fn.params.toList.length → s.fn H ds = { results := [.lit (.bool true)], args := ds })
    (hlaw : ∀ avs, ArgsT P fn.params.toList avs → CallT P f avs (fun _ => none) (fun v _ => v = .p (.bool true)))
    {W : World} {base : Nat} {args : Array Value} {ds gs : List (DataW H)} {before : List MemPlace}
    (hval : ∀ (j : Nat) t v, fn.params[j]? = some t → args[j]? = some v → Value.okWide P W .any base t v) (hW : DataW.Whole enc P fn.params.toList s.vars false W args.toList ds gs before) {fresh handsOn : Bool} :
    Calls P f args W fun e W' => ∃ v, e = .returned v ∧ s.post enc P fn false fresh handsOn false W args v W' := by
  have hW' := hW
  obtain ⟨p, q, hA, hV, rfl, hfz, hnd⟩ := hW
  rw [hvars] at hV
  obtain ⟨rfl, rfl⟩ := trodVars_none hV
  simp only [List.append_nil] at hW'
  obtain ⟨avs, ha, hlen, hcv⟩ := args_ok (φ := fun _ => none) (n := n) fn.params.toList args.toList ds p hA (fun j t v ht hv => hval j t v (by simpa using ht) (by simpa using hv)) (fun t ht => (hts t ht).2.2)
  have hlt : ∀ x ∈ p, x.block < W.heap.size := fun x hx => hW'.lt x (by simpa using hx)
  have hor : Heap.or (fun _ => none) (fun _ => none) = (fun _ => none : Heap) := by funext x; rfl
  have sim : Sim (zOf W) (fun _ => none) W.heap.size W (Heap.or (fun _ => none) (fun _ => none)) W := by
    rw [hor]
    exact ⟨Nat.le_refl _, Bel.refl _ _, ⟨0, fun _ _ => rfl⟩, fun r blk h => (by simp at h), fun r r' pl pl' h => absurd rfl h, fun b i v h => h, fun b i v _ r pl h => absurd rfl h⟩
  refine ((hlaw avs ha).2 W.heap.size W (fun _ => none) (zOf W) (fun _ => none) W args (fun r h => absurd rfl h) sim ⟨by rw [← hlen]; simp, fun i av x hi hx => hcv i av x hi (by simpa using hx)⟩).mono ?_
  rintro e W' ⟨x, rfl, v, H1, Z1, φ1, rfl, _, _, _, sim1, hc⟩
  have hx : x = .bool true := by cases hc with | p hz => cases hz; rfl
  subst hx
  have hbl := sim1.below.to
  have hdl : ds.length = fn.params.toList.length := by
    have key : ∀ (ts : List TypeId) (vs : List Value) (ds : List (DataW H)) (ps : List MemPlace), DataW.TrodAll enc P W 0 (fun _ => true) true ts vs ds ps → ds.length = ts.length := by
      intro ts
      induction ts with
      | nil => intro vs ds ps h; match vs, ds, h with | [], [], _ => rfl
      | cons t ts ih => intro vs ds ps h; match vs, ds, h with | v :: vs, d :: ds, h => obtain ⟨a, b, _, h2, _⟩ := h; simp [ih vs ds b h2]
    exact key _ _ _ _ hA
  have hs := hfn (ds ++ []) (by simpa using hdl)
  refine ⟨_, rfl, ds, [], p, [], p, [], by simpa using hW', ?_, ?_, ?_, hbl.frame _, fun h => by cases h⟩
  · rw [hs, hres]; exact trodAll_mk1 (shut_bool hb true)
  · rw [hs]
    simp only [List.append_nil]
    exact stay_all hl _ _ _ _ hA (fun t ht => ⟨(hts t ht).1, (hts t ht).2.1⟩) (fun x hx => hbl.same (hlt x hx)) (fun x hx => by simpa using hlt x hx)
  · rw [hs, hvars]; exact rfl
end
end Go.Sep
namespace Go.Sep
open Go Go.RowKit
theorem Sized.take {sz : Nat} {es : List (List PV)} (h : Sized sz es) (i : Nat) : Sized sz (es.take i) := fun e he => h e (List.mem_of_mem_take he)
theorem Sized.drop {sz : Nat} {es : List (List PV)} (h : Sized sz es) (i : Nat) : Sized sz (es.drop i) := fun e he => h e (List.mem_of_mem_drop he)
theorem Heap.set_ne {H : Heap} {r r' : Nat} {b : List AV} (h : r' ≠ r) : (H.set r b) r' = H r' := Heap.set_other h
theorem Heap.over2 {H : Heap} {r s : Nat} {a b c : List AV} (h : r ≠ s) : ((H.set r a).set s b).set r c = (H.set r c).set s b := by
  rw [Heap.set_comm (Ne.symm h), Heap.set_set]
theorem Heap.over3 {H : Heap} {r s t : Nat} {a b c d : List AV} (h : r ≠ s) (k : r ≠ t) : (((H.set r a).set s b).set t d).set r c = ((H.set r c).set s b).set t d := by
  rw [Heap.set_comm (Ne.symm k), Heap.over2 h]
theorem Heap.over4 {H : Heap} {r s t u : Nat} {a b c d e : List AV} (h : r ≠ s) (k : r ≠ t) (l : r ≠ u) : ((((H.set r a).set s b).set t d).set u e).set r c = (((H.set r c).set s b).set t d).set u e := by
  rw [Heap.set_comm (Ne.symm l), Heap.over3 h k]
section
variable {P : Program} {tab : Tab} {env : List AV} {H : Heap} {K : AV → Heap → Prop}
end
end Go.Sep
namespace Go.Sep
open Go Go.RowKit
def tall : Prop := ∀ (P : Program) (tab : Tab) (o : Op) (env : List AV) (H : Heap) (K : AV → Heap → Prop), opV P tab o env H K
def condV (c : AV) (A B : Prop) : Prop :=
  (fun (_ : Prop) => match c with
  | .p (.bool t) => match t with
    | true => A
    | false => B
  | .ub => A ∧ B
  | _ => False) tall
def pickV (c : AV) (A B : Prop) : Prop :=
  (fun (_ : Prop) => match c with
  | .p (.bool t) => match t with
    | true => A
    | false => B
  | _ => False) tall
def grdV (c : AV) (want : Bool) (A B : Prop) : Prop :=
  (fun (_ : Prop) => match c with
  | .p (.bool b) => match b with
    | true => match want with
      | true => A
      | false => B
    | false => match want with
      | true => B
      | false => A
  | _ => False) tall
def callF (P : Program) (f : AV) (args : List AV) (H : Heap) (K : AV → Heap → Prop) : Prop :=
  match f with
  | .fn g caps => CallT P g (args ++ caps) H K
  | _ => False
theorem pickV_pk {c : AV} {A B : Prop} (h : pickV c A B) : ∃ t, c = .p (.bool t) ∧ pk t A B := by
  unfold pickV at h
  dsimp only at h
  split at h
  · rename_i t
    refine ⟨t, rfl, ?_⟩
    cases t <;> simpa [pk] using h
  · exact h.elim
theorem condV_pk {c : AV} {A B : Prop} (h : condV c A B) : (∃ t, c = .p (.bool t) ∧ pk t A B) ∨ (c = .ub ∧ A ∧ B) := by
  unfold condV at h
  dsimp only at h
  split at h
  · rename_i t
    refine .inl ⟨t, rfl, ?_⟩
    cases t <;> simpa [pk] using h
  · exact .inr ⟨rfl, h⟩
  · exact h.elim
theorem grdV_gd {c : AV} {want : Bool} {A B : Prop} (h : grdV c want A B) : ∃ t, c = .p (.bool t) ∧ gd t want A B := by
  unfold grdV at h
  dsimp only at h
  split at h
  · rename_i t
    refine ⟨t, rfl, ?_⟩
    cases t <;> cases want <;> simpa [gd] using h
  · exact h.elim
abbrev Env := Nat → AV
def upd (E : Env) (d : Nat) (v : AV) : Env := fun i => match Nat.beq i d with
  | true => v
  | false => E i
def updD (E : Env) (d : Option Nat) (v : AV) : Env := match d with
  | some t => upd E t v
  | none => E
def evF (E : Env) : Operand → AV
  | .tmp t => E t
  | .const v => constA v
  | .global _ => .any
  | .func f => .fn f []
structure EL (N : Nat) (E : Env) (env : List AV) : Prop where
  len : env.length = N
  at_ : ∀ i, E i = env.getD i .any
theorem EL.ev {N : Nat} {E : Env} {env : List AV} (h : EL N E env) : evF E = ev env := by
  funext o; cases o <;> first | exact h.at_ _ | rfl
theorem EL.upd {N : Nat} {E : Env} {env : List AV} (h : EL N E env) {d : Nat} (hd : d < N) (v : AV) : EL N (upd E d v) (env.set d v) := by
  refine ⟨by rw [List.length_set]; exact h.len, fun i => ?_⟩
  unfold Sep.upd
  cases hb : Nat.beq i d with
  | true =>
    have := Nat.eq_of_beq_eq_true hb; subst this
    simp [List.getD, h.len, hd]
  | false =>
    have hne : d ≠ i := fun e => by rw [← e, Nat.beq_refl] at hb; cases hb
    rw [h.at_ i]; simp only [List.getD]; rw [List.getElem?_set_ne hne]
theorem EL.updD {N : Nat} {E : Env} {env : List AV} (h : EL N E env) {d : Option Nat} (hd : inRange N d = true) (v : AV) : EL N (updD E d v) (setD env d v) := by
  cases d with
  | none => exact h
  | some t => exact h.upd (by simpa [inRange] using hd) v
def opE (P : Program) (tab : Tab) (o : Op) (ρ : Operand → AV) (H : Heap) (K : AV → Heap → Prop) : Prop :=
  match o with
  | .move x => K (ρ x) H
  | .assign x => K (ρ x) H
  | .pick c a b => pickV (ρ c) (K (ρ a) H) (K (ρ b) H)
  | .alloc t => allocV tab t H K
  | .box _ x => boxV (ρ x) H K
  | .build t ps => buildV tab t (ps.toList.map fun p => (p.1, ρ p.2)) (K · H)
  | .buildSlice t n ps => buildSliceV tab t n (ps.toList.map fun p => (p.1, ρ p.2)) H (wkK K)
  | .load t a => loadV tab t (ρ a) H (K · H)
  | .store t a x => storeV tab t (ρ a) (ρ x) H (K .any ·)
  | .nilCheck x => nilCheckV (ρ x) (K · H)
  | .binOp op t x y _ => binV tab op t (ρ x) (ρ y) (K · H)
  | .unOp op _ x => unV op (ρ x) (K · H)
  | .convert s d x => convV tab s d (ρ x) (K · H)
  | .makeFunc (.func f) first caps => match first.toList with
    | [] => K (.fn f (caps.toList.map ρ)) H
    | _ => False
  | .makeSlice t l c => makeSliceV tab t (ρ l) (ρ c) H K
  | .slice t x lo hi mx => sliceV tab t (ρ x) (lo.map ρ) (hi.map ρ) (mx.map ρ) (K · H)
  | .fieldAddr t x f => fieldAddrV tab t (ρ x) f (K · H)
  | .field t x f => fieldV tab t (ρ x) f (K · H)
  | .indexAddr t x i => indexAddrV tab t (ρ x) (ρ i) (K · H)
  | .index t x i => indexV tab t (ρ x) (ρ i) (K · H)
  | .extract x i => extractV (ρ x) i (K · H)
  | .call c => match c.callee with
    | .value (.tmp i) => callF P (ρ (.tmp i)) (c.args.toList.map ρ) H K
    | .value (.func g) => CallT P g (c.args.toList.map ρ) H K
    | .builtin .append => match c.args.toList, c.argTypes.toList with
      | [s, x], [t0, t1] => appendV tab t0 t1 (ρ s) (ρ x) H (wkK K)
      | _, _ => False
    | .builtin .len => match c.args.toList, c.argTypes.toList with
      | [x], [t] => lenV tab t (ρ x) (K · H)
      | _, _ => False
    | .builtin .clear => match c.args.toList, c.argTypes.toList with
      | [x], [t] => clearV tab t (ρ x) H K
      | _, _ => False
    | .builtin .copy => match c.args.toList, c.argTypes.toList with
      | [d, x], [t0, _] => copyV tab t0 (ρ d) (ρ x) H K
      | _, _ => False
    | .builtin .cap => match c.args.toList, c.argTypes.toList with
      | [x], [t] => capV tab t (ρ x) (K · H)
      | _, _ => False
    | .builtin b => match c.args.toList with
      | [x, y] => mmV b (ρ x) (ρ y) (K · H)
      | _ => False
    | _ => False
  | _ => False
theorem opE_ok {P : Program} {tab : Tab} {o : Op} {env : List AV} {H : Heap} {K : AV → Heap → Prop} (h : opE P tab o (ev env) H K) : opV P tab o env H K := by
  cases o <;> first | exact h | exact h.elim | skip
  case pick c a b =>
    obtain ⟨t, e, hp⟩ := pickV_pk h
    simp only [opV, e]; exact hp
  case makeFunc f first caps =>
    cases f <;> first | exact h.elim | skip
    simp only [opE] at h
    split at h
    · rename_i hf; simp only [opV]; exact ⟨hf, h⟩
    · exact h.elim
  case call c =>
    simp only [opE] at h
    simp only [opV]
    split at h
    · rename_i i hc
      unfold callF at h
      split at h
      · rename_i g caps hg
        unfold callV; rw [hc]; simp only [hg]
        exact h
      · exact h.elim
    · rename_i g hc
      unfold callV; rw [hc]; simp only [ev, List.append_nil]
      exact h
    · rename_i hc
      split at h
      · rename_i s x t0 t1 ha ht
        unfold callV; rw [hc, ha, ht]; exact h
      · exact h.elim
    · rename_i hc
      split at h
      · rename_i x t ha ht
        unfold callV; rw [hc, ha, ht]; exact h
      · exact h.elim
    · rename_i hc
      split at h
      · rename_i x t ha ht
        unfold callV; rw [hc, ha, ht]; exact h
      · exact h.elim
    · rename_i hc
      split at h
      · rename_i x t ha ht
        unfold callV; rw [hc, ha, ht]; exact h
      · exact h.elim
    · rename_i hc
      split at h
      · rename_i x t ha ht
        unfold callV; rw [hc, ha, ht]; exact h
      · exact h.elim
    · rename_i b h1 h2 h3 h4 h5 hc
      split at h
      · rename_i x y ha
        unfold callV; rw [hc, ha]
        cases b <;> first | exact h | (exact absurd rfl h1) | (exact absurd rfl h2) | (unfold mmV at h; simp at h)
      · exact h.elim
    · exact h.elim
abbrev QF := Env → Heap → Prop
def hasN : List Nat → Nat → Bool
  | [], _ => false
  | k :: ks, i => match Nat.beq i k with
    | true => true
    | false => hasN ks i
theorem hasN_iff {i : Nat} : ∀ (ws : List Nat), hasN ws i = true ↔ i ∈ ws
  | [] => by simp [hasN]
  | k :: ws => by
    rw [hasN]
    cases hb : Nat.beq i k with
    | true => have := Nat.eq_of_beq_eq_true hb; subst this; simp
    | false =>
      have hne : i ≠ k := fun e => by rw [e, Nat.beq_refl] at hb; cases hb
      simp [hasN_iff ws, hne]
def addU (d : Option Nat) (U : List Nat) : List Nat := match d with
  | some t => t :: U
  | none => U
def UL (U : List Nat) (E : Env) : Prop := ∀ u ∈ U, E u = .und
theorem upd_same (E : Env) (d : Nat) (v : AV) : upd E d v d = v := by simp [upd]
theorem upd_other {E : Env} {d i : Nat} (v : AV) (h : i ≠ d) : upd E d v i = E i := by
  unfold upd
  cases hb : Nat.beq i d with
  | true => exact absurd (Nat.eq_of_beq_eq_true hb) h
  | false => rfl
def dsN : List (Option Nat) → Bool
  | [] => true
  | none :: l => dsN l
  | some t :: l => (l.all fun d => match d with
    | some u => !Nat.beq u t
    | none => true) && dsN l
def UD (U : List Nat) (ds : List (Option Nat)) : Prop := ∀ u ∈ U, ∀ d ∈ ds, d ≠ some u
theorem UD.tail {U : List Nat} {d : Option Nat} {ds : List (Option Nat)} (h : UD U (d :: ds)) : UD U ds := fun u hu e he => h u hu e (by simp [he])
theorem UD.add {U : List Nat} {d : Option Nat} {ds : List (Option Nat)} (h : UD U (d :: ds)) (hn : dsN (d :: ds) = true) : UD (addU d U) ds := by
  intro u hu e he
  cases d with
  | none => exact h.tail u hu e he
  | some t =>
    rcases List.mem_cons.1 hu with rfl | hu
    · rintro rfl
      simp only [dsN, Bool.and_eq_true, List.all_eq_true] at hn
      have := hn.1 _ he
      simp [Nat.beq_refl] at this
    · exact h.tail u hu e he
theorem dsN_tail {d : Option Nat} {ds : List (Option Nat)} (h : dsN (d :: ds) = true) : dsN ds = true := by
  cases d with
  | none => exact h
  | some t => simp only [dsN, Bool.and_eq_true] at h; exact h.2
theorem UL.set {U : List Nat} {E : Env} (h : UL U E) {d : Option Nat} {ds : List (Option Nat)} (hd : UD U (d :: ds)) (v : AV) : UL U (updD E d v) := by
  intro u hu
  cases d with
  | none => exact h u hu
  | some t =>
    have hne : u ≠ t := fun e => hd u hu (some t) (by simp) (by rw [e])
    rw [updD, upd_other v hne]; exact h u hu
theorem UL.add {U : List Nat} {E : Env} (h : UL U E) (d : Option Nat) : UL (addU d U) (updD E d .und) := by
  intro u hu
  cases d with
  | none => exact h u hu
  | some t =>
    by_cases hut : u = t
    · subst hut; exact upd_same _ _ _
    · simp only [addU, List.mem_cons, hut, false_or] at hu
      rw [updD, upd_other _ hut]; exact h u hu
theorem UL.lit {U : List Nat} {E : Env} (h : UL U E) {g : Nat} (hg : hasN U g = false) (v : AV) : UL U (upd E g v) := by
  intro u hu
  have hne : u ≠ g := fun e => by rw [← e, (hasN_iff U).2 hu] at hg; cases hg
  rw [upd_other v hne]; exact h u hu
def vcA (P : Program) (tab : Tab) (Q : QF) : List XOp → List Nat → Env → Heap → Prop
  | [], _, E, H => Q E H
  | .run d o :: rest, U, E, H => opE P tab o (evF E) H fun v H' => vcA P tab Q rest U (updD E d v) H'
  | .guarded g want d o :: rest, U, E, H => match hasN U g with
    | true => vcA P tab Q rest (addU d U) (updD E d .und) H
    | false => grdV (E g) want (opE P tab o (evF (upd E g (.p (.bool want)))) H fun v H' => vcA P tab Q rest U (updD (upd E g (.p (.bool want))) d v) H')
      (vcA P tab Q rest (addU d U) (updD (upd E g (.p (.bool (!want)))) d .und) H)
  | .bad :: _, _, _, _ => False
def XOp.inN (N : Nat) : XOp → Bool
  | .run d _ => inRange N d
  | .guarded g _ d _ => decide (g < N) && inRange N d
  | .bad => true
def Out (k : Nat → Bool) (E E' : Env) : Prop := ∀ i, k i = true → E' i = E i
theorem Out.refl (k : Nat → Bool) (E : Env) : Out k E E := fun _ _ => rfl
theorem Out.trans {k : Nat → Bool} {a b c : Env} (h : Out k a b) (h' : Out k b c) : Out k a c := fun i hi => (h' i hi).trans (h i hi)
theorem Out.mono {k k' : Nat → Bool} (hs : ∀ i, k' i = true → k i = true) {a b : Env} (h : Out k a b) : Out k' a b := fun i hi => h i (hs i hi)
theorem Out.upd {k : Nat → Bool} {a b : Env} (h : Out k a b) {g : Nat} (hg : k g = false) (v : AV) : Out k a (upd b g v) := by
  intro i hi
  unfold Sep.upd
  cases hb : Nat.beq i g with
  | true => have := Nat.eq_of_beq_eq_true hb; subst this; rw [hg] at hi; cases hi
  | false => exact h i hi
theorem Out.updD {k : Nat → Bool} {a b : Env} (h : Out k a b) {d : Option Nat} (hd : ∀ t, d = some t → k t = false) (v : AV) : Out k a (updD b d v) := by
  cases d with
  | none => exact h
  | some t => exact h.upd (hd t rfl) v
theorem dst_run {d : Option Nat} {o : Op} {t : Nat} (h : d = some t) : t ∈ (XOp.run d o).dst := by subst h; simp [XOp.dst]
theorem dst_grd {d : Option Nat} {o : Op} {g t : Nat} {w : Bool} (h : d = some t) : t ∈ (XOp.guarded g w d o).dst := by subst h; simp [XOp.dst]
theorem dst_g {d : Option Nat} {o : Op} {g : Nat} {w : Bool} : g ∈ (XOp.guarded g w d o).dst := by cases d <;> simp [XOp.dst]
def QL (N : Nat) (k : Nat → Bool) (E0 : Env) (Q : QF) : List AV → Heap → Prop := fun env H => ∃ E, EL N E env ∧ Out k E0 E ∧ Q E H
theorem vcA_ok {P : Program} {tab : Tab} {N : Nat} {ws : Nat → Bool} {E0 : Env} {Q : QF} : ∀ (l : List XOp) (U : List Nat) (E : Env) (env : List AV) (H : Heap), (∀ x ∈ l, x.inN N = true ∧ ∀ i ∈ x.dst, ws i = false) → dsN (l.map XOp.d) = true → UD U (l.map XOp.d) → EL N E env → UL U E → Out ws E0 E → vcA P tab Q l U E H →
    vcX P tab (QL N ws E0 Q) l env H := by
  intro l
  induction l with
  | nil => intro U E env H _ _ _ hl _ ho h; exact ⟨E, hl, ho, h⟩
  | cons x l ih =>
    intro U E env H hw hn hD hl hU ho h
    have hn' := dsN_tail hn
    have hD' := hD.tail
    have hDa := hD.add hn
    have hw' : ∀ x ∈ l, x.inN N = true ∧ ∀ i ∈ x.dst, ws i = false := fun y hy => hw y (by simp [hy])
    obtain ⟨hx1, hx⟩ := hw x (by simp)
    cases x with
    | run d o =>
      simp only [vcA, hl.ev] at h
      exact opV_mono' (fun v H' hh => ih _ _ _ _ hw' hn' hD' (hl.updD hx1 v) (hU.set hD v) (ho.updD (fun t ht => hx t (dst_run ht)) v) hh) (opE_ok h)
    | guarded g want d o =>
      simp only [XOp.inN, Bool.and_eq_true, decide_eq_true_eq] at hx1
      simp only [vcA] at h
      cases hg : hasN U g with
      | true =>
        rw [hg] at h
        have e := hU g ((hasN_iff U).1 hg)
        rw [hl.at_] at e
        simp only [vcX, e]
        exact ih _ _ _ _ hw' hn' hDa (hl.updD hx1.2 _) (hU.add d) (ho.updD (fun t ht => hx t (dst_grd ht)) _) h
      | false =>
        rw [hg] at h
        obtain ⟨t, e, hgd⟩ := grdV_gd h
        rw [hl.at_] at e
        simp only [vcX, e]
        have h1 := fun b => hl.upd hx1.1 (.p (.bool b))
        refine ⟨fun ht => ?_, fun ht => ih _ _ _ _ hw' hn' hDa ((h1 _).updD hx1.2 _) ((hU.lit hg _).add d) ((ho.upd (hx g dst_g) _).updD (fun t ht => hx t (dst_grd ht)) _) (hgd.2 ht)⟩
        have := hgd.1 ht
        rw [(h1 want).ev] at this
        exact opV_mono' (fun v H' hh => ih _ _ _ _ hw' hn' hD' ((h1 _).updD hx1.2 v) ((hU.lit hg _).set hD v) ((ho.upd (hx g dst_g) _).updD (fun t ht => hx t (dst_grd ht)) v) hh) (opE_ok this)
    | bad => exact h.elim
def keepA (E : Env) (d : Option Nat) (u : AV) : Prop := match d with
  | some t => E t = u
  | none => True
def stA (P : Program) (tab : Tab) (x : XOp) (U : List Nat) (E : Env) (H : Heap) (K : AV → Heap → Prop) : Prop :=
  match x with
  | .run _ o => opE P tab o (evF E) H K
  | .guarded g want _ o => match hasN U g with
    | true => K .und H
    | false => grdV (E g) want (opE P tab o (evF E) H K) (K .und H)
  | .bad => False
def psA (P : Program) (tab : Tab) (U : List Nat) : List XOp → Env → Heap → Prop → Prop
  | [], _, _, A => A
  | a :: ps, E, H, A => (stA P tab a U E H fun u _ => keepA E a.d u) ∧ psA P tab U ps E H A
def newE (tab : Tab) (o : Op) (ρ : Operand → AV) : NB := match o with
  | .alloc t => allocN tab t
  | .buildSlice t n ps => buildN tab t n (ps.toList.map fun p => (p.1, ρ p.2))
  | .makeSlice t l c => makeN tab t (ρ l) (ρ c)
  | _ => none
def newX (tab : Tab) (x : XOp) (ρ : Operand → AV) : NB := match x with
  | .run d o => match d with
    | some _ => newE tab o ρ
    | none => none
  | _ => none
theorem newX_ev {tab : Tab} {x : XOp} {env : List AV} : newX tab x (ev env) = newOf tab x env := by
  cases x with
  | run d o => cases d <;> cases o <;> rfl
  | guarded g w d o => rfl
  | bad => rfl
def dmA (tab : Tab) : List XOp → Env → Prop → Prop
  | [], _, A => A
  | a :: ds, E, A => safeV (newX tab a (evF E)) ∧ dmA tab ds E A
def vcZ (P : Program) (tab : Tab) (Q : QF) : DCanon → List Nat → Env → Heap → Prop
  | [], _, E, H => Q E H
  | (.run d o, (m, (ds, ps))) :: rest, U, E, H => dmA tab ds E (match m with
    | true => newV (newX tab (.run d o) (evF E)) H fun v H' => psA P tab U ps (updD E d v) H' (vcZ P tab Q rest U (updD E d v) H')
    | false => opE P tab o (evF E) H fun v H' => psA P tab U ps (updD E d v) H' (vcZ P tab Q rest U (updD E d v) H'))
  | (.guarded g want d o, (m, (ds, ps))) :: rest, U, E, H => dmA tab ds E (match m with
    | true => False
    | false => match hasN U g with
      | true => psA P tab (addU d U) ps (updD E d .und) H (vcZ P tab Q rest (addU d U) (updD E d .und) H)
      | false => grdV (E g) want (opE P tab o (evF (upd E g (.p (.bool want)))) H fun v H' => psA P tab U ps (updD (upd E g (.p (.bool want))) d v) H' (vcZ P tab Q rest U (updD (upd E g (.p (.bool want))) d v) H'))
        (psA P tab (addU d U) ps (updD (upd E g (.p (.bool (!want)))) d .und) H (vcZ P tab Q rest (addU d U) (updD (upd E g (.p (.bool (!want)))) d .und) H)))
  | (.bad, _) :: _, _, _, _ => False
theorem dmA_ok {tab : Tab} {N : Nat} {E : Env} {env : List AV} (hl : EL N E env) {A : Prop} : ∀ (ds : List XOp), dmA tab ds E A → dmV tab ds env ∧ A := by
  intro ds
  induction ds with
  | nil => intro h; exact ⟨trivial, h⟩
  | cons a ds ih =>
    rintro ⟨h1, h2⟩
    rw [hl.ev, newX_ev] at h1
    exact ⟨⟨h1, (ih h2).1⟩, (ih h2).2⟩
theorem keepA_ok {N : Nat} {E : Env} {e : List AV} (hl : EL N E e) {d : Option Nat} {u : AV} (h : keepA E d u) : Keeps e d u := by
  rintro t rfl; rw [← hl.at_]; exact h
theorem stA_ok {P : Program} {tab : Tab} {N : Nat} {x : XOp} {U : List Nat} {E : Env} {env : List AV} (hl : EL N E env) (hU : UL U E) {H : Heap} {K : AV → Heap → Prop} (h : stA P tab x U E H K) : stV P tab x env H K := by
  cases x with
  | run d o => simp only [stA, hl.ev] at h; exact opE_ok h
  | guarded g want d o =>
    simp only [stA] at h
    cases hg : hasN U g with
    | true =>
      rw [hg] at h
      have e := hU g ((hasN_iff U).1 hg)
      rw [hl.at_] at e
      simp only [stV, e]; exact h
    | false =>
      rw [hg] at h
      obtain ⟨t, e, hg⟩ := grdV_gd h
      rw [hl.at_] at e
      simp only [stV, e]
      rw [hl.ev] at hg
      exact ⟨fun ht => opE_ok (hg.1 ht), hg.2⟩
  | bad => exact h
theorem psA_ok {P : Program} {tab : Tab} {N : Nat} {U : List Nat} {E : Env} {env : List AV} (hl : EL N E env) (hU : UL U E) {H : Heap} {A : Prop} : ∀ (ps : List XOp), psA P tab U ps E H A → psV P tab ps env H ∧ A := by
  intro ps
  induction ps with
  | nil => intro h; exact ⟨trivial, h⟩
  | cons a ps ih =>
    rintro ⟨h1, h2⟩
    exact ⟨⟨stV_mono (fun _ _ => keepA_ok hl) (stA_ok hl hU h1), (ih h2).1⟩, (ih h2).2⟩
theorem vcZ_ok {P : Program} {tab : Tab} {N : Nat} {ws : Nat → Bool} {E0 : Env} {Q : QF} : ∀ (c : DCanon) (U : List Nat) (E : Env) (env : List AV) (H : Heap), (∀ x ∈ c, x.1.inN N = true ∧ ∀ i ∈ x.1.dst, ws i = false) → dsN (c.map fun p => p.1.d) = true → UD U (c.map fun p => p.1.d) → EL N E env → UL U E → Out ws E0 E → vcZ P tab Q c U E H →
    vcY P tab (QL N ws E0 Q) c env H := by
  intro c
  induction c with
  | nil => intro U E env H _ _ _ hl _ ho h; exact ⟨E, hl, ho, h⟩
  | cons p c ih =>
    obtain ⟨x, m, ds, ps⟩ := p
    intro U E env H hw hn hD hl hU ho h
    have hn' := dsN_tail hn
    have hD' := hD.tail
    have hDa := hD.add hn
    have hw' : ∀ x ∈ c, x.1.inN N = true ∧ ∀ i ∈ x.1.dst, ws i = false := fun y hy => hw y (by simp [hy])
    obtain ⟨hx1, hx⟩ := hw (x, m, ds, ps) (by simp)
    cases x with
    | run d o =>
      obtain ⟨hd, h⟩ := dmA_ok hl ds (show dmA tab ds E _ from h)
      refine ⟨hd, ?_⟩
      have step : ∀ v H', psA P tab U ps (updD E d v) H' (vcZ P tab Q c U (updD E d v) H') → psV P tab ps (setD env d v) H' ∧ vcY P tab (QL N ws E0 Q) c (setD env d v) H' := by
        intro v H' hh
        obtain ⟨a, b⟩ := psA_ok (hl.updD hx1 v) (hU.set hD v) _ hh
        exact ⟨a, ih _ _ _ _ hw' hn' hD' (hl.updD hx1 v) (hU.set hD v) (ho.updD (fun t ht => hx t (dst_run ht)) v) b⟩
      cases m with
      | false =>
        have h := (show opE P tab o (evF E) H _ from h)
        rw [hl.ev] at h
        exact opV_mono' step (opE_ok h)
      | true =>
        have h := (show newV (newX tab (.run d o) (evF E)) H _ from h)
        rw [hl.ev, newX_ev] at h
        exact newV_mono step h
    | guarded g want d o =>
      simp only [XOp.inN, Bool.and_eq_true, decide_eq_true_eq] at hx1
      obtain ⟨hd, h⟩ := dmA_ok hl ds (show dmA tab ds E _ from h)
      cases m with
      | true => exact h.elim
      | false =>
      refine ⟨hd, rfl, ?_⟩
      dsimp only at h
      cases hg : hasN U g with
      | true =>
        rw [hg] at h
        have e := hU g ((hasN_iff U).1 hg)
        rw [hl.at_] at e
        simp only [e]
        obtain ⟨a, b⟩ := psA_ok (hl.updD hx1.2 _) (hU.add d) _ h
        exact ⟨a, ih _ _ _ _ hw' hn' hDa (hl.updD hx1.2 _) (hU.add d) (ho.updD (fun t ht => hx t (dst_grd ht)) _) b⟩
      | false =>
        rw [hg] at h
        obtain ⟨t, e, hgd⟩ := grdV_gd h
        rw [hl.at_] at e
        simp only [e]
        have h1 := fun b => hl.upd hx1.1 (.p (.bool b))
        refine ⟨fun ht => ?_, fun ht => ?_⟩
        · have := hgd.1 ht
          rw [(h1 want).ev] at this
          refine opV_mono' (fun v H' hh => ?_) (opE_ok this)
          obtain ⟨a, b⟩ := psA_ok ((h1 _).updD hx1.2 v) ((hU.lit hg _).set hD v) _ hh
          exact ⟨a, ih _ _ _ _ hw' hn' hD' ((h1 _).updD hx1.2 v) ((hU.lit hg _).set hD v) ((ho.upd (hx g dst_g) _).updD (fun t ht => hx t (dst_grd ht)) v) b⟩
        · obtain ⟨a, b⟩ := psA_ok ((h1 _).updD hx1.2 _) ((hU.lit hg _).add d) _ (hgd.2 ht)
          exact ⟨a, ih _ _ _ _ hw' hn' hDa ((h1 _).updD hx1.2 _) ((hU.lit hg _).add d) ((ho.upd (hx g dst_g) _).updD (fun t ht => hx t (dst_grd ht)) _) b⟩
    | bad => exact h.elim
abbrev PostF := Exit → Env → Heap → Prop
abbrev PostF.thenA (b : PostF → Env → Heap → Prop) (Q : PostF) : PostF
  | .normal, E, H => b Q E H
  | e, E, H => Q e E H
abbrev PostF.block (id : Nat) (Q : PostF) : PostF
  | .exit i, E, H => match Nat.beq i id with
    | true => Q .normal E H
    | false => Q (.exit i) E H
  | e, E, H => Q e E H
abbrev loopF (Q : PostF) (T : QF) : PostF
  | .normal, E, H => T E H
  | e, E, H => Q e E H
def resF (tab : Tab) (rs : List ResultVar) (E : Env) (H : Heap) (K : List AV → Prop) : Prop :=
  match rs with
  | [] => K []
  | .tmp t :: rs => resF tab rs E H fun vs => K (E t :: vs)
  | .cell a t :: rs => loadV tab t (E a) H fun v => resF tab rs E H fun vs => K (v :: vs)
abbrev retF (tab : Tab) (rs : List ResultVar) (K : AV → Heap → Prop) : PostF
  | .normal, E, H => resF tab rs E H fun vs => K (tupA vs) H
  | .ret, E, H => resF tab rs E H fun vs => K (tupA vs) H
  | _, _, _ => False
def updA (E : Env) : List Nat → List AV → Prop → Prop
  | k :: ks, v :: vs, A => AV.wk (E k) v ∧ updA E ks vs A
  | _, _, A => A
def lookA (E : Env) : List Nat → List AV → Env
  | k :: ks, v :: vs => fun i => match Nat.beq i k with
    | true => v
    | false => lookA E ks vs i
  | _, _ => E
def nthA : List AV → Nat → AV
  | [], _ => .any
  | v :: _, 0 => v
  | _ :: l, i + 1 => nthA l i
def maskF (l : List Nat) (E : Env) : Env := fun i => match hasN l i with
  | true => E i
  | false => .any
def headF (fx : List Nat) (env : List AV) (mk : List Nat) (vs : List AV) : Env := lookA (maskF fx (nthA env)) mk vs
def tbl : Nat → Nat → Env → List AV
  | 0, _, _ => []
  | n + 1, i, E => E i :: tbl n (i + 1) E
end Go.Sep
namespace Go.Sep
open Go
theorem wpOps_inRound {P : Program} {ops : Array Oper} {Q : Exit → Act → World → Prop} {r n : Nat} (hQ : ¬ LetsOut Q) (hd : ∀ (i : Nat) (o : Oper), ops[i]? = some o → ∀ c, o.op ≠ .defer c) :
    ∀ (l : List Nat) (a : Act) (w : World), wpOps P ops Q l a w → wpOpsIn (Fence.wide.inRound r) n P ops Q l a w := by
  intro l
  induction l with
  | nil => intro a w h; exact h
  | cons i rest ih =>
    intro a w h
    simp only [wpOps] at h
    simp only [wpOpsIn]
    cases ho : ops[i]? with
    | none => rw [ho] at h; exact ih _ _ h
    | some o =>
      rw [ho] at h
      dsimp only at h ⊢
      by_cases hw : Region.wanted o (yielded ops a.tmps) = true
      · rw [if_pos hw] at h ⊢
        rcases h with h | ⟨_, h⟩
        · refine ⟨fun f _ => trivial, ?_⟩
          rw [Oper.semAt_eq _ _ _ (hd i o ho)]
          unfold Oper.wp at h
          revert h
          generalize (execOp a.eval o).run P w = res
          intro h
          cases res with
          | ok x w' =>
            cases x with
            | value v => exact ih _ _ h
            | skip => exact ih _ _ h
            | defer d => exact ih _ _ h
            | enter f args =>
              refine ⟨fun h => (by cases h), CallsIn.inRound r (callsIn_wide.2 ?_)⟩
              refine Calls.mono h ?_
              intro e w2 h2
              cases e with
              | returned v => exact ih _ _ h2
              | panicked c => exact h2
              | outgrown => exact h2
            | row row args =>
              refine ⟨fun h => (by cases h), ?_⟩
              intro c cs _
              obtain ⟨v, w2, h2, s⟩ := h c cs
              exact ⟨v, w2, ih _ _ h2, stepsIn_wide.2 s⟩
            | _ => exact h.elim
          | halt x w' =>
            cases x with
            | panic v => exact h
            | _ => exact h.elim
        · exact absurd h hQ
      · rw [if_neg hw] at h ⊢
        exact ⟨fun f _ => trivial, ih _ _ h⟩
theorem CX.draw_inRoundN {P : Program} {tab : Tab} (hT : tab.Ok P) (hm : P.follows .mixedOrders = true) {l : DOps} {Q : Post} {env : List AV} {H : Heap} (A : List (List Nat)) (c : Canon) (N : Nat) (hN : env.length = N)
    (hchk : (okA l A && rangeOk l N && permOk l.length c && good tab l A c) = true) (h : vcS P tab l (Q .normal) c env H) {code : Code} (hcode : compile code = .draw l)
    (hd : ∀ id ops, code = .region id ops true → ∀ (i : Nat) (o : Oper), ops[i]? = some o → ∀ c, o.op ≠ .defer c) {r n : Nat} {B0 : Nat} {w0 : World} {F : Heap} {Z : Fro} {φ : Pm} {a : Act} {w : World} (hr : Rel B0 w0 F Z φ H env a w) :
    code.wpIn (Fence.wide.inRound r) n P (fun e a' w' => e = .normal ∧ Up B0 w0 F Z φ (Q .normal) a' w') a w := by
  obtain ⟨id, ops, rfl, k⟩ := CX.draw_ops hT hm A c N hN hchk h code hcode
  refine wpIn_mono (wpIn_region_draw fun t => wpOps_inRound ?_ (hd id ops rfl) _ _ _ (k B0 w0 F Z φ a w hr t)) ?_
  · rintro ⟨a, w, h, _⟩; cases h
  · exact fun e a' w' h => h
end Go.Sep
namespace Go.Sep
open Go Go.RowKit
def BBox (Bs bo b off len : Nat) (W : World) : Prop := ∃ cap, W.cell? ⟨Bs, bo, none⟩ = some (.slice (some ⟨b, off, none⟩) len cap)
def BRow (b off len : Nat) (W : World) : Prop := ∀ j, j < len → ∃ v, W.cell? ⟨b, off + j, none⟩ = some (.bool v)
def BKp (Bs bo b off len : Nat) (W W' : World) : Prop := (BRow b off len W → BRow b off len W') ∧ (BBox Bs bo b off len W → BBox Bs bo b off len W')
def BKeys (len k : Nat) (ys : List (Nat × Bool)) : Prop := ys.map Prod.fst = (List.range k).map fun j => len - 1 - j
def bEnc (len : Nat) (x : Nat × Bool) : Array Value := #[.int .i64 ((min x.1 (len - 1) : Nat) : Int), .bool x.2]
def BackOk (P : Program) (f1 : Nat) : Prop := (∀ args w, (callFunc f1 args).run P w = .ok (.enter f1 args) w) ∧
  ∀ (Bs bo b off len : Nat) (w : World), 0 < len → len ≤ 1000000 → Bs < w.heap.size → b < w.heap.size → BBox Bs bo b off len w → BRow b off len w →
    SeqStopsK Fence.wide 2 P f1 #[.pointer (some ⟨Bs, bo, none⟩)] (bEnc len) (BKp Bs bo b off len) (BKeys len len) (fun pre => ∃ k, k ≤ len ∧ BKeys len k pre) len w
theorem BKp.trans' {Bs bo b off len : Nat} {A B C : World} (h : BKp Bs bo b off len A B) (k : BKp Bs bo b off len B C) : BKp Bs bo b off len A C := ⟨fun x => k.1 (h.1 x), fun x => k.2 (h.2 x)⟩
theorem BKp.refl' (Bs bo b off len : Nat) (A : World) : BKp Bs bo b off len A A := ⟨fun x => x, fun x => x⟩
theorem BKeys.len' {len k : Nat} {ys : List (Nat × Bool)} (h : BKeys len k ys) : ys.length = k := by have := congrArg List.length h; simpa using this
theorem BKeys.succ' {len k : Nat} {ys : List (Nat × Bool)} (h : BKeys len k ys) (v : Bool) : BKeys len (k + 1) (ys ++ [(len - 1 - k, v)]) := by
  unfold BKeys at *
  rw [List.map_append, h, List.range_succ, List.map_append]; rfl
theorem Sim.grown {Z : Fro} {φ : Pm} {B0 : Nat} {w0 W W' : World} {H : Heap} (s : Sim Z φ B0 w0 H W) {row : Option Nat} (hg : W.grownBy W' row) (hr : ∀ r, row = some r → (w0.heap.size ≤ r ∧ B0 ≤ r) ∧ ∃ o : Obj, W.heap[r]? = some o ∧ o.isCells = false) : Sim Z φ B0 w0 H W' := by
  have hoth : ∀ (k : Nat) (o : Obj), W.heap[k]? = some o → o.isCells = true → W'.heap[k]? = some o := fun k o hk hc => by
    refine (hg.block k (Array.getElem?_eq_some_iff.1 hk).1 fun e => ?_).trans hk
    obtain ⟨_, o', ho', hc'⟩ := hr k e.symm
    rw [hk] at ho'; cases ho'; rw [hc] at hc'; cases hc'
  have hsz := hg.size
  have hb0 := s.b0
  refine ⟨Nat.le_trans s.b0 hsz, ⟨⟨hg.os.trans s.below.os, hg.tape.trans s.below.tape, hg.output.trans s.below.output, Nat.le_trans s.below.size hsz, fun k hk => ?_⟩, fun k o hk hc => ?_⟩, s.bnd, fun r blk hH => ?_, s.disj, fun b i v hz => ?_, s.zsep⟩
  · refine (hg.block k (by omega) fun e => ?_).trans (s.below.block k hk)
    have := (hr k e.symm).1.2; omega
  · have hlt : k < w0.heap.size := (Array.getElem?_eq_some_iff.1 hk).1
    have h1 := s.below.drawn k o hk hc
    refine (hg.block k (Array.getElem?_eq_some_iff.1 h1).1 fun e => ?_).trans h1
    have := (hr k e.symm).1.1; omega
  · obtain ⟨pl, hp, hl⟩ := s.live r blk hH
    refine ⟨pl, hp, ?_⟩
    rcases hl with hl | ⟨cur, e, k1, k2⟩
    · exact .inl hl
    · exact .inr ⟨cur, e, hoth _ _ k1 rfl, k2⟩
  · have h := s.froz b i v hz
    obtain ⟨o, ho, hc⟩ := cells_of_cell h
    rw [World.cell?_of_block (w := W) (w' := W') ((hoth _ _ ho hc).trans ho.symm)]; exact h
theorem sim_cell {Z : Fro} {φ : Pm} {B0 : Nat} {w0 W : World} {H : Heap} (s : Sim Z φ B0 w0 H W) {r : Nat} {blk : List AV} (hr : H r = some blk) {pl : Place} (hp : φ r = some pl) {i : Nat} {av : AV} (hi : blk[i]? = some av) : ∃ x, W.cell? ⟨pl.b, pl.o + i, none⟩ = some x ∧ Cv Z φ av x ∧ B0 ≤ pl.b ∧ pl.b < W.heap.size := by
  obtain ⟨pl', hp', hl⟩ := s.live r blk hr
  rw [hp] at hp'; cases hp'
  rcases hl with ⟨_, rfl⟩ | ⟨cur, e, k1, k2, k3, k4, k5⟩
  · cases hi
  · obtain ⟨x, hx, hc⟩ := k5 i av hi
    refine ⟨x, ?_, hc, k4, (Array.getElem?_eq_some_iff.1 k1).1⟩
    unfold World.cell?
    simp only [k1]
    simpa using hx
theorem CT.range {P : Program} {t p1 p2 d f1 bx q n : Nat} (hB : BackOk P f1) {env : List AV} {H : Heap} (ht : env[t]? = some (.fn f1 [.ptr bx 0])) (h1 : p1 < env.length) (h2 : p2 < env.length) (h12 : p1 ≠ p2) (hn : 0 < n ∧ n ≤ 1000000)
    (Inv : List Nat → Heap → Prop) (h0 : Inv [] H) (hI : ∀ ks H', Inv ks H' → H' bx = some [.sl q 1 0 n] ∧ ∃ bs : List Bool, H' q = some (bs.map fun b => .p (.bool b)) ∧ bs.length = n)
    {aid : Nat} {ao : Oper} (ha1 : ao.op = .assign (.tmp p1)) (ha2 : ao.dst = some d) (ha3 : ao.guard = none) {body : Code}
    (hbody : ∀ ks j H', j < n → Inv ks H' → ∀ (r m : Nat) (B0 : Nat) (w0 : World) (F : Heap) (Z : Fro) (φ : Pm) (a : Act) (w : World), Rel B0 w0 F Z φ H' (((env.set p1 (.p (.int .i64 j))).set p2 .any).set d (.p (.int .i64 j))) a w →
      body.wpIn (Fence.wide.inRound r) m P (fun e a' w' => e = .normal ∧ Up B0 w0 F Z φ (fun _ H'' => Inv (ks ++ [j]) H'') a' w') a w)
    {Q : Post} (hQ : ∀ H', Inv ((List.range n).map fun j => n - 1 - j) H' → Q .normal env H') : CT P (.rangeFunc (.tmp t) #[p1, p2] (.region aid #[ao] false) body) Q env H := by
  intro B0 w0 F Z φ a w rel
  have htl : t < env.length := (List.getElem?_eq_some_iff.1 ht).1
  have hsz : a.tmps.size = env.length := rel.env.1
  have hav : a.tmps[t]? = some a.tmps[t] := Array.getElem?_eq_getElem (by omega)
  have hv := rel.env.2 t _ _ ht hav
  generalize hx : a.tmps[t]'(by omega) = x at hv hav
  cases hv with
  | fn _ _ xs hs hc =>
    obtain ⟨x0, rfl⟩ : ∃ x0, xs = #[x0] := by
      have h1 : xs.size = 1 := hs
      exact ⟨xs[0], Array.ext (by simp [h1]) fun i hi1 hi2 => by
        have : i = 0 := by simp at hi2; omega
        subst this; rfl⟩
    have h3 := hc 0 (.ptr bx 0) x0 rfl rfl
    cases h3 with
    | @ptr _ pl _ hpl =>
      obtain ⟨hb0, bs0, hq0, hl0⟩ := hI _ _ h0
      obtain ⟨y, hy1, hy2, hy3, hy4⟩ := sim_cell (i := 0) rel.sim (Heap.or_left hb0) hpl rfl
      have hpq : ∃ pq, φ q = some pq := by
        obtain ⟨pq, hp, _⟩ := rel.sim.live q _ (Heap.or_left hq0)
        exact ⟨pq, hp⟩
      obtain ⟨pq, hpq⟩ := hpq
      have facts : ∀ (ks : List Nat) (H' : Heap) (Z' : Fro) (φ' : Pm) (W : World), Inv ks H' → Pm.le φ φ' → (∃ w1, Sim Z' φ' B0 w1 (H'.or F) W) → BBox pl.b (pl.o + 0) pq.b (pq.o + 0) n W ∧ BRow pq.b (pq.o + 0) n W := by
        rintro ks H' Z' φ' W hi hp ⟨w1, s⟩
        obtain ⟨k1, bs, k2, k3⟩ := hI _ _ hi
        obtain ⟨y, c1, c2, _⟩ := sim_cell (i := 0) s (Heap.or_left k1) (hp _ _ hpl) rfl
        refine ⟨?_, fun j hj => ?_⟩
        · generalize hm : n = m at c2
          cases c2 with
          | slz => omega
          | @sl _ _ _ _ c pl2 hh _ _ =>
            rw [hp _ _ hpq] at hh; cases hh
            subst hm
            exact ⟨c, c1⟩
        · have hj2 : j < bs.length := by omega
          obtain ⟨y, c1, c2, _⟩ := sim_cell (i := j) (av := .p (.bool bs[j])) s (Heap.or_left k2) (hp _ _ hpq) (by simp [hj2])
          cases c2 with
          | p h => cases h; exact ⟨_, c1⟩
      obtain ⟨f1', f2'⟩ := facts [] H Z φ w h0 (Pm.le_refl _) ⟨_, rel.sim⟩
      have hqb : pq.b < w.heap.size := by
        obtain ⟨y, c1, _, _, c4⟩ := sim_cell (i := 0) (av := .p (.bool bs0[0])) rel.sim (Heap.or_left hq0) hpq (by simp [show 0 < bs0.length by omega])
        exact c4
      have hbw := rel.sim.below.size
      have hb0' := rel.sim.b0
      refine (wpIn_wide (n := 3)).1 (wpIn_rangeFunc_ownG (F := Fence.wide) (n := 3) (ps := #[p1, p2]) rfl (by omega) (gf := f1) (lb := #[.pointer (some ⟨pl.b, pl.o + 0, none⟩)]) ?_ trivial hB.1 (hB.2 pl.b (pl.o + 0) pq.b (pq.o + 0) n w hn.1 hn.2 hy4 hqb f1' f2') ?_ ?_ (Below.refl _ _) (fun _ => rfl)
        (fun pre W => ∃ (H' : Heap) (Z' : Fro) (φ' : Pm), Inv (pre.map fun x => min x.1 (n - 1)) H' ∧ Fro.le Z Z' ∧ Pm.le φ φ' ∧ Disj H' F ∧ Sim Z' φ' B0 w0 (H'.or F) W ∧ ∀ (k : Nat) (o : Obj), k < w.heap.size → w.heap[k]? = some o → o.isCells = false → W.heap[k]? = some o) (fun _ _ _ => False) ?_ (fun _ _ _ _ _ h _ _ => h) ?_
        (fun x => { tmps := ((a.tmps.setIfInBounds p1 (.int .i64 ((min x.1 (n - 1) : Nat) : Int))).setIfInBounds p2 (.bool x.2)).setIfInBounds d (.int .i64 ((min x.1 (n - 1) : Nat) : Int)), defers := [] }) ?_ ?_ ?_ (fun D c pre W _ _ h _ => h.elim))
      · show a.tmps.getD t undef = _
        rw [Array.getD_eq_getD_getElem?, hav]; rfl
      · exact fun h h' => ⟨fun x => h'.1 (h.1 x), fun x => h'.2 (h.2 x)⟩
      · intro W l o o' hl _ _ _
        have hoth : ∀ k, k ≠ l → (W.putObj l o').heap[k]? = W.heap[k]? := fun k hk => World.putObj_heap_other hk
        refine ⟨fun h j hj => ?_, fun ⟨cap, h⟩ => ⟨cap, ?_⟩⟩
        · obtain ⟨v, hv⟩ := h j hj
          exact ⟨v, (World.cell?_of_block (hoth _ (by simp only; omega))).trans hv⟩
        · exact (World.cell?_of_block (hoth _ (by simp only; omega))).trans h
      · rintro pre W W' row ⟨H', Z', φ', a1, a2, a3, a4, a5, a6⟩ hg hr
        refine ⟨H', Z', φ', a1, a2, a3, a4, a5.grown hg (fun r e => ⟨⟨by have := (hr r e).1; omega, by have := (hr r e).1; omega⟩, (hr r e).2⟩), fun k o hk ho hc => ?_⟩
        have h1 := a6 k o hk ho hc
        refine (hg.block k (Array.getElem?_eq_some_iff.1 h1).1 fun e => ?_).trans h1
        have := (hr k e.symm).1; omega
      · exact ⟨H, Z, φ, h0, Fro.le_refl _, Pm.le_refl _, rel.disj, rel.sim, fun _ _ _ h _ => h⟩
      · intro l x W K hK
        refine wpIn_region (wpOps_inRound (r := l) (fun ⟨_, _, h⟩ => h) ?_ _ _ _ ?_)
        · intro i o ho c hc
          have : o = ao := by
            cases i with
            | zero => simpa using ho.symm
            | succ i => simp at ho
          rw [this, ha1] at hc; cases hc
        · show wpOps P #[ao] _ [0] _ _
          simp only [wpOps]
          have hw : ∀ y, Region.wanted ao y = true := fun y => by simp [Region.wanted, ha3]
          simp only [List.getElem?_toArray, List.getElem?_cons_zero, hw, if_true]
          refine .inl ?_
          unfold Oper.wp
          have hf : (Array.foldl (fun (t : Array Value) (x : Tmp × Value) => t.setIfInBounds x.1 x.2) a.tmps (#[p1, p2].zip (bEnc n x))) = (a.tmps.setIfInBounds p1 (.int .i64 ((min x.1 (n - 1) : Nat) : Int))).setIfInBounds p2 (.bool x.2) := by
            have hz : (#[p1, p2] : Array Tmp).zip (bEnc n x) = #[(p1, .int .i64 ((min x.1 (n - 1) : Nat) : Int)), (p2, .bool x.2)] := by
              unfold bEnc
              apply Array.ext
              · simp
              · intro i h1 h2
                simp at h2
                rcases (by omega : i = 0 ∨ i = 1) with rfl | rfl <;> simp
            rw [hz, ← Array.foldl_toList]; rfl
          rw [hf]
          generalize hA : ({ tmps := (a.tmps.setIfInBounds p1 (.int .i64 ((min x.1 (n - 1) : Nat) : Int))).setIfInBounds p2 (.bool x.2), defers := [] } : Act) = A
          have hx : execOp A.eval ao = pure (.value (A.eval (.tmp p1))) := by
            unfold execOp; rw [ha1]
          rw [hx]
          show Exit.then K (fun _ _ _ => False) .normal (A.put ao.dst (A.eval (.tmp p1))) W
          have hv : A.eval (.tmp p1) = .int .i64 ((min x.1 (n - 1) : Nat) : Int) := by
            show A.tmps.getD p1 undef = _
            rw [← hA, Array.getD_eq_getD_getElem?]
            simp only
            rw [Array.getElem?_setIfInBounds_ne (by omega), Array.getElem?_setIfInBounds_self, if_pos (by omega)]; rfl
          rw [hv, ha2, ← hA]
          exact hK
      · rintro l pre x W ⟨H', Z', φ', a1, a2, a3, a4, a5, a6⟩ hlen
        have hj : min x.1 (n - 1) < n := by omega
        have r1 : Rel B0 W F Z' φ' H' (((env.set p1 (.p (.int .i64 ((min x.1 (n - 1) : Nat) : Int)))).set p2 .any).set d (.p (.int .i64 ((min x.1 (n - 1) : Nat) : Int)))) { tmps := ((a.tmps.setIfInBounds p1 (.int .i64 ((min x.1 (n - 1) : Nat) : Int))).setIfInBounds p2 (.bool x.2)).setIfInBounds d (.int .i64 ((min x.1 (n - 1) : Nat) : Int)), defers := [] } W :=
          ⟨a4, a5.rebase, (((rel.env.mono a2 a3).set p1 (.p (.int _ _))).set p2 (.any _)).set d (.p (.int _ _)), DefOk.nil _ _⟩
        refine wpIn_mono (hbody _ _ H' hj a1 l _ B0 W F Z' φ' _ W r1) ?_
        rintro e a3' W3 ⟨rfl, env3, H3, Z3, φ3, t3, hz3, hp3, r3⟩
        obtain ⟨g1, g2⟩ := facts _ H3 Z3 φ3 W3 t3 (Pm.le_trans a3 hp3) ⟨_, r3.sim⟩
        exact ⟨⟨r3.sim.below.size, fun k o _ hk hc => r3.sim.below.drawn k o hk hc⟩, ⟨fun _ => g2, fun _ => g1⟩, H3, Z3, φ3, by rw [List.map_append]; exact t3, Fro.le_trans a2 hz3, Pm.le_trans a3 hp3, r3.disj, a5.unbase r3.sim, fun k o hk ho hc => r3.sim.below.drawn k o (a6 k o hk ho hc) hc⟩
      · rintro D xs W hD hS ⟨H', Z', φ', a1, a2, a3, a4, a5, a6⟩ hop
        have hkeys : (xs.map fun x => min x.1 (n - 1)) = (List.range n).map fun j => n - 1 - j := by
          have e : (xs.map fun x => min x.1 (n - 1)) = (xs.map Prod.fst).map fun k => min k (n - 1) := by rw [List.map_map]; rfl
          rw [e, hS, List.map_map]
          refine List.map_congr_left fun j _ => ?_
          simp only [Function.comp]; omega
        rw [hkeys] at a1
        refine ⟨env, H', Z', φ', hQ H' a1, a2, a3, a4, a5, rel.env.mono a2 a3, ?_⟩
        obtain ⟨Ds, e, hnd, ho⟩ := rel.defers
        refine ⟨D :: Ds, ?_, ?_, fun D' hD' => ?_⟩
        · show _ :: a.defers = _
          rw [e]; rfl
        · rw [List.nodup_cons]
          refine ⟨fun hm => ?_, hnd⟩
          have := (Array.getElem?_eq_some_iff.1 (ho D hm).2).1
          omega
        · rcases List.mem_cons.1 hD' with rfl | hD'
          · exact ⟨by omega, hop⟩
          · have h1 := ho D' hD'
            exact ⟨h1.1, a6 D' _ (Array.getElem?_eq_some_iff.1 h1.2).1 h1.2 rfl⟩
end Go.Sep
namespace Go.Sep
open Go
def RngV (P : Program) (t p1 p2 d : Nat) (body : QF → Env → Heap → Prop) (Q : PostF) (env : List AV) (H : Heap) : Prop :=
  ∃ (f1 bx q n : Nat) (Inv : List Nat → Heap → Prop), BackOk P f1 ∧ nthA env t = .fn f1 [.ptr bx 0] ∧ (0 < n ∧ n ≤ 1000000) ∧ Inv [] H ∧ (∀ ks H', Inv ks H' → H' bx = some [.sl q 1 0 n] ∧ ∃ bs : List Bool, H' q = some (bs.map fun b => .p (.bool b)) ∧ bs.length = n) ∧
    (∀ ks (j : Nat) H', j < n → Inv ks H' → body (fun _ H'' => Inv (ks ++ [j]) H'') (upd (upd (upd (nthA env) p1 (.p (.int .i64 j))) p2 .any) d (.p (.int .i64 j))) H') ∧ ∀ H', Inv ((List.range n).map fun j => n - 1 - j) H' → Q .normal (nthA env) H'
def LoopV (body : PostF → Env → Heap → Prop) (fx : List Nat) (Q : PostF) (mk : List Nat) (env : List AV) (H : Heap) : Prop :=
  ∃ (σ : Type) (fs : σ → List AV) (TH : σ → Heap) (pre : σ → Prop) (μ : σ → Nat) (s0 : σ) (g : Bool),
    (∀ s, (fs s).length = mk.length) ∧ (pre s0 ∧ updA (nthA env) mk (fs s0) (Heap.le (TH s0) H)) ∧
    ∀ s, pre s → match g with
      | false => body (loopF Q fun E' H' => ∃ s', pre s' ∧ μ s' < μ s ∧ updA E' mk (fs s') (Heap.le (TH s') H')) (headF fx env mk (fs s)) (TH s)
      | true => ∀ q, TH s q = none → body (loopF Q fun E' H' => ∃ s', pre s' ∧ μ s' < μ s ∧ updA E' mk (fs s') (Heap.le (TH s') H')) (headF fx env mk (fs s)) ((TH s).set q [])
theorem LoopV.mk {body : PostF → Env → Heap → Prop} {fx : List Nat} {Q : PostF} {mk : List Nat} {env : List AV} {H : Heap} {σ : Type} (s0 : σ) (fs : σ → List AV) (TH : σ → Heap) (pre : σ → Prop) (μ : σ → Nat)
    (hl : ∀ s, (fs s).length = mk.length) (h0 : pre s0 ∧ updA (nthA env) mk (fs s0) (Heap.le (TH s0) H))
    (round : ∀ s, pre s → body (loopF Q fun E' H' => ∃ s', pre s' ∧ μ s' < μ s ∧ updA E' mk (fs s') (Heap.le (TH s') H')) (headF fx env mk (fs s)) (TH s)) : LoopV body fx Q mk env H :=
  ⟨σ, fs, TH, pre, μ, s0, false, hl, h0, round⟩
structure Info where
  n : Nat
  draws : Nat → List (List Nat) × Canon
  loops : Nat → List Nat × List Nat
def dopsOf (ops : Array Oper) : DOps := ops.toList.map fun o => (xop ops o, edgesOf o)
def keyC : Code → Nat
  | .region id _ _ => id
  | .seq a _ => keyC a
  | .cond _ a _ => keyC a
  | .block _ a => keyC a
  | .loop a => keyC a
  | _ => 0
def kpC (D : Info) : Code → Nat → Bool
  | .region _ ops _, i => ops.toList.all fun o => !((xop ops o).dst.contains i)
  | .seq a b, i => kpC D a i && kpC D b i
  | .cond _ a b, i => kpC D a i && kpC D b i
  | .block _ a, i => kpC D a i
  | .loop a, i => hasN (D.loops (keyC a)).1 i
  | .rangeFunc _ _ _ b, i => hasN (D.loops (keyC b)).1 i
  | _, _ => true
def dst0 (aops : Array Oper) : Nat := ((aops[0]?).bind (·.dst)).getD 0
def rngB (P : Program) (tab : Tab) (D : Info) : Code → QF → Env → Heap → Prop
  | .block _ (.region rid ops true) => fun T => vcZ P tab T (dOf (dopsOf ops) (D.draws rid).2) []
  | _ => fun _ _ _ => False
def rngF (P : Program) (tab : Tab) (D : Info) : Operand → Array Tmp → Code → Code → PostF → Env → Heap → Prop
  | .tmp t, ps, .region _ aops false, .block bid (.region rid ops true) => fun Q E H => RngV P t (ps.getD 0 0) (ps.getD 1 0) (dst0 aops) (rngB P tab D (.block bid (.region rid ops true))) Q (tbl D.n 0 (maskF (D.loops rid).1 E)) H
  | _, _, _, _ => fun _ _ _ => False
theorem rngF_inv {P : Program} {tab : Tab} {D : Info} {g : Operand} {ps : Array Tmp} {a b : Code} {Q : PostF} {E : Env} {H : Heap} (h : rngF P tab D g ps a b Q E H) : ∃ t aid aops bid rid ops, g = .tmp t ∧ a = .region aid aops false ∧ b = .block bid (.region rid ops true) ∧ RngV P t (ps.getD 0 0) (ps.getD 1 0) (dst0 aops) (fun T => vcZ P tab T (dOf (dopsOf ops) (D.draws rid).2) []) Q (tbl D.n 0 (maskF (D.loops rid).1 E)) H := by
  unfold rngF at h
  split at h
  · exact ⟨_, _, _, _, _, _, rfl, rfl, rfl, h⟩
  · exact h.elim
def isAsg (p1 : Nat) : Op → Bool
  | .assign (.tmp t) => Nat.beq t p1
  | _ => false
def isDefer : Op → Bool
  | .defer _ => true
  | _ => false
def asgOk (N p1 : Nat) : List Oper → Bool
  | [o] => isAsg p1 o.op && (match o.dst with | some d => Nat.blt d N | none => false) && o.guard.isNone
  | _ => false
def rngO (tab : Tab) (D : Info) : Operand → Array Tmp → Code → Code → Bool
  | .tmp _, ps, .region _ aops false, .block _ (.region id ops true) => (Nat.beq ps.size 2 && Nat.blt (ps.getD 0 0) D.n && Nat.blt (ps.getD 1 0) D.n && !Nat.beq (ps.getD 0 0) (ps.getD 1 0) && asgOk D.n (ps.getD 0 0) aops.toList && ops.toList.all fun o => !isDefer o.op) &&
    (okA (dopsOf ops) (D.draws id).1 && rangeOk (dopsOf ops) D.n && permOk (dopsOf ops).length (D.draws id).2 && good tab (dopsOf ops) (D.draws id).1 (D.draws id).2 && (ops.toList.all fun o => (xop ops o).inN D.n) && dsN ((dOf (dopsOf ops) (D.draws id).2).map fun p => p.1.d))
  | _, _, _, _ => true
def wpC (P : Program) (tab : Tab) (D : Info) : Code → PostF → Env → Heap → Prop
  | .skip => fun Q E H => Q .normal E H
  | .region _ ops false => fun Q E H => vcA P tab (Q .normal) (ops.toList.map (xop ops)) [] E H
  | .region id ops true => fun Q E H => vcZ P tab (Q .normal) (dOf (dopsOf ops) (D.draws id).2) [] E H
  | .seq a b => fun Q E H => wpC P tab D a (PostF.thenA (wpC P tab D b) Q) E H
  | .cond c a b => fun Q E H => condV (evF E c) (wpC P tab D a Q E H) (wpC P tab D b Q E H)
  | .block id a => fun Q E H => wpC P tab D a (PostF.block id Q) E H
  | .loop a => fun Q E H => LoopV (wpC P tab D a) (D.loops (keyC a)).1 Q (D.loops (keyC a)).2 (tbl D.n 0 (maskF ((D.loops (keyC a)).1 ++ (D.loops (keyC a)).2) E)) H
  | .exit i => fun Q E H => Q (.exit i) E H
  | .ret => fun Q E H => Q .ret E H
  | .rangeFunc g ps a b => rngF P tab D g ps a b
  | _ => fun _ _ _ => False
def okC (tab : Tab) (D : Info) : Code → Bool
  | .region id ops true => okA (dopsOf ops) (D.draws id).1 && rangeOk (dopsOf ops) D.n && permOk (dopsOf ops).length (D.draws id).2 && good tab (dopsOf ops) (D.draws id).1 (D.draws id).2 && (ops.toList.all fun o => (xop ops o).inN D.n) && dsN ((dOf (dopsOf ops) (D.draws id).2).map fun p => p.1.d)
  | .region _ ops false => (ops.toList.all fun o => (xop ops o).inN D.n) && dsN ((ops.toList.map (xop ops)).map XOp.d)
  | .seq a b => okC tab D a && okC tab D b
  | .cond _ a b => okC tab D a && okC tab D b
  | .block _ a => okC tab D a
  | .loop a => okC tab D a && ((D.loops (keyC a)).1.all fun k => kpC D a k && decide (k < D.n)) && ((D.loops (keyC a)).2.all fun k => decide (k < D.n) && !hasN (D.loops (keyC a)).1 k)
  | .rangeFunc g ps a b => rngO tab D g ps a b
  | _ => true
theorem opAt_in {D : Info} {ops : Array Oper} {id i N : Nat} {b : Bool} (h : (ops.toList.all fun o => (xop ops o).inN N) = true) : (opAt (dopsOf ops) i).inN N = true ∧ ∀ t ∈ (opAt (dopsOf ops) i).dst, kpC D (.region id ops b) t = false := by
  unfold opAt dopsOf
  by_cases hi : i < ops.size
  · simp only [List.getD, List.getElem?_map, Array.getElem?_toList, Array.getElem?_eq_getElem hi, Option.map_some, Option.getD_some]
    refine ⟨List.all_eq_true.1 h ops[i] (by simp), fun t ht => ?_⟩
    simp only [kpC, List.all_eq_false]
    exact ⟨ops[i], by simp, by simpa using ht⟩
  · have : (List.map (fun o => (xop ops o, edgesOf o)) ops.toList)[i]? = none := List.getElem?_eq_none (by simpa using hi)
    simp only [List.getD, this, Option.getD_none]
    exact ⟨rfl, fun t ht => by simp [XOp.dst] at ht⟩
theorem nthA_getD : ∀ (l : List AV) (i : Nat), nthA l i = l.getD i .any
  | [], _ => by simp [nthA]
  | v :: l, 0 => by simp [nthA]
  | v :: l, i + 1 => by simp only [nthA, nthA_getD l i, List.getD_cons_succ]
theorem tbl_eq : ∀ (n k : Nat) (E : Env) (env : List AV), env.length = n → (∀ i, i < n → E (k + i) = env.getD i .any) → tbl n k E = env
  | 0, _, _, env, hl, _ => (List.eq_nil_of_length_eq_zero hl).symm
  | n + 1, k, E, [], hl, _ => by simp at hl
  | n + 1, k, E, v :: env, hl, h => by
    rw [tbl, tbl_eq n (k + 1) E env (by simpa using hl) (fun i hi => by have := h (i + 1) (by omega); rw [List.getD_cons_succ] at this; rw [← this]; congr 1; omega)]
    have := h 0 (by omega); rw [List.getD_cons_zero, Nat.add_zero] at this; rw [this]
theorem EL.tbl {N : Nat} {E : Env} {env : List AV} (h : EL N E env) : tbl N 0 E = env := tbl_eq N 0 E env h.len fun i _ => by rw [Nat.zero_add]; exact h.at_ i
theorem updA_ok {E : Env} {A : Prop} : ∀ (ks : List Nat) (vs : List AV), updA E ks vs A → (∀ p ∈ List.zip ks vs, AV.wk (E p.1) p.2) ∧ A
  | [], vs, h => ⟨fun p hp => by simp at hp, h⟩
  | k :: ks, [], h => ⟨fun p hp => by simp at hp, h⟩
  | k :: ks, v :: vs, ⟨h1, h2⟩ => by
    obtain ⟨h3, h4⟩ := updA_ok ks vs h2
    refine ⟨fun p hp => ?_, h4⟩
    rcases List.mem_cons.1 hp with rfl | hp
    · exact h1
    · exact h3 p hp
theorem lookA_cases {E : Env} {i : Nat} : ∀ (ks : List Nat) (vs : List AV), (i, lookA E ks vs i) ∈ List.zip ks vs ∨ (lookA E ks vs i = E i ∧ (vs.length = ks.length → i ∉ ks))
  | [], vs => .inr ⟨by cases vs <;> rfl, fun _ => by simp⟩
  | k :: ks, [] => .inr ⟨rfl, fun h => by simp at h⟩
  | k :: ks, v :: vs => by
    rw [lookA]
    cases hb : Nat.beq i k with
    | true => have := Nat.eq_of_beq_eq_true hb; subst this; exact .inl (by simp)
    | false =>
      have hne : i ≠ k := fun e => by rw [e, Nat.beq_refl] at hb; cases hb
      simp only [hb]
      rcases lookA_cases (E := E) (i := i) ks vs with h | ⟨h1, h2⟩
      · exact .inl (by simp [h])
      · exact .inr ⟨h1, fun hl => by simp only [List.mem_cons, not_or]; exact ⟨hne, h2 (by simpa using hl)⟩⟩
theorem Rel.ghost {B0 : Nat} {w0 : World} {F : Heap} {φ : Pm} {Z : Fro} {H : Heap} {w : World} (hdj : Disj H F) (s : Sim Z φ B0 w0 (H.or F) w) :
    ∃ r φ', H r = none ∧ Pm.le φ φ' ∧ Disj (H.set r []) F ∧ Sim Z φ' B0 w0 ((H.set r []).or F) w := by
  obtain ⟨r, φ', q1, q2, q3, q4, q5⟩ := s.ghost
  have hHr : H r = none := by
    cases hh : H r with
    | none => rfl
    | some b => rw [Heap.or_left hh] at q1; cases q1
  have hFr : F r = none := by
    cases hh : F r with
    | none => rfl
    | some b => simp [Heap.or, hHr, hh] at q1
  rw [← Heap.or_set] at q5
  refine ⟨r, φ', hHr, q3, ?_, q5⟩
  intro y hy
  by_cases e : y = r
  · subst e; exact hFr
  · rw [Heap.set_other e] at hy; exact hdj y hy
theorem CT.ghost {P : Program} {c : Code} {Q : Post} {env : List AV} {H : Heap} (h : ∀ q, H q = none → CT P c Q env (H.set q [])) : CT P c Q env H := by
  intro B0 w0 F Z φ a w rel
  obtain ⟨r, φ', hHr, q3, hd, q5⟩ := Rel.ghost rel.disj rel.sim
  refine wp_mono (h r hHr B0 w0 F Z φ' a w ⟨hd, q5, rel.env.mono (Fro.le_refl _) q3, rel.defers⟩) ?_
  rintro e2 a2 w2 ⟨env2, H2, Z2, φ2, t2, hz2, hp2, r2⟩
  exact ⟨env2, H2, Z2, φ2, t2, hz2, Pm.le_trans q3 hp2, r2⟩
theorem CallT.ghost {P : Program} {f : Nat} {args : List AV} {H : Heap} {K : AV → Heap → Prop} (hb : HasBody P f) (h : ∀ q, H q = none → CallT P f args (H.set q []) K) : CallT P f args H K := by
  refine ⟨hb, ?_⟩
  intro B0 w0 F Z φ w xs hdj hs ha
  obtain ⟨r, φ', hHr, q3, hd, q5⟩ := Rel.ghost hdj hs
  refine ((h r hHr).2 B0 w0 F Z φ' w xs hd q5 ⟨ha.1, fun i av x hi hx => (ha.2 i av x hi hx).mono (Fro.le_refl _) q3⟩).mono ?_
  rintro e w' ⟨x, rfl, v, H2, Z2, φ2, t2, hz2, hp2, r2⟩
  exact ⟨x, rfl, v, H2, Z2, φ2, t2, hz2, Pm.le_trans q3 hp2, r2⟩
def OutQ (N : Nat) (k : Nat → Bool) (E : Env) (Q : PostF) : Post := fun e env' H' => ∃ E', EL N E' env' ∧ Out k E E' ∧ Q e E' H'
theorem EL.headL {N : Nat} {E : Env} (h : ∀ i, N ≤ i → E i = .any) : EL N E (Sep.tbl N 0 E) := by
  have key : ∀ (n k : Nat), (Sep.tbl n k E).length = n ∧ ∀ i, i < n → (Sep.tbl n k E).getD i .any = E (k + i) := by
    intro n
    induction n with
    | zero => intro k; exact ⟨rfl, fun i hi => by omega⟩
    | succ n ih =>
      intro k
      refine ⟨by rw [Sep.tbl, List.length_cons, (ih _).1], fun i hi => ?_⟩
      cases i with
      | zero => rw [Sep.tbl, List.getD_cons_zero]; rfl
      | succ i => rw [Sep.tbl, List.getD_cons_succ, (ih (k + 1)).2 i (by omega)]; congr 1; omega
  refine ⟨(key N 0).1, fun i => ?_⟩
  by_cases hi : i < N
  · rw [(key N 0).2 i hi, Nat.zero_add]
  · rw [h i (by omega)]
    have : (Sep.tbl N 0 E)[i]? = none := List.getElem?_eq_none (by rw [(key N 0).1]; omega)
    simp [List.getD, this]
theorem CT.loopV {P : Program} {a : Code} {Q : PostF} {E : Env} {env : List AV} {H : Heap} {N : Nat} {fx mk : List Nat} {k : Nat → Bool} {body : PostF → Env → Heap → Prop} (hE : EL N E env) (hfx : ∀ i ∈ fx, k i = true ∧ i < N) (hmk : ∀ i ∈ mk, i < N ∧ i ∉ fx)
    (hb : ∀ Q E' env' H, EL N E' env' → body Q E' H → CT P a (OutQ N k E' Q) env' H)
    (h : LoopV body fx Q mk (Sep.tbl N 0 (maskF (fx ++ mk) E)) H) : CT P (.loop a) (OutQ N (hasN fx) E Q) env H := by
  obtain ⟨σ, fs, TH, pre, μ, s0, g, hl, ⟨h0, h1⟩, hr⟩ := h
  have hmask : ∀ i, N ≤ i → maskF (fx ++ mk) E i = .any := by
    intro i hi
    unfold maskF
    split
    · rw [hE.at_]
      have : env[i]? = none := List.getElem?_eq_none (by rw [hE.len]; exact hi)
      simp [List.getD, this]
    · rfl
  have hEm := EL.headL hmask
  have hnth : ∀ i, nthA (Sep.tbl N 0 (maskF (fx ++ mk) E)) i = maskF (fx ++ mk) E i := fun i => by rw [nthA_getD, ← hEm.at_]
  have hin : ∀ i, i ∈ fx ∨ i ∈ mk → maskF (fx ++ mk) E i = E i := by
    intro i hi
    unfold maskF
    rw [(hasN_iff (fx ++ mk)).2 (List.mem_append.2 hi)]
  generalize hhd : (fun s => headF fx (Sep.tbl N 0 (maskF (fx ++ mk) E)) mk (fs s)) = hd
  have hdE : ∀ s, headF fx (Sep.tbl N 0 (maskF (fx ++ mk) E)) mk (fs s) = hd s := fun s => congrFun hhd s
  simp only [hdE] at hr
  have hcase : ∀ s i, (i, hd s i) ∈ List.zip mk (fs s) ∨ (i ∈ fx ∧ hd s i = E i) ∨ hd s i = .any := by
    intro s i
    rw [← hdE]
    rcases lookA_cases (E := maskF fx (nthA (Sep.tbl N 0 (maskF (fx ++ mk) E)))) (i := i) mk (fs s) with hm | ⟨hm, hn⟩
    · exact .inl hm
    · refine .inr ?_
      unfold headF; rw [hm]
      unfold maskF
      cases hh : hasN fx i with
      | true =>
        have hif := (hasN_iff fx).1 hh
        refine .inl ⟨hif, ?_⟩
        show nthA (Sep.tbl N 0 (maskF (fx ++ mk) E)) i = E i
        rw [hnth, hin i (.inl hif)]
      | false => exact .inr rfl
  have hzm : ∀ {s} {p : Nat × AV}, p ∈ List.zip mk (fs s) → p.1 ∈ mk := fun hm => (List.of_mem_zip hm).1
  have hstart : updA E mk (fs s0) (Heap.le (TH s0) H) := by
    have key : ∀ (ks : List Nat) (vs : List AV) (A : Prop), (∀ k ∈ ks, k ∈ mk) → updA (nthA (Sep.tbl N 0 (maskF (fx ++ mk) E))) ks vs A → updA E ks vs A := by
      intro ks
      induction ks with
      | nil => intro vs A _ h; cases vs <;> exact h
      | cons k ks ih =>
        intro vs A hk h
        cases vs with
        | nil => exact h
        | cons v vs =>
          refine ⟨?_, ih vs A (fun j hj => hk j (by simp [hj])) h.2⟩
          have := h.1
          rw [hnth, hin k (.inr (hk k (by simp)))] at this
          exact this
    exact key mk _ _ (fun k hk => hk) h1
  refine CT.loop (fun s env' H' => pre s ∧ ∃ E', EL N E' env' ∧ Out (hasN fx) E E' ∧ updA E' mk (fs s) (Heap.le (TH s) H')) μ s0 ⟨h0, E, hE, Out.refl _ _, hstart⟩ ?_
  rintro s env' H' ⟨hp, E', hE', hout, hu⟩
  obtain ⟨hw, hle⟩ := updA_ok _ _ hu
  have hfxE : ∀ i ∈ fx, hd s i = E i := by
    intro i hi
    rcases hcase s i with hm | ⟨_, h1⟩ | h1
    · exact absurd hi (hmk _ (hzm hm)).2
    · exact h1
    · rw [← hdE] at h1 ⊢
      unfold headF at h1 ⊢
      rcases lookA_cases (E := maskF fx (nthA (Sep.tbl N 0 (maskF (fx ++ mk) E)))) (i := i) mk (fs s) with hm | ⟨hm, hn⟩
      · exact absurd hi (hmk _ (hzm hm)).2
      · rw [hm]; unfold maskF; rw [(hasN_iff fx).2 hi]
        show nthA (Sep.tbl N 0 (maskF (fx ++ mk) E)) i = E i
        rw [hnth, hin i (.inl hi)]
  have hEL : EL N (hd s) (Sep.tbl N 0 (hd s)) := by
    refine EL.headL fun i hi => ?_
    rcases hcase s i with hm | ⟨h1, _⟩ | h1
    · exact absurd (hmk _ (hzm hm)).1 (by simpa using hi)
    · exact absurd (hfx i h1).2 (by simpa using hi)
    · exact h1
  have hweak : ∀ (i : Nat) (v v' : AV), env'[i]? = some v → (Sep.tbl N 0 (hd s))[i]? = some v' → AV.wk v v' := by
    intro i v v' hv hv'
    have e1 : E' i = v := by rw [hE'.at_]; simp [List.getD, hv]
    have e2 : hd s i = v' := by rw [hEL.at_]; simp [List.getD, hv']
    rcases hcase s i with hm | ⟨h0, h1⟩ | h1
    · have := hw _ hm
      rw [e2] at this
      simpa only [e1] using this
    · rw [← e1, ← e2, h1, hout i ((hasN_iff fx).2 h0)]; exact .refl _
    · rw [← e2, h1]; exact .any _
  have fin : ∀ (e : Exit) (env2 : List AV) (H2 : Heap), OutQ N k (hd s) (loopF Q fun E' H' => ∃ s', pre s' ∧ μ s' < μ s ∧ updA E' mk (fs s') (Heap.le (TH s') H')) e env2 H2 →
      (match e with
      | .normal => ∃ s', (pre s' ∧ ∃ E', EL N E' env2 ∧ Out (hasN fx) E E' ∧ updA E' mk (fs s') (Heap.le (TH s') H2)) ∧ μ s' < μ s
      | e => OutQ N (hasN fx) E Q e env2 H2) := by
    rintro e env2 H2 ⟨E2, h2, h3, h4⟩
    have h3' : Out (hasN fx) E E2 := fun i hi => by
      have hif := (hasN_iff fx).1 hi
      rw [h3 i (hfx i hif).1, hfxE i hif]
    cases e <;> first | exact ⟨E2, h2, h3', h4⟩ | (obtain ⟨s', a1, a2, a3⟩ := h4; exact ⟨s', ⟨a1, E2, h2, h3', a3⟩, a2⟩)
  refine CT.weak (by rw [hEL.len, hE'.len]) hweak hle ?_
  have hr := hr s hp
  cases g with
  | false => exact (hb _ _ _ _ hEL hr).mono fin
  | true => exact CT.ghost fun q hq => (hb _ _ _ _ hEL (hr q hq)).mono fin
theorem wpC_ok {P : Program} {tab : Tab} (hT : tab.Ok P) (hm : P.follows .mixedOrders = true) {D : Info} : ∀ (c : Code) (Q : PostF) (E : Env) (env : List AV) (H : Heap), okC tab D c = true → EL D.n E env →
    wpC P tab D c Q E H → CT P c (OutQ D.n (kpC D c) E Q) env H := by
  intro c
  induction c with
  | skip => intro Q E env H _ hl h; exact CT.skip ⟨E, hl, Out.refl _ _, h⟩
  | ret => intro Q E env H _ hl h; exact CT.ret ⟨E, hl, Out.refl _ _, h⟩
  | exit i => intro Q E env H _ hl h; exact CT.exit ⟨E, hl, Out.refl _ _, h⟩
  | region id ops b =>
    intro Q E env H ho hl h
    cases b with
    | false =>
      simp only [okC, Bool.and_eq_true] at ho
      refine CT.regX hT rfl (vcA_ok _ _ _ _ _ (fun x hx => ?_) ho.2 (fun u hu => by cases hu) hl (fun u hu => by cases hu) (Out.refl _ _) h)
      obtain ⟨o, ho2, rfl⟩ := List.mem_map.1 hx
      refine ⟨List.all_eq_true.1 ho.1 o ho2, fun i hi => ?_⟩
      simp only [kpC, List.all_eq_false]
      exact ⟨o, ho2, by simpa using hi⟩
    | true =>
      simp only [okC, Bool.and_eq_true] at ho
      have ho1 : (okA (dopsOf ops) (D.draws id).1 && rangeOk (dopsOf ops) D.n && permOk (dopsOf ops).length (D.draws id).2 && good tab (dopsOf ops) (D.draws id).1 (D.draws id).2) = true := by
        simp only [Bool.and_eq_true]; exact ho.1.1
      refine CX.drawD hT hm (D.draws id).1 (D.draws id).2 D.n hl.len ho1 _ rfl (vcZ_ok _ _ _ _ _ ?_ ho.2 (fun u hu => by cases hu) hl (fun u hu => by cases hu) (Out.refl _ _) h) _ rfl
      intro x hx
      obtain ⟨p, _, rfl⟩ := List.mem_map.1 hx
      exact opAt_in ho.1.2
  | seq a b iha ihb =>
    intro Q E env H ho hl h
    simp only [okC, Bool.and_eq_true] at ho
    refine CT.seq ((iha _ _ _ _ ho.1 hl h).mono ?_)
    rintro e env' H' ⟨E1, hl1, h1, h2⟩
    have h1' : Out (kpC D (.seq a b)) E E1 := h1.mono fun i hi => by simp only [kpC, Bool.and_eq_true] at hi; exact hi.1
    cases e with
    | normal => exact (ihb _ _ _ _ ho.2 hl1 h2).mono fun e2 env2 H2 ⟨E2, hl2, h3, h4⟩ => ⟨E2, hl2, h1'.trans (h3.mono fun i hi => by simp only [kpC, Bool.and_eq_true] at hi; exact hi.2), h4⟩
    | _ => exact ⟨E1, hl1, h1', h2⟩
  | cond c a b iha ihb =>
    intro Q E env H ho hl h
    simp only [okC, Bool.and_eq_true] at ho
    rcases condV_pk h with ⟨t, e, hp⟩ | ⟨e, h1, h2⟩
    case inr =>
      rw [hl.ev] at e
      exact CT.condU e ((iha _ _ _ _ ho.1 hl h1).mono fun e2 env2 H2 ⟨E2, hl2, h3, h4⟩ => ⟨E2, hl2, h3.mono fun i hi => (by simp only [kpC, Bool.and_eq_true] at hi; exact hi.1), h4⟩)
        ((ihb _ _ _ _ ho.2 hl h2).mono fun e2 env2 H2 ⟨E2, hl2, h3, h4⟩ => ⟨E2, hl2, h3.mono fun i hi => (by simp only [kpC, Bool.and_eq_true] at hi; exact hi.2), h4⟩)
    rw [hl.ev] at e
    exact CT.cond e (fun ht => (iha _ _ _ _ ho.1 hl (hp.1 ht)).mono fun e2 env2 H2 ⟨E2, hl2, h3, h4⟩ => ⟨E2, hl2, h3.mono fun i hi => (by simp only [kpC, Bool.and_eq_true] at hi; exact hi.1), h4⟩)
      (fun ht => (ihb _ _ _ _ ho.2 hl (hp.2 ht)).mono fun e2 env2 H2 ⟨E2, hl2, h3, h4⟩ => ⟨E2, hl2, h3.mono fun i hi => (by simp only [kpC, Bool.and_eq_true] at hi; exact hi.2), h4⟩)
  | block id a iha =>
    intro Q E env H ho hl h
    refine CT.block ((iha _ _ _ _ ho hl h).mono ?_)
    rintro e env' H' ⟨E1, hl1, h1, h2⟩
    cases e with
    | exit j =>
      simp only [PostF.block] at h2
      simp only [Post.block]
      cases hb : Nat.beq j id with
      | true =>
        rw [hb] at h2
        rw [if_pos (Nat.eq_of_beq_eq_true hb)]; exact ⟨E1, hl1, h1, h2⟩
      | false =>
        rw [hb] at h2
        have hne : j ≠ id := fun e => by rw [e, Nat.beq_refl] at hb; cases hb
        rw [if_neg hne]; exact ⟨E1, hl1, h1, h2⟩
    | _ => exact ⟨E1, hl1, h1, h2⟩
  | loop a iha =>
    intro Q E env H ho hl h
    simp only [okC, Bool.and_eq_true, List.all_eq_true, decide_eq_true_eq, Bool.not_eq_true'] at ho
    exact CT.loopV hl ho.1.2 (fun i hi => ⟨(ho.2 i hi).1, fun hc => by have := (ho.2 i hi).2; rw [(hasN_iff _).2 hc] at this; cases this⟩) (fun Q E' env' H hl' hq => iha _ _ _ _ ho.1.1 hl' hq) h
  | rangeFunc g ps a b iha ihb =>
    intro Q E env H ho hl h
    have ho : rngO tab D g ps a b = true := ho
    have h : rngF P tab D g ps a b Q E H := h
    obtain ⟨t, aid, aops, bid, rid, ops, rfl, rfl, rfl, f1, bx, q, n, Inv, hB, ht, hn, h0, hI, hbody, hQ⟩ := rngF_inv h
    simp only [rngO, Bool.and_eq_true, Bool.not_eq_true'] at ho
    obtain ⟨⟨⟨⟨⟨⟨hps, hp1⟩, hp2⟩, hp12⟩, has⟩, hdf⟩, hdr⟩ := ho
    obtain ⟨p1, p2, rfl⟩ : ∃ p1 p2, ps = #[p1, p2] := by
      have h1 : ps.size = 2 := Nat.eq_of_beq_eq_true hps
      exact ⟨ps[0], ps[1], Array.ext (by simp [h1]) fun i hi1 hi2 => by
        simp at hi2
        rcases (by omega : i = 0 ∨ i = 1) with rfl | rfl <;> rfl⟩
    have e1 : (#[p1, p2] : Array Tmp).getD 0 0 = p1 := rfl
    have e2 : (#[p1, p2] : Array Tmp).getD 1 0 = p2 := rfl
    rw [e1] at hp1 hp12 has hbody
    rw [e2] at hp2 hp12 hbody
    have hp1' : p1 < D.n := Nat.le_of_ble_eq_true hp1
    have hp2' : p2 < D.n := Nat.le_of_ble_eq_true hp2
    have hp12' : p1 ≠ p2 := fun e => by rw [e, Nat.beq_refl] at hp12; cases hp12
    obtain ⟨ao, d, rfl, ha1, ha2, ha3, hd⟩ : ∃ ao d, aops = #[ao] ∧ ao.op = .assign (.tmp p1) ∧ ao.dst = some d ∧ ao.guard = none ∧ d < D.n := by
      unfold asgOk at has
      split at has
      · rename_i o hlo
        simp only [Bool.and_eq_true] at has
        obtain ⟨⟨k1, k2⟩, k3⟩ := has
        have : aops = #[o] := by
          apply Array.ext'
          rw [hlo]
        refine ⟨o, (o.dst).getD 0, this, ?_, ?_, ?_, ?_⟩
        · unfold isAsg at k1
          split at k1
          · rename_i t' ho'
            rw [ho', Nat.eq_of_beq_eq_true k1]
          · cases k1
        · split at k2
          · rename_i d' hd'; rw [hd']; rfl
          · cases k2
        · cases hg : o.guard with
          | none => rfl
          | some g => rw [hg] at k3; cases k3
        · split at k2
          · rename_i d' hd'; rw [hd']; exact Nat.le_of_ble_eq_true k2
          · cases k2
      · cases has
    have ed : dst0 #[ao] = d := by simp [dst0, ha2]
    rw [ed] at hbody
    have hE' : ∀ i, nthA (tbl D.n 0 (maskF (D.loops rid).1 E)) i = maskF (D.loops rid).1 E i := fun i => by
      have hm : ∀ i, D.n ≤ i → maskF (D.loops rid).1 E i = .any := fun i hi => by
        unfold maskF
        split
        · rw [hl.at_, List.getD, List.getElem?_eq_none (by rw [hl.len]; exact hi)]; rfl
        · rfl
      have := (EL.headL (N := D.n) hm).at_ i
      rw [nthA_getD, ← this]
    have hel0 : EL D.n (nthA (tbl D.n 0 (maskF (D.loops rid).1 E))) (tbl D.n 0 (maskF (D.loops rid).1 E)) := by
      have hm : ∀ i, D.n ≤ i → maskF (D.loops rid).1 E i = .any := fun i hi => by
        unfold maskF
        split
        · rw [hl.at_, List.getD, List.getElem?_eq_none (by rw [hl.len]; exact hi)]; rfl
        · rfl
      exact ⟨(EL.headL (N := D.n) hm).len, fun i => by rw [nthA_getD]⟩
    have hlen' := hel0.len
    have hweak : ∀ (i : Nat) (v v' : AV), env[i]? = some v → (tbl D.n 0 (maskF (D.loops rid).1 E))[i]? = some v' → AV.wk v v' := fun i v v' h1 h2 => by
      have e1 : E i = v := by rw [hl.at_, List.getD, h1]; rfl
      have e2 : maskF (D.loops rid).1 E i = v' := by rw [← hE', nthA_getD, List.getD, h2]; rfl
      unfold maskF at e2
      split at e2
      · rw [← e1, ← e2]; exact .refl _
      · rw [← e2]; exact .any _
    refine CT.weak (by rw [hlen', hl.len]) hweak (Heap.le_refl _) ?_
    have hout : Out (kpC D (.rangeFunc (.tmp t) #[p1, p2] (.region aid #[ao] false) (.block bid (.region rid ops true)))) E (nthA (tbl D.n 0 (maskF (D.loops rid).1 E))) := fun i hi => by
      have hi : hasN (D.loops rid).1 i = true := hi
      rw [hE', maskF, hi]
    generalize htb : tbl D.n 0 (maskF (D.loops rid).1 E) = env1 at ht hbody hQ hel0 hlen' hout ⊢
    clear hweak hE' htb
    have htl : t < env1.length := by
      refine Nat.lt_of_not_le fun hge => ?_
      have := hel0.at_ t
      rw [List.getD, List.getElem?_eq_none hge, ht] at this
      cases this
    have ht' : env1[t]? = some (.fn f1 [.ptr bx 0]) := by
      have := hel0.at_ t
      rw [ht, List.getD, List.getElem?_eq_getElem htl] at this
      rw [List.getElem?_eq_getElem htl]; exact congrArg some this.symm
    refine CT.range hB ht' (by rw [hlen']; exact hp1') (by rw [hlen']; exact hp2') hp12' hn Inv h0 hI ha1 ha2 ha3 ?_ (fun H' hi => ⟨_, hel0, hout, hQ H' hi⟩)
    intro ks j H' hj hi r m B0 w0 F Z φ a w rel
    have hel := ((hel0.upd hp1' (.p (.int .i64 (j : Int)))).upd hp2' .any).upd hd (.p (.int .i64 (j : Int)))
    have hr1 : (okA (dopsOf ops) (D.draws rid).1 && rangeOk (dopsOf ops) D.n && permOk (dopsOf ops).length (D.draws rid).2 && good tab (dopsOf ops) (D.draws rid).1 (D.draws rid).2) = true := by
      simp only [Bool.and_eq_true]; exact hdr.1.1
    have hz := vcY_vcS _ _ _ (vcZ_ok (ws := kpC D (.region rid ops true)) (dOf (dopsOf ops) (D.draws rid).2) [] _ _ H' (fun x hx => by
      obtain ⟨p, _, rfl⟩ := List.mem_map.1 hx
      exact opAt_in hdr.1.2) hdr.2 (fun u hu => by cases hu) hel (fun u hu => by cases hu) (Out.refl _ _) (hbody ks j H' hj hi))
    have hT := CX.draw_inRoundN hT hm (Q := fun _ env' H'' => QL D.n (kpC D (.region rid ops true)) _ (fun _ H'' => Inv (ks ++ [j]) H'') env' H'') (D.draws rid).1 (D.draws rid).2 D.n hel.len hr1 hz (code := .region rid ops true) rfl (fun id ops' he i o ho c hc => by
      cases he
      have := List.all_eq_true.1 hdf o (by
        have := Array.getElem?_eq_some_iff.1 ho
        obtain ⟨h1, rfl⟩ := this
        exact Array.mem_toList_iff.2 (Array.getElem_mem h1))
      rw [hc] at this; cases this) (r := r) (n := m) rel
    refine wpIn_block (wpIn_mono hT ?_)
    rintro e a' w' ⟨rfl, env', H2, Z2, φ2, ht2, hz2, hp2, r2⟩
    obtain ⟨E2, _, _, ht3⟩ := ht2
    exact ⟨rfl, env', H2, Z2, φ2, ht3, hz2, hp2, r2⟩
  | _ => intro Q E env H _ _ h; exact h.elim
theorem resF_ok {tab : Tab} {N : Nat} {E : Env} {env : List AV} (hl : EL N E env) {H : Heap} : ∀ (rs : List ResultVar) (K : List AV → Prop), resF tab rs E H K → resV tab rs env H K
  | [], K, h => h
  | .tmp t :: rs, K, h => by
    simp only [resV]; rw [← hl.at_]; exact resF_ok hl rs _ h
  | .cell a t :: rs, K, h => by
    simp only [resV]; rw [← hl.at_]
    obtain ⟨S, u, hlin⟩ := loadV_lin tab t (E a) H
    obtain ⟨h1, h2⟩ := (hlin _).1 h
    exact (hlin _).2 ⟨h1, resF_ok hl rs _ h2⟩
theorem CallT.of_wp {P : Program} {tab : Tab} (hT : tab.Ok P) (hm : P.follows .mixedOrders = true) {f : Nat} {fn : Func} (hf : P.funcs[f]? = some fn) {c : Code} (hc : fn.body = some c) (hn : (fn.name == "runtime.NumGoroutine") = false)
    {D : Info} (hnt : fn.ntmps = D.n) {rs : Array ResultVar} (hrs : fn.results = rs) (hok : okC tab D c = true)
    {args : List AV} {H : Heap} {K : AV → Heap → Prop} (hle : Nat.ble args.length D.n = true) {W : Prop} (hW : wpC P tab D c (retF tab rs.toList K) (nthA args) H = W) (h : W) : CallT P f args H K := by
  subst hrs; subst hW
  have hle' := Nat.le_of_ble_eq_true hle
  have hE : EL D.n (nthA args) (args ++ List.replicate (fn.ntmps - args.length) .any) := by
    refine ⟨by simp; omega, fun i => ?_⟩
    rw [nthA_getD]
    simp only [List.getD]
    by_cases hi : i < args.length
    · rw [List.getElem?_append_left hi]
    · rw [List.getElem?_append_right (by omega), List.getElem?_eq_none (by omega), List.getElem?_replicate]
      split <;> rfl
  refine CallT.of_body hT hf hc hn ((wpC_ok hT hm _ _ _ _ _ hok hE h).mono ?_)
  rintro e env' H' ⟨E', hl, _, hq⟩
  cases e <;> first | exact resF_ok hl _ _ hq | exact hq.elim
def cAt : List Nat → Code → Code
  | [], c => c
  | 0 :: p, .seq a _ => cAt p a
  | _ :: p, .seq _ b => cAt p b
  | 0 :: p, .cond _ a _ => cAt p a
  | _ :: p, .cond _ _ b => cAt p b
  | _ :: p, .block _ a => cAt p a
  | _ :: p, .loop a => cAt p a
  | _ :: p, .rangeFunc _ _ _ b => cAt p b
  | _, c => c
def bodyOf (f : Func) : Code := f.body.getD .skip
end Go.Sep
namespace Go.Sep
open Go Go.RowKit
abbrev I (n : Int) : AV := .p (.int .i64 n)
abbrev U (n : Int) : AV := .p (.int .u64 n)
abbrev B (b : Bool) : AV := .p (.bool b)
abbrev S (es : List (List PV)) : AV := .p (.sl es)
abbrev A (e : List PV) : AV := .agg (e.map .p)
theorem condV_b {b : Bool} {X Y : Prop} : condV (.p (.bool b)) X Y = ((b = true → X) ∧ (b = false → Y)) := by cases b <;> simp [condV]
theorem condV_dec {p : Prop} [Decidable p] {X Y : Prop} : condV (.p (.bool (decide p))) X Y = ((p → X) ∧ (¬p → Y)) := by by_cases h : p <;> simp [condV, h]
theorem condV_not {b : Bool} {X Y : Prop} : condV (.p (.bool (!b))) X Y = condV (.p (.bool b)) Y X := by cases b <;> simp [condV]
theorem c1_ {X Y : Prop} : condV (.p (.bool true)) X Y = X := rfl
theorem c2_ {X Y : Prop} : condV (.p (.bool false)) X Y = Y := rfl
theorem condV_u {X Y : Prop} : condV .ub X Y = (X ∧ Y) := rfl
theorem pickV_b {b : Bool} {X Y : Prop} : pickV (.p (.bool b)) X Y = condV (.p (.bool b)) X Y := by cases b <;> rfl
theorem grdV_t {b : Bool} {X Y : Prop} : grdV (.p (.bool b)) true X Y = condV (.p (.bool b)) X Y := by cases b <;> rfl
theorem grdV_f {b : Bool} {X Y : Prop} : grdV (.p (.bool b)) false X Y = condV (.p (.bool b)) Y X := by cases b <;> rfl
theorem eqnil_sl {tab : Tab} {t : Nat} {es : List (List PV)} {K : AV → Prop} : binV tab .eql t (.p (.sl es)) (.p .nil) K = (match tab t with
    | some d => match d.k with
      | .slice _ => (es = [] → K .ub) ∧ (es ≠ [] → K (.p (.bool false)))
      | _ => binV tab .eql t (.p (.sl es)) (.p .nil) K
    | none => binV tab .eql t (.p (.sl es)) (.p .nil) K) := by
  cases ht : tab t with
  | none => rfl
  | some d =>
    dsimp only
    cases hk : d.k <;> try rfl
    dsimp only
    cases es with
    | nil => simp [binV, eqV, ht, hk, isNilV, unkV, sliceLike]
    | cons e es => simp [binV, eqV, ht, hk, isNilV]
theorem neqnil_sl {tab : Tab} {t : Nat} {es : List (List PV)} {K : AV → Prop} : binV tab .neq t (.p (.sl es)) (.p .nil) K = (match tab t with
    | some d => match d.k with
      | .slice _ => (es = [] → K .ub) ∧ (es ≠ [] → K (.p (.bool true)))
      | _ => binV tab .neq t (.p (.sl es)) (.p .nil) K
    | none => binV tab .neq t (.p (.sl es)) (.p .nil) K) := by
  cases ht : tab t with
  | none => rfl
  | some d =>
    dsimp only
    cases hk : d.k <;> try rfl
    dsimp only
    cases es with
    | nil => simp [binV, eqV, ht, hk, isNilV, unkV, sliceLike]
    | cons e es => simp [binV, eqV, ht, hk, isNilV]
theorem callF_fn {P : Program} {f : Nat} {caps args : List AV} {H : Heap} {K : AV → Heap → Prop} : callF P (.fn f caps) args H K = CallT P f (args ++ caps) H K := rfl
theorem indexAddr_sl {α : Type} [Inhabited α] {tab : Tab} {t : Nat} {xs : List α} {f : α → List PV} {k : IntKind} {n : Int} {K : AV → Prop} :
    indexAddrV tab t (.p (.sl (xs.map f))) (.p (.int k n)) K = (match tab t with
      | some d => match d.k with
        | .slice e => match tab e with
          | some ed => 0 ≤ n ∧ n < xs.length ∧ (f (xs.getD n.toNat default)).length = ed.size ∧ K (.fp (f (xs.getD n.toNat default)))
          | none => False
        | _ => False
      | none => False) := by
  simp only [indexAddrV]
  cases tab t with
  | none => rfl
  | some d =>
    dsimp only
    cases d.k
    case arr m e => dsimp only; cases tab e <;> rfl
    case slice e =>
      dsimp only
      cases tab e with
      | none => rfl
      | some ed =>
        dsimp only
        apply propext
        rw [List.length_map]
        refine and_congr_right fun h0 => and_congr_right fun h1 => ?_
        have hlt : n.toNat < xs.length := by omega
        have e1 : (xs.map f).getD n.toNat [] = f (xs.getD n.toNat default) := by simp [List.getD, hlt]
        rw [e1]
    all_goals rfl
theorem indexAddr_own {tab : Tab} {t : Nat} {r sz off len : Nat} {k : IntKind} {n : Int} {K : AV → Prop} :
    indexAddrV tab t (.sl r sz off len) (.p (.int k n)) K = (match tab t with
      | some d => match d.k with
        | .slice e => match tab e with
          | some ed => sz = ed.size ∧ 0 ≤ n ∧ n < len ∧ K (.ptr r (off + n.toNat * sz))
          | none => False
        | _ => False
      | none => False) := by
  simp only [indexAddrV]
  cases tab t with
  | none => rfl
  | some d =>
    dsimp only
    cases d.k <;> first | rfl | (rename_i e; dsimp only; cases tab e <;> rfl)
theorem sliceV_sl {α : Type} {tab : Tab} {t : Nat} {xs : List α} {f : α → List PV} {lo hi : Option AV} {K : AV → Prop} :
    sliceV tab t (.p (.sl (xs.map f))) lo hi none K = (match tab t with
      | some d => match d.k with
        | .slice e => match tab e with
          | some ed => bndV lo 0 fun l => bndV hi xs.length fun h => 0 ≤ l ∧ l ≤ h ∧ h ≤ xs.length ∧ (∀ e ∈ xs.map f, e.length = ed.size) ∧ K (.p (.sl (((xs.drop l.toNat).take (h - l).toNat).map f)))
          | none => False
        | _ => False
      | none => False) := by
  simp only [sliceV]
  cases tab t with
  | none => rfl
  | some d =>
    dsimp only
    cases d.k <;> try rfl
    rename_i e
    dsimp only
    cases tab e with
    | none => rfl
    | some ed =>
      dsimp only
      have hb : ∀ (o : Option AV) (n : Int) (X Y : Int → Prop), (∀ v, X v = Y v) → bndV o n X = bndV o n Y := by
        intro o n X Y h; have : X = Y := funext h; rw [this]
      simp only [Option.isSome_none, Bool.false_eq_true, false_implies, true_and, false_and, false_or, List.length_map, ← List.map_drop, ← List.map_take]
      refine hb _ _ _ _ fun l => hb _ _ _ _ fun h => ?_
      simp only [bndV]
      apply propext
      constructor
      · rintro ⟨a, b, c, d, e, g⟩; exact ⟨a, b, by omega, e, g⟩
      · rintro ⟨a, b, c, e, g⟩; exact ⟨a, b, by omega, by omega, e, g⟩
theorem sliceV_own {tab : Tab} {t : Nat} {r sz off len : Nat} {lo hi : Option AV} {K : AV → Prop} :
    sliceV tab t (.sl r sz off len) lo hi none K = (match tab t with
      | some d => match d.k with
        | .slice e => match tab e with
          | some ed => sz = ed.size ∧ bndV lo 0 fun l => bndV hi len fun h => 0 ≤ l ∧ l ≤ h ∧ h ≤ len ∧ K (.sl r sz (off + l.toNat * sz) (h - l).toNat)
          | none => False
        | _ => False
      | none => False) := by
  simp only [sliceV]
  cases tab t with
  | none => rfl
  | some d =>
    dsimp only
    cases d.k <;> try rfl
    rename_i e
    dsimp only
    cases tab e with
    | none => rfl
    | some ed =>
      dsimp only
      have hb : ∀ (o : Option AV) (n : Int) (X Y : Int → Prop), (∀ v, X v = Y v) → bndV o n X = bndV o n Y := by
        intro o n X Y h; have : X = Y := funext h; rw [this]
      simp only [Option.isSome_none, Bool.false_eq_true, false_implies, true_and, false_and, if_false]
      refine congrArg _ (hb _ _ _ _ fun l => hb _ _ _ _ fun h => ?_)
      simp only [bndV]
      apply propext
      constructor
      · rintro ⟨a, b, c, d, g⟩; exact ⟨a, b, by omega, g⟩
      · rintro ⟨a, b, c, g⟩; exact ⟨a, b, by omega, by omega, g⟩
theorem sliceV_nil {tab : Tab} {t : Nat} {lo hi : Option AV} {K : AV → Prop} :
    sliceV tab t (.p .nil) lo hi none K = (match tab t with
      | some d => match d.k with
        | .slice e => match tab e with
          | some _ => bndV lo 0 fun l => bndV hi 0 fun h => l = 0 ∧ h = 0 ∧ K (.p .nil)
          | none => False
        | _ => False
      | none => False) := by
  simp only [sliceV]
  cases tab t with
  | none => rfl
  | some d =>
    dsimp only
    cases d.k <;> try rfl
    rename_i e
    dsimp only
    cases tab e with
    | none => rfl
    | some ed =>
      dsimp only
      have hb : ∀ (o : Option AV) (n : Int) (X Y : Int → Prop), (∀ v, X v = Y v) → bndV o n X = bndV o n Y := by
        intro o n X Y h; have : X = Y := funext h; rw [this]
      simp only [Option.isSome_none, Bool.false_eq_true, false_implies, true_and, if_false]
      refine hb _ _ _ _ fun l => hb _ _ _ _ fun h => ?_
      simp only [bndV]
      apply propext
      constructor
      · rintro ⟨a, b, c, g⟩; exact ⟨a, b, g⟩
      · rintro ⟨a, b, g⟩; exact ⟨a, b, by omega, g⟩
theorem push_own {tab : Tab} {t e sz : Nat} {d ed : TD} {r : Nat} {es : List (List PV)} {cs : List PV} {x : AV} {H : Heap} {K : AV → Heap → Prop} (h1 : tab t = some d) (h2 : d.k = .slice e) (h3 : tab e = some ed) (h6 : ed.size = sz) (hz : ed.zero.length = sz) {bz : Nat} (h7 : ed.bytes = bz)
    (hx : x.cells = some (cs.map .p)) (hpos : 0 < sz) (hsm : sz ≤ 16777216) (hc : cs.length = sz) (hr : H r = some (cells es)) (hs : Sized sz es) (hl : (es.length + 1) * bz ≤ 140737488355328) (hl2 : es.length + 1 ≤ 9223372036854775807)
    (h : ∀ r', H r' = none → K (own r' sz (es ++ [cs])) ((H.del r).set r' (cells (es ++ [cs])))) :
    buildSliceV tab t 1 [(0, x)] H (wkK fun v H1 => appendV tab t t (own r sz es) v H1 (wkK K)) := by
  subst h6
  simp only [buildSliceV, h1, h2, h3]
  refine ⟨by omega, ?_⟩
  have hzl : (zerosA 1 ed.zero).length = ed.size := by rw [zerosA_len, hz]; omega
  have hsp : splice (zerosA 1 ed.zero) (0 * ed.size) (cs.map .p) = cs.map .p := by
    simp only [splice, Nat.zero_mul, List.take_zero, List.nil_append, Nat.zero_add]
    rw [List.drop_of_length_le (by rw [hzl, List.length_map, hc]; exact Nat.le_refl _), List.append_nil]
  have hf : fillV (fun i => some (i * ed.size, ed.size)) (zerosA 1 ed.zero) [(0, x)] = some (cs.map .p) := by
    simp only [fillV, hx, List.length_map, hc, hzl, Nat.zero_mul, Nat.zero_add, Nat.le_refl, and_self, if_true]
    rw [Nat.zero_mul] at hsp; rw [hsp]
  rw [hf]
  intro q hq
  have hqr : q ≠ r := by rintro rfl; rw [hr] at hq; cases hq
  refine ⟨.p (.sl [cs]), H, Wk.trans (Wk.frz (r := q) (sz := ed.size) (es := [cs]) (v := .sl q ed.size 0 1) (v' := .p (.sl [cs])) hpos ?_ ?_ .here) (.forget ?_), ?_⟩
  · rw [Heap.set_same]; simp
  · intro e he; simp only [List.mem_singleton] at he; rw [he]; exact hc
  · rw [Heap.del_set hq]; exact Heap.le_refl _
  · exact app_own h1 h2 h3 h1 h2 rfl h7 (.inl rfl) hr hs (by intro e he; simp only [List.mem_singleton] at he; rw [he]; exact hc) (by simpa using hl) (by simpa using hl2) h
abbrev eI (n : Int) : List PV := [.int .i64 n]
abbrev eU (n : Int) : List PV := [.int .u64 n]
abbrev e8 (n : Int) : List PV := [.int .u8 n]
abbrev eB (b : Bool) : List PV := [.bool b]
abbrev Is (xs : List Int) : AV := .p (.sl (xs.map eI))
theorem sizedMap {α : Type} {f : α → List PV} {sz : Nat} (h : ∀ a, (f a).length = sz) (xs : List α) : Sized sz (xs.map f) := by
  intro e he; obtain ⟨a, _, rfl⟩ := List.mem_map.1 he; exact h a
section
variable {P : Program} {tab : Tab} {t : Nat} {H : Heap} {K : AV → Prop} {KH : AV → Heap → Prop}
theorem bin_add {k : IntKind} {a b : Int} : binV tab .add t (.p (.int k a)) (.p (.int k b)) K = K (.p (.int k (k.wrap (a + b)))) := by simp [binV]
theorem bin_sub {k : IntKind} {a b : Int} : binV tab .sub t (.p (.int k a)) (.p (.int k b)) K = K (.p (.int k (k.wrap (a - b)))) := by simp [binV]
theorem bin_mul {k : IntKind} {a b : Int} : binV tab .mul t (.p (.int k a)) (.p (.int k b)) K = K (.p (.int k (k.wrap (a * b)))) := by simp [binV]
theorem bin_and {k : IntKind} {a b : Int} : binV tab .and t (.p (.int k a)) (.p (.int k b)) K = K (.p (.int k (bitsI .and k a b))) := by simp [binV]
theorem bin_or {k : IntKind} {a b : Int} : binV tab .or t (.p (.int k a)) (.p (.int k b)) K = K (.p (.int k (bitsI .or k a b))) := by simp [binV]
theorem bin_xor {k : IntKind} {a b : Int} : binV tab .xor t (.p (.int k a)) (.p (.int k b)) K = K (.p (.int k (bitsI .xor k a b))) := by simp [binV]
theorem bin_andNot {k : IntKind} {a b : Int} : binV tab .andNot t (.p (.int k a)) (.p (.int k b)) K = K (.p (.int k (bitsI .andNot k a b))) := by simp [binV]
theorem bin_quo {k : IntKind} {a b : Int} : binV tab .quo t (.p (.int k a)) (.p (.int k b)) K = (b ≠ 0 ∧ K (.p (.int k (k.wrap (a.tdiv b))))) := by simp [binV]
theorem bin_rem {k : IntKind} {a b : Int} : binV tab .rem t (.p (.int k a)) (.p (.int k b)) K = (b ≠ 0 ∧ K (.p (.int k (a.tmod b)))) := by simp [binV]
theorem bin_shl {k k' : IntKind} {a b : Int} : binV tab .shl t (.p (.int k a)) (.p (.int k' b)) K = (0 ≤ b ∧ K (.p (.int k (k.wrap (a * 2 ^ (min b.toNat k.bits)))))) := rfl
theorem bin_shr {k k' : IntKind} {a b : Int} : binV tab .shr t (.p (.int k a)) (.p (.int k' b)) K = (0 ≤ b ∧ K (.p (.int k (a.fdiv (2 ^ (min b.toNat k.bits)))))) := rfl
theorem bin_eql {k : IntKind} {a b : Int} : binV tab .eql t (.p (.int k a)) (.p (.int k b)) K = K (.p (.bool (decide (a = b)))) := by simp [binV]
theorem bin_neq {k : IntKind} {a b : Int} : binV tab .neq t (.p (.int k a)) (.p (.int k b)) K = K (.p (.bool (!decide (a = b)))) := by simp [binV]
theorem bin_lss {k : IntKind} {a b : Int} : binV tab .lss t (.p (.int k a)) (.p (.int k b)) K = K (.p (.bool (decide (a < b)))) := by simp [binV]
theorem bin_leq {k : IntKind} {a b : Int} : binV tab .leq t (.p (.int k a)) (.p (.int k b)) K = K (.p (.bool (decide (a ≤ b)))) := by simp [binV]
theorem bin_gtr {k : IntKind} {a b : Int} : binV tab .gtr t (.p (.int k a)) (.p (.int k b)) K = K (.p (.bool (decide (b < a)))) := by simp [binV]
theorem bin_geq {k : IntKind} {a b : Int} : binV tab .geq t (.p (.int k a)) (.p (.int k b)) K = K (.p (.bool (decide (b ≤ a)))) := by simp [binV]
theorem bin_bool {op : BinOp} {a b : Bool} : binV tab op t (.p (.bool a)) (.p (.bool b)) K = (match op, eqV tab t (.p (.bool a)) (.p (.bool b)) with
    | .eql, some r => K (.p (.bool r))
    | .neq, some r => K (.p (.bool (!r)))
    | .eql, none => unkV tab t (.p (.bool a)) (.p (.bool b)) (K .ub)
    | .neq, none => unkV tab t (.p (.bool a)) (.p (.bool b)) (K .ub)
    | _, _ => False) := rfl
theorem eqV_bool {a b : Bool} : eqV tab t (.p (.bool a)) (.p (.bool b)) = (match tab t with
    | none => none
    | some d => match d.k with
      | .bool => some (a == b)
      | k => match isNilV k (.p (.bool a)), isNilV k (.p (.bool b)) with
        | some r, some true => some r
        | some true, some r => some r
        | _, _ => none) := by
  unfold eqV
  cases tab t with
  | none => rfl
  | some d => dsimp only; cases d.k <;> rfl
theorem bin_agg {op : BinOp} {xs ys : List AV} : binV tab op t (.agg xs) (.agg ys) K = (match op, eqV tab t (.agg xs) (.agg ys) with
    | .eql, some r => K (.p (.bool r))
    | .neq, some r => K (.p (.bool (!r)))
    | .eql, none => unkV tab t (.agg xs) (.agg ys) (K .ub)
    | .neq, none => unkV tab t (.agg xs) (.agg ys) (K .ub)
    | _, _ => False) := rfl
theorem eqV_agg {xs ys : List AV} : eqV tab t (.agg xs) (.agg ys) = (match tab t with
    | none => none
    | some d => match d.k with
      | .struct fs => eF_ tab xs ys fs
      | _ => none) := by
  unfold eqV
  cases tab t with
  | none => rfl
  | some d => rfl
theorem un_not {b : Bool} : unV .not (.p (.bool b)) K = K (.p (.bool (!b))) := rfl
theorem un_neg {k : IntKind} {n : Int} : unV .neg (.p (.int k n)) K = K (.p (.int k (k.wrap (0 - n)))) := rfl
theorem un_xor {k : IntKind} {n : Int} : unV .xor (.p (.int k n)) K = K (.p (.int k (bitsI .xor k (if k.signed then -1 else k.max) n))) := rfl
theorem ext_tup {vs : List AV} {i : Nat} : extractV (.tup vs) i K = (i < vs.length ∧ K (vs.getD i .any)) := rfl
theorem load_fp {cs : List PV} : loadV tab t (.fp cs) H K = (match tab t with
    | some d => d.size ≤ cs.length ∧ K (if d.k.agg then .agg ((cs.take d.size).map .p) else ((cs.take d.size).map AV.p).headD .any)
    | none => False) := rfl
theorem load_same {r off : Nat} {cs : List AV} : loadV tab t (.ptr r off) (H.set r cs) K = (match tab t with
    | some d => off + d.size ≤ cs.length ∧ K (if d.k.agg then .agg ((cs.drop off).take d.size) else ((cs.drop off).take d.size).headD .any)
    | none => False) := by
  unfold loadV ptrReads; simp only [Heap.set_same]; cases tab t <;> rfl
theorem load_ne {r r' off : Nat} {cs : List AV} (h : r ≠ r') : loadV tab t (.ptr r off) (H.set r' cs) K = loadV tab t (.ptr r off) H K := by
  unfold loadV ptrReads; simp only [Heap.set_other h]
theorem load_at {r off : Nat} {cs : List AV} (h : H r = some cs) : loadV tab t (.ptr r off) H K = (match tab t with
    | some d => off + d.size ≤ cs.length ∧ K (if d.k.agg then .agg ((cs.drop off).take d.size) else ((cs.drop off).take d.size).headD .any)
    | none => False) := by
  unfold loadV ptrReads; simp only [h]; cases tab t <;> rfl
theorem store_same {r off : Nat} {cs : List AV} {v : AV} {KS : Heap → Prop} : storeV tab t (.ptr r off) v (H.set r cs) KS = (match tab t, v.cells with
    | some d, some vs => off + d.size ≤ cs.length ∧ vs.length = d.size ∧ vs.all AV.isCell = true ∧ KS (H.set r (splice cs off vs))
    | _, _ => False) := by
  unfold storeV
  cases tab t <;> cases v.cells <;> first | rfl | simp only [Heap.set_same, Heap.set_set]
theorem store_ne {r r' off : Nat} {cs : List AV} {v : AV} {KS : Heap → Prop} (h : r ≠ r') : storeV tab t (.ptr r off) v (H.set r' cs) KS = storeV tab t (.ptr r off) v H (fun H' => KS (H'.set r' cs)) := by
  unfold storeV
  cases tab t <;> cases v.cells <;> first | rfl | skip
  simp only [Heap.set_other h]
  cases H r with
  | none => rfl
  | some b => simp only [Heap.set_comm (Ne.symm h)]
theorem store_at {r off : Nat} {cs : List AV} {v : AV} {KS : Heap → Prop} (h : H r = some cs) : storeV tab t (.ptr r off) v H KS = (match tab t, v.cells with
    | some d, some vs => off + d.size ≤ cs.length ∧ vs.length = d.size ∧ vs.all AV.isCell = true ∧ KS (H.set r (splice cs off vs))
    | _, _ => False) := by
  unfold storeV
  cases tab t <;> cases v.cells <;> first | rfl | simp only [h]
theorem box_agg {vs : List AV} : boxV (.agg vs) H KH = ∀ r, H r = none → KH (.ptr r 0) (H.set r vs) := rfl
theorem box_p {v : PV} : boxV (.p v) H KH = ∀ r, H r = none → KH (.ptr r 0) (H.set r [.p v]) := rfl
theorem box_sl {r sz off len : Nat} : boxV (.sl r sz off len) H KH = ∀ q, H q = none → KH (.ptr q 0) (H.set q [.sl r sz off len]) := rfl
theorem box_ptr {r off : Nat} : boxV (.ptr r off) H KH = ∀ q, H q = none → KH (.ptr q 0) (H.set q [.ptr r off]) := rfl
theorem box_fn {f : Nat} {caps : List AV} : boxV (.fn f caps) H KH = ∀ q, H q = none → KH (.ptr q 0) (H.set q [.fn f caps]) := rfl
theorem fill_nil {pl : Nat → Option (Nat × Nat)} {cs : List AV} : fillV pl cs [] = some cs := rfl
theorem fill_p {pl : Nat → Option (Nat × Nat)} {cs : List AV} {i : Nat} {v : PV} {l : List (Nat × AV)} : fillV pl cs ((i, .p v) :: l) = (match pl i with
    | some (off, size) => if 1 = size ∧ off + size ≤ cs.length then fillV pl (splice cs off [.p v]) l else none
    | none => none) := by
  simp only [fillV, AV.cells]; cases pl i <;> rfl
theorem fill_sl {pl : Nat → Option (Nat × Nat)} {cs : List AV} {i r sz off' len : Nat} {l : List (Nat × AV)} : fillV pl cs ((i, .sl r sz off' len) :: l) = (match pl i with
    | some (off, size) => if 1 = size ∧ off + size ≤ cs.length then fillV pl (splice cs off [.sl r sz off' len]) l else none
    | none => none) := by
  simp only [fillV, AV.cells]; cases pl i <;> rfl
theorem fill_ptr {pl : Nat → Option (Nat × Nat)} {cs : List AV} {i r off' : Nat} {l : List (Nat × AV)} : fillV pl cs ((i, .ptr r off') :: l) = (match pl i with
    | some (off, size) => if 1 = size ∧ off + size ≤ cs.length then fillV pl (splice cs off [.ptr r off']) l else none
    | none => none) := by
  simp only [fillV, AV.cells]; cases pl i <;> rfl
theorem fill_fn {pl : Nat → Option (Nat × Nat)} {cs : List AV} {i f : Nat} {caps : List AV} {l : List (Nat × AV)} : fillV pl cs ((i, .fn f caps) :: l) = (match pl i with
    | some (off, size) => if 1 = size ∧ off + size ≤ cs.length then fillV pl (splice cs off [.fn f caps]) l else none
    | none => none) := by
  simp only [fillV, AV.cells]; cases pl i <;> rfl
theorem fill_esl {pl : Nat → Option (Nat × Nat)} {cs : List AV} {i : Nat} {l : List (Nat × AV)} : fillV pl cs ((i, .esl) :: l) = (match pl i with
    | some (off, size) => if 1 = size ∧ off + size ≤ cs.length then fillV pl (splice cs off [.esl]) l else none
    | none => none) := by
  simp only [fillV, AV.cells]; cases pl i <;> rfl
theorem fill_agg {pl : Nat → Option (Nat × Nat)} {cs : List AV} {i : Nat} {vs : List AV} {l : List (Nat × AV)} : fillV pl cs ((i, .agg vs) :: l) = (match pl i with
    | some (off, size) => if vs.length = size ∧ off + size ≤ cs.length then fillV pl (splice cs off vs) l else none
    | none => none) := by
  simp only [fillV, AV.cells]; cases pl i <;> rfl
theorem len_p {v : PV} : lenV tab t (.p v) K = (match tab t with
    | some d => match d.k with
      | .slice _ => match v with
        | .nil => K (.p (.int .i64 0))
        | .sl es => K (.p (.int .i64 es.length))
        | _ => False
      | .str => match v with
        | .str s => K (.p (.int .i64 s.size))
        | _ => False
      | _ => False
    | none => False) := by
  unfold lenV
  cases tab t with
  | none => rfl
  | some d => dsimp only; cases d.k <;> first | rfl | (cases v <;> rfl)
theorem len_sl {r sz off len : Nat} : lenV tab t (.sl r sz off len) K = (match tab t with
    | some d => match d.k with
      | .slice _ => K (.p (.int .i64 len))
      | _ => False
    | none => False) := by
  unfold lenV
  cases tab t with
  | none => rfl
  | some d => dsimp only; cases d.k <;> rfl
theorem cap_nil : capV tab t (.p .nil) K = (match tab t with
    | some d => match d.k with
      | .slice _ => K (.p (.int .i64 0))
      | _ => False
    | none => False) := by
  unfold capV
  cases tab t with
  | none => rfl
  | some d => dsimp only; cases d.k <;> rfl
theorem len_esl : lenV tab t .esl K = (match tab t with
    | some d => match d.k with
      | .slice _ => K (.p (.int .i64 0))
      | _ => False
    | none => False) := by
  unfold lenV
  cases tab t with
  | none => rfl
  | some d => dsimp only; cases d.k <;> rfl
theorem nc_ptr {r off : Nat} : nilCheckV (.ptr r off) K = K (.ptr r off) := rfl
theorem nc_fp {cs : List PV} : nilCheckV (.fp cs) K = K (.fp cs) := rfl
theorem nc_fn {f : Nat} {caps : List AV} : nilCheckV (.fn f caps) K = K (.fn f caps) := rfl
theorem nc_sl {r sz off len : Nat} : nilCheckV (.sl r sz off len) K = K (.sl r sz off len) := rfl
theorem nc_p {v : PV} : nilCheckV (.p v) K = K (.p v) := rfl
theorem conv_int {s d : Nat} {k : IntKind} {n : Int} : convV tab s d (.p (.int k n)) K = (match tab s, tab d with
    | some _, some d => match d.k with
      | .int k => K (.p (.int k (k.wrap n)))
      | _ => False
    | _, _ => False) := by
  unfold convV
  cases tab s <;> cases tab d <;> rfl
theorem mm_max {k k' : IntKind} {m n : Int} : mmV .max (.p (.int k m)) (.p (.int k' n)) K = K (.p (.int k (if n > m then n else m))) := rfl
theorem mm_min {k k' : IntKind} {m n : Int} : mmV .min (.p (.int k m)) (.p (.int k' n)) K = K (.p (.int k (if n < m then n else m))) := rfl
theorem fa_ptr {r off f : Nat} : fieldAddrV tab t (.ptr r off) f K = (match tab t with
    | some d => match d.k with
      | .struct fs => match fs[f]? with
        | some (o, ft) => match tab ft with
          | some _ => K (.ptr r (off + o))
          | none => False
        | none => False
      | _ => False
    | none => False) := rfl
theorem fa_fp {cs : List PV} {f : Nat} : fieldAddrV tab t (.fp cs) f K = (match tab t with
    | some d => match d.k with
      | .struct fs => match fs[f]? with
        | some (o, ft) => match tab ft with
          | some _ => o ≤ cs.length ∧ K (.fp (cs.drop o))
          | none => False
        | none => False
      | _ => False
    | none => False) := rfl
theorem fd_agg {vs : List AV} {f : Nat} : fieldV tab t (.agg vs) f K = (match tab t with
    | some d => match d.k with
      | .struct fs => match fs[f]? with
        | some (o, ft) => partV tab vs o ft K
        | none => False
      | _ => False
    | none => False) := rfl
end
theorem cells_agg {vs : List AV} : (AV.agg vs).cells = some vs := rfl
theorem cells_p {v : PV} : (AV.p v).cells = some [.p v] := rfl
theorem cells_sl {r sz off len : Nat} : (AV.sl r sz off len).cells = some [.sl r sz off len] := rfl
theorem cells_ptr {r off : Nat} : (AV.ptr r off).cells = some [.ptr r off] := rfl
theorem cells_fn {f : Nat} {caps : List AV} : (AV.fn f caps).cells = some [.fn f caps] := rfl
theorem cells_nilp : AV.nilp.cells = some [.nilp] := rfl
theorem cells_fp {cs : List PV} : (AV.fp cs).cells = some [.fp cs] := rfl
theorem le_refl_true (H : Heap) : Heap.le H H = True := eq_true (Heap.le_refl H)
theorem and_imp' {a b c : Prop} : (a ∧ b → c) = (a → b → c) := propext and_imp
theorem HasBody.mk {P : Program} {f : Nat} {fn : Func} (hf : P.funcs[f]? = some fn) {c : Code} (hc : fn.body = some c) (hn : (fn.name == "runtime.NumGoroutine") = false) : HasBody P f := ⟨fn, c, hf, hc, hn⟩
end Go.Sep
namespace Go.Sep
open Go Go.RowKit
theorem vw0 : type_of% (And.intro @condV_dec (And.intro @condV_not (And.intro @condV_b (And.intro @condV_u (And.intro @pickV_b (And.intro @eqnil_sl (And.intro @neqnil_sl (And.intro @grdV_t (And.intro @grdV_f (And.intro @callF_fn (And.intro @indexAddr_sl (And.intro @indexAddr_own (And.intro @bin_add (And.intro @bin_sub (And.intro @bin_mul (And.intro @bin_and (And.intro @bin_or (And.intro @bin_xor (And.intro @bin_andNot (And.intro @bin_quo (And.intro @bin_rem (And.intro @bin_shl (And.intro @bin_shr (And.intro @bin_eql (And.intro @bin_neq (And.intro @bin_lss (And.intro @bin_leq (@bin_gtr)))))))))))))))))))))))))))) := And.intro @condV_dec (And.intro @condV_not (And.intro @condV_b (And.intro @condV_u (And.intro @pickV_b (And.intro @eqnil_sl (And.intro @neqnil_sl (And.intro @grdV_t (And.intro @grdV_f (And.intro @callF_fn (And.intro @indexAddr_sl (And.intro @indexAddr_own (And.intro @bin_add (And.intro @bin_sub (And.intro @bin_mul (And.intro @bin_and (And.intro @bin_or (And.intro @bin_xor (And.intro @bin_andNot (And.intro @bin_quo (And.intro @bin_rem (And.intro @bin_shl (And.intro @bin_shr (And.intro @bin_eql (And.intro @bin_neq (And.intro @bin_lss (And.intro @bin_leq (@bin_gtr)))))))))))))))))))))))))))
theorem vw1 : type_of% (And.intro @bin_geq (And.intro @bin_bool (And.intro @eqV_bool (And.intro @bin_agg (And.intro @eqV_agg (And.intro @un_not (And.intro @un_neg (And.intro @un_xor (And.intro @ext_tup (And.intro @load_fp (And.intro @load_same (And.intro @load_ne (And.intro @store_same (And.intro @store_ne (And.intro @box_agg (And.intro @box_p (And.intro @box_sl (And.intro @box_ptr (And.intro @box_fn (And.intro @fill_nil (And.intro @fill_p (And.intro @fill_sl (And.intro @fill_ptr (And.intro @fill_fn (And.intro @fill_esl (And.intro @fill_agg (And.intro @len_p (@len_sl)))))))))))))))))))))))))))) := And.intro @bin_geq (And.intro @bin_bool (And.intro @eqV_bool (And.intro @bin_agg (And.intro @eqV_agg (And.intro @un_not (And.intro @un_neg (And.intro @un_xor (And.intro @ext_tup (And.intro @load_fp (And.intro @load_same (And.intro @load_ne (And.intro @store_same (And.intro @store_ne (And.intro @box_agg (And.intro @box_p (And.intro @box_sl (And.intro @box_ptr (And.intro @box_fn (And.intro @fill_nil (And.intro @fill_p (And.intro @fill_sl (And.intro @fill_ptr (And.intro @fill_fn (And.intro @fill_esl (And.intro @fill_agg (And.intro @len_p (@len_sl)))))))))))))))))))))))))))
theorem vw2 : type_of% (And.intro @len_esl (And.intro @nc_ptr (And.intro @nc_fp (And.intro @nc_fn (And.intro @nc_sl (And.intro @nc_p (And.intro @conv_int (And.intro @mm_max (And.intro @mm_min (And.intro @fa_ptr (And.intro @fa_fp (And.intro @fd_agg (And.intro @cells_agg (And.intro @cells_p (And.intro @cells_sl (And.intro @cells_ptr (And.intro @cells_fn (And.intro @cells_nilp (And.intro @cells_fp (And.intro @Heap.set_same (And.intro @Heap.set_ne (And.intro @Heap.over2 (And.intro @Heap.over3 (And.intro @Heap.over4 (And.intro @Heap.set_set (And.intro @Heap.set_none (And.intro @and_imp' (@true_and)))))))))))))))))))))))))))) := And.intro @len_esl (And.intro @nc_ptr (And.intro @nc_fp (And.intro @nc_fn (And.intro @nc_sl (And.intro @nc_p (And.intro @conv_int (And.intro @mm_max (And.intro @mm_min (And.intro @fa_ptr (And.intro @fa_fp (And.intro @fd_agg (And.intro @cells_agg (And.intro @cells_p (And.intro @cells_sl (And.intro @cells_ptr (And.intro @cells_fn (And.intro @cells_nilp (And.intro @cells_fp (And.intro @Heap.set_same (And.intro @Heap.set_ne (And.intro @Heap.over2 (And.intro @Heap.over3 (And.intro @Heap.over4 (And.intro @Heap.set_set (And.intro @Heap.set_none (And.intro @and_imp' (@true_and)))))))))))))))))))))))))))
theorem vw3 : type_of% (And.intro @and_true (And.intro @Bool.not_true (And.intro @Bool.not_false (And.intro @true_implies (And.intro @false_implies (And.intro @Bool.true_eq_false (And.intro @Bool.false_eq_true (And.intro @Nat.le_refl (And.intro @Nat.zero_le (And.intro @Nat.zero_add (And.intro @Nat.add_zero (And.intro @sliceV_sl (And.intro @sliceV_own (And.intro @sliceV_nil (And.intro @Int.toNat_natCast (And.intro @Bool.and_true (And.intro @Bool.and_false (And.intro @Bool.true_and (And.intro @Bool.false_and (And.intro @Bool.and_self (And.intro @Bool.false_beq (And.intro @Bool.true_beq (And.intro @Bool.not_not (And.intro @decide_true (And.intro @decide_false (And.intro @le_refl_true (And.intro @Int.sub_zero (@decide_eq_true_eq)))))))))))))))))))))))))))) := And.intro @and_true (And.intro @Bool.not_true (And.intro @Bool.not_false (And.intro @true_implies (And.intro @false_implies (And.intro @Bool.true_eq_false (And.intro @Bool.false_eq_true (And.intro @Nat.le_refl (And.intro @Nat.zero_le (And.intro @Nat.zero_add (And.intro @Nat.add_zero (And.intro @sliceV_sl (And.intro @sliceV_own (And.intro @sliceV_nil (And.intro @Int.toNat_natCast (And.intro @Bool.and_true (And.intro @Bool.and_false (And.intro @Bool.true_and (And.intro @Bool.false_and (And.intro @Bool.and_self (And.intro @Bool.false_beq (And.intro @Bool.true_beq (And.intro @Bool.not_not (And.intro @decide_true (And.intro @decide_false (And.intro @le_refl_true (And.intro @Int.sub_zero (@decide_eq_true_eq)))))))))))))))))))))))))))
theorem vw4 : type_of% (And.intro @decide_eq_false_iff_not (And.intro @Bool.not_eq_true' (And.intro @Bool.not_eq_false' (And.intro @Bool.not_eq_true (And.intro @Bool.not_eq_false (And.intro @Nat.lt_irrefl (And.intro @not_false_eq_true (@not_true_eq_false)))))))) := And.intro @decide_eq_false_iff_not (And.intro @Bool.not_eq_true' (And.intro @Bool.not_eq_false' (And.intro @Bool.not_eq_true (And.intro @Bool.not_eq_false (And.intro @Nat.lt_irrefl (And.intro @not_false_eq_true (@not_true_eq_false)))))))
theorem vu0.{u} : type_of% (And.intro @implies_true.{u} (And.intro @Option.some.injEq.{u} (And.intro @forall_eq'.{u} (And.intro @List.append_nil.{u} (And.intro @List.cons_append.{u} (And.intro @List.nil_append.{u} (And.intro @if_true.{u} (And.intro @if_false.{u} (And.intro @ite_true.{u} (And.intro @ite_false.{u} (And.intro @List.length_cons.{u} (And.intro @List.length_nil.{u} (And.intro @List.length_append.{u} (And.intro @List.getElem?_cons_zero.{u} (And.intro @List.getElem?_cons_succ.{u} (And.intro @Option.isSome_some.{u} (And.intro @Option.isSome_none.{u} (And.intro @List.getD_cons_succ.{u} (And.intro @List.getD_cons_zero.{u} (And.intro @List.set_cons_zero.{u} (And.intro @List.set_cons_succ.{u} (And.intro @List.take_succ_cons.{u} (And.intro @List.take_zero.{u} (And.intro @List.take_nil.{u} (And.intro @List.drop_succ_cons.{u} (And.intro @List.drop_zero.{u} (And.intro @List.headD_cons.{u} (@List.all_cons.{u})))))))))))))))))))))))))))) := And.intro @implies_true.{u} (And.intro @Option.some.injEq.{u} (And.intro @forall_eq'.{u} (And.intro @List.append_nil.{u} (And.intro @List.cons_append.{u} (And.intro @List.nil_append.{u} (And.intro @if_true.{u} (And.intro @if_false.{u} (And.intro @ite_true.{u} (And.intro @ite_false.{u} (And.intro @List.length_cons.{u} (And.intro @List.length_nil.{u} (And.intro @List.length_append.{u} (And.intro @List.getElem?_cons_zero.{u} (And.intro @List.getElem?_cons_succ.{u} (And.intro @Option.isSome_some.{u} (And.intro @Option.isSome_none.{u} (And.intro @List.getD_cons_succ.{u} (And.intro @List.getD_cons_zero.{u} (And.intro @List.set_cons_zero.{u} (And.intro @List.set_cons_succ.{u} (And.intro @List.take_succ_cons.{u} (And.intro @List.take_zero.{u} (And.intro @List.take_nil.{u} (And.intro @List.drop_succ_cons.{u} (And.intro @List.drop_zero.{u} (And.intro @List.headD_cons.{u} (@List.all_cons.{u})))))))))))))))))))))))))))
theorem vu1.{u} : type_of% (And.intro @List.all_nil.{u} (And.intro @beq_self_eq_true.{u} (And.intro @List.drop_zero.{u} (@ne_eq.{u})))) := And.intro @List.all_nil.{u} (And.intro @beq_self_eq_true.{u} (And.intro @List.drop_zero.{u} (@ne_eq.{u})))
theorem cellAll : (∀ v, AV.isCell (.p v) = true) ∧ AV.isCell .any = false ∧ (∀ r o, AV.isCell (.ptr r o) = true) ∧ (∀ c, AV.isCell (.fp c) = true) ∧ AV.isCell .nilp = true ∧ (∀ r z o l, AV.isCell (.sl r z o l) = true) ∧
    (∀ f c, AV.isCell (.fn f c) = true) ∧ AV.isCell .nilfn = true ∧ (∀ vs, AV.isCell (.agg vs) = false) ∧ (∀ vs, AV.isCell (.tup vs) = false) ∧ AV.isCell .esl = true ∧ AV.isCell .ub = true := by
  refine ⟨fun _ => rfl, rfl, fun _ _ => rfl, fun _ => rfl, rfl, fun _ _ _ _ => rfl, fun _ _ => rfl, rfl, fun _ => rfl, fun _ => rfl, rfl, rfl⟩
theorem aggAll : (∀ k, TK.agg (.int k) = false) ∧ TK.agg .bool = false ∧ TK.agg .str = false ∧ (∀ e, TK.agg (.slice e) = false) ∧ (∀ fs, TK.agg (.struct fs) = true) ∧ (∀ e, TK.agg (.ptr e) = false) ∧ TK.agg .func = false ∧ (∀ n e, TK.agg (.arr n e) = true) := by
  refine ⟨fun _ => rfl, rfl, rfl, fun _ => rfl, fun _ => rfl, fun _ => rfl, rfl, fun _ _ => rfl⟩
theorem vd : type_of% (And.intro @allocV.eq_1 (And.intro @splice.eq_1 (And.intro @partV.eq_1 (And.intro @buildV.eq_1 (And.intro @bndV.eq_1 (And.intro @bndV.eq_2 (And.intro @numV.eq_1 (And.intro @cap_nil (And.intro @eI.eq_1 (And.intro @eU.eq_1 (And.intro @e8.eq_1 (And.intro @eB.eq_1 (And.intro @cellAll (@aggAll)))))))))))))) := And.intro @allocV.eq_1 (And.intro @splice.eq_1 (And.intro @partV.eq_1 (And.intro @buildV.eq_1 (And.intro @bndV.eq_1 (And.intro @bndV.eq_2 (And.intro @numV.eq_1 (And.intro @cap_nil (And.intro @eI.eq_1 (And.intro @eU.eq_1 (And.intro @e8.eq_1 (And.intro @eB.eq_1 (And.intro @cellAll (@aggAll)))))))))))))
theorem vv.{u, v} : type_of% (And.intro @List.map_cons.{u, v} (And.intro @List.map_nil.{u, v} (And.intro @List.length_map.{u, v} (And.intro @Option.bind_some.{u, v} (@Option.map_some.{u, v}))))) := And.intro @List.map_cons.{u, v} (And.intro @List.map_nil.{u, v} (And.intro @List.length_map.{u, v} (And.intro @Option.bind_some.{u, v} (@Option.map_some.{u, v}))))
theorem vz : type_of% (And.intro vw0 (And.intro vw1 (And.intro vw2 (And.intro vw3 (And.intro vw4 vd))))) := And.intro vw0 (And.intro vw1 (And.intro vw2 (And.intro vw3 (And.intro vw4 vd))))
theorem vu.{u} : type_of% (And.intro vu0.{u} vu1.{u}) := And.intro vu0.{u} vu1.{u}
end Go.Sep
