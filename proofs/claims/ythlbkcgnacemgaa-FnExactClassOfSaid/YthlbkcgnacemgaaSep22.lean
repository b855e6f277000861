/- Sep, part 22: regions that draw their order, with the operations written out in the canonical order. -/
import Derived.Test.YthlbkcgnacemgaaSep21
namespace Go.Sep
open Go Go.RowKit

abbrev DCanon := List (XOp × List XOp)
def psV (P : Program) (tab : Tab) : List XOp → List AV → Heap → Prop
  | [], _, _ => True
  | a :: ps, env, H => (stV P tab a env H fun u _ => Keeps env a.d u) ∧ psV P tab ps env H
def vcY (P : Program) (tab : Tab) (Q : List AV → Heap → Prop) : DCanon → List AV → Heap → Prop
  | [], env, H => Q env H
  | (.run d o, ps) :: rest, env, H => opV P tab o env H fun v H' => psV P tab ps (setD env d v) H' ∧ vcY P tab Q rest (setD env d v) H'
  | (.guarded g want d o, ps) :: rest, env, H =>
    match env.getD g .any with
    | .p (.bool b) =>
      gd b want (opV P tab o (env.set g (.p (.bool want))) H fun v H' => psV P tab ps (setD (env.set g (.p (.bool want))) d v) H' ∧ vcY P tab Q rest (setD (env.set g (.p (.bool want))) d v) H')
        (psV P tab ps (setD (env.set g (.p (.bool (!want)))) d .und) H ∧ vcY P tab Q rest (setD (env.set g (.p (.bool (!want)))) d .und) H)
    | .tup [] => psV P tab ps (setD env d .und) H ∧ vcY P tab Q rest (setD env d .und) H
    | _ => False
  | (.bad, _) :: _, _, _ => False

def dOf (l : DOps) (c : Canon) : DCanon := c.map fun p => (opAt l p.1, p.2.map (opAt l))

theorem psV_all {P : Program} {tab : Tab} {l : DOps} {env : List AV} {H : Heap} : ∀ {ps : List Nat}, psV P tab (ps.map (opAt l)) env H → ∀ a ∈ ps, stV P tab (opAt l a) env H fun u _ => Keeps env (opAt l a).d u := by
  intro ps
  induction ps with
  | nil => intro _ a ha; simp at ha
  | cons b ps ih =>
    rintro ⟨h1, h2⟩ a ha
    rcases List.mem_cons.1 ha with rfl | ha
    · exact h1
    · exact ih h2 a ha

theorem set_getD_self {env : List AV} {g : Nat} {v : AV} (h : env.getD g .any = v) : env.set g v = env := by
  apply List.ext_getElem?
  intro i
  rw [List.getElem?_set]
  split
  · rename_i e; subst e
    split
    · rename_i hl; simp only [List.getD, List.getElem?_eq_getElem hl, Option.getD_some] at h; rw [List.getElem?_eq_getElem hl, h]
    · rename_i hl; rw [List.getElem?_eq_none (by omega)]
  · rfl

theorem vcY_vcS {P : Program} {tab : Tab} {l : DOps} {Q : List AV → Heap → Prop} : ∀ (c : Canon) (env : List AV) (H : Heap), vcY P tab Q (dOf l c) env H → vcS P tab l Q c env H := by
  intro c
  induction c with
  | nil => intro env H h; exact h
  | cons p c ih =>
    obtain ⟨i, ps⟩ := p
    intro env H h
    simp only [dOf, List.map_cons] at h
    unfold vcS
    cases hx : opAt l i with
    | run d o =>
      rw [hx] at h
      simp only [vcY] at h
      simp only [stV, XOp.d]
      refine opV_mono' (fun v H' hh => ⟨psV_all hh.1, ih _ _ hh.2⟩) h
    | guarded g want d o =>
      rw [hx] at h
      simp only [vcY] at h
      split at h
      · rename_i b hb
        simp only [stV, XOp.d, hb]
        refine ⟨fun e => ?_, fun e => ?_⟩
        · have hh := h.1 e
          rw [set_getD_self (by rw [hb, e])] at hh
          exact opV_mono' (fun v H' hh => ⟨psV_all hh.1, ih _ _ hh.2⟩) hh
        · have hh := h.2 e
          rw [set_getD_self (by rw [hb, e])] at hh
          exact ⟨psV_all hh.1, ih _ _ hh.2⟩
      · rename_i hb
        simp only [stV, XOp.d, hb]
        exact ⟨psV_all h.1, ih _ _ h.2⟩
      · exact h.elim
    | bad => rw [hx] at h; exact h.elim

theorem CX.drawD {P : Program} {tab : Tab} (hT : tab.Ok P) (hm : P.follows .mixedOrders = true) {l : DOps} {Q : Post} {env : List AV} {H : Heap} (A : List (List Nat)) (c : Canon) (N : Nat) (hN : env.length = N)
    (hchk : (okA l A && rangeOk l N && permOk l.length c && good tab l A c) = true) (d : DCanon) (hd : dOf l c = d) (h : vcY P tab (Q .normal) d env H) : CX P (.draw l) Q env H :=
  CX.draw hT hm A c N hN hchk (vcY_vcS _ _ _ (hd ▸ h))
end Go.Sep
