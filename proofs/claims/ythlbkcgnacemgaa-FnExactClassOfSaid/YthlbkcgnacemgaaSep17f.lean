/- Sep, part 17f: what an operation does may be done beside a block that it does not know. -/
import Derived.Test.YthlbkcgnacemgaaSep17
namespace Go.Sep
open Go Go.RowKit

/-- The same, with the block r beside it. -/
def Kf (K : AV → Heap → Prop) (r : Nat) (z : List AV) : AV → Heap → Prop := fun v H'' => ∃ H', H'' = H'.set r z ∧ H' r = none ∧ K v H'

theorem Wk.isNone {v v' : AV} {H H' : Heap} (h : Wk v H v' H') {r : Nat} (hr : H r = none) : H' r = none := by
  induction h with
  | refl => exact hr
  | forget hl =>
    rename_i v H1 H2
    cases hh : H2 r with
    | none => rfl
    | some b => rw [hl r b hh] at hr; cases hr
  | freeze h1 h2 =>
    rename_i v v' H q cells
    by_cases e : r = q
    · subst e; exact Heap.del_same _ _
    · rw [Heap.del_other e]; exact hr
  | val => exact hr
  | cell h1 h2 h3 =>
    rename_i v H q cs cs'
    rw [Heap.set_other (fun e => by rw [← e, hr] at h1; cases h1)]; exact hr
  | frzIn h1 h2 h3 h4 h5 h6 =>
    rename_i v v' H q s cells cs cs'
    rw [Heap.set_other (fun e => by rw [← e, hr] at h2; cases h2)]
    by_cases e : r = q
    · subst e; exact Heap.del_same _ _
    · rw [Heap.del_other e]; exact hr
  | trans h k ih1 ih2 => exact ih2 (ih1 hr)
theorem Wk.frame {v v' : AV} {H H' : Heap} (h : Wk v H v' H') {r : Nat} {z : List AV} : H r = none → Wk v (H.set r z) v' (H'.set r z) := by
  induction h with
  | refl => exact fun _ => .refl _ _
  | forget hl => exact fun _ => .forget (Heap.set_le hl)
  | freeze h1 h2 =>
    intro hr
    rename_i v v' H q cells
    have hne : q ≠ r := fun e => by rw [e, hr] at h1; cases h1
    have := Wk.freeze (H := H.set r z) (r := q) (cells := cells) (by rw [Heap.set_other hne]; exact h1) h2
    rw [Heap.del_set_other hne.symm] at this
    exact this
  | val h => exact fun _ => .val h
  | cell h1 h2 h3 =>
    intro hr
    rename_i v H q cs cs'
    have hne : q ≠ r := fun e => by rw [e, hr] at h1; cases h1
    rw [← Heap.set_comm hne.symm]
    exact .cell (by rw [Heap.set_other hne]; exact h1) h2 h3
  | frzIn h1 h2 h3 h4 h5 h6 =>
    intro hr
    rename_i v v' H q s cells cs cs'
    have hne : q ≠ r := fun e => by rw [e, hr] at h1; cases h1
    have hns : s ≠ r := fun e => by rw [e, hr] at h2; cases h2
    rw [← Heap.set_comm hns.symm, ← Heap.del_set_other hne.symm]
    exact .frzIn (by rw [Heap.set_other hne]; exact h1) (by rw [Heap.set_other hns]; exact h2) h3 h4 h5 h6
  | trans h k ih1 ih2 => exact fun hr => .trans (ih1 hr) (ih2 (h.isNone hr))
theorem wkK.frame {K : AV → Heap → Prop} {v : AV} {H : Heap} (h : wkK K v H) {r : Nat} {z : List AV} (hr : H r = none) : wkK (Kf K r z) v (H.set r z) := by
  obtain ⟨v', H', hw, hk⟩ := h
  exact ⟨v', H'.set r z, hw.frame hr, H', rfl, hw.isNone hr, hk⟩

section
variable {H : Heap} {r : Nat} {z : List AV} (hr : H r = none)
include hr
theorem set_get {q : Nat} {b : List AV} (h : H q = some b) : (H.set r z) q = some b := by
  rw [Heap.set_other (fun e => by rw [e, hr] at h; cases h)]; exact h
theorem ptrReads_frame {a : AV} {n : Nat} {K : List AV → Prop} (h : ptrReads H a n K) : ptrReads (H.set r z) a n K := by
  unfold ptrReads at *
  cases a <;> first | exact h | skip
  rename_i q off
  dsimp only at *
  cases hq : H q with
  | none => rw [hq] at h; exact h.elim
  | some cs => rw [hq] at h; rw [set_get hr hq]; exact h
theorem loadV_frame {tab : Tab} {t : Nat} {a : AV} {K : AV → Prop} (h : loadV tab t a H K) : loadV tab t a (H.set r z) K := by
  revert h
  unfold loadV
  cases tab t with
  | none => exact id
  | some d => exact ptrReads_frame hr
theorem storeV_frame {tab : Tab} {t : Nat} {a v : AV} {K : AV → Heap → Prop} (h : storeV tab t a v H (K .any ·)) : storeV tab t a v (H.set r z) (Kf K r z .any ·) := by
  revert h
  unfold storeV
  cases tab t <;> first | exact id | skip
  cases a <;> first | exact id | (cases v.cells <;> exact id) | skip
  cases v.cells <;> first | exact id | skip
  rename_i d q off vs
  intro h
  dsimp only at *
  cases hq : H q with
  | none => rw [hq] at h; exact h.elim
  | some cs =>
    rw [hq] at h; rw [set_get hr hq]
    have hne : q ≠ r := fun e => by rw [e, hr] at hq; cases hq
    exact ⟨h.1, h.2.1, h.2.2.1, H.set q (splice cs off vs), Heap.set_comm hne.symm _ _, by rw [Heap.set_other hne.symm]; exact hr, h.2.2.2⟩
theorem new_frame {X : Nat → AV} {cs : List AV} {K : AV → Heap → Prop} (h : ∀ q, H q = none → K (X q) (H.set q cs)) : ∀ q, (H.set r z) q = none → Kf K r z (X q) ((H.set r z).set q cs) := by
  intro q hq
  rw [Heap.set_none] at hq
  exact ⟨H.set q cs, Heap.set_comm (Ne.symm hq.1) _ _, by rw [Heap.set_other (Ne.symm hq.1)]; exact hr, h q hq.2⟩
theorem newK_frame {X : Nat → AV} {cs : List AV} {K : AV → Heap → Prop} (h : ∀ q, H q = none → wkK K (X q) (H.set q cs)) : ∀ q, (H.set r z) q = none → wkK (Kf K r z) (X q) ((H.set r z).set q cs) := by
  intro q hq
  rw [Heap.set_none] at hq
  rw [Heap.set_comm (Ne.symm hq.1)]
  exact (h q hq.2).frame (by rw [Heap.set_other (Ne.symm hq.1)]; exact hr)
theorem srcV_frame {sz : Nat} {x : AV} {K : List AV → Nat → Prop} (h : srcV H sz x K) : srcV (H.set r z) sz x K := by
  unfold srcV at *
  cases x with
  | p v => cases v <;> exact h
  | sl q sz' off len =>
    dsimp only at *
    cases hq : H q with
    | none => rw [hq] at h; exact h.2.elim
    | some cs => rw [hq] at h; rw [set_get hr hq]; exact h
  | _ => exact h
theorem baseV_frame {sz : Nat} {x : AV} {K K' : List AV → Nat → Heap → Prop} (k : ∀ o n H1, H1 r = none → (∀ q, H q = none → H1 q = none) → K o n H1 → K' o n (H1.set r z)) (h : baseV H sz x K) : baseV (H.set r z) sz x K' := by
  unfold baseV at *
  cases x <;> first | exact h | skip
  · rename_i v
    cases v <;> first | exact h | exact k _ _ _ hr (fun _ e => e) h
  · rename_i q sz' off len
    dsimp only at *
    cases hq : H q with
    | none => rw [hq] at h; exact h.2.elim
    | some cs =>
      rw [hq] at h; rw [set_get hr hq]
      have hne : q ≠ r := fun e => by rw [e, hr] at hq; cases hq
      refine ⟨h.1, h.2.1, ?_⟩
      rw [Heap.del_set_other hne.symm]
      refine k _ _ _ (by rw [Heap.del_other hne.symm]; exact hr) (fun q' e => ?_) h.2.2
      by_cases e' : q' = q
      · subst e'; exact Heap.del_same _ _
      · rw [Heap.del_other e']; exact e
  · exact k _ _ _ hr (fun _ e => e) h
theorem appendV_frame {tab : Tab} {t0 t1 : Nat} {s x : AV} {K : AV → Heap → Prop} (h : appendV tab t0 t1 s x H (wkK K)) : appendV tab t0 t1 s x (H.set r z) (wkK (Kf K r z)) := by
  revert h
  unfold appendV
  cases tab t0 <;> cases tab t1 <;> first | exact id | skip
  rename_i d d1
  dsimp only
  cases d.k <;> cases d1.k <;> first | exact id | skip
  rename_i e e1
  dsimp only
  cases tab e <;> first | exact id | skip
  rename_i ed
  intro h
  dsimp only at *
  refine srcV_frame hr (srcV_mono (fun vs n hb => baseV_frame hr (fun o m H1 h1 h2 hh => ?_) hb) h)
  refine ⟨hh.1, hh.2.1, hh.2.2.1, fun q hq => ?_⟩
  rw [Heap.set_none] at hq
  rw [Heap.set_comm (Ne.symm hq.1)]
  exact (hh.2.2.2 q hq.2).frame (by rw [Heap.set_other (Ne.symm hq.1)]; exact h1)
end

theorem opV_frame {P : Program} {tab : Tab} {o : Op} {env : List AV} {H : Heap} {K : AV → Heap → Prop} {r : Nat} {z : List AV} (hr : H r = none) (h : opV P tab o env H K) : opV P tab o env (H.set r z) (Kf K r z) := by
  by_cases hn : nhOp o = true
  · cases hrd : rdOp o with
    | false =>
      obtain ⟨S, u, hl⟩ := nh_pure (P := P) (tab := tab) hn hrd env
      obtain ⟨h1, h2⟩ := (hl H K).1 h
      exact (hl _ _).2 ⟨h1, H, rfl, hr, h2⟩
    | true =>
      cases o <;> first | (simp only [rdOp] at hrd; cases hrd; done) | skip
      rename_i t a
      simp only [opV] at h ⊢
      obtain ⟨S, u, hl⟩ := loadV_lin tab t (ev env a) H
      obtain ⟨h1, h2⟩ := (hl _).1 h
      have h3 := loadV_frame (z := z) hr ((hl (fun v => v = u)).2 ⟨h1, rfl⟩)
      obtain ⟨S', u', hl'⟩ := loadV_lin tab t (ev env a) (H.set r z)
      obtain ⟨h4, h5⟩ := (hl' _).1 h3
      exact (hl' _).2 ⟨h4, H, rfl, hr, h5 ▸ h2⟩
  · cases o <;> first | (simp only [nhOp, not_true_eq_false] at hn; done) | (simp only [opV] at h; done) | (simp only [opV] at h ⊢; exact h.elim) | skip
    case alloc t =>
      simp only [opV, allocV] at h ⊢
      revert h
      cases tab t with
      | none => exact id
      | some d => exact new_frame (X := fun q => .ptr q 0) hr
    case box t x =>
      simp only [opV, boxV] at h ⊢
      revert h
      cases (ev env x).cells with
      | none => exact id
      | some d => exact new_frame (X := fun q => .ptr q 0) hr
    case buildSlice t n ps =>
      simp only [opV, buildSliceV] at h ⊢
      revert h
      cases tab t <;> first | exact id | skip
      rename_i d
      dsimp only
      cases d.k <;> first | exact id | skip
      rename_i e
      dsimp only
      cases tab e <;> first | exact id | skip
      rename_i ed
      intro h
      dsimp only at *
      refine ⟨h.1, ?_⟩
      have h2 := h.2
      generalize fillV (fun i => some (i * ed.size, ed.size)) (zerosA n ed.zero) (List.map (fun p => (p.fst, ev env p.snd)) ps.toList) = fv at h2 ⊢
      cases fv with
      | none => exact h2
      | some cs => exact newK_frame (X := fun q => .sl q ed.size 0 n) hr h2
    case store t a x =>
      simp only [opV] at h ⊢
      exact storeV_frame hr h
    case makeSlice t l c =>
      simp only [opV, makeSliceV] at h ⊢
      revert h
      cases tab t <;> first | exact id | skip
      rename_i d
      dsimp only
      cases d.k <;> first | exact id | skip
      rename_i e
      dsimp only
      cases tab e <;> first | exact id | skip
      rename_i ed
      intro h
      dsimp only at *
      exact numV.mono (fun n h => numV.mono (fun m h => ⟨h.1, h.2.1, h.2.2.1, h.2.2.2.1, new_frame (X := fun q => .sl q ed.size 0 n.toNat) hr h.2.2.2.2⟩) h) h
    case call c =>
      simp only [opV] at h ⊢
      unfold callV at *
      revert h
      split
      · rename_i hc _; simp [nhOp, hc] at hn
      · split
        · exact appendV_frame hr
        · exact id
      · rename_i b x y _ hc _
        intro h
        unfold mmV at *
        revert h
        split
        · exact fun h => ⟨H, rfl, hr, h⟩
        · exact fun h => ⟨H, rfl, hr, h⟩
        · exact id
      · split
        · exact fun h => h.frame hr
        · exact id
      · exact id

theorem stV_frame {P : Program} {tab : Tab} {x : XOp} {env : List AV} {H : Heap} {K : AV → Heap → Prop} {r : Nat} {z : List AV} (hr : H r = none) (h : stV P tab x env H K) : stV P tab x env (H.set r z) (Kf K r z) := by
  cases x with
  | run d o => exact opV_frame hr h
  | guarded g want d o =>
    simp only [stV] at *
    split at h
    · exact ⟨fun e => opV_frame hr (h.1 e), fun e => ⟨H, rfl, hr, h.2 e⟩⟩
    · exact ⟨H, rfl, hr, h⟩
    · exact h
  | bad => exact h
end Go.Sep
