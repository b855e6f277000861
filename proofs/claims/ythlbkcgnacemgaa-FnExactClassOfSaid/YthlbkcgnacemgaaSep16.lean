/- Sep, part 16: which operations only reckon and read, and on which slots an operation hangs. -/
import Derived.Test.YthlbkcgnacemgaaSep15
namespace Go.Sep
open Go Go.RowKit

def nhOp : Op → Bool
  | .move _ => true
  | .assign _ => true
  | .pick _ _ _ => true
  | .build _ _ => true
  | .load _ _ => true
  | .nilCheck _ => true
  | .binOp _ _ _ _ _ => true
  | .unOp _ _ _ => true
  | .convert _ _ _ => true
  | .makeFunc _ _ _ => true
  | .slice _ _ _ _ _ => true
  | .fieldAddr _ _ _ => true
  | .field _ _ _ => true
  | .indexAddr _ _ _ => true
  | .index _ _ _ => true
  | .extract _ _ => true
  | .call c => match c.callee with
    | .builtin .len => true
    | .builtin .max => true
    | .builtin .min => true
    | _ => false
  | _ => false

def rdOp : Op → Bool
  | .load _ _ => true
  | _ => false

/-- It comes to one value, if some condition holds. -/
def Lin (F : (AV → Prop) → Prop) : Prop := ∃ (S : Prop) (u : AV), ∀ K, F K ↔ (S ∧ K u)

theorem Lin.k (u : AV) : Lin (fun K => K u) := ⟨True, u, fun K => by simp⟩
theorem Lin.no : Lin (fun _ => False) := ⟨False, .any, fun K => by simp⟩
theorem Lin.and {A : Prop} {F : (AV → Prop) → Prop} (h : Lin F) : Lin (fun K => A ∧ F K) := by
  obtain ⟨S, u, h⟩ := h; exact ⟨A ∧ S, u, fun K => by simp only [h K, and_assoc]⟩
theorem Lin.congr {F G : (AV → Prop) → Prop} (h : Lin G) (e : ∀ K, F K ↔ G K) : Lin F := by
  obtain ⟨S, u, h⟩ := h; exact ⟨S, u, fun K => (e K).trans (h K)⟩
theorem Lin.numV {a : AV} {G : Int → (AV → Prop) → Prop} (h : ∀ n, Lin (G n)) : Lin (fun K => numV a fun n => G n K) := by
  unfold Sep.numV; split
  · exact h _
  · exact Lin.no
theorem Lin.bndV {o : Option AV} {m : Int} {G : Int → (AV → Prop) → Prop} (h : ∀ n, Lin (G n)) : Lin (fun K => bndV o m fun n => G n K) := by
  cases o with
  | none => exact h m
  | some a => exact Lin.numV h
theorem Lin.orX {A : Prop} {B : Prop} {u v : AV} (hAB : A → ¬ B) : Lin (fun K => (A ∧ K u) ∨ (B ∧ K v)) := by
  by_cases hA : A
  · exact ⟨True, u, fun K => by simp [hA, hAB hA]⟩
  · exact ⟨B, v, fun K => by simp [hA]⟩

theorem unkV_lin (tab : Tab) (t : Nat) (x y : AV) : Lin (fun K => unkV tab t x y (K .ub)) := by
  unfold unkV; repeat' split
  all_goals first | exact Lin.no | exact Lin.and (Lin.k _)
theorem binV_lin (tab : Tab) (op : BinOp) (t : Nat) (x y : AV) : Lin (binV tab op t x y) := by
  unfold binV
  split
  · cases op <;> first | exact Lin.and (Lin.k _) | exact Lin.and (Lin.and (Lin.k _))
  · cases op <;> first | exact Lin.no | exact Lin.k _ | exact Lin.and (Lin.k _)
  · split <;> first | exact Lin.no | exact Lin.k _ | exact unkV_lin _ _ _ _
theorem unV_lin (op : UnOp) (x : AV) : Lin (unV op x) := by
  unfold unV; split <;> first | exact Lin.no | exact Lin.k _
theorem convV_lin (tab : Tab) (s d : Nat) (x : AV) : Lin (convV tab s d x) := by
  unfold convV; repeat' split
  all_goals first | exact Lin.no | exact Lin.k _
theorem fieldAddrV_lin (tab : Tab) (t : Nat) (a : AV) (f : Nat) : Lin (fieldAddrV tab t a f) := by
  unfold fieldAddrV; repeat' split
  all_goals first | exact Lin.no | exact Lin.k _ | exact Lin.and (Lin.k _)
theorem fieldV_lin (tab : Tab) (t : Nat) (a : AV) (f : Nat) : Lin (fieldV tab t a f) := by
  unfold fieldV partV; repeat' split
  all_goals first | exact Lin.no | exact Lin.k _ | exact Lin.and (Lin.k _)
theorem indexAddrV_lin (tab : Tab) (t : Nat) (a i : AV) : Lin (indexAddrV tab t a i) := by
  unfold indexAddrV; repeat' split
  all_goals first | exact Lin.no | exact Lin.k _ | exact Lin.and (Lin.and (Lin.and (Lin.k _)))
theorem indexV_lin (tab : Tab) (t : Nat) (a i : AV) : Lin (indexV tab t a i) := by
  unfold indexV; split
  · refine Lin.and ?_
    split
    · exact Lin.and (Lin.and (Lin.k _))
    · exact Lin.no
  · exact Lin.no
theorem extractV_lin (a : AV) (i : Nat) : Lin (extractV a i) := by
  unfold extractV; split <;> first | exact Lin.no | exact Lin.and (Lin.k _)
theorem nilCheckV_lin (a : AV) : Lin (nilCheckV a) := by
  unfold nilCheckV; split <;> first | exact Lin.no | exact Lin.k _
theorem lenV_lin (tab : Tab) (t : Nat) (a : AV) : Lin (lenV tab t a) := by
  unfold lenV; repeat' split
  all_goals first | exact Lin.no | exact Lin.k _
theorem mmV_lin (b : Builtin) (x y : AV) : Lin (mmV b x y) := by
  unfold mmV; split <;> first | exact Lin.no | exact Lin.k _
theorem buildV_lin (tab : Tab) (t : Nat) (ps : List (Nat × AV)) : Lin (buildV tab t ps) := by
  unfold buildV; split
  · split
    · refine Lin.and ?_
      split
      · exact Lin.k _
      · exact Lin.no
    · exact Lin.no
  · exact Lin.no
theorem sliceV_lin (tab : Tab) (t : Nat) (a : AV) (lo hi mx : Option AV) : Lin (sliceV tab t a lo hi mx) := by
  unfold sliceV; split
  · split
    · split
      · split
        · refine Lin.and (Lin.and (Lin.bndV fun l => Lin.bndV fun h => Lin.bndV fun m => Lin.and (Lin.and (Lin.and (Lin.and (Lin.k _))))))
        · refine Lin.and (Lin.bndV fun l => Lin.bndV fun h => Lin.bndV fun m => Lin.and (Lin.and (Lin.and (Lin.and (Lin.and ?_)))))
          refine (Lin.orX (A := mx.isSome = true ∧ m = 0) (B := mx.isSome = true → m ≠ 0) (u := .esl) (v := _) ?_).congr fun K => by rw [and_assoc]
          rintro ⟨h1, h2⟩ h3; exact h3 h1 h2
        · refine Lin.and (Lin.bndV fun l => Lin.bndV fun h => Lin.bndV fun m => Lin.and (Lin.and (Lin.and (Lin.k _))))
        · exact Lin.no
      · exact Lin.no
    · split
      · refine Lin.and (Lin.bndV fun l => Lin.bndV fun h => Lin.and (Lin.and (Lin.and (Lin.k _))))
      · exact Lin.no
    · exact Lin.no
  · exact Lin.no
theorem loadV_lin (tab : Tab) (t : Nat) (a : AV) (H : Heap) : Lin (loadV tab t a H) := by
  unfold loadV ptrReads; split
  · split
    · split
      · exact Lin.and (Lin.k _)
      · exact Lin.no
    · exact Lin.and (Lin.k _)
    · exact Lin.no
  · exact Lin.no

theorem Lin.at {F : (AV → Prop) → Prop} (h : Lin F) (H : Heap) : ∃ (S : Prop) (u : AV), ∀ K : AV → Heap → Prop, F (K · H) ↔ (S ∧ K u H) := by
  obtain ⟨S, u, h⟩ := h; exact ⟨S, u, fun K => h (K · H)⟩
theorem Lin.all {F : (AV → Prop) → Prop} (h : Lin F) : ∃ (S : Prop) (u : AV), ∀ (H : Heap) (K : AV → Heap → Prop), F (K · H) ↔ (S ∧ K u H) := by
  obtain ⟨S, u, h⟩ := h; exact ⟨S, u, fun H K => h (K · H)⟩

/-- An operation that only reckons: it comes to one value, whatever the heap. -/
theorem nh_pure {P : Program} {tab : Tab} {o : Op} (h : nhOp o = true) (hr : rdOp o = false) (env : List AV) : ∃ (S : Prop) (u : AV), ∀ (H : Heap) (K : AV → Heap → Prop), opV P tab o env H K ↔ (S ∧ K u H) := by
  cases o <;> first | (simp only [nhOp] at h; cases h; done) | (simp only [rdOp] at hr; cases hr; done) | skip
  case move x => exact (Lin.k (ev env x)).all
  case assign x => exact (Lin.k (ev env x)).all
  case pick c a b =>
    simp only [opV]
    split
    · rename_i t _
      cases t with
      | true => exact ⟨True, ev env a, fun H K => by simp [pk]⟩
      | false => exact ⟨True, ev env b, fun H K => by simp [pk]⟩
    · exact ⟨False, .any, fun H K => by simp⟩
  case build t ps => exact (buildV_lin _ _ _).all
  case nilCheck x => exact (nilCheckV_lin _).all
  case binOp op t x y ty => exact (binV_lin _ _ _ _ _).all
  case unOp op t x => exact (unV_lin _ _).all
  case convert s d x => exact (convV_lin _ _ _ _).all
  case makeFunc fn first caps =>
    simp only [opV]
    split
    all_goals first | exact ⟨_, _, fun H K => Iff.rfl⟩ | skip
    all_goals (rename_i he; first | (cases he; done) | skip)
    all_goals first | exact ⟨_, _, fun H K => Iff.rfl⟩ | exact ⟨False, .any, fun H K => by simp⟩
  case slice t x lo hi mx => exact (sliceV_lin _ _ _ _ _ _).all
  case fieldAddr t x f => exact (fieldAddrV_lin _ _ _ _).all
  case field t x f => exact (fieldV_lin _ _ _ _).all
  case indexAddr t x i => exact (indexAddrV_lin _ _ _ _).all
  case index t x i => exact (indexV_lin _ _ _ _).all
  case extract x i => exact (extractV_lin _ _).all
  case call c =>
    simp only [opV, callV]
    simp only [nhOp] at h
    have no : ∃ (S : Prop) (u : AV), ∀ (H : Heap) (K : AV → Heap → Prop), False ↔ (S ∧ K u H) := ⟨False, .any, fun H K => by simp⟩
    generalize c.args.toList.map (ev env) = l
    split at h
    case h_4 => cases h
    all_goals
      rename_i hc
      rw [hc]
      rcases l with _ | ⟨x, _ | ⟨y, _ | ⟨z, l⟩⟩⟩ <;> dsimp only
      all_goals first
        | exact no
        | exact (mmV_lin _ _ _).all
        | (split <;> first | exact (lenV_lin _ _ _).all | exact no)

theorem nh_lin {P : Program} {tab : Tab} {o : Op} (h : nhOp o = true) (env : List AV) (H : Heap) : ∃ (S : Prop) (u : AV), ∀ (K : AV → Heap → Prop), opV P tab o env H K ↔ (S ∧ K u H) := by
  cases hr : rdOp o with
  | false => obtain ⟨S, u, k⟩ := nh_pure (P := P) (tab := tab) h hr env; exact ⟨S, u, k H⟩
  | true =>
    cases o <;> first | (simp only [rdOp] at hr; cases hr; done) | skip
    exact (loadV_lin _ _ _ _).at H

end Go.Sep
