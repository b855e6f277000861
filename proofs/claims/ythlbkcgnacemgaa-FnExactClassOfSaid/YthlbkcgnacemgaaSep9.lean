/- Sep, part 9: operators, conversions, and the operations in one. -/
import Derived.Test.YthlbkcgnacemgaaSep8
namespace Go.Sep
open Go Go.RowKit

theorem sliceLike_ok {Z : Fro} {φ : Pm} {a : AV} {x : Value} (c : Cv Z φ a x) (h : sliceLike a = true) : ∃ b n k, x = .slice b n k := by
  cases c with
  | p hz => cases hz <;> first | exact ⟨_, _, _, rfl⟩ | simp [sliceLike] at h
  | slz r sz off a => exact ⟨_, _, _, rfl⟩
  | sl h1 h2 h3 => exact ⟨_, _, _, rfl⟩
  | esl a => exact ⟨_, _, _, rfl⟩
  | _ => simp [sliceLike] at h
theorem unkV_ok {P : Program} {tab : Tab} (hT : tab.Ok P) {Z : Fro} {φ : Pm} {w : World} {t : Nat} {a b : AV} {x y : Value} (ca : Cv Z φ a x) (cb : Cv Z φ b y) {A : Prop} (h : unkV tab t a b A) :
    A ∧ ∃ r, (Op.equal t x y).run P w = .ok r w ∧ (∀ op o o', (eqGuard op t o o' x y).run P w = .ok () w) ∧ binOp .eql t x y = (do pure (.bool (← Op.equal t x y))) ∧ binOp .neq t x y = (do pure (.bool (!(← Op.equal t x y)))) := by
  unfold unkV at h
  split at h
  · rename_i d hd
    split at h
    · rename_i e hk
      split at h
      · obtain ⟨hs, hA⟩ := h
        obtain ⟨bs, n, k, rfl⟩ := sliceLike_ok ca hs
        have hu := (hT t d hd).k
        rw [hk] at hu
        simp only [TK.ok] at hu
        cases cb with
        | p hz =>
          cases hz
          refine ⟨hA, bs.isNone, ?_, (fun op o o' => by cases op <;> simp [eqGuard]), rfl, rfl⟩
          have key : ∀ m, (Op.equalIn (m + 1) t (.slice bs n k) (.slice none 0 0)).run P w = .ok bs.isNone w := by
            intro m; cases bs <;> simp [Op.equalIn, run_underlying hu]
          exact key 9999
      · exact h.elim
    · exact h.elim
  · exact h.elim

theorem binV_ok {P : Program} {tab : Tab} (hT : tab.Ok P) {Z : Fro} {φ : Pm} {w : World} {op : BinOp} {t : Nat} {a b : AV} {x y : Value} (ca : Cv Z φ a x) (cb : Cv Z φ b y) {K : AV → Prop} (h : binV tab op t a b K) (o o' : Operand) :
    ∃ v z, K v ∧ Cv Z φ v z ∧ (do eqGuard op t o o' x y; binOp op t x y : Sem Value).run P w = .ok z w := by
  unfold binV at h
  split at h
  · rename_i k m k' n
    cases ca with
    | p hz =>
      cases hz
      cases cb with
      | p hz2 =>
        cases hz2
        have hg : (eqGuard op t o o' (.int k m) (.int k' n)).run P w = .ok () w := by cases op <;> simp [eqGuard]
        simp only [Sem.run_bind, hg, Result.andThen_ok]
        cases op <;> dsimp only at h
        case shl => exact ⟨_, _, h.2, .p (.int _ _), by have := h.1; simp [binOp, Op.shift, Int.not_lt.2 this]⟩
        case shr => exact ⟨_, _, h.2, .p (.int _ _), by have := h.1; simp [binOp, Op.shift, Int.not_lt.2 this]⟩
        case quo => obtain ⟨rfl, h0, hK⟩ := h; exact ⟨_, _, hK, .p (.int _ _), by simp [binOp, Op.intDiv, h0]⟩
        case rem => obtain ⟨rfl, h0, hK⟩ := h; exact ⟨_, _, hK, .p (.int _ _), by simp [binOp, Op.intDiv, h0]⟩
        all_goals obtain ⟨rfl, hK⟩ := h
        case eql => exact ⟨_, _, hK, .p (.bool _), by simp only [binOp]; rw [if_neg (by simp)]; rfl⟩
        case neq => exact ⟨_, _, hK, .p (.bool _), by simp only [binOp]; rw [if_neg (by simp)]; rfl⟩
        case lss => exact ⟨_, _, hK, .p (.bool _), by simp only [binOp]; rw [if_neg (by simp)]; rfl⟩
        case leq => exact ⟨_, _, hK, .p (.bool _), by simp only [binOp]; rw [if_neg (by simp)]; rfl⟩
        case gtr => exact ⟨_, _, hK, .p (.bool _), by simp only [binOp]; rw [if_neg (by simp)]; rfl⟩
        case geq => exact ⟨_, _, hK, .p (.bool _), by simp only [binOp]; rw [if_neg (by simp)]; rfl⟩
        all_goals exact ⟨_, _, hK, .p (.int _ _), by simp only [binOp]; rw [if_neg (by simp)]; rfl⟩
  · rename_i u v
    cases ca with
    | p hz =>
      cases hz
      cases cb with
      | p hz2 =>
        cases hz2
        have hg : (eqGuard op t o o' (.string u) (.string v)).run P w = .ok () w := by cases op <;> simp [eqGuard]
        simp only [Sem.run_bind, hg, Result.andThen_ok]
        cases op <;> dsimp only at h <;> first | exact h.elim | skip
        case add =>
          obtain ⟨h0, hK⟩ := h
          refine ⟨_, .string (u ++ v), hK, .p (.str _), ?_⟩
          have : ¬ ((9223372036854775807 : Int) < (u.size : Int) + (v.size : Int)) := by omega
          simp [binOp, Op.stringOp, this]
        case eql => exact ⟨_, _, h, .p (.bool _), rfl⟩
        case neq => exact ⟨_, _, h, .p (.bool _), rfl⟩
  · rename_i hni hns
    split at h
    · rename_i r he
      obtain ⟨e1, e2, e3, e4⟩ := eqV_ok (w := w) hT ca cb he
      exact ⟨_, .bool r, h, .p (.bool _), by simp only [Sem.run_bind, e2, Result.andThen_ok, e3, e1, Sem.run_pure]⟩
    · rename_i r he
      obtain ⟨e1, e2, e3, e4⟩ := eqV_ok (w := w) hT ca cb he
      exact ⟨_, .bool (!r), h, .p (.bool _), by simp only [Sem.run_bind, e2, Result.andThen_ok, e4, e1, Sem.run_pure]⟩
    · rename_i he
      obtain ⟨hA, r, e1, e2, e3, e4⟩ := unkV_ok (w := w) hT ca cb h
      exact ⟨_, .bool r, hA, .ub _, by simp only [Sem.run_bind, e2, Result.andThen_ok, e3, e1, Sem.run_pure]⟩
    · rename_i he
      obtain ⟨hA, r, e1, e2, e3, e4⟩ := unkV_ok (w := w) hT ca cb h
      exact ⟨_, .bool (!r), hA, .ub _, by simp only [Sem.run_bind, e2, Result.andThen_ok, e4, e1, Sem.run_pure]⟩
    · exact h.elim

def unV (op : UnOp) (x : AV) (K : AV → Prop) : Prop :=
  match op, x with
  | .neg, .p (.int k n) => K (.p (.int k (k.wrap (0 - n))))
  | .xor, .p (.int k n) => K (.p (.int k (bitsI .xor k (if k.signed then -1 else k.max) n)))
  | .not, .p (.bool b) => K (.p (.bool (!b)))
  | _, _ => False

theorem unV_ok {P : Program} {Z : Fro} {φ : Pm} {w : World} {op : UnOp} {a : AV} {x : Value} (ca : Cv Z φ a x) {K : AV → Prop} (h : unV op a K) :
    ∃ v z, K v ∧ Cv Z φ v z ∧ (Op.unary op x).run P w = .ok z w := by
  unfold unV at h
  split at h
  · cases ca with | p hz => cases hz; exact ⟨_, _, h, .p (.int _ _), rfl⟩
  · cases ca with | p hz => cases hz; exact ⟨_, _, h, .p (.int _ _), rfl⟩
  · cases ca with | p hz => cases hz; exact ⟨_, _, h, .p (.bool _), rfl⟩
  · exact h.elim

def convV (tab : Tab) (src dst : Nat) (x : AV) (K : AV → Prop) : Prop :=
  match tab src, tab dst, x with
  | some _, some d, .p (.int _ n) => match d.k with
    | .int k => K (.p (.int k (k.wrap n)))
    | _ => False
  | _, _, _ => False

theorem convV_ok {P : Program} {tab : Tab} (hT : tab.Ok P) {Z : Fro} {φ : Pm} {w : World} {src dst : Nat} {a : AV} {x : Value} (ca : Cv Z φ a x) {K : AV → Prop} (h : convV tab src dst a K) :
    ∃ v z, K v ∧ Cv Z φ v z ∧ (convert src dst x).run P w = .ok z w := by
  unfold convV at h
  split at h
  case h_2 => exact h.elim
  rename_i sd d k n hs hd
  split at h
  case h_2 => exact h.elim
  rename_i k2 hk
  have ok := hT dst d hd
  have hu := ok.k
  rw [hk] at hu
  simp only [TK.ok] at hu
  have oks := hT src sd hs
  obtain ⟨ds, hds⟩ : ∃ ds, P.underlying src = some ds := by
    have := oks.k
    cases hsk : sd.k <;> rw [hsk] at this <;> simp only [TK.ok] at this
    case struct => obtain ⟨_, h, _⟩ := this; exact ⟨_, h⟩
    case func => obtain ⟨_, _, _, h⟩ := this; exact ⟨_, h⟩
    all_goals exact ⟨_, this⟩
  cases ca with
  | p hz =>
    cases hz
    exact ⟨_, _, h, .p (.int _ _), by simp [convert, run_underlying hu, run_underlying hds, Conv.intToInt]⟩

/-- The greater and the lesser of two numbers. -/
def mmV (b : Builtin) (x y : AV) (K : AV → Prop) : Prop :=
  match b, x, y with
  | .max, .p (.int k m), .p (.int _ n) => K (.p (.int k (if n > m then n else m)))
  | .min, .p (.int k m), .p (.int _ n) => K (.p (.int k (if n < m then n else m)))
  | _, _, _ => False

end Go.Sep
