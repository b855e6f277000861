/- Sep, part 8: operators and conversions. -/
import Derived.Test.YthlbkcgnacemgaaSep7
import Derived.Laws.StructEq
namespace Go.Sep
open Go Go.RowKit

def bitsI (op : BinOp) (k : IntKind) (x y : Int) : Int :=
  let a := BitVec.ofInt k.bits x
  let b := BitVec.ofInt k.bits y
  k.wrap (match op with
    | .and => (a &&& b).toNat
    | .or => (a ||| b).toNat
    | .xor => (a ^^^ b).toNat
    | _ => (a &&& ~~~b).toNat)

def eqS (k : TK) (a b : AV) : Option Bool :=
  match k, a, b with
  | .int _, .p (.int k x), .p (.int k' y) => if k = k' then some (decide (x = y)) else none
  | .bool, .p (.bool x), .p (.bool y) => some (x == y)
  | .str, .p (.str x), .p (.str y) => some (x.toList == y.toList)
  | _, _, _ => none

def eqFieldsV (tab : Tab) (xs ys : List AV) : List (Nat × Nat) → Option Bool
  | [] => some true
  | (o, ft) :: fs =>
    match tab ft, xs[o]?, ys[o]? with
    | some fd, some a, some b => match eqS fd.k a b, eqFieldsV tab xs ys fs with
      | some r, some q => some (r && q)
      | _, _ => none
    | _, _, _ => none

/-- Is a slice, a pointer or a function value nil, where that is known? -/
def isNilV (k : TK) (a : AV) : Option Bool :=
  match k, a with
  | .slice _, .p .nil => some true
  | .slice _, .p (.sl (_ :: _)) => some false
  | .slice _, .sl _ _ _ (_ + 1) => some false
  | .ptr _, .nilp => some true
  | .ptr _, .ptr _ _ => some false
  | .ptr _, .fp _ => some false
  | .func, .nilfn => some true
  | .func, .fn _ _ => some false
  | _, _ => none

def eqV (tab : Tab) (t : Nat) (x y : AV) : Option Bool :=
  match tab t with
  | none => none
  | some d =>
    match x, y with
    | .agg xs, .agg ys => match d.k with
      | .struct fs => eqFieldsV tab xs ys fs
      | _ => none
    | x, y => match d.k with
      | .bool => match x, y with
        | .p (.bool a), .p (.bool b) => some (a == b)
        | _, _ => none
      | k => match isNilV k x, isNilV k y with
        | some r, some true => some r
        | some true, some r => some r
        | _, _ => none

/-- Is it a slice? -/
def sliceLike : AV → Bool
  | .p .nil => true
  | .p (.sl _) => true
  | .sl _ _ _ _ => true
  | .esl => true
  | _ => false
/-- A slice held against nil, where the outcome is not known. -/
def unkV (tab : Tab) (t : Nat) (x y : AV) (A : Prop) : Prop :=
  match tab t with
  | some d => match d.k with
    | .slice _ => match y with
      | .p .nil => sliceLike x = true ∧ A
      | _ => False
    | _ => False
  | none => False

def binV (tab : Tab) (op : BinOp) (t : Nat) (x y : AV) (K : AV → Prop) : Prop :=
  match x, y with
  | .p (.int k a), .p (.int k' b) =>
    match op with
    | .shl => 0 ≤ b ∧ K (.p (.int k (k.wrap (a * 2 ^ (min b.toNat k.bits)))))
    | .shr => 0 ≤ b ∧ K (.p (.int k (a.fdiv (2 ^ (min b.toNat k.bits)))))
    | .add => k = k' ∧ K (.p (.int k (k.wrap (a + b))))
    | .sub => k = k' ∧ K (.p (.int k (k.wrap (a - b))))
    | .mul => k = k' ∧ K (.p (.int k (k.wrap (a * b))))
    | .quo => k = k' ∧ b ≠ 0 ∧ K (.p (.int k (k.wrap (a.tdiv b))))
    | .rem => k = k' ∧ b ≠ 0 ∧ K (.p (.int k (a.tmod b)))
    | .and => k = k' ∧ K (.p (.int k (bitsI .and k a b)))
    | .or => k = k' ∧ K (.p (.int k (bitsI .or k a b)))
    | .xor => k = k' ∧ K (.p (.int k (bitsI .xor k a b)))
    | .andNot => k = k' ∧ K (.p (.int k (bitsI .andNot k a b)))
    | .eql => k = k' ∧ K (.p (.bool (decide (a = b))))
    | .neq => k = k' ∧ K (.p (.bool (!decide (a = b))))
    | .lss => k = k' ∧ K (.p (.bool (decide (a < b))))
    | .leq => k = k' ∧ K (.p (.bool (decide (a ≤ b))))
    | .gtr => k = k' ∧ K (.p (.bool (decide (b < a))))
    | .geq => k = k' ∧ K (.p (.bool (decide (b ≤ a))))
  | .p (.str a), .p (.str b) =>
    match op with
    | .add => a.size + b.size ≤ 9223372036854775807 ∧ K (.p (.str (a ++ b)))
    | .eql => K (.p (.bool (a.toList == b.toList)))
    | .neq => K (.p (.bool (!(a.toList == b.toList))))
    | _ => False
  | x, y =>
    match op, eqV tab t x y with
    | .eql, some r => K (.p (.bool r))
    | .neq, some r => K (.p (.bool (!r)))
    | .eql, none => unkV tab t x y (K .ub)
    | .neq, none => unkV tab t x y (K .ub)
    | _, _ => False

theorem eqS_ok {P : Program} {tab : Tab} (_hT : tab.Ok P) {Z : Fro} {φ : Pm} {w : World} {t : Nat} {d : TD} (ok : TD.Ok P t d) {a b : AV} {x y : Value} (ca : Cv Z φ a x) (cb : Cv Z φ b y) {r : Bool} (h : eqS d.k a b = some r) (n : Nat) :
    (Op.equalIn (n + 1) t x y).run P w = .ok r w := by
  unfold eqS at h
  have hk := ok.k
  split at h
  · rename_i k k1 x1 k2 y1 hkk
    rw [hkk] at hk
    split at h
    case isFalse => cases h
    rename_i hkeq
    subst hkeq
    cases ca with | p hz => cases hz; cases cb with | p hz2 => cases hz2; cases h; exact run_equalIn_int w n t k1 k x1 y1 hk
  · rename_i x1 y1 hkk
    rw [hkk] at hk
    cases ca with | p hz => cases hz; cases cb with | p hz2 => cases hz2; cases h; exact run_equalIn_bool' w n t x1 y1 hk
  · rename_i x1 y1 hkk
    rw [hkk] at hk
    cases ca with | p hz => cases hz; cases cb with | p hz2 => cases hz2; cases h; exact run_equalIn_string w n t x1 y1 hk
  · cases h

theorem part_one {P : Program} {w : World} {t : Nat} {d : TD} (ok : TD.Ok P t d) (hag : d.k.agg = false) {cs : Array Value} {o : Nat} {x : Value} (h : cs[o]? = some x) : (part t cs o).run P w = .ok x w := by
  simp [part, TK.ok_agg ok.k, hag, h]

theorem eqS_agg {k : TK} {a b : AV} {r : Bool} (h : eqS k a b = some r) : k.agg = false := by
  unfold eqS at h; split at h <;> first | rfl | cases h

theorem eqFieldsV_ok {P : Program} {tab : Tab} (hT : tab.Ok P) {Z : Fro} {φ : Pm} {w : World} {xs ys : List AV} {xa ya : Array Value}
    (hx : ∀ (i : Nat) (av : AV) (x : Value), xs[i]? = some av → xa[i]? = some x → Cv Z φ av x) (hxs : xa.size = xs.length)
    (hy : ∀ (i : Nat) (av : AV) (x : Value), ys[i]? = some av → ya[i]? = some x → Cv Z φ av x) (hys : ya.size = ys.length) (n : Nat) :
    ∀ (fields : List Field) (r : Bool), (∀ f ∈ fields, f.name ≠ "_") → eqFieldsV tab xs ys (fields.map fun f => (f.offset, f.type)) = some r →
      (Op.eqFields (n + 1) xa ya fields).run P w = .ok r w := by
  intro fields
  induction fields with
  | nil => intro r _ h; simp only [List.map_nil, eqFieldsV, Option.some.injEq] at h; subst h; rfl
  | cons f fields ih =>
    intro r hn h
    simp only [List.map_cons, eqFieldsV] at h
    split at h
    case h_2 => cases h
    rename_i fd a b hft hxa hyb
    split at h
    case h_2 => cases h
    rename_i r1 r2 h1 h2
    cases h
    have okf := hT _ fd hft
    have hag := eqS_agg h1
    have gx : ∃ x, xa[f.offset]? = some x := by
      have := (List.getElem?_eq_some_iff.1 hxa).1
      exact ⟨xa[f.offset]'(by omega), Array.getElem?_eq_getElem _⟩
    have gy : ∃ y, ya[f.offset]? = some y := by
      have := (List.getElem?_eq_some_iff.1 hyb).1
      exact ⟨ya[f.offset]'(by omega), Array.getElem?_eq_getElem _⟩
    obtain ⟨x, hx'⟩ := gx
    obtain ⟨y, hy'⟩ := gy
    have e1 := eqS_ok (w := w) hT okf (hx _ _ _ hxa hx') (hy _ _ _ hyb hy') h1 n
    have e2 := ih r2 (fun g hg => hn g (by simp [hg])) h2
    have hnm : f.name ≠ "_" := hn f (by simp)
    simp only [Op.eqFields]
    rw [if_pos hnm]
    simp only [Sem.run_bind, part_one okf hag hx', part_one okf hag hy', Result.andThen_ok, e1]
    cases r1 with
    | true => simp [e2]
    | false => simp

theorem isNilV_ok {P : Program} {Z : Fro} {φ : Pm} {t : Nat} {d : TD} (ok : TD.Ok P t d) {a : AV} {x : Value} {r : Bool} (h : isNilV d.k a = some r) (c : Cv Z φ a x) :
    (∃ e base n cap, P.underlying t = some (.slice e) ∧ x = .slice base n cap ∧ r = base.isNone) ∨
    (∃ e ad, P.underlying t = some (.pointer e) ∧ x = .pointer ad ∧ r = ad.isNone) ∨
    (∃ a1 b1 c1, P.underlying t = some (.func a1 b1 c1) ∧ ((x = .nilFunc ∧ r = true) ∨ (∃ f u v, x = .func f u v ∧ r = false))) := by
  have hk := ok.k
  unfold isNilV at h
  split at h <;> (try cases h) <;> (rename_i hkk; rw [hkk] at hk; simp only [TK.ok] at hk)
  · cases c with | p hz => cases hz; exact .inl ⟨_, _, _, _, hk, rfl, rfl⟩
  · cases c with | p hz => cases hz; exact .inl ⟨_, _, _, _, hk, rfl, rfl⟩
  · cases c; exact .inl ⟨_, _, _, _, hk, rfl, rfl⟩
  · cases c; exact .inr (.inl ⟨_, _, hk, rfl, rfl⟩)
  · cases c; exact .inr (.inl ⟨_, _, hk, rfl, rfl⟩)
  · cases c; exact .inr (.inl ⟨_, _, hk, rfl, rfl⟩)
  · cases c; obtain ⟨a1, b1, c1, hk⟩ := hk; exact .inr (.inr ⟨a1, b1, c1, hk, .inl ⟨rfl, rfl⟩⟩)
  · cases c; obtain ⟨a1, b1, c1, hk⟩ := hk; exact .inr (.inr ⟨a1, b1, c1, hk, .inr ⟨_, _, _, rfl, rfl⟩⟩)

theorem eqNil_ok {P : Program} {Z : Fro} {φ : Pm} {w : World} {t : Nat} {d : TD} (ok : TD.Ok P t d) {a b : AV} {x y : Value} (ca : Cv Z φ a x) (cb : Cv Z φ b y) {r q : Bool}
    (ha : isNilV d.k a = some r) (hb : isNilV d.k b = some q) (hrq : r = true ∨ q = true) :
    (∀ n, (Op.equalIn (n + 1) t x y).run P w = .ok (r && q) w) ∧ (∀ op o o', (eqGuard op t o o' x y).run P w = .ok () w) ∧ binOp .eql t x y = (do pure (.bool (← Op.equal t x y))) ∧ binOp .neq t x y = (do pure (.bool (!(← Op.equal t x y)))) := by
  have hg : ∀ {x y : Value}, ((∃ base n cap, x = Value.slice base n cap) ∧ (∃ base n cap, y = Value.slice base n cap)) ∨ ((∃ ad, x = Value.pointer ad) ∧ (∃ ad, y = Value.pointer ad)) ∨
      ((x = .nilFunc ∨ (∃ f u v, x = Value.func f u v)) ∧ (y = .nilFunc ∨ (∃ f u v, y = Value.func f u v))) →
      (∀ op o o', (eqGuard op t o o' x y).run P w = .ok () w) ∧ binOp .eql t x y = (do pure (.bool (← Op.equal t x y))) ∧ binOp .neq t x y = (do pure (.bool (!(← Op.equal t x y)))) := by
    intro x y hx
    rcases hx with ⟨⟨_, _, _, rfl⟩, ⟨_, _, _, rfl⟩⟩ | ⟨⟨_, rfl⟩, ⟨_, rfl⟩⟩ | ⟨rfl | ⟨_, _, _, rfl⟩, rfl | ⟨_, _, _, rfl⟩⟩ <;>
      exact ⟨(fun op o o' => by cases op <;> simp [eqGuard]), rfl, rfl⟩
  rcases isNilV_ok ok ha ca with ⟨e, base, n, c, hu, rfl, rfl⟩ | ⟨e, ad, hu, rfl, rfl⟩ | ⟨a1, b1, c1, hu, hr⟩
  · rcases isNilV_ok ok hb cb with ⟨e', base', n', c', hu', rfl, rfl⟩ | ⟨e', ad', hu', rfl, rfl⟩ | ⟨a1', b1', c1', hu', hr'⟩
    · refine ⟨?_, hg (.inl ⟨⟨_, _, _, rfl⟩, ⟨_, _, _, rfl⟩⟩)⟩
      cases base <;> cases base' <;> first | (simp at hrq; done) | (intro n; simp [Op.equalIn, run_underlying hu])
    · rw [hu] at hu'; cases hu'
    · rw [hu] at hu'; cases hu'
  · rcases isNilV_ok ok hb cb with ⟨e', base', n', c', hu', rfl, rfl⟩ | ⟨e', ad', hu', rfl, rfl⟩ | ⟨a1', b1', c1', hu', hr'⟩
    · rw [hu] at hu'; cases hu'
    · refine ⟨?_, hg (.inr (.inl ⟨⟨_, rfl⟩, ⟨_, rfl⟩⟩))⟩
      cases ad <;> cases ad' <;> first | (simp at hrq; done) | (intro n; simp [Op.equalIn, run_underlying hu])
    · rw [hu] at hu'; cases hu'
  · rcases hr with ⟨rfl, rfl⟩ | ⟨f, u, v, rfl, rfl⟩
    · rcases isNilV_ok ok hb cb with ⟨e', base', n', c', hu', rfl, rfl⟩ | ⟨e', ad', hu', rfl, rfl⟩ | ⟨a1', b1', c1', hu', hr'⟩
      · rw [hu] at hu'; cases hu'
      · rw [hu] at hu'; cases hu'
      · rcases hr' with ⟨rfl, rfl⟩ | ⟨f, u, v, rfl, rfl⟩
        · exact ⟨(by intro n; simp [Op.equalIn, run_underlying hu]), hg (.inr (.inr ⟨.inl rfl, .inl rfl⟩))⟩
        · exact ⟨(by intro n; simp [Op.equalIn, run_underlying hu]), hg (.inr (.inr ⟨.inl rfl, .inr ⟨_, _, _, rfl⟩⟩))⟩
    · rcases isNilV_ok ok hb cb with ⟨e', base', n', c', hu', rfl, rfl⟩ | ⟨e', ad', hu', rfl, rfl⟩ | ⟨a1', b1', c1', hu', hr'⟩
      · rw [hu] at hu'; cases hu'
      · rw [hu] at hu'; cases hu'
      · rcases hr' with ⟨rfl, rfl⟩ | ⟨f', u', v', rfl, rfl⟩
        · exact ⟨(by intro n; simp [Op.equalIn, run_underlying hu]), hg (.inr (.inr ⟨.inr ⟨_, _, _, rfl⟩, .inl rfl⟩))⟩
        · simp at hrq

theorem eqV_ok {P : Program} {tab : Tab} (hT : tab.Ok P) {Z : Fro} {φ : Pm} {w : World} {t : Nat} {a b : AV} {x y : Value} (ca : Cv Z φ a x) (cb : Cv Z φ b y) {r : Bool} (h : eqV tab t a b = some r) :
    (Op.equal t x y).run P w = .ok r w ∧ (∀ op o o', (eqGuard op t o o' x y).run P w = .ok () w) ∧ binOp .eql t x y = (do pure (.bool (← Op.equal t x y))) ∧ binOp .neq t x y = (do pure (.bool (!(← Op.equal t x y)))) := by
  unfold eqV at h
  split at h
  · cases h
  rename_i d hdt
  have ok := hT t d hdt
  split at h
  · rename_i xs ys
    split at h
    case h_2 => cases h
    rename_i fs hk
    have hkk := ok.k
    rw [hk] at hkk
    obtain ⟨fields, hu, hmap, h1, h2, h3⟩ := hkk
    cases ca with
    | agg _ xa hxs hx =>
      cases cb with
      | agg _ ya hys hy =>
        refine ⟨?_, ?_, ?_, ?_⟩
        · have hfo : P.fieldsOf t = fields := by simp [Program.fieldsOf, hu]
          unfold Op.equal Op.maxDepth
          rw [show (10000 : Nat) = 9998 + 1 + 1 from rfl, run_equalIn_struct w _ t xa ya (by rw [hfo]; exact hu) h1, hfo]
          rw [← hmap] at h
          exact eqFieldsV_ok hT hx hxs hy hys _ _ _ h3 h
        · intro op o o'
          exact run_eqGuard_agg w op t o o' xa ya h2
        · rfl
        · rfl
  · split at h
    · rename_i hk
      split at h
      case h_2 => cases h
      have hkk := ok.k
      rw [hk] at hkk
      cases ca with
      | p hz =>
        cases hz
        cases cb with
        | p hz2 =>
          cases hz2
          cases h
          refine ⟨?_, ?_, ?_, ?_⟩
          · exact run_equalIn_bool' w 9999 t _ _ hkk
          · intro op o o'; cases op <;> simp [eqGuard]
          · rfl
          · rfl
    · split at h
      · rename_i r1 h1 h2
        cases h
        obtain ⟨g1, g2⟩ := eqNil_ok (w := w) ok ca cb h1 h2 (.inr rfl)
        exact ⟨by have := g1 9999; rwa [Bool.and_true] at this, g2⟩
      · rename_i r1 h1 h2
        cases h
        obtain ⟨g1, g2⟩ := eqNil_ok (w := w) ok ca cb h1 h2 (.inl rfl)
        exact ⟨by have := g1 9999; rwa [Bool.true_and] at this, g2⟩
      · cases h

end Go.Sep
