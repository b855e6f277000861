/- Sep, part 27: what a function's code is asked for, worked out by a function of the code: its value is a formula of the operations alone, without slots. -/
import Derived.Test.YthlbkcgnacemgaaSep26
namespace Go.Sep
open Go Go.RowKit

/-- (Named so that the two below stand above all operations, and are opened first.) -/
def tall : Prop := ∀ (P : Program) (tab : Tab) (o : Op) (env : List AV) (H : Heap) (K : AV → Heap → Prop), opV P tab o env H K
/-- One of two, by a value. -/
def condV (c : AV) (A B : Prop) : Prop :=
  (fun (_ : Prop) => match c with
  | .p (.bool t) => match t with
    | true => A
    | false => B
  | .ub => A ∧ B
  | _ => False) tall
/-- The same for a value out of two. -/
def pickV (c : AV) (A B : Prop) : Prop :=
  (fun (_ : Prop) => match c with
  | .p (.bool t) => match t with
    | true => A
    | false => B
  | _ => False) tall
def grdV (c : AV) (want : Bool) (A B : Prop) : Prop :=
  (fun (_ : Prop) => match c with
  | .p (.bool b) => match b with
    | true => match want with
      | true => A
      | false => B
    | false => match want with
      | true => B
      | false => A
  | _ => False) tall
def callF (P : Program) (f : AV) (args : List AV) (H : Heap) (K : AV → Heap → Prop) : Prop :=
  match f with
  | .fn g caps => CallT P g (args ++ caps) H K
  | _ => False

theorem pickV_pk {c : AV} {A B : Prop} (h : pickV c A B) : ∃ t, c = .p (.bool t) ∧ pk t A B := by
  unfold pickV at h
  dsimp only at h
  split at h
  · rename_i t
    refine ⟨t, rfl, ?_⟩
    cases t <;> simpa [pk] using h
  · exact h.elim
theorem condV_pk {c : AV} {A B : Prop} (h : condV c A B) : (∃ t, c = .p (.bool t) ∧ pk t A B) ∨ (c = .ub ∧ A ∧ B) := by
  unfold condV at h
  dsimp only at h
  split at h
  · rename_i t
    refine .inl ⟨t, rfl, ?_⟩
    cases t <;> simpa [pk] using h
  · exact .inr ⟨rfl, h⟩
  · exact h.elim
theorem grdV_gd {c : AV} {want : Bool} {A B : Prop} (h : grdV c want A B) : ∃ t, c = .p (.bool t) ∧ gd t want A B := by
  unfold grdV at h
  dsimp only at h
  split at h
  · rename_i t
    refine ⟨t, rfl, ?_⟩
    cases t <;> cases want <;> simpa [gd] using h
  · exact h.elim

/-- The slots, as a function. -/
abbrev Env := Nat → AV
def upd (E : Env) (d : Nat) (v : AV) : Env := fun i => match Nat.beq i d with
  | true => v
  | false => E i
def updD (E : Env) (d : Option Nat) (v : AV) : Env := match d with
  | some t => upd E t v
  | none => E
def evF (E : Env) : Operand → AV
  | .tmp t => E t
  | .const v => constA v
  | .global _ => .any
  | .func f => .fn f []
structure EL (N : Nat) (E : Env) (env : List AV) : Prop where
  len : env.length = N
  at_ : ∀ i, E i = env.getD i .any
theorem EL.ev {N : Nat} {E : Env} {env : List AV} (h : EL N E env) : evF E = ev env := by
  funext o; cases o <;> first | exact h.at_ _ | rfl
theorem EL.upd {N : Nat} {E : Env} {env : List AV} (h : EL N E env) {d : Nat} (hd : d < N) (v : AV) : EL N (upd E d v) (env.set d v) := by
  refine ⟨by rw [List.length_set]; exact h.len, fun i => ?_⟩
  unfold Sep.upd
  cases hb : Nat.beq i d with
  | true =>
    have := Nat.eq_of_beq_eq_true hb; subst this
    simp [List.getD, h.len, hd]
  | false =>
    have hne : d ≠ i := fun e => by rw [← e, Nat.beq_refl] at hb; cases hb
    rw [h.at_ i]; simp only [List.getD]; rw [List.getElem?_set_ne hne]
theorem EL.updD {N : Nat} {E : Env} {env : List AV} (h : EL N E env) {d : Option Nat} (hd : inRange N d = true) (v : AV) : EL N (updD E d v) (setD env d v) := by
  cases d with
  | none => exact h
  | some t => exact h.upd (by simpa [inRange] using hd) v

def opE (P : Program) (tab : Tab) (o : Op) (ρ : Operand → AV) (H : Heap) (K : AV → Heap → Prop) : Prop :=
  match o with
  | .move x => K (ρ x) H
  | .assign x => K (ρ x) H
  | .pick c a b => pickV (ρ c) (K (ρ a) H) (K (ρ b) H)
  | .alloc t => allocV tab t H K
  | .box _ x => boxV (ρ x) H K
  | .build t ps => buildV tab t (ps.toList.map fun p => (p.1, ρ p.2)) (K · H)
  | .buildSlice t n ps => buildSliceV tab t n (ps.toList.map fun p => (p.1, ρ p.2)) H (wkK K)
  | .load t a => loadV tab t (ρ a) H (K · H)
  | .store t a x => storeV tab t (ρ a) (ρ x) H (K .any ·)
  | .nilCheck x => nilCheckV (ρ x) (K · H)
  | .binOp op t x y _ => binV tab op t (ρ x) (ρ y) (K · H)
  | .unOp op _ x => unV op (ρ x) (K · H)
  | .convert s d x => convV tab s d (ρ x) (K · H)
  | .makeFunc (.func f) first caps => match first.toList with
    | [] => K (.fn f (caps.toList.map ρ)) H
    | _ => False
  | .makeSlice t l c => makeSliceV tab t (ρ l) (ρ c) H K
  | .slice t x lo hi mx => sliceV tab t (ρ x) (lo.map ρ) (hi.map ρ) (mx.map ρ) (K · H)
  | .fieldAddr t x f => fieldAddrV tab t (ρ x) f (K · H)
  | .field t x f => fieldV tab t (ρ x) f (K · H)
  | .indexAddr t x i => indexAddrV tab t (ρ x) (ρ i) (K · H)
  | .index t x i => indexV tab t (ρ x) (ρ i) (K · H)
  | .extract x i => extractV (ρ x) i (K · H)
  | .call c => match c.callee with
    | .value (.tmp i) => callF P (ρ (.tmp i)) (c.args.toList.map ρ) H K
    | .value (.func g) => CallT P g (c.args.toList.map ρ) H K
    | .builtin .append => match c.args.toList, c.argTypes.toList with
      | [s, x], [t0, t1] => appendV tab t0 t1 (ρ s) (ρ x) H (wkK K)
      | _, _ => False
    | .builtin .len => match c.args.toList, c.argTypes.toList with
      | [x], [t] => lenV tab t (ρ x) (K · H)
      | _, _ => False
    | .builtin b => match c.args.toList with
      | [x, y] => mmV b (ρ x) (ρ y) (K · H)
      | _ => False
    | _ => False
  | _ => False

theorem opE_ok {P : Program} {tab : Tab} {o : Op} {env : List AV} {H : Heap} {K : AV → Heap → Prop} (h : opE P tab o (ev env) H K) : opV P tab o env H K := by
  cases o <;> first | exact h | exact h.elim | skip
  case pick c a b =>
    obtain ⟨t, e, hp⟩ := pickV_pk h
    simp only [opV, e]; exact hp
  case makeFunc f first caps =>
    cases f <;> first | exact h.elim | skip
    simp only [opE] at h
    split at h
    · rename_i hf; simp only [opV]; exact ⟨hf, h⟩
    · exact h.elim
  case call c =>
    simp only [opE] at h
    simp only [opV]
    split at h
    · rename_i i hc
      unfold callF at h
      split at h
      · rename_i g caps hg
        unfold callV; rw [hc]; simp only [hg]
        exact h
      · exact h.elim
    · rename_i g hc
      unfold callV; rw [hc]; simp only [ev, List.append_nil]
      exact h
    · rename_i hc
      split at h
      · rename_i s x t0 t1 ha ht
        unfold callV; rw [hc, ha, ht]; exact h
      · exact h.elim
    · rename_i hc
      split at h
      · rename_i x t ha ht
        unfold callV; rw [hc, ha, ht]; exact h
      · exact h.elim
    · rename_i b h1 h2 hc
      split at h
      · rename_i x y ha
        unfold callV; rw [hc, ha]
        cases b <;> first | exact h | (exact absurd rfl h1) | (exact absurd rfl h2) | (unfold mmV at h; simp at h)
      · exact h.elim
    · exact h.elim

abbrev QF := Env → Heap → Prop
def hasN : List Nat → Nat → Bool
  | [], _ => false
  | k :: ks, i => match Nat.beq i k with
    | true => true
    | false => hasN ks i
theorem hasN_iff {i : Nat} : ∀ (ws : List Nat), hasN ws i = true ↔ i ∈ ws
  | [] => by simp [hasN]
  | k :: ws => by
    rw [hasN]
    cases hb : Nat.beq i k with
    | true => have := Nat.eq_of_beq_eq_true hb; subst this; simp
    | false =>
      have hne : i ≠ k := fun e => by rw [e, Nat.beq_refl] at hb; cases hb
      simp [hasN_iff ws, hne]
/-- Slots whose operations were not wanted. -/
def addU (d : Option Nat) (U : List Nat) : List Nat := match d with
  | some t => t :: U
  | none => U
def UL (U : List Nat) (E : Env) : Prop := ∀ u ∈ U, E u = .und
theorem upd_same (E : Env) (d : Nat) (v : AV) : upd E d v d = v := by simp [upd]
theorem upd_other {E : Env} {d i : Nat} (v : AV) (h : i ≠ d) : upd E d v i = E i := by
  unfold upd
  cases hb : Nat.beq i d with
  | true => exact absurd (Nat.eq_of_beq_eq_true hb) h
  | false => rfl
/-- No slot is written twice. -/
def dsN : List (Option Nat) → Bool
  | [] => true
  | none :: l => dsN l
  | some t :: l => (l.all fun d => match d with
    | some u => !Nat.beq u t
    | none => true) && dsN l
/-- No slot of U is written. -/
def UD (U : List Nat) (ds : List (Option Nat)) : Prop := ∀ u ∈ U, ∀ d ∈ ds, d ≠ some u
theorem UD.tail {U : List Nat} {d : Option Nat} {ds : List (Option Nat)} (h : UD U (d :: ds)) : UD U ds := fun u hu e he => h u hu e (by simp [he])
theorem UD.add {U : List Nat} {d : Option Nat} {ds : List (Option Nat)} (h : UD U (d :: ds)) (hn : dsN (d :: ds) = true) : UD (addU d U) ds := by
  intro u hu e he
  cases d with
  | none => exact h.tail u hu e he
  | some t =>
    rcases List.mem_cons.1 hu with rfl | hu
    · rintro rfl
      simp only [dsN, Bool.and_eq_true, List.all_eq_true] at hn
      have := hn.1 _ he
      simp [Nat.beq_refl] at this
    · exact h.tail u hu e he
theorem dsN_tail {d : Option Nat} {ds : List (Option Nat)} (h : dsN (d :: ds) = true) : dsN ds = true := by
  cases d with
  | none => exact h
  | some t => simp only [dsN, Bool.and_eq_true] at h; exact h.2
theorem UL.set {U : List Nat} {E : Env} (h : UL U E) {d : Option Nat} {ds : List (Option Nat)} (hd : UD U (d :: ds)) (v : AV) : UL U (updD E d v) := by
  intro u hu
  cases d with
  | none => exact h u hu
  | some t =>
    have hne : u ≠ t := fun e => hd u hu (some t) (by simp) (by rw [e])
    rw [updD, upd_other v hne]; exact h u hu
theorem UL.add {U : List Nat} {E : Env} (h : UL U E) (d : Option Nat) : UL (addU d U) (updD E d .und) := by
  intro u hu
  cases d with
  | none => exact h u hu
  | some t =>
    by_cases hut : u = t
    · subst hut; exact upd_same _ _ _
    · simp only [addU, List.mem_cons, hut, false_or] at hu
      rw [updD, upd_other _ hut]; exact h u hu
theorem UL.lit {U : List Nat} {E : Env} (h : UL U E) {g : Nat} (hg : hasN U g = false) (v : AV) : UL U (upd E g v) := by
  intro u hu
  have hne : u ≠ g := fun e => by rw [← e, (hasN_iff U).2 hu] at hg; cases hg
  rw [upd_other v hne]; exact h u hu
def vcA (P : Program) (tab : Tab) (Q : QF) : List XOp → List Nat → Env → Heap → Prop
  | [], _, E, H => Q E H
  | .run d o :: rest, U, E, H => opE P tab o (evF E) H fun v H' => vcA P tab Q rest U (updD E d v) H'
  | .guarded g want d o :: rest, U, E, H => match hasN U g with
    | true => vcA P tab Q rest (addU d U) (updD E d .und) H
    | false => grdV (E g) want (opE P tab o (evF (upd E g (.p (.bool want)))) H fun v H' => vcA P tab Q rest U (updD (upd E g (.p (.bool want))) d v) H')
      (vcA P tab Q rest (addU d U) (updD (upd E g (.p (.bool (!want)))) d .und) H)
  | .bad :: _, _, _, _ => False

/-- The slots that an operation writes are there. -/
def XOp.inN (N : Nat) : XOp → Bool
  | .run d _ => inRange N d
  | .guarded g _ d _ => decide (g < N) && inRange N d
  | .bad => true

/-- The slots that 'k' names are as they were. -/
def Out (k : Nat → Bool) (E E' : Env) : Prop := ∀ i, k i = true → E' i = E i
theorem Out.refl (k : Nat → Bool) (E : Env) : Out k E E := fun _ _ => rfl
theorem Out.trans {k : Nat → Bool} {a b c : Env} (h : Out k a b) (h' : Out k b c) : Out k a c := fun i hi => (h' i hi).trans (h i hi)
theorem Out.mono {k k' : Nat → Bool} (hs : ∀ i, k' i = true → k i = true) {a b : Env} (h : Out k a b) : Out k' a b := fun i hi => h i (hs i hi)
theorem Out.upd {k : Nat → Bool} {a b : Env} (h : Out k a b) {g : Nat} (hg : k g = false) (v : AV) : Out k a (upd b g v) := by
  intro i hi
  unfold Sep.upd
  cases hb : Nat.beq i g with
  | true => have := Nat.eq_of_beq_eq_true hb; subst this; rw [hg] at hi; cases hi
  | false => exact h i hi
theorem Out.updD {k : Nat → Bool} {a b : Env} (h : Out k a b) {d : Option Nat} (hd : ∀ t, d = some t → k t = false) (v : AV) : Out k a (updD b d v) := by
  cases d with
  | none => exact h
  | some t => exact h.upd (hd t rfl) v
theorem dst_run {d : Option Nat} {o : Op} {t : Nat} (h : d = some t) : t ∈ (XOp.run d o).dst := by subst h; simp [XOp.dst]
theorem dst_grd {d : Option Nat} {o : Op} {g t : Nat} {w : Bool} (h : d = some t) : t ∈ (XOp.guarded g w d o).dst := by subst h; simp [XOp.dst]
theorem dst_g {d : Option Nat} {o : Op} {g : Nat} {w : Bool} : g ∈ (XOp.guarded g w d o).dst := by cases d <;> simp [XOp.dst]

/-- What the slots are behind a piece of code, in both ways of telling. -/
def QL (N : Nat) (k : Nat → Bool) (E0 : Env) (Q : QF) : List AV → Heap → Prop := fun env H => ∃ E, EL N E env ∧ Out k E0 E ∧ Q E H

theorem vcA_ok {P : Program} {tab : Tab} {N : Nat} {ws : Nat → Bool} {E0 : Env} {Q : QF} : ∀ (l : List XOp) (U : List Nat) (E : Env) (env : List AV) (H : Heap), (∀ x ∈ l, x.inN N = true ∧ ∀ i ∈ x.dst, ws i = false) → dsN (l.map XOp.d) = true → UD U (l.map XOp.d) → EL N E env → UL U E → Out ws E0 E → vcA P tab Q l U E H →
    vcX P tab (QL N ws E0 Q) l env H := by
  intro l
  induction l with
  | nil => intro U E env H _ _ _ hl _ ho h; exact ⟨E, hl, ho, h⟩
  | cons x l ih =>
    intro U E env H hw hn hD hl hU ho h
    have hn' := dsN_tail hn
    have hD' := hD.tail
    have hDa := hD.add hn
    have hw' : ∀ x ∈ l, x.inN N = true ∧ ∀ i ∈ x.dst, ws i = false := fun y hy => hw y (by simp [hy])
    obtain ⟨hx1, hx⟩ := hw x (by simp)
    cases x with
    | run d o =>
      simp only [vcA, hl.ev] at h
      exact opV_mono' (fun v H' hh => ih _ _ _ _ hw' hn' hD' (hl.updD hx1 v) (hU.set hD v) (ho.updD (fun t ht => hx t (dst_run ht)) v) hh) (opE_ok h)
    | guarded g want d o =>
      simp only [XOp.inN, Bool.and_eq_true, decide_eq_true_eq] at hx1
      simp only [vcA] at h
      cases hg : hasN U g with
      | true =>
        rw [hg] at h
        have e := hU g ((hasN_iff U).1 hg)
        rw [hl.at_] at e
        simp only [vcX, e]
        exact ih _ _ _ _ hw' hn' hDa (hl.updD hx1.2 _) (hU.add d) (ho.updD (fun t ht => hx t (dst_grd ht)) _) h
      | false =>
        rw [hg] at h
        obtain ⟨t, e, hgd⟩ := grdV_gd h
        rw [hl.at_] at e
        simp only [vcX, e]
        have h1 := fun b => hl.upd hx1.1 (.p (.bool b))
        refine ⟨fun ht => ?_, fun ht => ih _ _ _ _ hw' hn' hDa ((h1 _).updD hx1.2 _) ((hU.lit hg _).add d) ((ho.upd (hx g dst_g) _).updD (fun t ht => hx t (dst_grd ht)) _) (hgd.2 ht)⟩
        have := hgd.1 ht
        rw [(h1 want).ev] at this
        exact opV_mono' (fun v H' hh => ih _ _ _ _ hw' hn' hD' ((h1 _).updD hx1.2 v) ((hU.lit hg _).set hD v) ((ho.upd (hx g dst_g) _).updD (fun t ht => hx t (dst_grd ht)) v) hh) (opE_ok this)
    | bad => exact h.elim

def keepA (E : Env) (d : Option Nat) (u : AV) : Prop := match d with
  | some t => E t = u
  | none => True
def stA (P : Program) (tab : Tab) (x : XOp) (U : List Nat) (E : Env) (H : Heap) (K : AV → Heap → Prop) : Prop :=
  match x with
  | .run _ o => opE P tab o (evF E) H K
  | .guarded g want _ o => match hasN U g with
    | true => K .und H
    | false => grdV (E g) want (opE P tab o (evF E) H K) (K .und H)
  | .bad => False
def psA (P : Program) (tab : Tab) (U : List Nat) : List XOp → Env → Heap → Prop → Prop
  | [], _, _, A => A
  | a :: ps, E, H, A => (stA P tab a U E H fun u _ => keepA E a.d u) ∧ psA P tab U ps E H A
def vcZ (P : Program) (tab : Tab) (Q : QF) : DCanon → List Nat → Env → Heap → Prop
  | [], _, E, H => Q E H
  | (.run d o, ps) :: rest, U, E, H => opE P tab o (evF E) H fun v H' => psA P tab U ps (updD E d v) H' (vcZ P tab Q rest U (updD E d v) H')
  | (.guarded g want d o, ps) :: rest, U, E, H => match hasN U g with
    | true => psA P tab (addU d U) ps (updD E d .und) H (vcZ P tab Q rest (addU d U) (updD E d .und) H)
    | false => grdV (E g) want (opE P tab o (evF (upd E g (.p (.bool want)))) H fun v H' => psA P tab U ps (updD (upd E g (.p (.bool want))) d v) H' (vcZ P tab Q rest U (updD (upd E g (.p (.bool want))) d v) H'))
      (psA P tab (addU d U) ps (updD (upd E g (.p (.bool (!want)))) d .und) H (vcZ P tab Q rest (addU d U) (updD (upd E g (.p (.bool (!want)))) d .und) H))
  | (.bad, _) :: _, _, _, _ => False

theorem keepA_ok {N : Nat} {E : Env} {e : List AV} (hl : EL N E e) {d : Option Nat} {u : AV} (h : keepA E d u) : Keeps e d u := by
  rintro t rfl; rw [← hl.at_]; exact h
theorem stA_ok {P : Program} {tab : Tab} {N : Nat} {x : XOp} {U : List Nat} {E : Env} {env : List AV} (hl : EL N E env) (hU : UL U E) {H : Heap} {K : AV → Heap → Prop} (h : stA P tab x U E H K) : stV P tab x env H K := by
  cases x with
  | run d o => simp only [stA, hl.ev] at h; exact opE_ok h
  | guarded g want d o =>
    simp only [stA] at h
    cases hg : hasN U g with
    | true =>
      rw [hg] at h
      have e := hU g ((hasN_iff U).1 hg)
      rw [hl.at_] at e
      simp only [stV, e]; exact h
    | false =>
      rw [hg] at h
      obtain ⟨t, e, hg⟩ := grdV_gd h
      rw [hl.at_] at e
      simp only [stV, e]
      rw [hl.ev] at hg
      exact ⟨fun ht => opE_ok (hg.1 ht), hg.2⟩
  | bad => exact h
theorem psA_ok {P : Program} {tab : Tab} {N : Nat} {U : List Nat} {E : Env} {env : List AV} (hl : EL N E env) (hU : UL U E) {H : Heap} {A : Prop} : ∀ (ps : List XOp), psA P tab U ps E H A → psV P tab ps env H ∧ A := by
  intro ps
  induction ps with
  | nil => intro h; exact ⟨trivial, h⟩
  | cons a ps ih =>
    rintro ⟨h1, h2⟩
    exact ⟨⟨stV_mono (fun _ _ => keepA_ok hl) (stA_ok hl hU h1), (ih h2).1⟩, (ih h2).2⟩
theorem vcZ_ok {P : Program} {tab : Tab} {N : Nat} {ws : Nat → Bool} {E0 : Env} {Q : QF} : ∀ (c : DCanon) (U : List Nat) (E : Env) (env : List AV) (H : Heap), (∀ x ∈ c, x.1.inN N = true ∧ ∀ i ∈ x.1.dst, ws i = false) → dsN (c.map fun p => p.1.d) = true → UD U (c.map fun p => p.1.d) → EL N E env → UL U E → Out ws E0 E → vcZ P tab Q c U E H →
    vcY P tab (QL N ws E0 Q) c env H := by
  intro c
  induction c with
  | nil => intro U E env H _ _ _ hl _ ho h; exact ⟨E, hl, ho, h⟩
  | cons p c ih =>
    obtain ⟨x, ps⟩ := p
    intro U E env H hw hn hD hl hU ho h
    have hn' := dsN_tail hn
    have hD' := hD.tail
    have hDa := hD.add hn
    have hw' : ∀ x ∈ c, x.1.inN N = true ∧ ∀ i ∈ x.1.dst, ws i = false := fun y hy => hw y (by simp [hy])
    obtain ⟨hx1, hx⟩ := hw (x, ps) (by simp)
    cases x with
    | run d o =>
      simp only [vcZ, hl.ev] at h
      refine opV_mono' (fun v H' hh => ?_) (opE_ok h)
      obtain ⟨a, b⟩ := psA_ok (hl.updD hx1 v) (hU.set hD v) _ hh
      exact ⟨a, ih _ _ _ _ hw' hn' hD' (hl.updD hx1 v) (hU.set hD v) (ho.updD (fun t ht => hx t (dst_run ht)) v) b⟩
    | guarded g want d o =>
      simp only [XOp.inN, Bool.and_eq_true, decide_eq_true_eq] at hx1
      simp only [vcZ] at h
      cases hg : hasN U g with
      | true =>
        rw [hg] at h
        have e := hU g ((hasN_iff U).1 hg)
        rw [hl.at_] at e
        simp only [vcY, e]
        obtain ⟨a, b⟩ := psA_ok (hl.updD hx1.2 _) (hU.add d) _ h
        exact ⟨a, ih _ _ _ _ hw' hn' hDa (hl.updD hx1.2 _) (hU.add d) (ho.updD (fun t ht => hx t (dst_grd ht)) _) b⟩
      | false =>
        rw [hg] at h
        obtain ⟨t, e, hgd⟩ := grdV_gd h
        rw [hl.at_] at e
        simp only [vcY, e]
        have h1 := fun b => hl.upd hx1.1 (.p (.bool b))
        refine ⟨fun ht => ?_, fun ht => ?_⟩
        · have := hgd.1 ht
          rw [(h1 want).ev] at this
          refine opV_mono' (fun v H' hh => ?_) (opE_ok this)
          obtain ⟨a, b⟩ := psA_ok ((h1 _).updD hx1.2 v) ((hU.lit hg _).set hD v) _ hh
          exact ⟨a, ih _ _ _ _ hw' hn' hD' ((h1 _).updD hx1.2 v) ((hU.lit hg _).set hD v) ((ho.upd (hx g dst_g) _).updD (fun t ht => hx t (dst_grd ht)) v) b⟩
        · obtain ⟨a, b⟩ := psA_ok ((h1 _).updD hx1.2 _) ((hU.lit hg _).add d) _ (hgd.2 ht)
          exact ⟨a, ih _ _ _ _ hw' hn' hDa ((h1 _).updD hx1.2 _) ((hU.lit hg _).add d) ((ho.upd (hx g dst_g) _).updD (fun t ht => hx t (dst_grd ht)) _) b⟩
    | bad => exact h.elim

/-! ### Code -/
abbrev PostF := Exit → Env → Heap → Prop
abbrev PostF.thenA (b : PostF → Env → Heap → Prop) (Q : PostF) : PostF
  | .normal, E, H => b Q E H
  | e, E, H => Q e E H
abbrev PostF.block (id : Nat) (Q : PostF) : PostF
  | .exit i, E, H => match Nat.beq i id with
    | true => Q .normal E H
    | false => Q (.exit i) E H
  | e, E, H => Q e E H
abbrev loopF (Q : PostF) (T : QF) : PostF
  | .normal, E, H => T E H
  | e, E, H => Q e E H
def resF (tab : Tab) (rs : List ResultVar) (E : Env) (H : Heap) (K : List AV → Prop) : Prop :=
  match rs with
  | [] => K []
  | .tmp t :: rs => resF tab rs E H fun vs => K (E t :: vs)
  | .cell a t :: rs => loadV tab t (E a) H fun v => resF tab rs E H fun vs => K (v :: vs)
abbrev retF (tab : Tab) (rs : List ResultVar) (K : AV → Heap → Prop) : PostF
  | .normal, E, H => resF tab rs E H fun vs => K (tupA vs) H
  | .ret, E, H => resF tab rs E H fun vs => K (tupA vs) H
  | _, _, _ => False

/-- Slots at the head of a round, and what they are told to be. -/
def updA (E : Env) : List Nat → List AV → Prop → Prop
  | k :: ks, v :: vs, A => AV.wk (E k) v ∧ updA E ks vs A
  | _, _, A => A
def lookA (E : Env) : List Nat → List AV → Env
  | k :: ks, v :: vs => fun i => match Nat.beq i k with
    | true => v
    | false => lookA E ks vs i
  | _, _ => E
def nthA : List AV → Nat → AV
  | [], _ => .any
  | v :: _, 0 => v
  | _ :: l, i + 1 => nthA l i
def maskF (l : List Nat) (E : Env) : Env := fun i => match hasN l i with
  | true => E i
  | false => .any
def headF (fx : List Nat) (env : List AV) (mk : List Nat) (vs : List AV) : Env := lookA (maskF fx (nthA env)) mk vs
def tbl : Nat → Nat → Env → List AV
  | 0, _, _ => []
  | n + 1, i, E => E i :: tbl n (i + 1) E

/-- A loop: some invariant and measure serve. 'mk': the slots that a round writes and reads. 'g': an empty row is lent to each round. -/
def LoopV (body : PostF → Env → Heap → Prop) (fx : List Nat) (Q : PostF) (mk : List Nat) (env : List AV) (H : Heap) : Prop :=
  ∃ (σ : Type) (fs : σ → List AV) (TH : σ → Heap) (pre : σ → Prop) (μ : σ → Nat) (s0 : σ) (g : Bool),
    (∀ s, (fs s).length = mk.length) ∧ (pre s0 ∧ updA (nthA env) mk (fs s0) (Heap.le (TH s0) H)) ∧
    ∀ s, pre s → match g with
      | false => body (loopF Q fun E' H' => ∃ s', pre s' ∧ μ s' < μ s ∧ updA E' mk (fs s') (Heap.le (TH s') H')) (headF fx env mk (fs s)) (TH s)
      | true => ∀ q, TH s q = none → body (loopF Q fun E' H' => ∃ s', pre s' ∧ μ s' < μ s ∧ updA E' mk (fs s') (Heap.le (TH s') H')) (headF fx env mk (fs s)) ((TH s).set q [])

theorem LoopV.mk {body : PostF → Env → Heap → Prop} {fx : List Nat} {Q : PostF} {mk : List Nat} {env : List AV} {H : Heap} {σ : Type} (s0 : σ) (fs : σ → List AV) (TH : σ → Heap) (pre : σ → Prop) (μ : σ → Nat)
    (hl : ∀ s, (fs s).length = mk.length) (h0 : pre s0 ∧ updA (nthA env) mk (fs s0) (Heap.le (TH s0) H))
    (round : ∀ s, pre s → body (loopF Q fun E' H' => ∃ s', pre s' ∧ μ s' < μ s ∧ updA E' mk (fs s') (Heap.le (TH s') H')) (headF fx env mk (fs s)) (TH s)) : LoopV body fx Q mk env H :=
  ⟨σ, fs, TH, pre, μ, s0, false, hl, h0, round⟩
theorem LoopV.mkG {body : PostF → Env → Heap → Prop} {fx : List Nat} {Q : PostF} {mk : List Nat} {env : List AV} {H : Heap} {σ : Type} (s0 : σ) (fs : σ → List AV) (TH : σ → Heap) (pre : σ → Prop) (μ : σ → Nat)
    (hl : ∀ s, (fs s).length = mk.length) (h0 : pre s0 ∧ updA (nthA env) mk (fs s0) (Heap.le (TH s0) H))
    (round : ∀ s, pre s → ∀ q, TH s q = none → body (loopF Q fun E' H' => ∃ s', pre s' ∧ μ s' < μ s ∧ updA E' mk (fs s') (Heap.le (TH s') H')) (headF fx env mk (fs s)) ((TH s).set q [])) : LoopV body fx Q mk env H :=
  ⟨σ, fs, TH, pre, μ, s0, true, hl, h0, round⟩

/-- What is told of a function's code beside it: how many slots there are; for a drawn region (by its number) the ancestors and the canonical order; for a loop (by the number of its first region) the slots that matter at a round's head: those that no round writes, and the others. -/
structure Info where
  n : Nat
  draws : Nat → List (List Nat) × Canon
  loops : Nat → List Nat × List Nat
def dopsOf (ops : Array Oper) : DOps := ops.toList.map fun o => (xop ops o, edgesOf o)

def keyC : Code → Nat
  | .region id _ _ => id
  | .seq a _ => keyC a
  | .cond _ a _ => keyC a
  | .block _ a => keyC a
  | .loop a => keyC a
  | _ => 0
/-- The slots that a piece of code leaves as they are, and tells of. -/
def kpC (D : Info) : Code → Nat → Bool
  | .region _ ops _, i => ops.toList.all fun o => !((xop ops o).dst.contains i)
  | .seq a b, i => kpC D a i && kpC D b i
  | .cond _ a b, i => kpC D a i && kpC D b i
  | .block _ a, i => kpC D a i
  | .loop a, i => hasN (D.loops (keyC a)).1 i
  | _, _ => true

def wpC (P : Program) (tab : Tab) (D : Info) : Code → PostF → Env → Heap → Prop
  | .skip => fun Q E H => Q .normal E H
  | .region _ ops false => fun Q E H => vcA P tab (Q .normal) (ops.toList.map (xop ops)) [] E H
  | .region id ops true => fun Q E H => vcZ P tab (Q .normal) (dOf (dopsOf ops) (D.draws id).2) [] E H
  | .seq a b => fun Q E H => wpC P tab D a (PostF.thenA (wpC P tab D b) Q) E H
  | .cond c a b => fun Q E H => condV (evF E c) (wpC P tab D a Q E H) (wpC P tab D b Q E H)
  | .block id a => fun Q E H => wpC P tab D a (PostF.block id Q) E H
  | .loop a => fun Q E H => LoopV (wpC P tab D a) (D.loops (keyC a)).1 Q (D.loops (keyC a)).2 (tbl D.n 0 (maskF ((D.loops (keyC a)).1 ++ (D.loops (keyC a)).2) E)) H
  | .exit i => fun Q E H => Q (.exit i) E H
  | .ret => fun Q E H => Q .ret E H
  | _ => fun _ _ _ => False

def okC (tab : Tab) (D : Info) : Code → Bool
  | .region id ops true => okA (dopsOf ops) (D.draws id).1 && rangeOk (dopsOf ops) D.n && permOk (dopsOf ops).length (D.draws id).2 && good tab (dopsOf ops) (D.draws id).1 (D.draws id).2 && (ops.toList.all fun o => (xop ops o).inN D.n) && dsN ((dOf (dopsOf ops) (D.draws id).2).map fun p => p.1.d)
  | .region _ ops false => (ops.toList.all fun o => (xop ops o).inN D.n) && dsN ((ops.toList.map (xop ops)).map XOp.d)
  | .seq a b => okC tab D a && okC tab D b
  | .cond _ a b => okC tab D a && okC tab D b
  | .block _ a => okC tab D a
  | .loop a => okC tab D a && ((D.loops (keyC a)).1.all fun k => kpC D a k && decide (k < D.n)) && ((D.loops (keyC a)).2.all fun k => decide (k < D.n) && !hasN (D.loops (keyC a)).1 k)
  | _ => true

theorem opAt_in {D : Info} {ops : Array Oper} {id i N : Nat} {b : Bool} (h : (ops.toList.all fun o => (xop ops o).inN N) = true) : (opAt (dopsOf ops) i).inN N = true ∧ ∀ t ∈ (opAt (dopsOf ops) i).dst, kpC D (.region id ops b) t = false := by
  unfold opAt dopsOf
  by_cases hi : i < ops.size
  · simp only [List.getD, List.getElem?_map, Array.getElem?_toList, Array.getElem?_eq_getElem hi, Option.map_some, Option.getD_some]
    refine ⟨List.all_eq_true.1 h ops[i] (by simp), fun t ht => ?_⟩
    simp only [kpC, List.all_eq_false]
    exact ⟨ops[i], by simp, by simpa using ht⟩
  · have : (List.map (fun o => (xop ops o, edgesOf o)) ops.toList)[i]? = none := List.getElem?_eq_none (by simpa using hi)
    simp only [List.getD, this, Option.getD_none]
    exact ⟨rfl, fun t ht => by simp [XOp.dst] at ht⟩

theorem nthA_getD : ∀ (l : List AV) (i : Nat), nthA l i = l.getD i .any
  | [], _ => by simp [nthA]
  | v :: l, 0 => by simp [nthA]
  | v :: l, i + 1 => by simp only [nthA, nthA_getD l i, List.getD_cons_succ]
theorem tbl_eq : ∀ (n k : Nat) (E : Env) (env : List AV), env.length = n → (∀ i, i < n → E (k + i) = env.getD i .any) → tbl n k E = env
  | 0, _, _, env, hl, _ => (List.eq_nil_of_length_eq_zero hl).symm
  | n + 1, k, E, [], hl, _ => by simp at hl
  | n + 1, k, E, v :: env, hl, h => by
    rw [tbl, tbl_eq n (k + 1) E env (by simpa using hl) (fun i hi => by have := h (i + 1) (by omega); rw [List.getD_cons_succ] at this; rw [← this]; congr 1; omega)]
    have := h 0 (by omega); rw [List.getD_cons_zero, Nat.add_zero] at this; rw [this]
theorem EL.tbl {N : Nat} {E : Env} {env : List AV} (h : EL N E env) : tbl N 0 E = env := tbl_eq N 0 E env h.len fun i _ => by rw [Nat.zero_add]; exact h.at_ i
theorem updA_ok {E : Env} {A : Prop} : ∀ (ks : List Nat) (vs : List AV), updA E ks vs A → (∀ p ∈ List.zip ks vs, AV.wk (E p.1) p.2) ∧ A
  | [], vs, h => ⟨fun p hp => by simp at hp, h⟩
  | k :: ks, [], h => ⟨fun p hp => by simp at hp, h⟩
  | k :: ks, v :: vs, ⟨h1, h2⟩ => by
    obtain ⟨h3, h4⟩ := updA_ok ks vs h2
    refine ⟨fun p hp => ?_, h4⟩
    rcases List.mem_cons.1 hp with rfl | hp
    · exact h1
    · exact h3 p hp
theorem lookA_cases {E : Env} {i : Nat} : ∀ (ks : List Nat) (vs : List AV), (i, lookA E ks vs i) ∈ List.zip ks vs ∨ (lookA E ks vs i = E i ∧ (vs.length = ks.length → i ∉ ks))
  | [], vs => .inr ⟨by cases vs <;> rfl, fun _ => by simp⟩
  | k :: ks, [] => .inr ⟨rfl, fun h => by simp at h⟩
  | k :: ks, v :: vs => by
    rw [lookA]
    cases hb : Nat.beq i k with
    | true => have := Nat.eq_of_beq_eq_true hb; subst this; exact .inl (by simp)
    | false =>
      have hne : i ≠ k := fun e => by rw [e, Nat.beq_refl] at hb; cases hb
      simp only [hb]
      rcases lookA_cases (E := E) (i := i) ks vs with h | ⟨h1, h2⟩
      · exact .inl (by simp [h])
      · exact .inr ⟨h1, fun hl => by simp only [List.mem_cons, not_or]; exact ⟨hne, h2 (by simpa using hl)⟩⟩

theorem Rel.ghost {B0 : Nat} {w0 : World} {F : Heap} {φ : Pm} {Z : Fro} {H : Heap} {w : World} (hdj : Disj H F) (s : Sim Z φ B0 w0 (H.or F) w) :
    ∃ r φ', H r = none ∧ Pm.le φ φ' ∧ Disj (H.set r []) F ∧ Sim Z φ' B0 w0 ((H.set r []).or F) w := by
  obtain ⟨r, φ', q1, q2, q3, q4, q5⟩ := s.ghost
  have hHr : H r = none := by
    cases hh : H r with
    | none => rfl
    | some b => rw [Heap.or_left hh] at q1; cases q1
  have hFr : F r = none := by
    cases hh : F r with
    | none => rfl
    | some b => simp [Heap.or, hHr, hh] at q1
  rw [← Heap.or_set] at q5
  refine ⟨r, φ', hHr, q3, ?_, q5⟩
  intro y hy
  by_cases e : y = r
  · subst e; exact hFr
  · rw [Heap.set_other e] at hy; exact hdj y hy

/-- An empty row, lent. -/
theorem CT.ghost {P : Program} {c : Code} {Q : Post} {env : List AV} {H : Heap} (h : ∀ q, H q = none → CT P c Q env (H.set q [])) : CT P c Q env H := by
  intro B0 w0 F Z φ a w rel
  obtain ⟨r, φ', hHr, q3, hd, q5⟩ := Rel.ghost rel.disj rel.sim
  refine wp_mono (h r hHr B0 w0 F Z φ' a w ⟨hd, q5, rel.env.mono (Fro.le_refl _) q3, rel.defers⟩) ?_
  rintro e2 a2 w2 ⟨env2, H2, Z2, φ2, t2, hz2, hp2, r2⟩
  exact ⟨env2, H2, Z2, φ2, t2, hz2, Pm.le_trans q3 hp2, r2⟩
theorem CallT.ghost {P : Program} {f : Nat} {args : List AV} {H : Heap} {K : AV → Heap → Prop} (hb : HasBody P f) (h : ∀ q, H q = none → CallT P f args (H.set q []) K) : CallT P f args H K := by
  refine ⟨hb, ?_⟩
  intro B0 w0 F Z φ w xs hdj hs ha
  obtain ⟨r, φ', hHr, q3, hd, q5⟩ := Rel.ghost hdj hs
  refine ((h r hHr).2 B0 w0 F Z φ' w xs hd q5 ⟨ha.1, fun i av x hi hx => (ha.2 i av x hi hx).mono (Fro.le_refl _) q3⟩).mono ?_
  rintro e w' ⟨x, rfl, v, H2, Z2, φ2, t2, hz2, hp2, r2⟩
  exact ⟨x, rfl, v, H2, Z2, φ2, t2, hz2, Pm.le_trans q3 hp2, r2⟩


/-- What is asked, with the slots in both ways of telling. -/
def OutQ (N : Nat) (k : Nat → Bool) (E : Env) (Q : PostF) : Post := fun e env' H' => ∃ E', EL N E' env' ∧ Out k E E' ∧ Q e E' H'

/-- The slots as a list again. -/
theorem EL.headL {N : Nat} {E : Env} (h : ∀ i, N ≤ i → E i = .any) : EL N E (Sep.tbl N 0 E) := by
  have key : ∀ (n k : Nat), (Sep.tbl n k E).length = n ∧ ∀ i, i < n → (Sep.tbl n k E).getD i .any = E (k + i) := by
    intro n
    induction n with
    | zero => intro k; exact ⟨rfl, fun i hi => by omega⟩
    | succ n ih =>
      intro k
      refine ⟨by rw [Sep.tbl, List.length_cons, (ih _).1], fun i hi => ?_⟩
      cases i with
      | zero => rw [Sep.tbl, List.getD_cons_zero]; rfl
      | succ i => rw [Sep.tbl, List.getD_cons_succ, (ih (k + 1)).2 i (by omega)]; congr 1; omega
  refine ⟨(key N 0).1, fun i => ?_⟩
  by_cases hi : i < N
  · rw [(key N 0).2 i hi, Nat.zero_add]
  · rw [h i (by omega)]
    have : (Sep.tbl N 0 E)[i]? = none := List.getElem?_eq_none (by rw [(key N 0).1]; omega)
    simp [List.getD, this]

theorem CT.loopV {P : Program} {a : Code} {Q : PostF} {E : Env} {env : List AV} {H : Heap} {N : Nat} {fx mk : List Nat} {k : Nat → Bool} {body : PostF → Env → Heap → Prop} (hE : EL N E env) (hfx : ∀ i ∈ fx, k i = true ∧ i < N) (hmk : ∀ i ∈ mk, i < N ∧ i ∉ fx)
    (hb : ∀ Q E' env' H, EL N E' env' → body Q E' H → CT P a (OutQ N k E' Q) env' H)
    (h : LoopV body fx Q mk (Sep.tbl N 0 (maskF (fx ++ mk) E)) H) : CT P (.loop a) (OutQ N (hasN fx) E Q) env H := by
  obtain ⟨σ, fs, TH, pre, μ, s0, g, hl, ⟨h0, h1⟩, hr⟩ := h
  have hmask : ∀ i, N ≤ i → maskF (fx ++ mk) E i = .any := by
    intro i hi
    unfold maskF
    split
    · rw [hE.at_]
      have : env[i]? = none := List.getElem?_eq_none (by rw [hE.len]; exact hi)
      simp [List.getD, this]
    · rfl
  have hEm := EL.headL hmask
  have hnth : ∀ i, nthA (Sep.tbl N 0 (maskF (fx ++ mk) E)) i = maskF (fx ++ mk) E i := fun i => by rw [nthA_getD, ← hEm.at_]
  have hin : ∀ i, i ∈ fx ∨ i ∈ mk → maskF (fx ++ mk) E i = E i := by
    intro i hi
    unfold maskF
    rw [(hasN_iff (fx ++ mk)).2 (List.mem_append.2 hi)]
  generalize hhd : (fun s => headF fx (Sep.tbl N 0 (maskF (fx ++ mk) E)) mk (fs s)) = hd
  have hdE : ∀ s, headF fx (Sep.tbl N 0 (maskF (fx ++ mk) E)) mk (fs s) = hd s := fun s => congrFun hhd s
  simp only [hdE] at hr
  have hcase : ∀ s i, (i, hd s i) ∈ List.zip mk (fs s) ∨ (i ∈ fx ∧ hd s i = E i) ∨ hd s i = .any := by
    intro s i
    rw [← hdE]
    rcases lookA_cases (E := maskF fx (nthA (Sep.tbl N 0 (maskF (fx ++ mk) E)))) (i := i) mk (fs s) with hm | ⟨hm, hn⟩
    · exact .inl hm
    · refine .inr ?_
      unfold headF; rw [hm]
      unfold maskF
      cases hh : hasN fx i with
      | true =>
        have hif := (hasN_iff fx).1 hh
        refine .inl ⟨hif, ?_⟩
        show nthA (Sep.tbl N 0 (maskF (fx ++ mk) E)) i = E i
        rw [hnth, hin i (.inl hif)]
      | false => exact .inr rfl
  have hzm : ∀ {s} {p : Nat × AV}, p ∈ List.zip mk (fs s) → p.1 ∈ mk := fun hm => (List.of_mem_zip hm).1
  have hstart : updA E mk (fs s0) (Heap.le (TH s0) H) := by
    have key : ∀ (ks : List Nat) (vs : List AV) (A : Prop), (∀ k ∈ ks, k ∈ mk) → updA (nthA (Sep.tbl N 0 (maskF (fx ++ mk) E))) ks vs A → updA E ks vs A := by
      intro ks
      induction ks with
      | nil => intro vs A _ h; cases vs <;> exact h
      | cons k ks ih =>
        intro vs A hk h
        cases vs with
        | nil => exact h
        | cons v vs =>
          refine ⟨?_, ih vs A (fun j hj => hk j (by simp [hj])) h.2⟩
          have := h.1
          rw [hnth, hin k (.inr (hk k (by simp)))] at this
          exact this
    exact key mk _ _ (fun k hk => hk) h1
  refine CT.loop (fun s env' H' => pre s ∧ ∃ E', EL N E' env' ∧ Out (hasN fx) E E' ∧ updA E' mk (fs s) (Heap.le (TH s) H')) μ s0 ⟨h0, E, hE, Out.refl _ _, hstart⟩ ?_
  rintro s env' H' ⟨hp, E', hE', hout, hu⟩
  obtain ⟨hw, hle⟩ := updA_ok _ _ hu
  have hfxE : ∀ i ∈ fx, hd s i = E i := by
    intro i hi
    rcases hcase s i with hm | ⟨_, h1⟩ | h1
    · exact absurd hi (hmk _ (hzm hm)).2
    · exact h1
    · rw [← hdE] at h1 ⊢
      unfold headF at h1 ⊢
      rcases lookA_cases (E := maskF fx (nthA (Sep.tbl N 0 (maskF (fx ++ mk) E)))) (i := i) mk (fs s) with hm | ⟨hm, hn⟩
      · exact absurd hi (hmk _ (hzm hm)).2
      · rw [hm]; unfold maskF; rw [(hasN_iff fx).2 hi]
        show nthA (Sep.tbl N 0 (maskF (fx ++ mk) E)) i = E i
        rw [hnth, hin i (.inl hi)]
  have hEL : EL N (hd s) (Sep.tbl N 0 (hd s)) := by
    refine EL.headL fun i hi => ?_
    rcases hcase s i with hm | ⟨h1, _⟩ | h1
    · exact absurd (hmk _ (hzm hm)).1 (by simpa using hi)
    · exact absurd (hfx i h1).2 (by simpa using hi)
    · exact h1
  have hweak : ∀ (i : Nat) (v v' : AV), env'[i]? = some v → (Sep.tbl N 0 (hd s))[i]? = some v' → AV.wk v v' := by
    intro i v v' hv hv'
    have e1 : E' i = v := by rw [hE'.at_]; simp [List.getD, hv]
    have e2 : hd s i = v' := by rw [hEL.at_]; simp [List.getD, hv']
    rcases hcase s i with hm | ⟨h0, h1⟩ | h1
    · have := hw _ hm
      rw [e2] at this
      simpa only [e1] using this
    · rw [← e1, ← e2, h1, hout i ((hasN_iff fx).2 h0)]; exact .refl _
    · rw [← e2, h1]; exact .any _
  have fin : ∀ (e : Exit) (env2 : List AV) (H2 : Heap), OutQ N k (hd s) (loopF Q fun E' H' => ∃ s', pre s' ∧ μ s' < μ s ∧ updA E' mk (fs s') (Heap.le (TH s') H')) e env2 H2 →
      (match e with
      | .normal => ∃ s', (pre s' ∧ ∃ E', EL N E' env2 ∧ Out (hasN fx) E E' ∧ updA E' mk (fs s') (Heap.le (TH s') H2)) ∧ μ s' < μ s
      | e => OutQ N (hasN fx) E Q e env2 H2) := by
    rintro e env2 H2 ⟨E2, h2, h3, h4⟩
    have h3' : Out (hasN fx) E E2 := fun i hi => by
      have hif := (hasN_iff fx).1 hi
      rw [h3 i (hfx i hif).1, hfxE i hif]
    cases e <;> first | exact ⟨E2, h2, h3', h4⟩ | (obtain ⟨s', a1, a2, a3⟩ := h4; exact ⟨s', ⟨a1, E2, h2, h3', a3⟩, a2⟩)
  refine CT.weak (by rw [hEL.len, hE'.len]) hweak hle ?_
  have hr := hr s hp
  cases g with
  | false => exact (hb _ _ _ _ hEL hr).mono fin
  | true => exact CT.ghost fun q hq => (hb _ _ _ _ hEL (hr q hq)).mono fin

theorem wpC_ok {P : Program} {tab : Tab} (hT : tab.Ok P) (hm : P.follows .mixedOrders = true) {D : Info} : ∀ (c : Code) (Q : PostF) (E : Env) (env : List AV) (H : Heap), okC tab D c = true → EL D.n E env →
    wpC P tab D c Q E H → CT P c (OutQ D.n (kpC D c) E Q) env H := by
  intro c
  induction c with
  | skip => intro Q E env H _ hl h; exact CT.skip ⟨E, hl, Out.refl _ _, h⟩
  | ret => intro Q E env H _ hl h; exact CT.ret ⟨E, hl, Out.refl _ _, h⟩
  | exit i => intro Q E env H _ hl h; exact CT.exit ⟨E, hl, Out.refl _ _, h⟩
  | region id ops b =>
    intro Q E env H ho hl h
    cases b with
    | false =>
      simp only [okC, Bool.and_eq_true] at ho
      refine CT.regX hT rfl (vcA_ok _ _ _ _ _ (fun x hx => ?_) ho.2 (fun u hu => by cases hu) hl (fun u hu => by cases hu) (Out.refl _ _) h)
      obtain ⟨o, ho2, rfl⟩ := List.mem_map.1 hx
      refine ⟨List.all_eq_true.1 ho.1 o ho2, fun i hi => ?_⟩
      simp only [kpC, List.all_eq_false]
      exact ⟨o, ho2, by simpa using hi⟩
    | true =>
      simp only [okC, Bool.and_eq_true] at ho
      have ho1 : (okA (dopsOf ops) (D.draws id).1 && rangeOk (dopsOf ops) D.n && permOk (dopsOf ops).length (D.draws id).2 && good tab (dopsOf ops) (D.draws id).1 (D.draws id).2) = true := by
        simp only [Bool.and_eq_true]; exact ho.1.1
      refine CX.drawD hT hm (D.draws id).1 (D.draws id).2 D.n hl.len ho1 _ rfl (vcZ_ok _ _ _ _ _ ?_ ho.2 (fun u hu => by cases hu) hl (fun u hu => by cases hu) (Out.refl _ _) h) _ rfl
      intro x hx
      obtain ⟨p, _, rfl⟩ := List.mem_map.1 hx
      exact opAt_in ho.1.2
  | seq a b iha ihb =>
    intro Q E env H ho hl h
    simp only [okC, Bool.and_eq_true] at ho
    refine CT.seq ((iha _ _ _ _ ho.1 hl h).mono ?_)
    rintro e env' H' ⟨E1, hl1, h1, h2⟩
    have h1' : Out (kpC D (.seq a b)) E E1 := h1.mono fun i hi => by simp only [kpC, Bool.and_eq_true] at hi; exact hi.1
    cases e with
    | normal => exact (ihb _ _ _ _ ho.2 hl1 h2).mono fun e2 env2 H2 ⟨E2, hl2, h3, h4⟩ => ⟨E2, hl2, h1'.trans (h3.mono fun i hi => by simp only [kpC, Bool.and_eq_true] at hi; exact hi.2), h4⟩
    | _ => exact ⟨E1, hl1, h1', h2⟩
  | cond c a b iha ihb =>
    intro Q E env H ho hl h
    simp only [okC, Bool.and_eq_true] at ho
    rcases condV_pk h with ⟨t, e, hp⟩ | ⟨e, h1, h2⟩
    case inr =>
      rw [hl.ev] at e
      exact CT.condU e ((iha _ _ _ _ ho.1 hl h1).mono fun e2 env2 H2 ⟨E2, hl2, h3, h4⟩ => ⟨E2, hl2, h3.mono fun i hi => (by simp only [kpC, Bool.and_eq_true] at hi; exact hi.1), h4⟩)
        ((ihb _ _ _ _ ho.2 hl h2).mono fun e2 env2 H2 ⟨E2, hl2, h3, h4⟩ => ⟨E2, hl2, h3.mono fun i hi => (by simp only [kpC, Bool.and_eq_true] at hi; exact hi.2), h4⟩)
    rw [hl.ev] at e
    exact CT.cond e (fun ht => (iha _ _ _ _ ho.1 hl (hp.1 ht)).mono fun e2 env2 H2 ⟨E2, hl2, h3, h4⟩ => ⟨E2, hl2, h3.mono fun i hi => (by simp only [kpC, Bool.and_eq_true] at hi; exact hi.1), h4⟩)
      (fun ht => (ihb _ _ _ _ ho.2 hl (hp.2 ht)).mono fun e2 env2 H2 ⟨E2, hl2, h3, h4⟩ => ⟨E2, hl2, h3.mono fun i hi => (by simp only [kpC, Bool.and_eq_true] at hi; exact hi.2), h4⟩)
  | block id a iha =>
    intro Q E env H ho hl h
    refine CT.block ((iha _ _ _ _ ho hl h).mono ?_)
    rintro e env' H' ⟨E1, hl1, h1, h2⟩
    cases e with
    | exit j =>
      simp only [PostF.block] at h2
      simp only [Post.block]
      cases hb : Nat.beq j id with
      | true =>
        rw [hb] at h2
        rw [if_pos (Nat.eq_of_beq_eq_true hb)]; exact ⟨E1, hl1, h1, h2⟩
      | false =>
        rw [hb] at h2
        have hne : j ≠ id := fun e => by rw [e, Nat.beq_refl] at hb; cases hb
        rw [if_neg hne]; exact ⟨E1, hl1, h1, h2⟩
    | _ => exact ⟨E1, hl1, h1, h2⟩
  | loop a iha =>
    intro Q E env H ho hl h
    simp only [okC, Bool.and_eq_true, List.all_eq_true, decide_eq_true_eq, Bool.not_eq_true'] at ho
    exact CT.loopV hl ho.1.2 (fun i hi => ⟨(ho.2 i hi).1, fun hc => by have := (ho.2 i hi).2; rw [(hasN_iff _).2 hc] at this; cases this⟩) (fun Q E' env' H hl' hq => iha _ _ _ _ ho.1.1 hl' hq) h
  | _ => intro Q E env H _ _ h; exact h.elim

theorem resF_ok {tab : Tab} {N : Nat} {E : Env} {env : List AV} (hl : EL N E env) {H : Heap} : ∀ (rs : List ResultVar) (K : List AV → Prop), resF tab rs E H K → resV tab rs env H K
  | [], K, h => h
  | .tmp t :: rs, K, h => by
    simp only [resV]; rw [← hl.at_]; exact resF_ok hl rs _ h
  | .cell a t :: rs, K, h => by
    simp only [resV]; rw [← hl.at_]
    obtain ⟨S, u, hlin⟩ := loadV_lin tab t (E a) H
    obtain ⟨h1, h2⟩ := (hlin _).1 h
    exact (hlin _).2 ⟨h1, resF_ok hl rs _ h2⟩

/-- A call, out of its formula. -/
theorem CallT.of_wp {P : Program} {tab : Tab} (hT : tab.Ok P) (hm : P.follows .mixedOrders = true) {f : Nat} {fn : Func} (hf : P.funcs[f]? = some fn) {c : Code} (hc : fn.body = some c) (hn : (fn.name == "runtime.NumGoroutine") = false)
    {D : Info} (hnt : fn.ntmps = D.n) {rs : Array ResultVar} (hrs : fn.results = rs) (hok : okC tab D c = true)
    {args : List AV} {H : Heap} {K : AV → Heap → Prop} (hle : Nat.ble args.length D.n = true) {W : Prop} (hW : wpC P tab D c (retF tab rs.toList K) (nthA args) H = W) (h : W) : CallT P f args H K := by
  subst hrs; subst hW
  have hle' := Nat.le_of_ble_eq_true hle
  have hE : EL D.n (nthA args) (args ++ List.replicate (fn.ntmps - args.length) .any) := by
    refine ⟨by simp; omega, fun i => ?_⟩
    rw [nthA_getD]
    simp only [List.getD]
    by_cases hi : i < args.length
    · rw [List.getElem?_append_left hi]
    · rw [List.getElem?_append_right (by omega), List.getElem?_eq_none (by omega), List.getElem?_replicate]
      split <;> rfl
  refine CallT.of_body hT hf hc hn ((wpC_ok hT hm _ _ _ _ _ hok hE h).mono ?_)
  rintro e env' H' ⟨E', hl, _, hq⟩
  cases e <;> first | exact resF_ok hl _ _ hq | exact hq.elim

/-- The code at a place within code. -/
def cAt : List Nat → Code → Code
  | [], c => c
  | 0 :: p, .seq a _ => cAt p a
  | _ :: p, .seq _ b => cAt p b
  | 0 :: p, .cond _ a _ => cAt p a
  | _ :: p, .cond _ _ b => cAt p b
  | _ :: p, .block _ a => cAt p a
  | _ :: p, .loop a => cAt p a
  | _, c => c
def bodyOf (f : Func) : Code := f.body.getD .skip
end Go.Sep
