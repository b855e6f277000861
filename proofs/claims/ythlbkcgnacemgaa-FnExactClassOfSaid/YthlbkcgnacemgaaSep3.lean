/- Sep, part 3: the table of types, reading and writing memory by abstract addresses. -/
import Derived.Test.YthlbkcgnacemgaaSep2
import Derived.Laws.AppendOwn
import Derived.Laws.CopyRow
import Derived.Laws.Rows
import Derived.Deep.MidRow
namespace Go.Sep
open Go Go.RowKit

inductive TK where
  | int (k : IntKind)
  | bool
  | str
  | slice (e : Nat)
  | struct (fs : List (Nat × Nat))
  | ptr (e : Nat)
  | func

structure TD where
  k : TK
  size : Nat
  bytes : Nat
  zero : List AV

abbrev Tab := Nat → Option TD

def TK.ok (P : Program) (t : Nat) : TK → Prop
  | .int k => P.underlying t = some (.int k)
  | .bool => P.underlying t = some .bool
  | .str => P.underlying t = some .string
  | .slice e => P.underlying t = some (.slice e)
  | .struct fs => ∃ fields : Array Field, P.underlying t = some (.struct fields) ∧ fields.toList.map (fun f => (f.offset, f.type)) = fs ∧
      P.stoodInHeld t = false ∧ P.eqGuardType P.depth t = false ∧ ∀ f ∈ fields.toList, f.name ≠ "_"
  | .ptr e => P.underlying t = some (.pointer e)
  | .func => ∃ a b c, P.underlying t = some (.func a b c)

def TK.agg : TK → Bool
  | .struct _ => true
  | _ => false

structure TD.Ok (P : Program) (t : Nat) (d : TD) : Prop where
  k : d.k.ok P t
  info : ∃ i z, P.info? t = some i ∧ i.size = d.size ∧ i.bytes = d.bytes ∧ i.zero = some z ∧ z.cells.toList.map constA = d.zero
  zlen : d.zero.length = d.size
  pos : 0 < d.size
  one : d.k.agg = false → d.size = 1

def Tab.Ok (P : Program) (tab : Tab) : Prop := ∀ t d, tab t = some d → TD.Ok P t d

theorem TK.ok_agg {P : Program} {t : Nat} {k : TK} (h : k.ok P t) (w : World) : (isAgg t).run P w = .ok k.agg w := by
  cases k with
  | struct fs => obtain ⟨fields, h, _⟩ := h; simp [isAgg, run_underlying h, TK.agg]
  | func => obtain ⟨a, b, c, h⟩ := h; simp [isAgg, run_underlying h, TK.agg]
  | _ => simp only [TK.ok] at h; simp [isAgg, run_underlying h, TK.agg]

theorem TD.run_size {P : Program} {t : Nat} {d : TD} (h : TD.Ok P t d) (w : World) : (sizeOf t).run P w = .ok d.size w := by
  obtain ⟨i, z, hi, hs, _⟩ := h.info
  simp [sizeOf, typeInfo, hi, hs]

/-- Lists of abstract cells and of values. -/
def RelL (Z : Fro) (φ : Pm) (vs : List AV) (xs : List Value) : Prop :=
  xs.length = vs.length ∧ ∀ (i : Nat) (av : AV) (x : Value), vs[i]? = some av → xs[i]? = some x → Cv Z φ av x

theorem RelL.nil (Z : Fro) (φ : Pm) : RelL Z φ [] [] := ⟨rfl, fun i av x h => by simp at h⟩
theorem RelL.append {Z : Fro} {φ : Pm} {vs vs' : List AV} {xs xs' : List Value} (h : RelL Z φ vs xs) (k : RelL Z φ vs' xs') : RelL Z φ (vs ++ vs') (xs ++ xs') := by
  refine ⟨by simp [h.1, k.1], ?_⟩
  intro i av x hi hx
  by_cases hl : i < vs.length
  · rw [List.getElem?_append_left hl] at hi
    rw [List.getElem?_append_left (by rw [h.1]; exact hl)] at hx
    exact h.2 i av x hi hx
  · rw [List.getElem?_append_right (by omega)] at hi
    rw [List.getElem?_append_right (by rw [h.1]; omega), h.1] at hx
    exact k.2 _ av x hi hx
theorem RelL.take {Z : Fro} {φ : Pm} {vs : List AV} {xs : List Value} (h : RelL Z φ vs xs) (n : Nat) : RelL Z φ (vs.take n) (xs.take n) := by
  refine ⟨by simp [h.1], ?_⟩
  intro i av x hi hx
  rw [List.getElem?_take] at hi hx
  split at hi
  · rename_i hlt
    rw [if_pos hlt] at hx; exact h.2 i av x hi hx
  · cases hi
theorem RelL.drop {Z : Fro} {φ : Pm} {vs : List AV} {xs : List Value} (h : RelL Z φ vs xs) (n : Nat) : RelL Z φ (vs.drop n) (xs.drop n) := by
  refine ⟨by simp [h.1], ?_⟩
  intro i av x hi hx
  rw [List.getElem?_drop] at hi hx
  exact h.2 _ av x hi hx
theorem RelL.mono {Z Z' : Fro} {φ φ' : Pm} {vs : List AV} {xs : List Value} (hZ : Fro.le Z Z') (hφ : Pm.le φ φ') (h : RelL Z φ vs xs) : RelL Z' φ' vs xs :=
  ⟨h.1, fun i av x hi hx => (h.2 i av x hi hx).mono hZ hφ⟩
theorem RelL.constA (Z : Fro) (φ : Pm) (xs : List Value) : RelL Z φ (xs.map constA) xs := by
  refine ⟨by simp, ?_⟩
  intro i av x hi hx
  rw [List.getElem?_map, hx] at hi
  cases hi; exact constA_ok Z φ x
/-- Values that are there, cell by cell, gathered into a list. -/
theorem RelL.gather {Z : Fro} {φ : Pm} (vs : List AV) (get : Nat → Option Value) (h : ∀ (i : Nat) (av : AV), vs[i]? = some av → ∃ x, get i = some x ∧ Cv Z φ av x) :
    ∃ xs, RelL Z φ vs xs ∧ ∀ (i : Nat) (x : Value), xs[i]? = some x → get i = some x := by
  induction vs generalizing get with
  | nil => exact ⟨[], RelL.nil Z φ, fun i x hx => by simp at hx⟩
  | cons v vs ih =>
    obtain ⟨x, hx, hc⟩ := h 0 v rfl
    obtain ⟨xs, hr, hg⟩ := ih (fun i => get (i + 1)) (fun i av hi => h (i + 1) av (by simpa using hi))
    refine ⟨x :: xs, ⟨by simp [hr.1], ?_⟩, ?_⟩
    · intro i av y hi hy
      cases i with
      | zero => simp at hi hy; subst hi; subst hy; exact hc
      | succ i => simp at hi hy; exact hr.2 i av y hi hy
    · intro i y hy
      cases i with
      | zero => simp at hy; subst hy; exact hx
      | succ i => simp at hy; exact hg i y hy

def AV.cells : AV → Option (List AV)
  | .agg vs => some vs
  | .any => none
  | .tup _ => none
  | v => some [v]

def AV.isCell : AV → Bool
  | .agg _ => false
  | .any => false
  | .tup _ => false
  | _ => true

theorem AV.cells_ok {Z : Fro} {φ : Pm} {v : AV} {x : Value} (c : Cv Z φ v x) {vs : List AV} (h : v.cells = some vs) : RelL Z φ vs x.cells.toList := by
  have one : ∀ {v : AV} {x : Value}, Cv Z φ v x → RelL Z φ [v] [x] := by
    intro v x c
    refine ⟨rfl, ?_⟩
    intro i av y hi hy
    cases i with
    | zero => simp at hi hy; subst hi; subst hy; exact c
    | succ i => simp at hi
  cases c with
  | agg ws xs hs hh =>
    simp only [AV.cells, Option.some.injEq] at h; subst h
    exact ⟨by simpa [Value.cells] using hs, fun i av y hi hy => hh i av y hi (by simpa [Value.cells] using hy)⟩
  | any => cases h
  | tup => cases h
  | p hz =>
    simp only [AV.cells, Option.some.injEq] at h; subst h
    have : x.cells = #[x] := by cases hz <;> rfl
    rw [this]; exact one (.p hz)
  | ptr off hp => simp only [AV.cells, Option.some.injEq] at h; subst h; exact one (.ptr off hp)
  | fp cells b o vals hz hv => simp only [AV.cells, Option.some.injEq] at h; subst h; exact one (.fp cells b o vals hz hv)
  | nilp => simp only [AV.cells, Option.some.injEq] at h; subst h; exact one .nilp
  | slz r sz off a => simp only [AV.cells, Option.some.injEq] at h; subst h; exact one (.slz r sz off a)
  | sl hp hl hC => simp only [AV.cells, Option.some.injEq] at h; subst h; exact one (.sl hp hl hC)
  | fn f caps xs hs hh => simp only [AV.cells, Option.some.injEq] at h; subst h; exact one (.fn f caps xs hs hh)
  | nilfn => simp only [AV.cells, Option.some.injEq] at h; subst h; exact one .nilfn
  | esl a => simp only [AV.cells, Option.some.injEq] at h; subst h; exact one (.esl a)
  | ub b => simp only [AV.cells, Option.some.injEq] at h; subst h; exact one (.ub b)

theorem AV.isCell_ok {Z : Fro} {φ : Pm} {v : AV} {x : Value} (c : Cv Z φ v x) (h : v.isCell = true) : x.oneCell' = true := by
  cases c with
  | p hz => cases hz <;> rfl
  | any => cases h
  | agg => cases h
  | tup => cases h
  | _ => rfl

theorem RelL.oneCell {Z : Fro} {φ : Pm} {vs : List AV} {xs : List Value} (h : RelL Z φ vs xs) (hc : vs.all AV.isCell = true) : ∀ x ∈ xs, x.oneCell' = true := by
  intro x hx
  obtain ⟨i, hi, he⟩ := List.mem_iff_getElem.1 hx
  have hv : vs[i]? = some (vs[i]'(by rw [← h.1]; exact hi)) := List.getElem?_eq_getElem _
  exact AV.isCell_ok (h.2 i _ x hv (by rw [List.getElem?_eq_getElem hi, he])) (List.all_eq_true.1 hc _ (List.getElem_mem _))

theorem addr_add (b o n : Nat) : (⟨b, o, none⟩ : Addr).add n = ⟨b, o + n, none⟩ := by unfold Addr.add; split <;> simp_all

/-- What n cells from an address on hold. -/
def ptrReads (H : Heap) (a : AV) (n : Nat) (K : List AV → Prop) : Prop :=
  match a with
  | .ptr r off => match H r with
    | some cs => off + n ≤ cs.length ∧ K ((cs.drop off).take n)
    | none => False
  | .fp cs => n ≤ cs.length ∧ K ((cs.take n).map .p)
  | _ => False

theorem ptrReads_ok {Z : Fro} {φ : Pm} {B0 : Nat} {w0 w : World} {H F : Heap} (s : Sim Z φ B0 w0 (H.or F) w) {a : AV} {x : Value} (c : Cv Z φ a x) {n : Nat} {K : List AV → Prop} (h : ptrReads H a n K) :
    ∃ b o vs xs, x = .pointer (some ⟨b, o, none⟩) ∧ K vs ∧ vs.length = n ∧ RelL Z φ vs xs ∧ ∀ (i : Nat) (y : Value), xs[i]? = some y → w.cell? ⟨b, o + i, none⟩ = some y := by
  cases c with
  | ptr off hp =>
    rename_i r pl
    simp only [ptrReads] at h
    cases hH : H r with
    | none => rw [hH] at h; exact h.elim
    | some cs =>
      rw [hH] at h
      obtain ⟨hl, hk⟩ := h
      obtain ⟨pl', hp', hla⟩ := s.live r cs (Heap.or_left hH)
      rw [hp] at hp'; cases hp'
      have hg : ∀ (i : Nat) (av : AV), ((cs.drop off).take n)[i]? = some av → ∃ y, w.cell? ⟨pl.b, pl.o + off + i, none⟩ = some y ∧ Cv Z φ av y := by
        intro i av hi
        rw [List.getElem?_take] at hi
        split at hi
        · rw [List.getElem?_drop] at hi
          rcases hla with ⟨_, rfl⟩ | ⟨cur, e, h1, h2, h3, h4, h5⟩
          · simp at hi
          · obtain ⟨y, hy, hc⟩ := h5 _ av hi
            refine ⟨y, ?_, hc⟩
            rw [cell_of_row w pl.b _ cur e _ h1, ← hy]; congr 1; omega
        · cases hi
      obtain ⟨xs, hr, hx⟩ := RelL.gather _ (fun i => w.cell? ⟨pl.b, pl.o + off + i, none⟩) hg
      exact ⟨pl.b, pl.o + off, _, xs, rfl, hk, by simp only [List.length_take, List.length_drop]; omega, hr, hx⟩
  | fp cs b o vals hz hv =>
    simp only [ptrReads] at h
    obtain ⟨hl, hk⟩ := h
    have hg : ∀ (i : Nat) (av : AV), ((cs.take n).map AV.p)[i]? = some av → ∃ y, w.cell? ⟨b, o + i, none⟩ = some y ∧ Cv Z φ av y := by
      intro i av hi
      rw [List.getElem?_map, List.getElem?_take] at hi
      split at hi
      · cases hc : cs[i]? with
        | none => rw [hc] at hi; cases hi
        | some p =>
          rw [hc] at hi; cases hi
          exact ⟨vals i, s.froz _ _ _ (hz i (List.getElem?_eq_some_iff.1 hc).1), .p (hv i p hc)⟩
      · cases hi
    obtain ⟨xs, hr, hx⟩ := RelL.gather _ (fun i => w.cell? ⟨b, o + i, none⟩) hg
    exact ⟨b, o, _, xs, rfl, hk, by simp only [List.length_map, List.length_take]; omega, hr, hx⟩
  | _ => exact h.elim

/-- Load. -/
def loadV (tab : Tab) (t : Nat) (a : AV) (H : Heap) (K : AV → Prop) : Prop :=
  match tab t with
  | some d => ptrReads H a d.size fun vs => K (if d.k.agg then .agg vs else vs.headD .any)
  | none => False

theorem loadV_ok {P : Program} {tab : Tab} (hT : tab.Ok P) {Z : Fro} {φ : Pm} {B0 : Nat} {w0 w : World} {H F : Heap} (s : Sim Z φ B0 w0 (H.or F) w) {t : Nat} {a : AV} {x : Value} (c : Cv Z φ a x) {K : AV → Prop} (h : loadV tab t a H K) :
    ∃ v y, K v ∧ Cv Z φ v y ∧ (Instr.loadAt t x).run P w = .ok y w := by
  unfold loadV at h
  cases hd : tab t with
  | none => rw [hd] at h; exact h.elim
  | some d =>
    rw [hd] at h
    have ok := hT t d hd
    obtain ⟨b, o, vs, xs, rfl, hk, hlen, hr, hx⟩ := ptrReads_ok s c h
    have hla : ∀ j v, xs[j]? = some v → w.cell? ((⟨b, o, none⟩ : Addr).add j) = some v := fun j v hv => by rw [addr_add]; exact hx j v hv
    have hxl : xs.length = d.size := by rw [hr.1, hlen]
    have hload : (loadCells ⟨b, o, none⟩ d.size).run P w = .ok xs.toArray w := by rw [← hxl]; exact run_loadCells_list w _ xs hla
    cases hag : d.k.agg with
    | true =>
      refine ⟨_, .agg xs.toArray, hk, ?_, ?_⟩
      · rw [if_pos hag]
        exact .agg vs _ (by simpa using hr.1) (fun i av y hi hy => hr.2 i av y hi (by simpa using hy))
      · simp [Instr.loadAt, Instr.sureAddr, loadVar, TK.ok_agg ok.k, hag, TD.run_size ok, hload]
    | false =>
      have h1 := ok.one hag
      obtain ⟨v, rfl⟩ : ∃ v, vs = [v] := by
        match vs, hlen with
        | [v], _ => exact ⟨v, rfl⟩
        | [], hl => simp [h1] at hl
        | _ :: _ :: _, hl => simp [h1] at hl
      obtain ⟨y, rfl⟩ : ∃ y, xs = [y] := by
        match xs, hr.1 with
        | [y], _ => exact ⟨y, rfl⟩
      refine ⟨_, y, hk, ?_, ?_⟩
      · rw [if_neg (by simp [hag])]
        exact hr.2 0 v y rfl rfl
      · have h0 := hx 0 y rfl
        simp only [Nat.add_zero] at h0
        simp [Instr.loadAt, Instr.sureAddr, loadVar, TK.ok_agg ok.k, hag, h0]

def splice (cs : List AV) (off : Nat) (vs : List AV) : List AV := cs.take off ++ vs ++ cs.drop (off + vs.length)

theorem splice_length {cs : List AV} {off : Nat} {vs : List AV} (h : off + vs.length ≤ cs.length) : (splice cs off vs).length = cs.length := by
  simp [splice]; omega

/-- Cells written into a live block. -/
theorem Sim.store {Z : Fro} {φ : Pm} {B0 : Nat} {w0 w : World} {H : Heap} (s : Sim Z φ B0 w0 H w) {r : Nat} {cs : List AV} (hr : H r = some cs) {pl : Place} (hp : φ r = some pl)
    {off : Nat} {vs : List AV} {xs : List Value} (hl : off + vs.length ≤ pl.C) (hoff : off ≤ cs.length) (hv : RelL Z φ vs xs) (h1 : vs.all AV.isCell = true) (P : Program) :
    ∃ w', (storeCells ⟨pl.b, pl.o + off, none⟩ xs).run P w = .ok () w' ∧ Sim Z φ B0 w0 (H.set r (splice cs off vs)) w' := by
  obtain ⟨pl', hp', hla⟩ := s.live r cs hr
  rw [hp] at hp'; cases hp'
  rcases hla with ⟨h0, rfl⟩ | ⟨cur, e, g1, g2, g3, g4, g5⟩
  · have hvs : vs = [] := List.eq_nil_of_length_eq_zero (by omega)
    subst hvs
    have hxs : xs = [] := List.eq_nil_of_length_eq_zero hv.1
    subst hxs
    refine ⟨w, rfl, ?_⟩
    have : H.set r (splice [] off []) = H := by
      funext x
      by_cases hx : x = r
      · subst hx; rw [Heap.set_same, hr]; simp [splice]
      · rw [Heap.set_other hx]
    rw [this]; exact s
  · have hxl : xs.length = vs.length := hv.1
    have hrun := run_storeCells_at (P := P) pl.b (pl.o + off) e xs 0 cur w g1 (by omega) (hv.oneCell h1)
    simp only [Nat.add_zero] at hrun
    by_cases hC : pl.C = 0
    · have hvs : vs = [] := List.eq_nil_of_length_eq_zero (by omega)
      subst hvs
      have hxs : xs = [] := List.eq_nil_of_length_eq_zero hv.1
      subst hxs
      refine ⟨w, rfl, ?_⟩
      have hcs : cs = [] := List.eq_nil_of_length_eq_zero (by omega)
      subst hcs
      have : H.set r (splice [] off []) = H := by
        funext x
        by_cases hx : x = r
        · subst hx; rw [Heap.set_same, hr]; simp [splice]
        · rw [Heap.set_other hx]
      rw [this]; exact s
    refine ⟨_, hrun, s.setRow hr hp g1 hC _ ?_ ?_ _ ?_ ?_⟩
    · simp only [List.size_toArray, List.length_append, List.length_take, List.length_drop, Array.length_toList]; omega
    · intro i hi
      simp only [List.getElem?_toArray]
      rcases hi with hi | hi
      · rw [List.append_assoc, List.getElem?_append_left (by simp only [List.length_take, Array.length_toList]; omega), List.getElem?_take, if_pos (by omega)]
        simp
      · rw [List.getElem?_append_right (by simp only [List.length_append, List.length_take, Array.length_toList]; omega), List.getElem?_drop]
        simp only [List.length_append, List.length_take, Array.length_toList, Array.getElem?_toList]
        congr 1; omega
    · simp only [splice, List.length_append, List.length_take, List.length_drop]; omega
    · intro i av hi
      simp only [splice] at hi
      simp only [List.getElem?_toArray]
      by_cases hlo : i < off
      · rw [List.append_assoc, List.getElem?_append_left (by simp only [List.length_take]; omega), List.getElem?_take, if_pos hlo] at hi
        obtain ⟨x, hx, hc⟩ := g5 i av hi
        refine ⟨x, ?_, hc⟩
        rw [List.append_assoc, List.getElem?_append_left (by simp only [List.length_take, Array.length_toList]; omega), List.getElem?_take, if_pos (by omega)]
        simpa using hx
      · by_cases hmid : i < off + vs.length
        · rw [List.append_assoc, List.getElem?_append_right (by simp only [List.length_take]; omega), List.getElem?_append_left (by simp only [List.length_take]; omega)] at hi
          have hmin : min off cs.length = off := by omega
          simp only [List.length_take, hmin] at hi
          have hxi : i - off < xs.length := by omega
          refine ⟨xs[i - off], ?_, hv.2 _ av _ hi (List.getElem?_eq_getElem hxi)⟩
          rw [List.append_assoc, List.getElem?_append_right (by simp only [List.length_take, Array.length_toList]; omega), List.getElem?_append_left (by simp only [List.length_take, Array.length_toList]; omega)]
          have hmin2 : min (pl.o + off) cur.size = pl.o + off := by omega
          simp only [List.length_take, Array.length_toList, hmin2]
          rw [show pl.o + i - (pl.o + off) = i - off by omega]
          exact List.getElem?_eq_getElem hxi
        · rw [List.getElem?_append_right (by simp only [List.length_append, List.length_take]; omega), List.getElem?_drop] at hi
          have hmin : min off cs.length = off := by omega
          simp only [List.length_append, List.length_take, hmin] at hi
          rw [show off + vs.length + (i - (off + vs.length)) = i by omega] at hi
          obtain ⟨x, hx, hc⟩ := g5 i av hi
          refine ⟨x, ?_, hc⟩
          rw [List.getElem?_append_right (by simp only [List.length_append, List.length_take, Array.length_toList]; omega), List.getElem?_drop]
          have hmin2 : min (pl.o + off) cur.size = pl.o + off := by omega
          simp only [List.length_append, List.length_take, Array.length_toList, hmin2, Array.getElem?_toList]
          rw [← hx]; congr 1; omega

def storeV (tab : Tab) (t : Nat) (a v : AV) (H : Heap) (K : Heap → Prop) : Prop :=
  match tab t, a, v.cells with
  | some d, .ptr r off, some vs => match H r with
    | some cs => off + d.size ≤ cs.length ∧ vs.length = d.size ∧ vs.all AV.isCell = true ∧ K (H.set r (splice cs off vs))
    | none => False
  | _, _, _ => False

theorem storeV_ok {P : Program} {tab : Tab} (hT : tab.Ok P) {Z : Fro} {φ : Pm} {B0 : Nat} {w0 w : World} {H F : Heap} (hd : Disj H F) (s : Sim Z φ B0 w0 (H.or F) w) {t : Nat} {a v : AV} {x y : Value}
    (ca : Cv Z φ a x) (cv : Cv Z φ v y) {K : Heap → Prop} (h : storeV tab t a v H K) :
    ∃ H' w', K H' ∧ Disj H' F ∧ Sim Z φ B0 w0 (H'.or F) w' ∧ (Instr.storeAt t x y).run P w = .ok () w' := by
  unfold storeV at h
  split at h
  · rename_i d r off vs hdt hvs
    split at h
    · rename_i cs hH
      obtain ⟨h1, h2, h3, hk⟩ := h
      have ok := hT t d hdt
      cases ca with
      | ptr _ hp =>
        rename_i pl
        obtain ⟨pl', hp', hla⟩ := s.live r cs (Heap.or_left hH)
        rw [hp] at hp'; cases hp'
        have hC : cs.length ≤ pl.C := by
          rcases hla with ⟨_, rfl⟩ | ⟨_, _, _, _, h, _⟩
          · simp
          · exact h
        have hrl := AV.cells_ok cv hvs
        obtain ⟨w', hrun, s'⟩ := s.store (Heap.or_left hH) hp (off := off) (by omega) (by omega) hrl h3 P
        refine ⟨_, w', hk, hd.set (hd.fresh hH), by rw [Heap.or_set]; exact s', ?_⟩
        have hsz : y.cells.size = d.size := by have := hrl.1; simp only [Array.length_toList] at this; omega
        simp [Instr.storeAt, Instr.sureAddr, storeVar, TD.run_size ok, hsz, hrun]
    · exact h.elim
  · exact h.elim

end Go.Sep
