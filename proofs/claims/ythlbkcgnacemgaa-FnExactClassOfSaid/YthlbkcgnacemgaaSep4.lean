/- Sep, part 4: the operations by themselves: what each does to abstract values and heaps, and that the model does so. -/
import Derived.Test.YthlbkcgnacemgaaSep3
import Derived.Laws.AppendOwnNone
namespace Go.Sep
open Go Go.RowKit

/-! ### New blocks -/
theorem Sim.allocF {Z : Fro} {φ : Pm} {B0 : Nat} {w0 w : World} {H F : Heap} (hd : Disj H F) (s : Sim Z φ B0 w0 (H.or F) w) (cur : Array Value) (e : TypeId) (C : Nat) (hC : C ≤ cur.size)
    (blk : List AV) (hb : blk.length ≤ C) (hv : ∀ (i : Nat) (av : AV), blk[i]? = some av → ∃ x, cur[i]? = some x ∧ Cv Z φ av x) :
    ∃ r φ', H r = none ∧ Pm.le φ φ' ∧ φ' r = some ⟨w.heap.size, 0, C⟩ ∧ Disj (H.set r blk) F ∧ Sim Z φ' B0 w0 ((H.set r blk).or F) (w.alloc (.cells cur e)) := by
  obtain ⟨r, φ', h1, _, h3, h4, h5⟩ := s.alloc cur e C hC blk hb hv
  have hHr : H r = none := by
    cases hH : H r with
    | none => rfl
    | some b => rw [Heap.or_left hH] at h1; cases h1
  have hFr : F r = none := by simpa [Heap.or, hHr] using h1
  exact ⟨r, φ', hHr, h3, h4, hd.set hFr, by rw [Heap.or_set]; exact h5⟩

theorem RelL.get {Z : Fro} {φ : Pm} {vs : List AV} {xs : List Value} (h : RelL Z φ vs xs) {i : Nat} {av : AV} (hi : vs[i]? = some av) : ∃ x, xs[i]? = some x ∧ Cv Z φ av x := by
  have hl : i < xs.length := by rw [h.1]; exact (List.getElem?_eq_some_iff.1 hi).1
  exact ⟨xs[i], List.getElem?_eq_getElem hl, h.2 i av _ hi (List.getElem?_eq_getElem hl)⟩

/-- A new variable. -/
theorem newVar_ok {P : Program} {Z : Fro} {φ : Pm} {B0 : Nat} {w0 w : World} {H F : Heap} (hd : Disj H F) (s : Sim Z φ B0 w0 (H.or F) w) {vs : List AV} {x : Value} (hr : RelL Z φ vs x.cells.toList) (t : TypeId)
    {K : AV → Heap → Prop} (h : ∀ r, H r = none → K (.ptr r 0) (H.set r vs)) :
    ∃ y w', ((do pure (.pointer (some (← newVar t x))) : Sem Value)).run P w = .ok y w' ∧ UpV B0 w0 F Z φ K y w' := by
  obtain ⟨r, φ', h1, h2, h3, h4, h5⟩ := s.allocF hd x.cells t x.cells.size (Nat.le_refl _) vs (by have := hr.1; simp only [Array.length_toList] at this; omega)
    (fun i av hi => by obtain ⟨y, hy, hc⟩ := hr.get hi; exact ⟨y, by simpa using hy, hc⟩)
  refine ⟨.pointer (some ⟨w.heap.size, 0, none⟩), w.alloc (.cells x.cells t), ?_, _, _, Z, φ', h r h1, Fro.le_refl _, h2, h4, h5, ?_⟩
  · simp [newVar, newRow]
  · exact .ptr 0 h3

def allocV (tab : Tab) (t : Nat) (H : Heap) (K : AV → Heap → Prop) : Prop :=
  match tab t with
  | some d => ∀ r, H r = none → K (.ptr r 0) (H.set r d.zero)
  | none => False

theorem allocV_ok {P : Program} {tab : Tab} (hT : tab.Ok P) {Z : Fro} {φ : Pm} {B0 : Nat} {w0 w : World} {H F : Heap} (hd : Disj H F) (s : Sim Z φ B0 w0 (H.or F) w) {t : Nat} {K : AV → Heap → Prop} (h : allocV tab t H K) :
    ∃ y w', (Instr.alloc t true (.tuple #[])).run P w = .ok y w' ∧ UpV B0 w0 F Z φ K y w' := by
  unfold allocV at h
  cases hdt : tab t with
  | none => rw [hdt] at h; exact h.elim
  | some d =>
    rw [hdt] at h
    obtain ⟨i, z, hi, _, _, hz, hzc⟩ := (hT t d hdt).info
    have hr : RelL Z φ d.zero z.cells.toList := by rw [← hzc]; exact RelL.constA _ _ _
    obtain ⟨y, w', h1, h2⟩ := newVar_ok (P := P) hd s hr t h
    refine ⟨y, w', ?_, h2⟩
    rw [← h1]
    simp [Instr.alloc, zeroValue, typeInfo, hi, hz]

def boxV (v : AV) (H : Heap) (K : AV → Heap → Prop) : Prop :=
  match v.cells with
  | some vs => ∀ r, H r = none → K (.ptr r 0) (H.set r vs)
  | none => False

theorem boxV_ok {P : Program} {Z : Fro} {φ : Pm} {B0 : Nat} {w0 w : World} {H F : Heap} (hd : Disj H F) (s : Sim Z φ B0 w0 (H.or F) w) {v : AV} {x : Value} (c : Cv Z φ v x) {t : Nat} {K : AV → Heap → Prop} (h : boxV v H K) :
    ∃ y w', (Instr.box t x).run P w = .ok y w' ∧ UpV B0 w0 F Z φ K y w' := by
  unfold boxV at h
  cases hv : v.cells with
  | none => rw [hv] at h; exact h.elim
  | some vs => rw [hv] at h; exact newVar_ok (P := P) hd s (AV.cells_ok c hv) t h

/-! ### Addresses -/
def fieldAddrV (tab : Tab) (t : Nat) (a : AV) (f : Nat) (K : AV → Prop) : Prop :=
  match tab t with
  | some d => match d.k with
    | .struct fs => match fs[f]? with
      | some (o, ft) => match tab ft with
        | some _ => match a with
          | .ptr r off => K (.ptr r (off + o))
          | .fp cs => o ≤ cs.length ∧ K (.fp (cs.drop o))
          | _ => False
        | none => False
      | none => False
    | _ => False
  | none => False

theorem fields_get {fields : Array Field} {fs : List (Nat × Nat)} (hf : fields.toList.map (fun f => (f.offset, f.type)) = fs) {f o ft : Nat} (h : fs[f]? = some (o, ft)) :
    ∃ fd, fields[f]? = some fd ∧ fd.offset = o ∧ fd.type = ft := by
  rw [← hf, List.getElem?_map] at h
  cases hh : fields.toList[f]? with
  | none => rw [hh] at h; cases h
  | some fd => rw [hh] at h; cases h; exact ⟨fd, by simpa using hh, rfl, rfl⟩

theorem fieldAddrV_ok {P : Program} {tab : Tab} (hT : tab.Ok P) {Z : Fro} {φ : Pm} {w : World} {t : Nat} {a : AV} {x : Value} (c : Cv Z φ a x) {f : Nat} {K : AV → Prop} (h : fieldAddrV tab t a f K) :
    ∃ v y, K v ∧ Cv Z φ v y ∧ (Instr.fieldAt t x f).run P w = .ok y w := by
  unfold fieldAddrV at h
  split at h
  case h_2 => exact h.elim
  rename_i d hdt
  split at h
  case h_2 => exact h.elim
  rename_i fs hk
  split at h
  case h_2 => exact h.elim
  rename_i o ft hfs
  split at h
  case h_2 => exact h.elim
  rename_i fd hft
  have ok := hT t d hdt
  have okf := hT ft fd hft
  have hkk := ok.k
  rw [hk] at hkk
  obtain ⟨fields, hu, hmap, _⟩ := hkk
  obtain ⟨fl, hfl, hofs, hty⟩ := fields_get hmap hfs
  have hpos : fd.size ≠ 0 := by have := okf.pos; omega
  cases c with
  | ptr off hp =>
    rename_i r pl
    refine ⟨_, _, h, .ptr (off + o) hp, ?_⟩
    simp [Instr.fieldAt, run_underlying hu, hfl, Instr.sureAddr, fieldPlace, hty, TD.run_size okf, hpos, addr_add, hofs, Nat.add_assoc]
  | fp cs b o' vals hz hv =>
    obtain ⟨hlen, hK⟩ := h
    refine ⟨_, .pointer (some ⟨b, o' + o, none⟩), hK, .fp _ b (o' + o) (fun i => vals (o + i)) ?_ ?_, ?_⟩
    · intro i hi
      rw [Nat.add_assoc]
      exact hz _ (by simp only [List.length_drop] at hi; omega)
    · intro i p hi
      rw [List.getElem?_drop] at hi
      exact hv _ p hi
    · simp [Instr.fieldAt, run_underlying hu, hfl, Instr.sureAddr, fieldPlace, hty, TD.run_size okf, hpos, addr_add, hofs]
  | _ => exact h.elim

def indexAddrV (tab : Tab) (t : Nat) (a i : AV) (K : AV → Prop) : Prop :=
  match tab t, i with
  | some d, .p (.int _ n) => match d.k with
    | .slice e => match tab e with
      | some ed => match a with
        | .sl r sz off len => sz = ed.size ∧ 0 ≤ n ∧ n < len ∧ K (.ptr r (off + n.toNat * sz))
        | .p (.sl es) => 0 ≤ n ∧ n < es.length ∧ (es.getD n.toNat []).length = ed.size ∧ K (.fp (es.getD n.toNat []))
        | _ => False
      | none => False
    | _ => False
  | _, _ => False

theorem indexAddrV_ok {P : Program} {tab : Tab} (hT : tab.Ok P) {Z : Fro} {φ : Pm} {w : World} {t : Nat} {a i : AV} {x y : Value} (ca : Cv Z φ a x) (ci : Cv Z φ i y) {K : AV → Prop} (h : indexAddrV tab t a i K) :
    ∃ v z, K v ∧ Cv Z φ v z ∧ (Instr.indexAt t x y).run P w = .ok z w := by
  unfold indexAddrV at h
  split at h
  case h_2 => exact h.elim
  rename_i d k n hdt
  split at h
  case h_2 => exact h.elim
  rename_i e hk
  split at h
  case h_2 => exact h.elim
  rename_i ed hed
  have ok := hT t d hdt
  have oke := hT e ed hed
  have hu := ok.k
  rw [hk] at hu
  simp only [TK.ok] at hu
  have hy : y = .int k n := by cases ci with | p h => cases h; rfl
  subst hy
  cases ca with
  | sl hp hl hC =>
    rename_i r sz off len c pl
    obtain ⟨rfl, h0, h1, hK⟩ := h
    refine ⟨_, _, hK, .ptr _ hp, ?_⟩
    simp [Instr.indexAt, asIntOf, run_underlying hu, TD.run_size oke, h0, h1, addr_add, Nat.add_assoc]
  | slz r sz off a =>
    obtain ⟨rfl, h0, h1, hK⟩ := h
    simp at h1; omega
  | p hz =>
    cases hz with
    | emp a c => obtain ⟨h0, h1, _⟩ := h; simp at h1; omega
    | sl es sz b o c vals hc hsz hz hv =>
      obtain ⟨h0, h1, h2, hK⟩ := h
      have hlt : n.toNat < es.length := by omega
      have hg : es[n.toNat]? = some es[n.toNat] := List.getElem?_eq_getElem hlt
      have hgd : es.getD n.toNat [] = es[n.toNat] := by simp [List.getD, hg]
      have hsze : sz = ed.size := by rw [← h2, hgd]; exact (hsz _ (List.getElem_mem hlt)).symm
      subst hsze
      refine ⟨_, .pointer (some ⟨b, o + n.toNat * ed.size, none⟩), hK, .fp _ b _ (fun j => vals (n.toNat * ed.size + j)) ?_ ?_, ?_⟩
      · intro j hj
        rw [h2] at hj
        rw [Nat.add_assoc]
        refine hz _ ?_
        have : (n.toNat + 1) * ed.size ≤ es.length * ed.size := Nat.mul_le_mul_right _ hlt
        rw [Nat.add_mul] at this; omega
      · intro j p hj
        rw [hgd] at hj
        exact hv n.toNat _ hg j p hj
      · simp [Instr.indexAt, asIntOf, run_underlying hu, TD.run_size oke, h0, h1, addr_add]
    | _ => exact h.elim
  | _ => exact h.elim

/-! ### Parts of aggregates -/
def partV (tab : Tab) (vs : List AV) (o ft : Nat) (K : AV → Prop) : Prop :=
  match tab ft with
  | some fd => o + fd.size ≤ vs.length ∧ K (if fd.k.agg then .agg ((vs.drop o).take fd.size) else vs.getD o .any)
  | none => False

def fieldV (tab : Tab) (t : Nat) (a : AV) (f : Nat) (K : AV → Prop) : Prop :=
  match tab t with
  | some d => match d.k with
    | .struct fs => match fs[f]? with
      | some (o, ft) => match a with
        | .agg vs => partV tab vs o ft K
        | _ => False
      | none => False
    | _ => False
  | none => False

theorem fieldV_ok {P : Program} {tab : Tab} (hT : tab.Ok P) {Z : Fro} {φ : Pm} {w : World} {t : Nat} {a : AV} {x : Value} (c : Cv Z φ a x) {f : Nat} {K : AV → Prop} (h : fieldV tab t a f K) :
    ∃ v y, K v ∧ Cv Z φ v y ∧ (Instr.field t x f).run P w = .ok y w := by
  unfold fieldV at h
  split at h
  case h_2 => exact h.elim
  rename_i d hdt
  split at h
  case h_2 => exact h.elim
  rename_i fs hk
  split at h
  case h_2 => exact h.elim
  rename_i o ft hfs
  unfold partV at h
  have ok := hT t d hdt
  have hkk := ok.k
  rw [hk] at hkk
  obtain ⟨fields, hu, hmap, _⟩ := hkk
  obtain ⟨fl, hfl, hofs, hty⟩ := fields_get hmap hfs
  cases c with
  | agg vs xs hs hh =>
    dsimp only at h
    split at h
    case h_2 => exact h.elim
    rename_i fd hft
    obtain ⟨hlen, hK⟩ := h
    have okf := hT ft fd hft
    cases hag : fd.k.agg with
    | true =>
      rw [if_pos hag] at hK
      refine ⟨_, .agg (xs.extract o (o + fd.size)), hK, .agg _ _ ?_ ?_, ?_⟩
      · simp only [Array.size_extract, List.length_take, List.length_drop]; omega
      · intro i av y hi hy
        rw [List.getElem?_take] at hi
        split at hi
        case isFalse => cases hi
        rename_i hlt
        rw [List.getElem?_drop] at hi
        rw [Array.getElem?_extract] at hy
        split at hy
        · exact hh _ av y hi hy
        · cases hy
      · simp [Instr.field, run_underlying hu, hfl, asAgg, part, hty, TK.ok_agg okf.k, hag, TD.run_size okf, hofs]
    | false =>
      rw [if_neg (by simp [hag])] at hK
      have h1 := okf.one hag
      have hlt : o < vs.length := by omega
      have hltx : o < xs.size := by omega
      refine ⟨_, xs[o], hK, ?_, ?_⟩
      · have hg : vs[o]? = some vs[o] := List.getElem?_eq_getElem hlt
        have : vs.getD o .any = vs[o] := by simp [List.getD, hg]
        rw [this]
        exact hh o _ _ hg (Array.getElem?_eq_getElem hltx)
      · simp [Instr.field, run_underlying hu, hfl, asAgg, part, hty, TK.ok_agg okf.k, hag, hofs, Array.getElem?_eq_getElem hltx]
  | _ => exact h.elim

def extractV (a : AV) (i : Nat) (K : AV → Prop) : Prop :=
  match a with
  | .tup vs => i < vs.length ∧ K (vs.getD i .any)
  | _ => False

theorem extractV_ok {P : Program} {Z : Fro} {φ : Pm} {w : World} {a : AV} {x : Value} (c : Cv Z φ a x) {i : Nat} {K : AV → Prop} (h : extractV a i K) :
    ∃ v y, K v ∧ Cv Z φ v y ∧ (Instr.extract x i).run P w = .ok y w := by
  cases c with
  | tup vs xs hs hh =>
    obtain ⟨hl, hK⟩ := h
    have hlx : i < xs.size := by omega
    have hg : vs[i]? = some vs[i] := List.getElem?_eq_getElem hl
    refine ⟨_, xs[i], hK, ?_, ?_⟩
    · have : vs.getD i .any = vs[i] := by simp [List.getD, hg]
      rw [this]; exact hh i _ _ hg (Array.getElem?_eq_getElem hlx)
    · simp [Instr.extract, Array.getElem?_eq_getElem hlx]
  | _ => exact h.elim

end Go.Sep
