/- Sep, part 6: make, literals, append, copy. -/
import Derived.Test.YthlbkcgnacemgaaSep5
namespace Go.Sep
open Go Go.RowKit

theorem flatten_get {α : Type} {sz : Nat} (hpos : 0 < sz) : ∀ (es : List (List α)), (∀ e ∈ es, e.length = sz) → ∀ k : Nat, es.flatten[k]? = (es[k / sz]?).bind (fun e => e[k % sz]?) := by
  intro es
  induction es with
  | nil => intro _ k; simp
  | cons e es ih =>
    intro h k
    have he := h e (by simp)
    rw [List.flatten_cons]
    by_cases hk : k < sz
    · rw [List.getElem?_append_left (by omega), Nat.div_eq_of_lt hk, Nat.mod_eq_of_lt hk]; simp
    · rw [List.getElem?_append_right (by omega), he, ih (fun e' he' => h e' (by simp [he'])) (k - sz)]
      have h1 : k / sz = (k - sz) / sz + 1 := by
        rw [Nat.div_eq k sz, if_pos ⟨hpos, by omega⟩]
      have h2 : k % sz = (k - sz) % sz := by
        rw [Nat.mod_eq k sz, if_pos ⟨hpos, by omega⟩]
      rw [h1, h2, List.getElem?_cons_succ]

theorem flatten_len {α : Type} {sz : Nat} : ∀ (es : List (List α)), (∀ e ∈ es, e.length = sz) → es.flatten.length = es.length * sz := by
  intro es
  induction es with
  | nil => intro _; simp
  | cons e es ih =>
    intro h
    rw [List.flatten_cons, List.length_append, h e (by simp), ih (fun e' he' => h e' (by simp [he'])), List.length_cons, Nat.add_mul]; omega

def zerosA (n : Nat) (z : List AV) : List AV := (List.replicate n z).flatten

theorem zerosA_len (n : Nat) (z : List AV) : (zerosA n z).length = n * z.length := by
  unfold zerosA
  rw [flatten_len (sz := z.length) _ (fun e he => by rw [List.eq_of_mem_replicate he]), List.length_replicate]

/-- The zeros that make and literals lay. -/
theorem zeros_rel {Z : Fro} {φ : Pm} {z : List AV} {xs : Array Value} (h : RelL Z φ z xs.toList) (hpos : 0 < z.length) (n : Nat) :
    RelL Z φ (zerosA n z) ((Array.range (n * z.length)).map (fun i => xs[i % xs.size]!)).toList := by
  have hs : xs.size = z.length := by have := h.1; simpa using this
  refine ⟨by rw [zerosA_len]; simp, ?_⟩
  intro i av x hi hx
  unfold zerosA at hi
  rw [flatten_get (sz := z.length) hpos _ (fun e he => by rw [List.eq_of_mem_replicate he])] at hi
  have hm : i % z.length < z.length := Nat.mod_lt _ hpos
  rw [List.getElem?_replicate] at hi
  split at hi
  case isFalse => cases hi
  simp only [Option.bind_some] at hi
  have hx2 : x = xs[i % xs.size]! := by
    simp only [Array.toList_map, List.getElem?_map] at hx
    cases hr : (Array.range (n * z.length)).toList[i]? with
    | none => rw [hr] at hx; cases hx
    | some q =>
      rw [hr] at hx
      have : q = i := by
        rw [Array.toList_range] at hr
        have := List.getElem?_eq_some_iff.1 hr
        obtain ⟨_, h2⟩ := this
        simpa using h2.symm
      subst this
      simpa using hx.symm
  have hlt : i % xs.size < xs.size := by rw [hs]; exact hm
  rw [hx2, getElem!_pos xs _ hlt]
  refine h.2 (i % z.length) av _ hi ?_
  rw [← hs]
  simp

theorem foldSet (off : Nat) : ∀ (xs : List Value) (k : Nat) (cells : Array Value), off + k + xs.length ≤ cells.size →
    ((xs.zipIdx k).foldl (fun cs (p : Value × Nat) => cs.setIfInBounds (off + p.2) p.1) cells).toList = cells.toList.take (off + k) ++ xs ++ cells.toList.drop (off + k + xs.length) := by
  intro xs
  induction xs with
  | nil => intro k cells _; simp
  | cons x xs ih =>
    intro k cells h
    simp only [List.zipIdx_cons, List.foldl_cons]
    rw [ih (k + 1) _ (by simp only [Array.size_setIfInBounds]; simp only [List.length_cons] at h; omega)]
    simp only [Array.toList_setIfInBounds, List.length_cons]
    simp only [List.length_cons] at h
    have hl : off + k < cells.toList.length := by simp only [Array.length_toList]; omega
    rw [List.take_set, List.drop_set]
    rw [if_pos (by omega)]
    have h1 : off + (k + 1) = off + k + 1 := by omega
    rw [h1, List.take_add_one, List.set_append_right _ _ (by simp only [List.length_take]; omega)]
    simp only [List.length_take, Array.length_toList]
    rw [show min (off + k) cells.size = off + k by omega, Nat.sub_self]
    rw [List.getElem?_eq_getElem hl]
    simp only [Option.toList_some, List.set_cons_zero, List.append_assoc, List.singleton_append]
    rw [show off + k + 1 + xs.length = off + k + (xs.length + 1) by omega]

theorem RelL.splice {Z : Fro} {φ : Pm} {cs vs : List AV} {ys xs : List Value} (h : RelL Z φ cs ys) (k : RelL Z φ vs xs) (off : Nat) :
    RelL Z φ (splice cs off vs) (ys.take off ++ xs ++ ys.drop (off + xs.length)) := by
  rw [k.1]
  exact ((h.take off).append k).append (h.drop _)

def fillV (place : Nat → Option (Nat × Nat)) : List AV → List (Nat × AV) → Option (List AV)
  | cs, [] => some cs
  | cs, (i, v) :: rest =>
    match place i, v.cells with
    | some (off, size), some vs => if vs.length = size ∧ off + size ≤ cs.length then fillV place (splice cs off vs) rest else none
    | _, _ => none

def PartsRel (Z : Fro) (φ : Pm) : List (Nat × AV) → List (Nat × Value) → Prop
  | [], [] => True
  | (i, v) :: a, (j, x) :: b => i = j ∧ Cv Z φ v x ∧ PartsRel Z φ a b
  | _, _ => False

theorem fillV_ok {Z : Fro} {φ : Pm} (place : Nat → Option (Nat × Nat)) : ∀ (ps : List (Nat × AV)) (qs : List (Nat × Value)) (cs cs' : List AV) (cells : Array Value),
    PartsRel Z φ ps qs → RelL Z φ cs cells.toList → fillV place cs ps = some cs' → ∃ cells', Instr.fill place cells qs = some cells' ∧ RelL Z φ cs' cells'.toList := by
  intro ps
  induction ps with
  | nil =>
    intro qs cs cs' cells hp hr hf
    cases qs with
    | nil => simp only [fillV, Option.some.injEq] at hf; subst hf; exact ⟨cells, rfl, hr⟩
    | cons q qs => exact hp.elim
  | cons p ps ih =>
    intro qs cs cs' cells hp hr hf
    obtain ⟨i, v⟩ := p
    cases qs with
    | nil => exact hp.elim
    | cons q qs =>
      obtain ⟨j, x⟩ := q
      obtain ⟨rfl, hc, hps⟩ := hp
      simp only [fillV] at hf
      split at hf
      case h_2 => cases hf
      rename_i off size vs hpl hvs
      split at hf
      case isFalse => cases hf
      rename_i hcond
      have hx := AV.cells_ok hc hvs
      have hxs : x.cells.size = size := by have := hx.1; simp only [Array.length_toList] at this; omega
      have hcs : cells.size = cs.length := by have := hr.1; simpa using this
      have hfold : (x.cells.zipIdx.foldl (fun cs (p : Value × Nat) => cs.setIfInBounds (off + p.2) p.1) cells).toList =
          cells.toList.take off ++ x.cells.toList ++ cells.toList.drop (off + x.cells.toList.length) := by
        have := foldSet off x.cells.toList 0 cells (by simp only [Array.length_toList]; omega)
        simp only [Nat.add_zero] at this
        rw [← this, ← Array.foldl_toList, Array.toList_zipIdx]
      obtain ⟨cells', h1, h2⟩ := ih qs (Sep.splice cs off vs) cs' (x.cells.zipIdx.foldl (fun cs (p : Value × Nat) => cs.setIfInBounds (off + p.2) p.1) cells) hps
        (by rw [hfold]; exact hr.splice hx off) hf
      refine ⟨cells', ?_, h2⟩
      have hn1 : ¬ (x.cells.size ≠ size) := by simp [hxs]
      have hn2 : ¬ (off + x.cells.size > cells.size) := by omega
      simp only [Instr.fill, hpl]
      rw [if_neg (by simp only [Bool.or_eq_true, decide_eq_true_eq, not_or]; exact ⟨hn1, hn2⟩)]
      exact h1

/-! ### Literals -/
def buildSliceV (tab : Tab) (t len : Nat) (ps : List (Nat × AV)) (H : Heap) (K : AV → Heap → Prop) : Prop :=
  match tab t with
  | some d => match d.k with
    | .slice e => match tab e with
      | some ed => len * ed.size ≤ 16777216 ∧ match fillV (fun i => some (i * ed.size, ed.size)) (zerosA len ed.zero) ps with
        | some cs => ∀ r, H r = none → K (.sl r ed.size 0 len) (H.set r cs)
        | none => False
      | none => False
    | _ => False
  | none => False

theorem fillV_len (place : Nat → Option (Nat × Nat)) : ∀ (ps : List (Nat × AV)) (cs cs' : List AV), fillV place cs ps = some cs' → cs'.length = cs.length := by
  intro ps
  induction ps with
  | nil => intro cs cs' h; simp only [fillV, Option.some.injEq] at h; rw [h]
  | cons p ps ih =>
    intro cs cs' h
    obtain ⟨i, v⟩ := p
    simp only [fillV] at h
    split at h
    case h_2 => cases h
    split at h
    case isFalse => cases h
    rename_i hc
    rw [ih _ _ h, splice_length (by omega)]

theorem buildSliceV_ok {P : Program} {tab : Tab} (hT : tab.Ok P) {Z : Fro} {φ : Pm} {B0 : Nat} {w0 w : World} {H F : Heap} (hd : Disj H F) (s : Sim Z φ B0 w0 (H.or F) w) {t len : Nat} {ps : List (Nat × AV)} {qs : Array (Nat × Value)}
    (hp : PartsRel Z φ ps qs.toList) {K : AV → Heap → Prop} (h : buildSliceV tab t len ps H K) :
    ∃ y w', (Instr.buildSlice t len qs).run P w = .ok y w' ∧ UpV B0 w0 F Z φ K y w' := by
  unfold buildSliceV at h
  split at h
  case h_2 => exact h.elim
  rename_i d hdt
  split at h
  case h_2 => exact h.elim
  rename_i e hk
  split at h
  case h_2 => exact h.elim
  rename_i ed hed
  obtain ⟨hlim, h⟩ := h
  split at h
  case h_2 => exact h.elim
  rename_i cs hcs
  have ok := hT t d hdt
  have oke := hT e ed hed
  have hu := ok.k
  rw [hk] at hu
  simp only [TK.ok] at hu
  obtain ⟨i, z, hi, hsz, _, hz, hzc⟩ := oke.info
  have hzr : RelL Z φ ed.zero z.cells.toList := by rw [← hzc]; exact RelL.constA _ _ _
  have hzs : z.cells.size = ed.size := by have := hzr.1; simp only [Array.length_toList] at this; rw [this, oke.zlen]
  have hzeros := zeros_rel hzr (by rw [oke.zlen]; exact oke.pos) len
  rw [oke.zlen] at hzeros
  have hlz : ¬ (len * ed.size > 2 ^ 24) := by omega
  by_cases h0 : len * ed.size = 0
  · have hl0 : len = 0 := by rcases Nat.mul_eq_zero.1 h0 with h | h; exact h; have := oke.pos; omega
    subst hl0
    obtain ⟨cells', hf, hrc⟩ := fillV_ok (Z := Z) (φ := φ) (fun i => some (i * ed.size, ed.size)) ps qs.toList _ cs #[] hp (by simpa [zerosA] using RelL.nil Z φ) hcs
    obtain ⟨r, φ', h1, h2, h3, h4, h5⟩ := s.allocF hd cells' e cells'.size (Nat.le_refl _) cs (by have := hrc.1; simp only [Array.length_toList] at this; omega)
      (fun i av hi => by obtain ⟨y, hy, hc⟩ := hrc.get hi; exact ⟨y, by simpa using hy, hc⟩)
    refine ⟨.slice (some ⟨w.heap.size, 0, none⟩) 0 0, _, ?_, _, _, Z, φ', h r h1, Fro.le_refl _, h2, h4, h5, .slz _ _ _ _⟩
    have hr0 : Array.map (fun (_ : Nat) => (default : Value)) (Array.range 0) = #[] := by apply Array.ext'; simp
    simp [Instr.buildSlice, run_underlying hu, TD.run_size oke, hr0, hf, newRow]
  · obtain ⟨cells', hf, hrc⟩ := fillV_ok (Z := Z) (φ := φ) (fun i => some (i * ed.size, ed.size)) ps qs.toList _ cs
      ((Array.range (len * ed.size)).map (fun i => z.cells[i % z.cells.size]!)) hp hzeros hcs
    have hcl : cells'.size = len * ed.size := by
      have := hrc.1
      simp only [Array.length_toList] at this
      rw [this, fillV_len _ _ _ _ hcs, zerosA_len, oke.zlen]
    obtain ⟨r, φ', h1, h2, h3, h4, h5⟩ := s.allocF hd cells' e cells'.size (Nat.le_refl _) cs (by have := hrc.1; simp only [Array.length_toList] at this; omega)
      (fun i av hi => by obtain ⟨y, hy, hc⟩ := hrc.get hi; exact ⟨y, by simpa using hy, hc⟩)
    refine ⟨.slice (some ⟨w.heap.size, 0, none⟩) len len, _, ?_, _, _, Z, φ', h r h1, Fro.le_refl _, h2, h4, h5, .sl h3 (Nat.le_refl _) (by simp only; omega)⟩
    simp [Instr.buildSlice, run_underlying hu, TD.run_size oke, hlz, h0, zeroValue, typeInfo, hi, hz, hf, newRow]

def buildV (tab : Tab) (t : Nat) (ps : List (Nat × AV)) (K : AV → Prop) : Prop :=
  match tab t with
  | some d => match d.k with
    | .struct fs => (fs.all fun p => (tab p.2).isSome) = true ∧ match fillV (fun i => (fs[i]?).bind fun p => (tab p.2).map fun fd => (p.1, fd.size)) d.zero ps with
      | some cs => K (.agg cs)
      | none => False
    | _ => False
  | none => False

theorem mapM_sizes {P : Program} (w : World) (sz : Nat → Nat) : ∀ (l : List Field), (∀ f ∈ l, (sizeOf f.type).run P w = .ok (sz f.type) w) →
    (l.mapM fun f => do pure (f.offset, ← sizeOf f.type) : Sem (List (Nat × Nat))).run P w = .ok (l.map fun f => (f.offset, sz f.type)) w := by
  intro l
  induction l with
  | nil => intro _; simp
  | cons f l ih =>
    intro h
    have h1 := h f (by simp)
    have h2 := ih (fun g hg => h g (by simp [hg]))
    simp only [List.mapM_cons, Sem.run_bind, h1, Result.andThen_ok, Sem.run_pure, h2, List.map_cons]

theorem buildV_ok {P : Program} {tab : Tab} (hT : tab.Ok P) {Z : Fro} {φ : Pm} {w : World} {t : Nat} {ps : List (Nat × AV)} {qs : Array (Nat × Value)}
    (hp : PartsRel Z φ ps qs.toList) {K : AV → Prop} (h : buildV tab t ps K) :
    ∃ v y, K v ∧ Cv Z φ v y ∧ (Instr.build t qs).run P w = .ok y w := by
  unfold buildV at h
  split at h
  case h_2 => exact h.elim
  rename_i d hdt
  split at h
  case h_2 => exact h.elim
  rename_i fs hk
  obtain ⟨hall, h⟩ := h
  split at h
  case h_2 => exact h.elim
  rename_i cs hcs
  have ok := hT t d hdt
  have hkk := ok.k
  rw [hk] at hkk
  obtain ⟨fields, hu, hmap, _⟩ := hkk
  obtain ⟨i, z, hi, hsz, _, hz, hzc⟩ := ok.info
  have hzr : RelL Z φ d.zero z.cells.toList := by rw [← hzc]; exact RelL.constA _ _ _
  let sz : Nat → Nat := fun t => match tab t with | some fd => fd.size | none => 0
  have hsizes : ∀ f ∈ fields.toList, (sizeOf f.type).run P w = .ok (sz f.type) w := by
    intro f hf
    have hmem : (f.offset, f.type) ∈ fs := by rw [← hmap]; exact List.mem_map.2 ⟨f, hf, rfl⟩
    have hne := List.all_eq_true.1 hall _ hmem
    cases hft : tab f.type with
    | none => simp [hft] at hne
    | some fd => simp only [sz, hft]; exact TD.run_size (hT _ fd hft) w
  have hm := mapM_sizes (P := P) w sz fields.toList hsizes
  have hm2 : (fields.mapM fun f => do pure (f.offset, ← sizeOf f.type) : Sem (Array (Nat × Nat))).run P w = .ok (fields.toList.map fun f => (f.offset, sz f.type)).toArray w := by
    rw [Array.mapM_eq_mapM_toList]
    rw [Sem.run_map, hm]; rfl
  have hplace : (fun (i : Nat) => (fs[i]?).bind fun (p : Nat × Nat) => (tab p.2).map fun fd => (p.1, fd.size)) = (fun (i : Nat) => ((fields.toList.map fun f => (f.offset, sz f.type)).toArray)[i]?) := by
    funext j
    simp only [List.getElem?_toArray, List.getElem?_map]
    rw [← hmap, List.getElem?_map]
    cases hj : fields.toList[j]? with
    | none => simp
    | some f =>
      have hmem : (f.offset, f.type) ∈ fs := by rw [← hmap]; exact List.mem_map.2 ⟨f, List.mem_of_getElem? hj, rfl⟩
      have hne := List.all_eq_true.1 hall _ hmem
      cases hft : tab f.type with
      | none => simp [hft] at hne
      | some fd => simp [sz, hft]
  rw [hplace] at hcs
  obtain ⟨cells', hf, hrc⟩ := fillV_ok (Z := Z) (φ := φ) _ ps qs.toList _ cs z.cells hp hzr hcs
  refine ⟨_, .agg cells', h, .agg cs cells' (by have := hrc.1; simpa using this) (fun i av x hi hx => hrc.2 i av x hi (by simpa using hx)), ?_⟩
  have hzv : (zeroValue t).run P w = .ok z w := by simp [zeroValue, typeInfo, hi, hz]
  simp only [Instr.build, Sem.run_bind, hzv, run_underlying hu, Result.andThen_ok, hm2, hf, Sem.run_pure]

end Go.Sep
