/- Sep, part 1: abstract values and heaps, how they stand to the model's values and worlds, and what stays true as a world grows. Generic in the program. -/
import Derived.Below
import Derived.WalkKit
namespace Go.Sep
open Go Go.RowKit

/-- Values of one cell that hold no address that may be written: numbers, bools, strings, slices told by value. -/
inductive PV where
  | int (k : IntKind) (n : Int)
  | bool (b : Bool)
  | str (s : ByteArray)
  | nil
  | sl (es : List (List PV))

instance : Inhabited PV := ⟨.nil⟩

/-- Abstract values. 'ptr', 'sl': into the live block r, offsets in cells. 'fp': a pointer to cells told by value. 'any': unknown. -/
inductive AV where
  | p (v : PV)
  | any
  | ptr (r off : Nat)
  | fp (cells : List PV)
  | nilp
  | sl (r sz off len : Nat)
  | fn (f : Nat) (caps : List AV)
  | nilfn
  | agg (vs : List AV)
  | tup (vs : List AV)
  | esl
  | ub

instance : Inhabited AV := ⟨.any⟩

abbrev Heap := Nat → Option (List AV)
abbrev Fro := Nat → Nat → Option Value
structure Place where
  b : Nat
  o : Nat
  C : Nat
abbrev Pm := Nat → Option Place

/-- A pure value and a value of the model, by the frozen cells Z. -/
inductive Cz (Z : Fro) : PV → Value → Prop where
  | int (k : IntKind) (n : Int) : Cz Z (.int k n) (.int k n)
  | bool (b : Bool) : Cz Z (.bool b) (.bool b)
  | str (s : ByteArray) : Cz Z (.str s) (.string s)
  | nil : Cz Z .nil (.slice none 0 0)
  | emp (a : Option Addr) (c : Nat) : Cz Z (.sl []) (.slice a 0 c)
  | sl (es : List (List PV)) (sz b o c : Nat) (vals : Nat → Value) (hc : es.length ≤ c) (hsz : ∀ e ∈ es, e.length = sz)
      (hz : ∀ i, i < es.length * sz → Z b (o + i) = some (vals i))
      (hv : ∀ i e, es[i]? = some e → ∀ j p, e[j]? = some p → Cz Z p (vals (i * sz + j))) :
      Cz Z (.sl es) (.slice (some ⟨b, o, none⟩) es.length c)

/-- An abstract value and a value of the model, by the frozen cells and the places of the live blocks. -/
inductive Cv (Z : Fro) (φ : Pm) : AV → Value → Prop where
  | p {v : PV} {x : Value} (h : Cz Z v x) : Cv Z φ (.p v) x
  | any (x : Value) : Cv Z φ .any x
  | ptr {r : Nat} {pl : Place} (off : Nat) (h : φ r = some pl) : Cv Z φ (.ptr r off) (.pointer (some ⟨pl.b, pl.o + off, none⟩))
  | fp (cells : List PV) (b o : Nat) (vals : Nat → Value) (hz : ∀ i, i < cells.length → Z b (o + i) = some (vals i))
      (hv : ∀ i p, cells[i]? = some p → Cz Z p (vals i)) : Cv Z φ (.fp cells) (.pointer (some ⟨b, o, none⟩))
  | nilp : Cv Z φ .nilp (.pointer none)
  | slz (r sz off : Nat) (a : Option Addr) : Cv Z φ (.sl r sz off 0) (.slice a 0 0)
  | sl {r sz off len c : Nat} {pl : Place} (h : φ r = some pl) (hl : len ≤ c) (hC : off + c * sz ≤ pl.C) :
      Cv Z φ (.sl r sz off len) (.slice (some ⟨pl.b, pl.o + off, none⟩) len c)
  | fn (f : Nat) (caps : List AV) (xs : Array Value) (hs : xs.size = caps.length)
      (h : ∀ (i : Nat) (av : AV) (x : Value), caps[i]? = some av → xs[i]? = some x → Cv Z φ av x) : Cv Z φ (.fn f caps) (.func (.func f) #[] xs)
  | nilfn : Cv Z φ .nilfn .nilFunc
  | agg (vs : List AV) (xs : Array Value) (hs : xs.size = vs.length)
      (h : ∀ (i : Nat) (av : AV) (x : Value), vs[i]? = some av → xs[i]? = some x → Cv Z φ av x) : Cv Z φ (.agg vs) (.agg xs)
  | tup (vs : List AV) (xs : Array Value) (hs : xs.size = vs.length)
      (h : ∀ (i : Nat) (av : AV) (x : Value), vs[i]? = some av → xs[i]? = some x → Cv Z φ av x) : Cv Z φ (.tup vs) (.tuple xs)
  | esl (a : Option Addr) : Cv Z φ .esl (.slice a 0 0)
  | ub (b : Bool) : Cv Z φ .ub (.bool b)

def Fro.le (Z Z' : Fro) : Prop := ∀ b i v, Z b i = some v → Z' b i = some v
def Pm.le (φ φ' : Pm) : Prop := ∀ r pl, φ r = some pl → φ' r = some pl
theorem Fro.le_refl (Z : Fro) : Fro.le Z Z := fun _ _ _ h => h
theorem Fro.le_trans {a b c : Fro} (h : Fro.le a b) (k : Fro.le b c) : Fro.le a c := fun _ _ _ e => k _ _ _ (h _ _ _ e)
theorem Pm.le_refl (φ : Pm) : Pm.le φ φ := fun _ _ h => h
theorem Pm.le_trans {a b c : Pm} (h : Pm.le a b) (k : Pm.le b c) : Pm.le a c := fun _ _ e => k _ _ (h _ _ e)

theorem Cz.mono {Z Z' : Fro} (h : Fro.le Z Z') {v : PV} {x : Value} (c : Cz Z v x) : Cz Z' v x := by
  induction c with
  | int k n => exact .int k n
  | bool b => exact .bool b
  | str s => exact .str s
  | nil => exact .nil
  | emp a c => exact .emp a c
  | sl es sz b o c vals hc hsz hz hv ih => exact .sl es sz b o c vals hc hsz (fun i hi => h _ _ _ (hz i hi)) ih

theorem Cv.mono {Z Z' : Fro} {φ φ' : Pm} (hZ : Fro.le Z Z') (hφ : Pm.le φ φ') {v : AV} {x : Value} (c : Cv Z φ v x) : Cv Z' φ' v x := by
  induction c with
  | p h => exact .p (h.mono hZ)
  | any x => exact .any x
  | ptr off h => exact .ptr off (hφ _ _ h)
  | fp cells b o vals hz hv => exact .fp cells b o vals (fun i hi => hZ _ _ _ (hz i hi)) (fun i p hp => (hv i p hp).mono hZ)
  | nilp => exact .nilp
  | slz r sz off a => exact .slz r sz off a
  | sl h hl hC => exact .sl (hφ _ _ h) hl hC
  | fn f caps xs hs h ih => exact .fn f caps xs hs ih
  | nilfn => exact .nilfn
  | agg vs xs hs h ih => exact .agg vs xs hs ih
  | tup vs xs hs h ih => exact .tup vs xs hs ih
  | esl a => exact .esl a
  | ub b => exact .ub b

/-! ### Heaps -/
def Heap.set (H : Heap) (r : Nat) (b : List AV) : Heap := fun r' => if r' = r then some b else H r'
def Heap.del (H : Heap) (r : Nat) : Heap := fun r' => if r' = r then none else H r'
def Heap.or (H F : Heap) : Heap := fun r => match H r with | some b => some b | none => F r
def Disj (H F : Heap) : Prop := ∀ r, H r ≠ none → F r = none
def Heap.le (H H' : Heap) : Prop := ∀ r b, H r = some b → H' r = some b

theorem Heap.set_same (H : Heap) (r : Nat) (b : List AV) : (H.set r b) r = some b := by simp [Heap.set]
theorem Heap.set_other {H : Heap} {r r' : Nat} {b : List AV} (h : r' ≠ r) : (H.set r b) r' = H r' := by simp [Heap.set, h]
theorem Heap.del_same (H : Heap) (r : Nat) : (H.del r) r = none := by simp [Heap.del]
theorem Heap.del_other {H : Heap} {r r' : Nat} (h : r' ≠ r) : (H.del r) r' = H r' := by simp [Heap.del, h]
theorem Heap.or_left {H F : Heap} {r : Nat} {b : List AV} (h : H r = some b) : (H.or F) r = some b := by simp [Heap.or, h]
theorem Heap.or_set (H F : Heap) (r : Nat) (b : List AV) : (H.set r b).or F = (H.or F).set r b := by
  funext r'; simp only [Heap.or, Heap.set]; by_cases h : r' = r <;> simp [h]
theorem Heap.or_del {H F : Heap} {r : Nat} (h : F r = none) : (H.del r).or F = (H.or F).del r := by
  funext r'; simp only [Heap.or, Heap.del]; by_cases e : r' = r <;> simp [e, h]
theorem Heap.le_refl (H : Heap) : Heap.le H H := fun _ _ h => h
theorem Heap.le_trans {a b c : Heap} (h : Heap.le a b) (k : Heap.le b c) : Heap.le a c := fun _ _ e => k _ _ (h _ _ e)
theorem Heap.le_set {H : Heap} {r : Nat} {b : List AV} (h : H r = none) : Heap.le H (H.set r b) := by
  intro r' b' e
  have : r' ≠ r := fun e' => by subst e'; rw [h] at e; cases e
  rw [Heap.set_other this]; exact e
theorem Heap.set_le {H H' : Heap} {r : Nat} {b : List AV} (h : Heap.le H H') : Heap.le (H.set r b) (H'.set r b) := by
  intro x c e
  by_cases hx : x = r
  · subst hx; rw [Heap.set_same] at *; exact e
  · rw [Heap.set_other hx] at *; exact h x c e
theorem Heap.or_le {H H' F : Heap} (h : Heap.le H H') (hd : Disj H' F) : Heap.le (H.or F) (H'.or F) := by
  intro r b e
  simp only [Heap.or] at e ⊢
  cases hH : H r with
  | some c => rw [hH] at e; rw [h r c hH]; exact e
  | none =>
    rw [hH] at e
    cases hH' : H' r with
    | none => exact e
    | some c => have := hd r (by simp [hH']); rw [this] at e; cases e
theorem Disj.set {H F : Heap} {r : Nat} {b : List AV} (h : Disj H F) (hr : F r = none) : Disj (H.set r b) F := by
  intro r' e
  by_cases hh : r' = r
  · subst hh; exact hr
  · rw [Heap.set_other hh] at e; exact h r' e
theorem Disj.del {H F : Heap} {r : Nat} (h : Disj H F) : Disj (H.del r) F := by
  intro r' e
  by_cases hh : r' = r
  · subst hh; rw [Heap.del_same] at e; exact absurd rfl e
  · rw [Heap.del_other hh] at e; exact h r' e
theorem Disj.of_le {H H' F : Heap} (h : Disj H' F) (hl : Heap.le H H') : Disj H F := by
  intro r e
  cases hH : H r with
  | none => exact absurd hH e
  | some b => exact h r (by rw [hl r b hH]; simp)
theorem Disj.fresh {H F : Heap} (h : Disj H F) {r : Nat} {b : List AV} (e : H r = some b) : F r = none := h r (by simp [e])

/-! ### Worlds -/
def Place.sep (p q : Place) : Prop := p.C = 0 ∨ q.C = 0 ∨ p.b ≠ q.b ∨ p.o + p.C ≤ q.o ∨ q.o + q.C ≤ p.o
theorem Place.sep.symm {p q : Place} (h : p.sep q) : q.sep p := by unfold Place.sep at *; omega

/-- The live block of cells 'blk' lies at 'pl'. -/
def LiveAt (Z : Fro) (φ : Pm) (B0 : Nat) (w : World) (pl : Place) (blk : List AV) : Prop :=
  (pl.C = 0 ∧ blk = []) ∨
  (∃ cur e, w.heap[pl.b]? = some (.cells cur e (0, 0)) ∧ pl.o + pl.C ≤ cur.size ∧ blk.length ≤ pl.C ∧ B0 ≤ pl.b ∧
    ∀ (i : Nat) (av : AV), blk[i]? = some av → ∃ x, cur[pl.o + i]? = some x ∧ Cv Z φ av x)

structure Sim (Z : Fro) (φ : Pm) (B0 : Nat) (w0 : World) (H : Heap) (w : World) : Prop where
  b0 : B0 ≤ w.heap.size
  below : Below B0 w0 w
  bnd : ∃ n, ∀ r, n ≤ r → φ r = none
  live : ∀ r blk, H r = some blk → ∃ pl, φ r = some pl ∧ LiveAt Z φ B0 w pl blk
  disj : ∀ r r' pl pl', H r ≠ none → H r' ≠ none → r ≠ r' → φ r = some pl → φ r' = some pl' → pl.sep pl'
  froz : ∀ b i v, Z b i = some v → w.cell? ⟨b, i, none⟩ = some v
  zsep : ∀ b i v, Z b i = some v → ∀ r pl, H r ≠ none → φ r = some pl → pl.b = b → i < pl.o ∨ pl.o + pl.C ≤ i

theorem LiveAt.mono {Z Z' : Fro} {φ φ' : Pm} {B0 : Nat} {w : World} {pl : Place} {blk : List AV} (hZ : Fro.le Z Z') (hφ : Pm.le φ φ') (h : LiveAt Z φ B0 w pl blk) : LiveAt Z' φ' B0 w pl blk := by
  rcases h with h | ⟨cur, e, h1, h2, h3, h4, h5⟩
  · exact .inl h
  · exact .inr ⟨cur, e, h1, h2, h3, h4, fun i av hi => let ⟨x, hx, hc⟩ := h5 i av hi; ⟨x, hx, hc.mono hZ hφ⟩⟩

theorem LiveAt.world {Z : Fro} {φ : Pm} {B0 : Nat} {w w' : World} {pl : Place} {blk : List AV} (h : LiveAt Z φ B0 w pl blk)
    (hw : ∀ o, w.heap[pl.b]? = some o → w'.heap[pl.b]? = some o) : LiveAt Z φ B0 w' pl blk := by
  rcases h with h | ⟨cur, e, h1, h2, h3, h4, h5⟩
  · exact .inl h
  · exact .inr ⟨cur, e, hw _ h1, h2, h3, h4, h5⟩

/-- Forget blocks. -/
theorem Sim.forget {Z : Fro} {φ : Pm} {B0 : Nat} {w0 w : World} {H H' : Heap} (s : Sim Z φ B0 w0 H' w) (hl : Heap.le H H') : Sim Z φ B0 w0 H w := by
  have hn : ∀ r, H r ≠ none → H' r ≠ none := by
    intro r e
    cases hH : H r with
    | none => exact absurd hH e
    | some b => rw [hl r b hH]; simp
  exact ⟨s.b0, s.below, s.bnd, fun r blk e => s.live r blk (hl r blk e), fun r r' pl pl' e e' => s.disj r r' pl pl' (hn r e) (hn r' e'), s.froz,
    fun b i v hz r pl e => s.zsep b i v hz r pl (hn r e)⟩

/-- The world has drawn. -/
theorem Sim.drew {Z : Fro} {φ : Pm} {B0 : Nat} {w0 w : World} {H : Heap} (s : Sim Z φ B0 w0 H w) : Sim Z φ B0 w0 H w.drew :=
  ⟨s.b0, s.below.drew, s.bnd, fun r blk e => let ⟨pl, hp, hl⟩ := s.live r blk e; ⟨pl, hp, hl.world fun _ h => h⟩, s.disj,
    fun b i v hz => by rw [World.cell?_drew]; exact s.froz b i v hz, s.zsep⟩

/-- A new block at a place of its own. -/
theorem Sim.alloc {Z : Fro} {φ : Pm} {B0 : Nat} {w0 w : World} {H : Heap} (s : Sim Z φ B0 w0 H w) (cur : Array Value) (e : TypeId) (C : Nat) (hC : C ≤ cur.size)
    (blk : List AV) (hb : blk.length ≤ C) (hv : ∀ (i : Nat) (av : AV), blk[i]? = some av → ∃ x, cur[i]? = some x ∧ Cv Z φ av x) :
    ∃ r φ', H r = none ∧ φ r = none ∧ Pm.le φ φ' ∧ φ' r = some ⟨w.heap.size, 0, C⟩ ∧ Sim Z φ' B0 w0 (H.set r blk) (w.alloc (.cells cur e)) := by
  obtain ⟨n, hn⟩ := s.bnd
  have hHn : H n = none := by
    cases hH : H n with
    | none => rfl
    | some b => obtain ⟨pl, hp, _⟩ := s.live n b hH; rw [hn n (Nat.le_refl _)] at hp; cases hp
  let φ' : Pm := fun r => if r = n then some ⟨w.heap.size, 0, C⟩ else φ r
  have hle : Pm.le φ φ' := by
    intro r pl h
    have : r ≠ n := fun e => by subst e; rw [hn r (Nat.le_refl _)] at h; cases h
    simp only [φ', this, if_false]; exact h
  have hnew : φ' n = some ⟨w.heap.size, 0, C⟩ := by simp [φ']
  have hold : ∀ k, k < w.heap.size → (w.alloc (.cells cur e)).heap[k]? = w.heap[k]? := fun k hk => by first | exact heap_alloc_old w _ k hk | exact heap_alloc_old w _ hk | exact Below.heap_alloc w _ k hk
  refine ⟨n, φ', hHn, hn n (Nat.le_refl _), hle, hnew, ?_⟩
  have hlt : ∀ r pl, H r ≠ none → φ r = some pl → pl.C = 0 ∨ pl.b < w.heap.size := by
    intro r pl hr hp
    cases hH : H r with
    | none => exact absurd hH hr
    | some b =>
      obtain ⟨pl', hp', hl⟩ := s.live r b hH
      rw [hp] at hp'; cases hp'
      rcases hl with ⟨h, _⟩ | ⟨cur', e', h1, _⟩
      · exact .inl h
      · exact .inr (Array.getElem?_eq_some_iff.1 h1).1
  refine ⟨by rw [World.size_alloc]; have := s.b0; omega, s.below.alloc s.b0 _, ⟨n + 1, ?_⟩, ?_, ?_, ?_, ?_⟩
  · intro r hr
    have : r ≠ n := by omega
    simp only [φ', this, if_false]; exact hn r (by omega)
  · intro r b hr
    by_cases h : r = n
    · subst h
      rw [Heap.set_same] at hr; cases hr
      refine ⟨_, hnew, .inr ⟨cur, e, heap_alloc_new w _, by simpa using hC, hb, s.b0, ?_⟩⟩
      intro i av hi
      obtain ⟨x, hx, hc⟩ := hv i av hi
      exact ⟨x, by simpa using hx, hc.mono (Fro.le_refl _) hle⟩
    · rw [Heap.set_other h] at hr
      obtain ⟨pl, hp, hl⟩ := s.live r b hr
      exact ⟨pl, hle _ _ hp, (hl.mono (Fro.le_refl _) hle).world fun o ho => by rw [hold _ (Array.getElem?_eq_some_iff.1 ho).1]; exact ho⟩
  · intro r r' pl pl' hr hr' hne hp hp'
    by_cases h : r = n
    · subst h
      rw [hnew] at hp; cases hp
      have h' : r' ≠ r := fun e => hne e.symm
      rw [Heap.set_other h'] at hr'
      have hp0 : φ r' = some pl' := by simpa [φ', h'] using hp'
      rcases hlt r' pl' hr' hp0 with h0 | h0 <;> (unfold Place.sep; simp only; omega)
    · by_cases h' : r' = n
      · subst h'
        rw [hnew] at hp'; cases hp'
        rw [Heap.set_other h] at hr
        have hp0 : φ r = some pl := by simpa [φ', h] using hp
        rcases hlt r pl hr hp0 with h0 | h0 <;> (unfold Place.sep; simp only; omega)
      · rw [Heap.set_other h] at hr
        rw [Heap.set_other h'] at hr'
        exact s.disj r r' pl pl' hr hr' hne (by simpa [φ', h] using hp) (by simpa [φ', h'] using hp')
  · intro b i v hz
    have := s.froz b i v hz
    rw [World.cell?_alloc_lt _ _ _ (World.block_lt_of_cell? w ⟨b, i, none⟩ this)]; exact this
  · intro b i v hz r pl hr hp hb'
    by_cases h : r = n
    · subst h
      rw [hnew] at hp; cases hp
      have := World.block_lt_of_cell? w ⟨b, i, none⟩ (s.froz b i v hz)
      simp only at hb' this; omega
    · rw [Heap.set_other h] at hr
      exact s.zsep b i v hz r pl hr (by simpa [φ', h] using hp) hb'


/-- A live block is written: its row of cells anew, the cells outside of its place as they were. -/
theorem Sim.setRow {Z : Fro} {φ : Pm} {B0 : Nat} {w0 w : World} {H : Heap} (s : Sim Z φ B0 w0 H w) {r : Nat} {blk : List AV} (hr : H r = some blk) {pl : Place} (hp : φ r = some pl)
    {cur : Array Value} {e : TypeId} (hcur : w.heap[pl.b]? = some (.cells cur e (0, 0))) (hC0 : pl.C ≠ 0) (cur' : Array Value) (hs : cur'.size = cur.size)
    (hout : ∀ i, i < pl.o ∨ pl.o + pl.C ≤ i → cur'[i]? = cur[i]?) (blk' : List AV) (hb : blk'.length ≤ pl.C)
    (hv : ∀ (i : Nat) (av : AV), blk'[i]? = some av → ∃ x, cur'[pl.o + i]? = some x ∧ Cv Z φ av x) :
    Sim Z φ B0 w0 (H.set r blk') (w.setRow pl.b cur') := by
  have hrow : (w.setRow pl.b cur').heap[pl.b]? = some (.cells cur' e (0, 0)) := setRow_heap w pl.b cur cur' e _ hcur
  have hoth : ∀ k, k ≠ pl.b → (w.setRow pl.b cur').heap[k]? = w.heap[k]? := fun k hk => setRow_other w pl.b k cur' hk
  obtain ⟨pl0, hp0, hl0⟩ := s.live r blk hr
  rw [hp] at hp0; cases hp0
  have hB : B0 ≤ pl.b := by
    rcases hl0 with ⟨h, _⟩ | ⟨_, _, _, _, _, h, _⟩
    · exact absurd h hC0
    · exact h
  have hroom : pl.o + pl.C ≤ cur.size := by
    rcases hl0 with ⟨h, _⟩ | ⟨c2, e2, h1, h2, _⟩
    · exact absurd h hC0
    · rw [hcur] at h1; cases h1; exact h2
  refine ⟨by rw [size_setRow]; exact s.b0, ?_, s.bnd, ?_, ?_, ?_, ?_⟩
  · exact s.below.trans ⟨rfl, rfl, rfl, by rw [size_setRow]; exact Nat.le_refl _, fun k hk => hoth k (by omega)⟩
  · intro r' b hr'
    by_cases h : r' = r
    · subst h
      rw [Heap.set_same] at hr'; cases hr'
      exact ⟨pl, hp, .inr ⟨cur', e, hrow, by omega, hb, hB, hv⟩⟩
    · rw [Heap.set_other h] at hr'
      obtain ⟨pl', hp', hl'⟩ := s.live r' b hr'
      refine ⟨pl', hp', ?_⟩
      rcases hl' with hl' | ⟨c2, e2, h1, h2, h3, h4, h5⟩
      · exact .inl hl'
      · by_cases hbb : pl'.b = pl.b
        · rw [hbb, hcur] at h1; cases h1
          refine .inr ⟨cur', e, by rw [hbb]; exact hrow, by omega, h3, h4, ?_⟩
          intro i av hi
          obtain ⟨x, hx, hc⟩ := h5 i av hi
          refine ⟨x, ?_, hc⟩
          have hlt : i < b.length := (List.getElem?_eq_some_iff.1 hi).1
          rw [hout]; exact hx
          have hsep := s.disj r' r pl' pl (by simp [hr']) (by simp [hr]) h hp' hp
          rcases hsep with h' | h' | h' | h' | h' <;> omega
        · exact .inr ⟨c2, e2, by rw [hoth _ hbb]; exact h1, h2, h3, h4, h5⟩
  · intro r1 r2 p1 p2 h1 h2
    have hn : ∀ x, (H.set r blk') x ≠ none → H x ≠ none := by
      intro x hx
      by_cases h : x = r
      · subst h; simp [hr]
      · rwa [Heap.set_other h] at hx
    exact s.disj r1 r2 p1 p2 (hn _ h1) (hn _ h2)
  · intro b i v hz
    have hf := s.froz b i v hz
    by_cases hbb : b = pl.b
    · subst hbb
      have hzs := s.zsep _ i v hz r pl (by simp [hr]) hp rfl
      rw [cell_of_row _ pl.b i cur' e _ hrow, hout i hzs, ← cell_of_row w pl.b i cur e _ hcur]; exact hf
    · rw [World.cell?_of_block (w := w) (a := ⟨b, i, none⟩) (hoth b hbb)]; exact hf
  · intro b i v hz r' pl' hr' hp' hb'
    have hn : H r' ≠ none := by
      by_cases h : r' = r
      · subst h; simp [hr]
      · rwa [Heap.set_other h] at hr'
    exact s.zsep b i v hz r' pl' hn hp' hb'

/-- The end of a live block under a new name; the old name is given up. -/
theorem Sim.sub {Z : Fro} {φ : Pm} {B0 : Nat} {w0 w : World} {H : Heap} (s : Sim Z φ B0 w0 H w) {r : Nat} {blk : List AV} (hr : H r = some blk) {pl : Place} (hp : φ r = some pl) (off m : Nat) :
    ∃ r' φ', H r' = none ∧ φ r' = none ∧ Pm.le φ φ' ∧ φ' r' = some ⟨pl.b, pl.o + off, pl.C - off⟩ ∧ Sim Z φ' B0 w0 ((H.del r).set r' ((blk.drop off).take m)) w := by
  obtain ⟨n, hn⟩ := s.bnd
  have hHn : H n = none := by
    cases hH : H n with
    | none => rfl
    | some b => obtain ⟨pl, hp, _⟩ := s.live n b hH; rw [hn n (Nat.le_refl _)] at hp; cases hp
  have hnr : n ≠ r := fun e => by subst e; rw [hHn] at hr; cases hr
  let φ' : Pm := fun x => if x = n then some ⟨pl.b, pl.o + off, pl.C - off⟩ else φ x
  have hle : Pm.le φ φ' := by
    intro x q h
    have : x ≠ n := fun e => by subst e; rw [hn x (Nat.le_refl _)] at h; cases h
    simp only [φ', this, if_false]; exact h
  have hnew : φ' n = some ⟨pl.b, pl.o + off, pl.C - off⟩ := by simp [φ']
  have key : ∀ x b, ((H.del r).set n ((blk.drop off).take m)) x = some b → (x = n ∧ b = (blk.drop off).take m) ∨ (x ≠ n ∧ x ≠ r ∧ H x = some b) := by
    intro x b hx
    by_cases h : x = n
    · subst h; rw [Heap.set_same] at hx; cases hx; exact .inl ⟨rfl, rfl⟩
    · rw [Heap.set_other h] at hx
      by_cases h' : x = r
      · subst h'; rw [Heap.del_same] at hx; cases hx
      · rw [Heap.del_other h'] at hx; exact .inr ⟨h, h', hx⟩
  have keyn : ∀ x, ((H.del r).set n ((blk.drop off).take m)) x ≠ none → x = n ∨ (x ≠ n ∧ x ≠ r ∧ H x ≠ none) := by
    intro x hx
    cases hh : ((H.del r).set n ((blk.drop off).take m)) x with
    | none => exact absurd hh hx
    | some b =>
      rcases key x b hh with ⟨h, _⟩ | ⟨h1, h2, h3⟩
      · exact .inl h
      · exact .inr ⟨h1, h2, by simp [h3]⟩
  have hold : ∀ x q, x ≠ n → φ' x = some q → φ x = some q := by
    intro x q hx h; simpa [φ', hx] using h
  refine ⟨n, φ', hHn, hn n (Nat.le_refl _), hle, hnew, s.b0, s.below, ⟨n + 1, ?_⟩, ?_, ?_, s.froz, ?_⟩
  · intro x hx
    have : x ≠ n := by omega
    simp only [φ', this, if_false]; exact hn x (by omega)
  · intro x b hx
    rcases key x b hx with ⟨rfl, rfl⟩ | ⟨h1, h2, h3⟩
    · obtain ⟨pl0, hp0, hl⟩ := s.live r blk hr
      rw [hp] at hp0; cases hp0
      refine ⟨_, hnew, ?_⟩
      rcases hl with ⟨h, h'⟩ | ⟨cur, e, h1, h2, h3, h4, h5⟩
      · exact .inl ⟨by simp [h], by simp [h']⟩
      · by_cases hoff : off ≤ pl.C
        · refine .inr ⟨cur, e, h1, by simp only; omega, by simp only [List.length_take, List.length_drop]; omega, h4, ?_⟩
          intro i av hi
          rw [List.getElem?_take] at hi
          split at hi
          case isFalse => cases hi
          rw [List.getElem?_drop] at hi
          obtain ⟨x, hx, hc⟩ := h5 _ av hi
          exact ⟨x, by rw [← hx]; congr 1; simp only; omega, hc.mono (Fro.le_refl _) hle⟩
        · exact .inl ⟨by simp only; omega, by rw [List.drop_eq_nil_of_le (by omega)]; exact List.take_nil⟩
    · obtain ⟨q, hq, hl⟩ := s.live x b h3
      exact ⟨q, hle _ _ hq, hl.mono (Fro.le_refl _) hle⟩
  · intro x y p q hx hy hne hpx hqy
    rcases keyn x hx with rfl | ⟨h1, h2, h3⟩
    · rcases keyn y hy with rfl | ⟨k1, k2, k3⟩
      · exact absurd rfl hne
      · rw [hnew] at hpx; cases hpx
        have := s.disj r y pl q (by simp [hr]) k3 (fun e => k2 e.symm) hp (hold y q k1 hqy)
        unfold Place.sep at *; simp only; omega
    · rcases keyn y hy with rfl | ⟨k1, k2, k3⟩
      · rw [hnew] at hqy; cases hqy
        have := s.disj x r p pl h3 (by simp [hr]) h2 (hold x p h1 hpx) hp
        unfold Place.sep at *; simp only; omega
      · exact s.disj x y p q h3 k3 hne (hold x p h1 hpx) (hold y q k1 hqy)
  · intro b i v hz x q hx hq hb
    rcases keyn x hx with rfl | ⟨h1, h2, h3⟩
    · rw [hnew] at hq; cases hq
      have := s.zsep b i v hz r pl (by simp [hr]) hp hb
      simp only; omega
    · exact s.zsep b i v hz x q h3 (hold x q h1 hq) hb

/-- A new name for a block of no cells. -/
theorem Sim.ghost {Z : Fro} {φ : Pm} {B0 : Nat} {w0 w : World} {H : Heap} (s : Sim Z φ B0 w0 H w) :
    ∃ r' φ', H r' = none ∧ φ r' = none ∧ Pm.le φ φ' ∧ φ' r' = some ⟨0, 0, 0⟩ ∧ Sim Z φ' B0 w0 (H.set r' []) w := by
  obtain ⟨n, hn⟩ := s.bnd
  have hHn : H n = none := by
    cases hH : H n with
    | none => rfl
    | some b => obtain ⟨pl, hp, _⟩ := s.live n b hH; rw [hn n (Nat.le_refl _)] at hp; cases hp
  let φ' : Pm := fun x => if x = n then some ⟨0, 0, 0⟩ else φ x
  have hle : Pm.le φ φ' := by
    intro x q h
    have : x ≠ n := fun e => by subst e; rw [hn x (Nat.le_refl _)] at h; cases h
    simp only [φ', this, if_false]; exact h
  have hnew : φ' n = some ⟨0, 0, 0⟩ := by simp [φ']
  have hold : ∀ x q, x ≠ n → φ' x = some q → φ x = some q := by
    intro x q hx h; simpa [φ', hx] using h
  refine ⟨n, φ', hHn, hn n (Nat.le_refl _), hle, hnew, s.b0, s.below, ⟨n + 1, ?_⟩, ?_, ?_, s.froz, ?_⟩
  · intro x hx
    have : x ≠ n := by omega
    simp only [φ', this, if_false]; exact hn x (by omega)
  · intro x b hx
    by_cases h : x = n
    · subst h; rw [Heap.set_same] at hx; cases hx; exact ⟨_, hnew, .inl ⟨rfl, rfl⟩⟩
    · rw [Heap.set_other h] at hx
      obtain ⟨q, hq, hl⟩ := s.live x b hx
      exact ⟨q, hle _ _ hq, hl.mono (Fro.le_refl _) hle⟩
  · intro x y p q hx hy hne hpx hqy
    by_cases h : x = n
    · subst h; rw [hnew] at hpx; cases hpx; exact .inl rfl
    · by_cases h' : y = n
      · subst h'; rw [hnew] at hqy; cases hqy; exact .inr (.inl rfl)
      · rw [Heap.set_other h] at hx; rw [Heap.set_other h'] at hy
        exact s.disj x y p q hx hy hne (hold x p h hpx) (hold y q h' hqy)
  · intro b i v hz x q hx hq hb
    by_cases h : x = n
    · subst h; rw [hnew] at hq; cases hq; simp only; omega
    · rw [Heap.set_other h] at hx
      exact s.zsep b i v hz x q hx (hold x q h hq) hb

/-- Freeze a live block: its cells become facts, the block is given up. -/
theorem Sim.freeze {Z : Fro} {φ : Pm} {B0 : Nat} {w0 w : World} {H : Heap} (s : Sim Z φ B0 w0 H w) {r : Nat} {cells : List PV} (hr : H r = some (cells.map .p)) {pl : Place} (hp : φ r = some pl) :
    ∃ (Z' : Fro) (vals : Nat → Value), Fro.le Z Z' ∧ (∀ i, i < cells.length → Z' pl.b (pl.o + i) = some (vals i)) ∧ (∀ (i : Nat) (p : PV), cells[i]? = some p → Cz Z' p (vals i)) ∧ Sim Z' φ B0 w0 (H.del r) w := by
  obtain ⟨pl0, hp0, hl⟩ := s.live r _ hr
  rw [hp] at hp0; cases hp0
  have hforget : Heap.le (H.del r) H := by
    intro x b hx
    by_cases h : x = r
    · subst h; rw [Heap.del_same] at hx; cases hx
    · rwa [Heap.del_other h] at hx
  rcases hl with ⟨_, h⟩ | ⟨cur, e, h1, h2, h3, h4, h5⟩
  · have hnil : cells = [] := by simpa using h
    subst hnil
    exact ⟨Z, fun _ => undef, Fro.le_refl _, fun i hi => by simp at hi, fun i p hi => by simp at hi, s.forget hforget⟩
  · have hlen : cells.length ≤ pl.C := by simpa using h3
    let Z' : Fro := fun b i => if b = pl.b ∧ pl.o ≤ i ∧ i < pl.o + cells.length then cur[i]? else Z b i
    have hle : Fro.le Z Z' := by
      intro b i v hz
      by_cases h : b = pl.b ∧ pl.o ≤ i ∧ i < pl.o + cells.length
      · have := s.zsep b i v hz r pl (by simp [hr]) hp h.1.symm
        omega
      · simp only [Z', h, if_false]; exact hz
    refine ⟨Z', fun i => (cur[pl.o + i]?).getD undef, hle, ?_, ?_, ?_⟩
    · intro i hi
      have : pl.b = pl.b ∧ pl.o ≤ pl.o + i ∧ pl.o + i < pl.o + cells.length := ⟨rfl, by omega, by omega⟩
      simp only [Z', this, and_self, if_true]
      rw [Array.getElem?_eq_getElem (by omega)]; rfl
    · intro i p hi
      obtain ⟨x, hx, hc⟩ := h5 i (.p p) (by rw [List.getElem?_map, hi]; rfl)
      show Cz Z' p ((cur[pl.o + i]?).getD undef)
      rw [hx]
      cases hc with
      | p hz => exact hz.mono hle
    · have s' := s.forget hforget
      refine ⟨s'.b0, s'.below, s'.bnd, ?_, s'.disj, ?_, ?_⟩
      · intro x b hx
        obtain ⟨q, hq, hl⟩ := s'.live x b hx
        exact ⟨q, hq, hl.mono hle (Pm.le_refl _)⟩
      · intro b i v hz
        by_cases h : b = pl.b ∧ pl.o ≤ i ∧ i < pl.o + cells.length
        · simp only [Z', h, and_self, if_true] at hz
          rw [h.1, cell_of_row w pl.b i cur e _ h1]; exact hz
        · simp only [Z', h, if_false] at hz; exact s'.froz b i v hz
      · intro b i v hz x q hx hq hb
        by_cases h : b = pl.b ∧ pl.o ≤ i ∧ i < pl.o + cells.length
        · have hxr : x ≠ r := fun e => by subst e; rw [Heap.del_same] at hx; exact hx rfl
          rw [Heap.del_other hxr] at hx
          have := s.disj x r q pl hx (by simp [hr]) hxr hq hp
          rcases this with h' | h' | h' | h' | h' <;> omega
        · simp only [Z', h, if_false] at hz; exact s'.zsep b i v hz x q hx hq hb

end Go.Sep
