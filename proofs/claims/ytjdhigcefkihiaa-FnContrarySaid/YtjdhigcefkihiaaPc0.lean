/- Texts laid together: SepA. -/
import Derived.Below
import Derived.RangeFuncOwn
import Derived.RangeFuncLeaves
import Derived.WalkKit
import Derived.Laws.AppendOwn
import Derived.Laws.CopyRow
import Derived.Laws.Rows
import Derived.Deep.MidRow
import Derived.Laws.AppendOwnNone
import Derived.Laws.StructEq
set_option linter.unusedVariables false
set_option linter.unusedSimpArgs false
open Nat renaming reduceAdd → ν1, reduceLeDiff → ν2, reduceLT → ν3, reduceMul → ν4, reduceSub → ν5
open Int renaming reduceToNat → ι1, reduceSub → ι2, reduceAdd → ι3, reduceNeg → ι4
open Array renaming toList → ι5
open Ne renaming symm → ν6
open List renaming forall_mem_cons → ν7
namespace Go.Sep
open Go Go.RowKit
inductive PV where
  | int (k : IntKind) (n : Int)
  | bool (b : Bool)
  | str (s : ByteArray)
  | nil
  | sl (es : List (List PV))
instance : Inhabited PV := ⟨.nil⟩
inductive AV where
  | p (v : PV)
  | any
  | ptr (r off : Nat)
  | fp (cells : List PV)
  | nilp
  | sl (r sz off len : Nat)
  | fn (f : Nat) (caps : List AV)
  | nilfn
  | agg (vs : List AV)
  | tup (vs : List AV)
  | esl
  | ub
instance : Inhabited AV := ⟨.any⟩
abbrev Heap := Nat → Option (List AV)
abbrev Fro := Nat → Nat → Option Value
structure Place where
  b : Nat
  o : Nat
  C : Nat
abbrev Pm := Nat → Option Place
inductive Cz (Z : Fro) : PV → Value → Prop where
  | int (k : IntKind) (n : Int) : Cz Z (.int k n) (.int k n)
  | bool (b : Bool) : Cz Z (.bool b) (.bool b)
  | str (s : ByteArray) : Cz Z (.str s) (.string s)
  | nil : Cz Z .nil (.slice none 0 0)
  | emp (a : Option Addr) (c : Nat) : Cz Z (.sl []) (.slice a 0 c)
  | sl (es : List (List PV)) (sz b o c : Nat) (vals : Nat → Value) (hc : es.length ≤ c) (hsz : ∀ e ∈ es, e.length = sz)
      (hz : ∀ i, i < es.length * sz → Z b (o + i) = some (vals i))
      (hv : ∀ i e, es[i]? = some e → ∀ j p, e[j]? = some p → Cz Z p (vals (i * sz + j))) :
      Cz Z (.sl es) (.slice (some ⟨b, o, none⟩) es.length c)
inductive Cv (Z : Fro) (φ : Pm) : AV → Value → Prop where
  | p {v : PV} {x : Value} (h : Cz Z v x) : Cv Z φ (.p v) x
  | any (x : Value) : Cv Z φ .any x
  | ptr {r : Nat} {pl : Place} (off : Nat) (h : φ r = some pl) : Cv Z φ (.ptr r off) (.pointer (some ⟨pl.b, pl.o + off, none⟩))
  | fp (cells : List PV) (b o : Nat) (vals : Nat → Value) (hz : ∀ i, i < cells.length → Z b (o + i) = some (vals i))
      (hv : ∀ i p, cells[i]? = some p → Cz Z p (vals i)) : Cv Z φ (.fp cells) (.pointer (some ⟨b, o, none⟩))
  | nilp : Cv Z φ .nilp (.pointer none)
  | slz (r sz off : Nat) (a : Option Addr) : Cv Z φ (.sl r sz off 0) (.slice a 0 0)
  | sl {r sz off len c : Nat} {pl : Place} (h : φ r = some pl) (hl : len ≤ c) (hC : off + c * sz ≤ pl.C) :
      Cv Z φ (.sl r sz off len) (.slice (some ⟨pl.b, pl.o + off, none⟩) len c)
  | fn (f : Nat) (caps : List AV) (xs : Array Value) (hs : xs.size = caps.length)
      (h : ∀ (i : Nat) (av : AV) (x : Value), caps[i]? = some av → xs[i]? = some x → Cv Z φ av x) : Cv Z φ (.fn f caps) (.func (.func f) #[] xs)
  | nilfn : Cv Z φ .nilfn .nilFunc
  | agg (vs : List AV) (xs : Array Value) (hs : xs.size = vs.length)
      (h : ∀ (i : Nat) (av : AV) (x : Value), vs[i]? = some av → xs[i]? = some x → Cv Z φ av x) : Cv Z φ (.agg vs) (.agg xs)
  | tup (vs : List AV) (xs : Array Value) (hs : xs.size = vs.length)
      (h : ∀ (i : Nat) (av : AV) (x : Value), vs[i]? = some av → xs[i]? = some x → Cv Z φ av x) : Cv Z φ (.tup vs) (.tuple xs)
  | esl (a : Option Addr) : Cv Z φ .esl (.slice a 0 0)
  | ub (b : Bool) : Cv Z φ .ub (.bool b)
def Fro.le (Z Z' : Fro) : Prop := ∀ b i v, Z b i = some v → Z' b i = some v
def Pm.le (φ φ' : Pm) : Prop := ∀ r pl, φ r = some pl → φ' r = some pl
theorem Fro.le_refl (Z : Fro) : Fro.le Z Z := fun _ _ _ h => h
theorem Fro.le_trans {a b c : Fro} (h : Fro.le a b) (k : Fro.le b c) : Fro.le a c := fun _ _ _ e => k _ _ _ (h _ _ _ e)
theorem Pm.le_refl (φ : Pm) : Pm.le φ φ := fun _ _ h => h
theorem Pm.le_trans {a b c : Pm} (h : Pm.le a b) (k : Pm.le b c) : Pm.le a c := fun _ _ e => k _ _ (h _ _ e)
theorem Cz.mono {Z Z' : Fro} (h : Fro.le Z Z') {v : PV} {x : Value} (c : Cz Z v x) : Cz Z' v x := by
  induction c with
  | int k n => exact .int k n
  | bool b => exact .bool b
  | str s => exact .str s
  | nil => exact .nil
  | emp a c => exact .emp a c
  | sl es sz b o c vals hc hsz hz hv ih => exact .sl es sz b o c vals hc hsz (fun i hi => h _ _ _ (hz i hi)) ih
theorem Cv.mono {Z Z' : Fro} {φ φ' : Pm} (hZ : Fro.le Z Z') (hφ : Pm.le φ φ') {v : AV} {x : Value} (c : Cv Z φ v x) : Cv Z' φ' v x := by
  induction c with
  | p h => exact .p (h.mono hZ)
  | any x => exact .any x
  | ptr off h => exact .ptr off (hφ _ _ h)
  | fp cells b o vals hz hv => exact .fp cells b o vals (fun i hi => hZ _ _ _ (hz i hi)) (fun i p hp => (hv i p hp).mono hZ)
  | nilp => exact .nilp
  | slz r sz off a => exact .slz r sz off a
  | sl h hl hC => exact .sl (hφ _ _ h) hl hC
  | fn f caps xs hs h ih => exact .fn f caps xs hs ih
  | nilfn => exact .nilfn
  | agg vs xs hs h ih => exact .agg vs xs hs ih
  | tup vs xs hs h ih => exact .tup vs xs hs ih
  | esl a => exact .esl a
  | ub b => exact .ub b
def Heap.set (H : Heap) (r : Nat) (b : List AV) : Heap := fun r' => if r' = r then some b else H r'
def Heap.del (H : Heap) (r : Nat) : Heap := fun r' => if r' = r then none else H r'
def Heap.or (H F : Heap) : Heap := fun r => match H r with | some b => some b | none => F r
def Disj (H F : Heap) : Prop := ∀ r, H r ≠ none → F r = none
def Heap.le (H H' : Heap) : Prop := ∀ r b, H r = some b → H' r = some b
theorem Heap.set_same (H : Heap) (r : Nat) (b : List AV) : (H.set r b) r = some b := by simp [Heap.set]
theorem Heap.set_other {H : Heap} {r r' : Nat} {b : List AV} (h : r' ≠ r) : (H.set r b) r' = H r' := by simp [Heap.set, h]
theorem Heap.del_same (H : Heap) (r : Nat) : (H.del r) r = none := by simp [Heap.del]
theorem Heap.del_other {H : Heap} {r r' : Nat} (h : r' ≠ r) : (H.del r) r' = H r' := by simp [Heap.del, h]
theorem Heap.or_left {H F : Heap} {r : Nat} {b : List AV} (h : H r = some b) : (H.or F) r = some b := by simp [Heap.or, h]
theorem Heap.or_set (H F : Heap) (r : Nat) (b : List AV) : (H.set r b).or F = (H.or F).set r b := by
  funext r'; simp only [Heap.or, Heap.set]; by_cases h : r' = r <;> simp [h]
theorem Heap.or_del {H F : Heap} {r : Nat} (h : F r = none) : (H.del r).or F = (H.or F).del r := by
  funext r'; simp only [Heap.or, Heap.del]; by_cases e : r' = r <;> simp [e, h]
theorem Heap.le_refl (H : Heap) : Heap.le H H := fun _ _ h => h
theorem Heap.le_trans {a b c : Heap} (h : Heap.le a b) (k : Heap.le b c) : Heap.le a c := fun _ _ e => k _ _ (h _ _ e)
theorem Heap.le_set {H : Heap} {r : Nat} {b : List AV} (h : H r = none) : Heap.le H (H.set r b) := by
  intro r' b' e
  have : r' ≠ r := fun e' => by subst e'; rw [h] at e; cases e
  rw [Heap.set_other this]; exact e
theorem Heap.set_le {H H' : Heap} {r : Nat} {b : List AV} (h : Heap.le H H') : Heap.le (H.set r b) (H'.set r b) := by
  intro x c e
  by_cases hx : x = r
  · subst hx; rw [Heap.set_same] at *; exact e
  · rw [Heap.set_other hx] at *; exact h x c e
theorem Heap.or_le {H H' F : Heap} (h : Heap.le H H') (hd : Disj H' F) : Heap.le (H.or F) (H'.or F) := by
  intro r b e
  simp only [Heap.or] at e ⊢
  cases hH : H r with
  | some c => rw [hH] at e; rw [h r c hH]; exact e
  | none =>
    rw [hH] at e
    cases hH' : H' r with
    | none => exact e
    | some c => have := hd r (by simp [hH']); rw [this] at e; cases e
theorem Disj.set {H F : Heap} {r : Nat} {b : List AV} (h : Disj H F) (hr : F r = none) : Disj (H.set r b) F := by
  intro r' e
  by_cases hh : r' = r
  · subst hh; exact hr
  · rw [Heap.set_other hh] at e; exact h r' e
theorem Disj.del {H F : Heap} {r : Nat} (h : Disj H F) : Disj (H.del r) F := by
  intro r' e
  by_cases hh : r' = r
  · subst hh; rw [Heap.del_same] at e; exact absurd rfl e
  · rw [Heap.del_other hh] at e; exact h r' e
theorem Disj.of_le {H H' F : Heap} (h : Disj H' F) (hl : Heap.le H H') : Disj H F := by
  intro r e
  cases hH : H r with
  | none => exact absurd hH e
  | some b => exact h r (by rw [hl r b hH]; simp)
theorem Disj.fresh {H F : Heap} (h : Disj H F) {r : Nat} {b : List AV} (e : H r = some b) : F r = none := h r (by simp [e])
def Place.sep (p q : Place) : Prop := p.C = 0 ∨ q.C = 0 ∨ p.b ≠ q.b ∨ p.o + p.C ≤ q.o ∨ q.o + q.C ≤ p.o
theorem Place.sep.symm {p q : Place} (h : p.sep q) : q.sep p := by unfold Place.sep at *; omega
def LiveAt (Z : Fro) (φ : Pm) (B0 : Nat) (w : World) (pl : Place) (blk : List AV) : Prop :=
  (pl.C = 0 ∧ blk = []) ∨
  (∃ cur e, w.heap[pl.b]? = some (.cells cur e (0, 0)) ∧ pl.o + pl.C ≤ cur.size ∧ blk.length ≤ pl.C ∧ B0 ≤ pl.b ∧
    ∀ (i : Nat) (av : AV), blk[i]? = some av → ∃ x, cur[pl.o + i]? = some x ∧ Cv Z φ av x)
def DrawnLe (w w' : World) : Prop := ∀ (k : Nat) (o : Obj), w.heap[k]? = some o → o.isCells = false → w'.heap[k]? = some o
theorem DrawnLe.same {w w' : World} (h : w'.heap = w.heap) : DrawnLe w w' := fun k o hk _ => by rw [h]; exact hk
theorem DrawnLe.trans {a b c : World} (h : DrawnLe a b) (k : DrawnLe b c) : DrawnLe a c := fun i o hi ho => k i o (h i o hi ho) ho
structure Bel (B : Nat) (w w' : World) : Prop where
  to : Below B w w'
  drawn : DrawnLe w w'
theorem Bel.os {B : Nat} {w w' : World} (h : Bel B w w') : w'.os = w.os := h.to.os
theorem Bel.tape {B : Nat} {w w' : World} (h : Bel B w w') : w'.tape = w.tape := h.to.tape
theorem Bel.output {B : Nat} {w w' : World} (h : Bel B w w') : w'.output = w.output := h.to.output
theorem Bel.size {B : Nat} {w w' : World} (h : Bel B w w') : w.heap.size ≤ w'.heap.size := h.to.size
theorem Bel.block {B : Nat} {w w' : World} (h : Bel B w w') : ∀ k, k < B → w'.heap[k]? = w.heap[k]? := h.to.block
theorem Bel.refl (B : Nat) (w : World) : Bel B w w := ⟨.refl _ _, .same rfl⟩
theorem Bel.trans {B : Nat} {a b c : World} (h : Bel B a b) (k : Bel B b c) : Bel B a c := ⟨h.to.trans k.to, h.drawn.trans k.drawn⟩
theorem Bel.mono {B B' : Nat} {w w' : World} (h : Bel B w w') (hB : B' ≤ B) : Bel B' w w' := ⟨h.to.mono hB, h.drawn⟩
theorem Bel.drew {B : Nat} {a w : World} (h : Bel B a w) : Bel B a w.drew := ⟨h.to.drew, h.drawn.trans (.same rfl)⟩
theorem Bel.alloc {B : Nat} {a w : World} (h : Bel B a w) (hB : B ≤ w.heap.size) (o : Obj) : Bel B a (w.alloc o) := ⟨h.to.alloc hB o, h.drawn.trans fun k o' hk _ => (KeepsOthers.alloc w o).same k o' hk ‹_›⟩
structure Sim (Z : Fro) (φ : Pm) (B0 : Nat) (w0 : World) (H : Heap) (w : World) : Prop where
  b0 : B0 ≤ w.heap.size
  below : Bel B0 w0 w
  bnd : ∃ n, ∀ r, n ≤ r → φ r = none
  live : ∀ r blk, H r = some blk → ∃ pl, φ r = some pl ∧ LiveAt Z φ B0 w pl blk
  disj : ∀ r r' pl pl', H r ≠ none → H r' ≠ none → r ≠ r' → φ r = some pl → φ r' = some pl' → pl.sep pl'
  froz : ∀ b i v, Z b i = some v → w.cell? ⟨b, i, none⟩ = some v
  zsep : ∀ b i v, Z b i = some v → ∀ r pl, H r ≠ none → φ r = some pl → pl.b = b → i < pl.o ∨ pl.o + pl.C ≤ i
theorem LiveAt.mono {Z Z' : Fro} {φ φ' : Pm} {B0 : Nat} {w : World} {pl : Place} {blk : List AV} (hZ : Fro.le Z Z') (hφ : Pm.le φ φ') (h : LiveAt Z φ B0 w pl blk) : LiveAt Z' φ' B0 w pl blk := by
  rcases h with h | ⟨cur, e, h1, h2, h3, h4, h5⟩
  · exact .inl h
  · exact .inr ⟨cur, e, h1, h2, h3, h4, fun i av hi => let ⟨x, hx, hc⟩ := h5 i av hi; ⟨x, hx, hc.mono hZ hφ⟩⟩
theorem LiveAt.world {Z : Fro} {φ : Pm} {B0 : Nat} {w w' : World} {pl : Place} {blk : List AV} (h : LiveAt Z φ B0 w pl blk)
    (hw : ∀ o, w.heap[pl.b]? = some o → w'.heap[pl.b]? = some o) : LiveAt Z φ B0 w' pl blk := by
  rcases h with h | ⟨cur, e, h1, h2, h3, h4, h5⟩
  · exact .inl h
  · exact .inr ⟨cur, e, hw _ h1, h2, h3, h4, h5⟩
theorem Sim.forget {Z : Fro} {φ : Pm} {B0 : Nat} {w0 w : World} {H H' : Heap} (s : Sim Z φ B0 w0 H' w) (hl : Heap.le H H') : Sim Z φ B0 w0 H w := by
  have hn : ∀ r, H r ≠ none → H' r ≠ none := by
    intro r e
    cases hH : H r with
    | none => exact absurd hH e
    | some b => rw [hl r b hH]; simp
  exact ⟨s.b0, s.below, s.bnd, fun r blk e => s.live r blk (hl r blk e), fun r r' pl pl' e e' => s.disj r r' pl pl' (hn r e) (hn r' e'), s.froz,
    fun b i v hz r pl e => s.zsep b i v hz r pl (hn r e)⟩
theorem Sim.drew {Z : Fro} {φ : Pm} {B0 : Nat} {w0 w : World} {H : Heap} (s : Sim Z φ B0 w0 H w) : Sim Z φ B0 w0 H w.drew :=
  ⟨s.b0, s.below.drew, s.bnd, fun r blk e => let ⟨pl, hp, hl⟩ := s.live r blk e; ⟨pl, hp, hl.world fun _ h => h⟩, s.disj,
    fun b i v hz => by rw [World.cell?_drew]; exact s.froz b i v hz, s.zsep⟩
theorem Sim.alloc {Z : Fro} {φ : Pm} {B0 : Nat} {w0 w : World} {H : Heap} (s : Sim Z φ B0 w0 H w) (cur : Array Value) (e : TypeId) (C : Nat) (hC : C ≤ cur.size)
    (blk : List AV) (hb : blk.length ≤ C) (hv : ∀ (i : Nat) (av : AV), blk[i]? = some av → ∃ x, cur[i]? = some x ∧ Cv Z φ av x) :
    ∃ r φ', H r = none ∧ φ r = none ∧ Pm.le φ φ' ∧ φ' r = some ⟨w.heap.size, 0, C⟩ ∧ Sim Z φ' B0 w0 (H.set r blk) (w.alloc (.cells cur e)) := by
  obtain ⟨n, hn⟩ := s.bnd
  have hHn : H n = none := by
    cases hH : H n with
    | none => rfl
    | some b => obtain ⟨pl, hp, _⟩ := s.live n b hH; rw [hn n (Nat.le_refl _)] at hp; cases hp
  let φ' : Pm := fun r => if r = n then some ⟨w.heap.size, 0, C⟩ else φ r
  have hle : Pm.le φ φ' := by
    intro r pl h
    have : r ≠ n := fun e => by subst e; rw [hn r (Nat.le_refl _)] at h; cases h
    simp only [φ', this, if_false]; exact h
  have hnew : φ' n = some ⟨w.heap.size, 0, C⟩ := by simp [φ']
  have hold : ∀ k, k < w.heap.size → (w.alloc (.cells cur e)).heap[k]? = w.heap[k]? := fun k hk => by first | exact heap_alloc_old w _ k hk | exact heap_alloc_old w _ hk | exact Below.heap_alloc w _ k hk
  refine ⟨n, φ', hHn, hn n (Nat.le_refl _), hle, hnew, ?_⟩
  have hlt : ∀ r pl, H r ≠ none → φ r = some pl → pl.C = 0 ∨ pl.b < w.heap.size := by
    intro r pl hr hp
    cases hH : H r with
    | none => exact absurd hH hr
    | some b =>
      obtain ⟨pl', hp', hl⟩ := s.live r b hH
      rw [hp] at hp'; cases hp'
      rcases hl with ⟨h, _⟩ | ⟨cur', e', h1, _⟩
      · exact .inl h
      · exact .inr (Array.getElem?_eq_some_iff.1 h1).1
  refine ⟨by rw [World.size_alloc]; have := s.b0; omega, s.below.alloc s.b0 _, ⟨n + 1, ?_⟩, ?_, ?_, ?_, ?_⟩
  · intro r hr
    have : r ≠ n := by omega
    simp only [φ', this, if_false]; exact hn r (by omega)
  · intro r b hr
    by_cases h : r = n
    · subst h
      rw [Heap.set_same] at hr; cases hr
      refine ⟨_, hnew, .inr ⟨cur, e, heap_alloc_new w _, by simpa using hC, hb, s.b0, ?_⟩⟩
      intro i av hi
      obtain ⟨x, hx, hc⟩ := hv i av hi
      exact ⟨x, by simpa using hx, hc.mono (Fro.le_refl _) hle⟩
    · rw [Heap.set_other h] at hr
      obtain ⟨pl, hp, hl⟩ := s.live r b hr
      exact ⟨pl, hle _ _ hp, (hl.mono (Fro.le_refl _) hle).world fun o ho => by rw [hold _ (Array.getElem?_eq_some_iff.1 ho).1]; exact ho⟩
  · intro r r' pl pl' hr hr' hne hp hp'
    by_cases h : r = n
    · subst h
      rw [hnew] at hp; cases hp
      have h' : r' ≠ r := fun e => hne e.symm
      rw [Heap.set_other h'] at hr'
      have hp0 : φ r' = some pl' := by simpa [φ', h'] using hp'
      rcases hlt r' pl' hr' hp0 with h0 | h0 <;> (unfold Place.sep; simp only; omega)
    · by_cases h' : r' = n
      · subst h'
        rw [hnew] at hp'; cases hp'
        rw [Heap.set_other h] at hr
        have hp0 : φ r = some pl := by simpa [φ', h] using hp
        rcases hlt r pl hr hp0 with h0 | h0 <;> (unfold Place.sep; simp only; omega)
      · rw [Heap.set_other h] at hr
        rw [Heap.set_other h'] at hr'
        exact s.disj r r' pl pl' hr hr' hne (by simpa [φ', h] using hp) (by simpa [φ', h'] using hp')
  · intro b i v hz
    have := s.froz b i v hz
    rw [World.cell?_alloc_lt _ _ _ (World.block_lt_of_cell? w ⟨b, i, none⟩ this)]; exact this
  · intro b i v hz r pl hr hp hb'
    by_cases h : r = n
    · subst h
      rw [hnew] at hp; cases hp
      have := World.block_lt_of_cell? w ⟨b, i, none⟩ (s.froz b i v hz)
      simp only at hb' this; omega
    · rw [Heap.set_other h] at hr
      exact s.zsep b i v hz r pl hr (by simpa [φ', h] using hp) hb'
theorem Sim.setRow {Z : Fro} {φ : Pm} {B0 : Nat} {w0 w : World} {H : Heap} (s : Sim Z φ B0 w0 H w) {r : Nat} {blk : List AV} (hr : H r = some blk) {pl : Place} (hp : φ r = some pl)
    {cur : Array Value} {e : TypeId} (hcur : w.heap[pl.b]? = some (.cells cur e (0, 0))) (hC0 : pl.C ≠ 0) (cur' : Array Value) (hs : cur'.size = cur.size)
    (hout : ∀ i, i < pl.o ∨ pl.o + pl.C ≤ i → cur'[i]? = cur[i]?) (blk' : List AV) (hb : blk'.length ≤ pl.C)
    (hv : ∀ (i : Nat) (av : AV), blk'[i]? = some av → ∃ x, cur'[pl.o + i]? = some x ∧ Cv Z φ av x) :
    Sim Z φ B0 w0 (H.set r blk') (w.setRow pl.b cur') := by
  have hrow : (w.setRow pl.b cur').heap[pl.b]? = some (.cells cur' e (0, 0)) := setRow_heap w pl.b cur cur' e _ hcur
  have hoth : ∀ k, k ≠ pl.b → (w.setRow pl.b cur').heap[k]? = w.heap[k]? := fun k hk => setRow_other w pl.b k cur' hk
  obtain ⟨pl0, hp0, hl0⟩ := s.live r blk hr
  rw [hp] at hp0; cases hp0
  have hB : B0 ≤ pl.b := by
    rcases hl0 with ⟨h, _⟩ | ⟨_, _, _, _, _, h, _⟩
    · exact absurd h hC0
    · exact h
  have hroom : pl.o + pl.C ≤ cur.size := by
    rcases hl0 with ⟨h, _⟩ | ⟨c2, e2, h1, h2, _⟩
    · exact absurd h hC0
    · rw [hcur] at h1; cases h1; exact h2
  refine ⟨by rw [size_setRow]; exact s.b0, ?_, s.bnd, ?_, ?_, ?_, ?_⟩
  · exact s.below.trans ⟨⟨rfl, rfl, rfl, by rw [size_setRow]; exact Nat.le_refl _, fun k hk => hoth k (by omega)⟩, fun k o hk ho => by
      by_cases e : k = pl.b
      · subst e; rw [hcur] at hk; cases hk; cases ho
      · rw [hoth k e]; exact hk⟩
  · intro r' b hr'
    by_cases h : r' = r
    · subst h
      rw [Heap.set_same] at hr'; cases hr'
      exact ⟨pl, hp, .inr ⟨cur', e, hrow, by omega, hb, hB, hv⟩⟩
    · rw [Heap.set_other h] at hr'
      obtain ⟨pl', hp', hl'⟩ := s.live r' b hr'
      refine ⟨pl', hp', ?_⟩
      rcases hl' with hl' | ⟨c2, e2, h1, h2, h3, h4, h5⟩
      · exact .inl hl'
      · by_cases hbb : pl'.b = pl.b
        · rw [hbb, hcur] at h1; cases h1
          refine .inr ⟨cur', e, by rw [hbb]; exact hrow, by omega, h3, h4, ?_⟩
          intro i av hi
          obtain ⟨x, hx, hc⟩ := h5 i av hi
          refine ⟨x, ?_, hc⟩
          have hlt : i < b.length := (List.getElem?_eq_some_iff.1 hi).1
          rw [hout]; exact hx
          have hsep := s.disj r' r pl' pl (by simp [hr']) (by simp [hr]) h hp' hp
          rcases hsep with h' | h' | h' | h' | h' <;> omega
        · exact .inr ⟨c2, e2, by rw [hoth _ hbb]; exact h1, h2, h3, h4, h5⟩
  · intro r1 r2 p1 p2 h1 h2
    have hn : ∀ x, (H.set r blk') x ≠ none → H x ≠ none := by
      intro x hx
      by_cases h : x = r
      · subst h; simp [hr]
      · rwa [Heap.set_other h] at hx
    exact s.disj r1 r2 p1 p2 (hn _ h1) (hn _ h2)
  · intro b i v hz
    have hf := s.froz b i v hz
    by_cases hbb : b = pl.b
    · subst hbb
      have hzs := s.zsep _ i v hz r pl (by simp [hr]) hp rfl
      rw [cell_of_row _ pl.b i cur' e _ hrow, hout i hzs, ← cell_of_row w pl.b i cur e _ hcur]; exact hf
    · rw [World.cell?_of_block (w := w) (a := ⟨b, i, none⟩) (hoth b hbb)]; exact hf
  · intro b i v hz r' pl' hr' hp' hb'
    have hn : H r' ≠ none := by
      by_cases h : r' = r
      · subst h; simp [hr]
      · rwa [Heap.set_other h] at hr'
    exact s.zsep b i v hz r' pl' hn hp' hb'
theorem Sim.sub {Z : Fro} {φ : Pm} {B0 : Nat} {w0 w : World} {H : Heap} (s : Sim Z φ B0 w0 H w) {r : Nat} {blk : List AV} (hr : H r = some blk) {pl : Place} (hp : φ r = some pl) (off m : Nat) :
    ∃ r' φ', H r' = none ∧ φ r' = none ∧ Pm.le φ φ' ∧ φ' r' = some ⟨pl.b, pl.o + off, pl.C - off⟩ ∧ Sim Z φ' B0 w0 ((H.del r).set r' ((blk.drop off).take m)) w := by
  obtain ⟨n, hn⟩ := s.bnd
  have hHn : H n = none := by
    cases hH : H n with
    | none => rfl
    | some b => obtain ⟨pl, hp, _⟩ := s.live n b hH; rw [hn n (Nat.le_refl _)] at hp; cases hp
  have hnr : n ≠ r := fun e => by subst e; rw [hHn] at hr; cases hr
  let φ' : Pm := fun x => if x = n then some ⟨pl.b, pl.o + off, pl.C - off⟩ else φ x
  have hle : Pm.le φ φ' := by
    intro x q h
    have : x ≠ n := fun e => by subst e; rw [hn x (Nat.le_refl _)] at h; cases h
    simp only [φ', this, if_false]; exact h
  have hnew : φ' n = some ⟨pl.b, pl.o + off, pl.C - off⟩ := by simp [φ']
  have key : ∀ x b, ((H.del r).set n ((blk.drop off).take m)) x = some b → (x = n ∧ b = (blk.drop off).take m) ∨ (x ≠ n ∧ x ≠ r ∧ H x = some b) := by
    intro x b hx
    by_cases h : x = n
    · subst h; rw [Heap.set_same] at hx; cases hx; exact .inl ⟨rfl, rfl⟩
    · rw [Heap.set_other h] at hx
      by_cases h' : x = r
      · subst h'; rw [Heap.del_same] at hx; cases hx
      · rw [Heap.del_other h'] at hx; exact .inr ⟨h, h', hx⟩
  have keyn : ∀ x, ((H.del r).set n ((blk.drop off).take m)) x ≠ none → x = n ∨ (x ≠ n ∧ x ≠ r ∧ H x ≠ none) := by
    intro x hx
    cases hh : ((H.del r).set n ((blk.drop off).take m)) x with
    | none => exact absurd hh hx
    | some b =>
      rcases key x b hh with ⟨h, _⟩ | ⟨h1, h2, h3⟩
      · exact .inl h
      · exact .inr ⟨h1, h2, by simp [h3]⟩
  have hold : ∀ x q, x ≠ n → φ' x = some q → φ x = some q := by
    intro x q hx h; simpa [φ', hx] using h
  refine ⟨n, φ', hHn, hn n (Nat.le_refl _), hle, hnew, s.b0, s.below, ⟨n + 1, ?_⟩, ?_, ?_, s.froz, ?_⟩
  · intro x hx
    have : x ≠ n := by omega
    simp only [φ', this, if_false]; exact hn x (by omega)
  · intro x b hx
    rcases key x b hx with ⟨rfl, rfl⟩ | ⟨h1, h2, h3⟩
    · obtain ⟨pl0, hp0, hl⟩ := s.live r blk hr
      rw [hp] at hp0; cases hp0
      refine ⟨_, hnew, ?_⟩
      rcases hl with ⟨h, h'⟩ | ⟨cur, e, h1, h2, h3, h4, h5⟩
      · exact .inl ⟨by simp [h], by simp [h']⟩
      · by_cases hoff : off ≤ pl.C
        · refine .inr ⟨cur, e, h1, by simp only; omega, by simp only [List.length_take, List.length_drop]; omega, h4, ?_⟩
          intro i av hi
          rw [List.getElem?_take] at hi
          split at hi
          case isFalse => cases hi
          rw [List.getElem?_drop] at hi
          obtain ⟨x, hx, hc⟩ := h5 _ av hi
          exact ⟨x, by rw [← hx]; congr 1; simp only; omega, hc.mono (Fro.le_refl _) hle⟩
        · exact .inl ⟨by simp only; omega, by rw [List.drop_eq_nil_of_le (by omega)]; exact List.take_nil⟩
    · obtain ⟨q, hq, hl⟩ := s.live x b h3
      exact ⟨q, hle _ _ hq, hl.mono (Fro.le_refl _) hle⟩
  · intro x y p q hx hy hne hpx hqy
    rcases keyn x hx with rfl | ⟨h1, h2, h3⟩
    · rcases keyn y hy with rfl | ⟨k1, k2, k3⟩
      · exact absurd rfl hne
      · rw [hnew] at hpx; cases hpx
        have := s.disj r y pl q (by simp [hr]) k3 (fun e => k2 e.symm) hp (hold y q k1 hqy)
        unfold Place.sep at *; simp only; omega
    · rcases keyn y hy with rfl | ⟨k1, k2, k3⟩
      · rw [hnew] at hqy; cases hqy
        have := s.disj x r p pl h3 (by simp [hr]) h2 (hold x p h1 hpx) hp
        unfold Place.sep at *; simp only; omega
      · exact s.disj x y p q h3 k3 hne (hold x p h1 hpx) (hold y q k1 hqy)
  · intro b i v hz x q hx hq hb
    rcases keyn x hx with rfl | ⟨h1, h2, h3⟩
    · rw [hnew] at hq; cases hq
      have := s.zsep b i v hz r pl (by simp [hr]) hp hb
      simp only; omega
    · exact s.zsep b i v hz x q h3 (hold x q h1 hq) hb
theorem Sim.ghost {Z : Fro} {φ : Pm} {B0 : Nat} {w0 w : World} {H : Heap} (s : Sim Z φ B0 w0 H w) :
    ∃ r' φ', H r' = none ∧ φ r' = none ∧ Pm.le φ φ' ∧ φ' r' = some ⟨0, 0, 0⟩ ∧ Sim Z φ' B0 w0 (H.set r' []) w := by
  obtain ⟨n, hn⟩ := s.bnd
  have hHn : H n = none := by
    cases hH : H n with
    | none => rfl
    | some b => obtain ⟨pl, hp, _⟩ := s.live n b hH; rw [hn n (Nat.le_refl _)] at hp; cases hp
  let φ' : Pm := fun x => if x = n then some ⟨0, 0, 0⟩ else φ x
  have hle : Pm.le φ φ' := by
    intro x q h
    have : x ≠ n := fun e => by subst e; rw [hn x (Nat.le_refl _)] at h; cases h
    simp only [φ', this, if_false]; exact h
  have hnew : φ' n = some ⟨0, 0, 0⟩ := by simp [φ']
  have hold : ∀ x q, x ≠ n → φ' x = some q → φ x = some q := by
    intro x q hx h; simpa [φ', hx] using h
  refine ⟨n, φ', hHn, hn n (Nat.le_refl _), hle, hnew, s.b0, s.below, ⟨n + 1, ?_⟩, ?_, ?_, s.froz, ?_⟩
  · intro x hx
    have : x ≠ n := by omega
    simp only [φ', this, if_false]; exact hn x (by omega)
  · intro x b hx
    by_cases h : x = n
    · subst h; rw [Heap.set_same] at hx; cases hx; exact ⟨_, hnew, .inl ⟨rfl, rfl⟩⟩
    · rw [Heap.set_other h] at hx
      obtain ⟨q, hq, hl⟩ := s.live x b hx
      exact ⟨q, hle _ _ hq, hl.mono (Fro.le_refl _) hle⟩
  · intro x y p q hx hy hne hpx hqy
    by_cases h : x = n
    · subst h; rw [hnew] at hpx; cases hpx; exact .inl rfl
    · by_cases h' : y = n
      · subst h'; rw [hnew] at hqy; cases hqy; exact .inr (.inl rfl)
      · rw [Heap.set_other h] at hx; rw [Heap.set_other h'] at hy
        exact s.disj x y p q hx hy hne (hold x p h hpx) (hold y q h' hqy)
  · intro b i v hz x q hx hq hb
    by_cases h : x = n
    · subst h; rw [hnew] at hq; cases hq; simp only; omega
    · rw [Heap.set_other h] at hx
      exact s.zsep b i v hz x q hx (hold x q h hq) hb
theorem Sim.freeze {Z : Fro} {φ : Pm} {B0 : Nat} {w0 w : World} {H : Heap} (s : Sim Z φ B0 w0 H w) {r : Nat} {cells : List PV} (hr : H r = some (cells.map .p)) {pl : Place} (hp : φ r = some pl) :
    ∃ (Z' : Fro) (vals : Nat → Value), Fro.le Z Z' ∧ (∀ i, i < cells.length → Z' pl.b (pl.o + i) = some (vals i)) ∧ (∀ (i : Nat) (p : PV), cells[i]? = some p → Cz Z' p (vals i)) ∧ Sim Z' φ B0 w0 (H.del r) w := by
  obtain ⟨pl0, hp0, hl⟩ := s.live r _ hr
  rw [hp] at hp0; cases hp0
  have hforget : Heap.le (H.del r) H := by
    intro x b hx
    by_cases h : x = r
    · subst h; rw [Heap.del_same] at hx; cases hx
    · rwa [Heap.del_other h] at hx
  rcases hl with ⟨_, h⟩ | ⟨cur, e, h1, h2, h3, h4, h5⟩
  · have hnil : cells = [] := by simpa using h
    subst hnil
    exact ⟨Z, fun _ => undef, Fro.le_refl _, fun i hi => by simp at hi, fun i p hi => by simp at hi, s.forget hforget⟩
  · have hlen : cells.length ≤ pl.C := by simpa using h3
    let Z' : Fro := fun b i => if b = pl.b ∧ pl.o ≤ i ∧ i < pl.o + cells.length then cur[i]? else Z b i
    have hle : Fro.le Z Z' := by
      intro b i v hz
      by_cases h : b = pl.b ∧ pl.o ≤ i ∧ i < pl.o + cells.length
      · have := s.zsep b i v hz r pl (by simp [hr]) hp h.1.symm
        omega
      · simp only [Z', h, if_false]; exact hz
    refine ⟨Z', fun i => (cur[pl.o + i]?).getD undef, hle, ?_, ?_, ?_⟩
    · intro i hi
      have : pl.b = pl.b ∧ pl.o ≤ pl.o + i ∧ pl.o + i < pl.o + cells.length := ⟨rfl, by omega, by omega⟩
      simp only [Z', this, and_self, if_true]
      rw [Array.getElem?_eq_getElem (by omega)]; rfl
    · intro i p hi
      obtain ⟨x, hx, hc⟩ := h5 i (.p p) (by rw [List.getElem?_map, hi]; rfl)
      show Cz Z' p ((cur[pl.o + i]?).getD undef)
      rw [hx]
      cases hc with
      | p hz => exact hz.mono hle
    · have s' := s.forget hforget
      refine ⟨s'.b0, s'.below, s'.bnd, ?_, s'.disj, ?_, ?_⟩
      · intro x b hx
        obtain ⟨q, hq, hl⟩ := s'.live x b hx
        exact ⟨q, hq, hl.mono hle (Pm.le_refl _)⟩
      · intro b i v hz
        by_cases h : b = pl.b ∧ pl.o ≤ i ∧ i < pl.o + cells.length
        · simp only [Z', h, and_self, if_true] at hz
          rw [h.1, cell_of_row w pl.b i cur e _ h1]; exact hz
        · simp only [Z', h, if_false] at hz; exact s'.froz b i v hz
      · intro b i v hz x q hx hq hb
        by_cases h : b = pl.b ∧ pl.o ≤ i ∧ i < pl.o + cells.length
        · have hxr : x ≠ r := fun e => by subst e; rw [Heap.del_same] at hx; exact hx rfl
          rw [Heap.del_other hxr] at hx
          have := s.disj x r q pl hx (by simp [hr]) hxr hq hp
          rcases this with h' | h' | h' | h' | h' <;> omega
        · simp only [Z', h, if_false] at hz; exact s'.zsep b i v hz x q hx hq hb
end Go.Sep
namespace Go.Sep
open Go Go.RowKit
def EnvRel (Z : Fro) (φ : Pm) (env : List AV) (tmps : Array Value) : Prop :=
  tmps.size = env.length ∧ ∀ (i : Nat) (av : AV) (x : Value), env[i]? = some av → tmps[i]? = some x → Cv Z φ av x
theorem EnvRel.mono {Z Z' : Fro} {φ φ' : Pm} {env : List AV} {tmps : Array Value} (hZ : Fro.le Z Z') (hφ : Pm.le φ φ') (h : EnvRel Z φ env tmps) : EnvRel Z' φ' env tmps :=
  ⟨h.1, fun i av x hi hx => (h.2 i av x hi hx).mono hZ hφ⟩
theorem EnvRel.set {Z : Fro} {φ : Pm} {env : List AV} {tmps : Array Value} (h : EnvRel Z φ env tmps) (d : Nat) {av : AV} {x : Value} (hc : Cv Z φ av x) :
    EnvRel Z φ (env.set d av) (tmps.setIfInBounds d x) := by
  refine ⟨by simpa using h.1, ?_⟩
  intro i bv y hi hy
  by_cases e : d = i
  · subst e
    have hd : d < env.length := by
      have := (List.getElem?_eq_some_iff.1 hi).1; simpa using this
    rw [List.getElem?_set_self hd] at hi
    cases hi
    rw [Array.getElem?_setIfInBounds_self] at hy
    split at hy
    · cases hy; exact hc
    · cases hy
  · rw [List.getElem?_set_ne e] at hi
    rw [Array.getElem?_setIfInBounds_ne (Ne.symm (Ne.symm e))] at hy
    exact h.2 i bv y hi hy
def constA : Value → AV
  | .int k n => .p (.int k n)
  | .bool b => .p (.bool b)
  | .string s => .p (.str s)
  | .slice none 0 0 => .p .nil
  | .pointer none => .nilp
  | .nilFunc => .nilfn
  | _ => .any
theorem constA_ok (Z : Fro) (φ : Pm) (v : Value) : Cv Z φ (constA v) v := by
  unfold constA
  split
  · exact .p (.int _ _)
  · exact .p (.bool _)
  · exact .p (.str _)
  · exact .p .nil
  · exact .nilp
  · exact .nilfn
  · exact .any _
def ev (env : List AV) : Operand → AV
  | .tmp t => env.getD t .any
  | .const v => constA v
  | .global _ => .any
  | .func f => .fn f []
theorem ev_ok {Z : Fro} {φ : Pm} {env : List AV} {a : Act} (h : EnvRel Z φ env a.tmps) (o : Operand) : Cv Z φ (ev env o) (a.eval o) := by
  cases o with
  | tmp t =>
    simp only [ev, Act.eval]
    by_cases hl : t < env.length
    · have h1 : env[t]? = some env[t] := List.getElem?_eq_getElem hl
      have hl2 : t < a.tmps.size := Nat.lt_of_lt_of_eq hl h.1.symm
      have h2 : a.tmps[t]? = some a.tmps[t] := Array.getElem?_eq_getElem hl2
      have := h.2 t _ _ h1 h2
      simpa [List.getD, h1, h2, Array.getD_eq_getD_getElem?] using this
    · have h1 : env[t]? = none := List.getElem?_eq_none (Nat.le_of_not_lt hl)
      simp only [List.getD, h1, Option.getD_none]
      exact .any _
  | const v => exact constA_ok _ _ v
  | global g => exact .any _
  | func f => exact .fn f [] #[] rfl (fun i av x hi => by simp at hi)
def mark (D : Nat) : Deferred := { target := .collected D, args := #[] }
def DefOk (ds : List Deferred) (w0 w : World) : Prop := ∃ Ds : List Nat, ds = Ds.map mark ∧ Ds.Nodup ∧ ∀ D ∈ Ds, w0.heap.size ≤ D ∧ w.heap[D]? = some (.deferred (some []))
theorem DefOk.nil (w0 w : World) : DefOk [] w0 w := ⟨[], rfl, List.nodup_nil, fun _ h => by cases h⟩
theorem DefOk.keep {ds : List Deferred} {w0 w w' : World} (h : DefOk ds w0 w) (k : DrawnLe w w') : DefOk ds w0 w' :=
  let ⟨Ds, e, hn, ho⟩ := h
  ⟨Ds, e, hn, fun D hD => ⟨(ho D hD).1, k D _ (ho D hD).2 rfl⟩⟩
structure Rel (B0 : Nat) (w0 : World) (F : Heap) (Z : Fro) (φ : Pm) (H : Heap) (env : List AV) (a : Act) (w : World) : Prop where
  disj : Disj H F
  sim : Sim Z φ B0 w0 (H.or F) w
  env : EnvRel Z φ env a.tmps
  defers : DefOk a.defers w0 w
def Up (B0 : Nat) (w0 : World) (F : Heap) (Z : Fro) (φ : Pm) (T : List AV → Heap → Prop) (a : Act) (w : World) : Prop :=
  ∃ env H Z' φ', T env H ∧ Fro.le Z Z' ∧ Pm.le φ φ' ∧ Rel B0 w0 F Z' φ' H env a w
theorem Up.mono {B0 : Nat} {w0 : World} {F : Heap} {Z : Fro} {φ : Pm} {T T' : List AV → Heap → Prop} {a : Act} {w : World} (h : Up B0 w0 F Z φ T a w) (k : ∀ env H, T env H → T' env H) : Up B0 w0 F Z φ T' a w :=
  let ⟨env, H, Z', φ', t, hz, hp, r⟩ := h
  ⟨env, H, Z', φ', k _ _ t, hz, hp, r⟩
abbrev Post := Exit → List AV → Heap → Prop
def CT (P : Program) (c : Code) (Q : Post) (env : List AV) (H : Heap) : Prop :=
  ∀ B0 w0 F Z φ a w, Rel B0 w0 F Z φ H env a w → c.wp P (fun e a' w' => Up B0 w0 F Z φ (Q e) a' w') a w
def HasBody (P : Program) (f : Nat) : Prop := ∃ fn c, P.funcs[f]? = some fn ∧ fn.body = some c ∧ (fn.name == "runtime.NumGoroutine") = false
def ArgsRel (Z : Fro) (φ : Pm) (args : List AV) (xs : Array Value) : Prop :=
  xs.size = args.length ∧ ∀ (i : Nat) (av : AV) (x : Value), args[i]? = some av → xs[i]? = some x → Cv Z φ av x
def UpV (B0 : Nat) (w0 : World) (F : Heap) (Z : Fro) (φ : Pm) (K : AV → Heap → Prop) (x : Value) (w : World) : Prop :=
  ∃ v H Z' φ', K v H ∧ Fro.le Z Z' ∧ Pm.le φ φ' ∧ Disj H F ∧ Sim Z' φ' B0 w0 (H.or F) w ∧ Cv Z' φ' v x
theorem UpV.mono {B0 : Nat} {w0 : World} {F : Heap} {Z : Fro} {φ : Pm} {K K' : AV → Heap → Prop} {x : Value} {w : World} (h : UpV B0 w0 F Z φ K x w) (k : ∀ v H, K v H → K' v H) : UpV B0 w0 F Z φ K' x w :=
  let ⟨v, H, Z', φ', t, r⟩ := h
  ⟨v, H, Z', φ', k _ _ t, r⟩
def CallT (P : Program) (f : Nat) (args : List AV) (H : Heap) (Q : AV → Heap → Prop) : Prop :=
  HasBody P f ∧ ∀ B0 w0 F Z φ w xs, Disj H F → Sim Z φ B0 w0 (H.or F) w → ArgsRel Z φ args xs →
    Calls P f xs w (fun e w' => ∃ x, e = .returned x ∧ UpV B0 w0 F Z φ Q x w')
theorem CallT.mono {P : Program} {f : Nat} {args : List AV} {H : Heap} {Q Q' : AV → Heap → Prop} (h : CallT P f args H Q) (k : ∀ v H', Q v H' → Q' v H') : CallT P f args H Q' :=
  ⟨h.1, fun B0 w0 F Z φ w xs hd hs ha => (h.2 B0 w0 F Z φ w xs hd hs ha).mono fun _ _ ⟨x, e, u⟩ => ⟨x, e, u.mono k⟩⟩
theorem CT.mono {P : Program} {c : Code} {Q Q' : Post} {env : List AV} {H : Heap} (h : CT P c Q env H) (k : ∀ e env' H', Q e env' H' → Q' e env' H') : CT P c Q' env H :=
  fun B0 w0 F Z φ a w r => wp_mono (h B0 w0 F Z φ a w r) fun e _ _ u => u.mono (k e)
theorem CT.skip {P : Program} {Q : Post} {env : List AV} {H : Heap} (h : Q .normal env H) : CT P .skip Q env H :=
  fun _ _ _ Z φ _ _ r => wp_skip ⟨env, H, Z, φ, h, Fro.le_refl _, Pm.le_refl _, r⟩
theorem CT.exit {P : Program} {Q : Post} {env : List AV} {H : Heap} {i : Nat} (h : Q (.exit i) env H) : CT P (.exit i) Q env H :=
  fun _ _ _ Z φ _ _ r => wp_exit ⟨env, H, Z, φ, h, Fro.le_refl _, Pm.le_refl _, r⟩
theorem CT.ret {P : Program} {Q : Post} {env : List AV} {H : Heap} (h : Q .ret env H) : CT P .ret Q env H :=
  fun _ _ _ Z φ _ _ r => wp_ret ⟨env, H, Z, φ, h, Fro.le_refl _, Pm.le_refl _, r⟩
def Post.then (P : Program) (y : Code) (Q : Post) : Post
  | .normal, env, H => CT P y Q env H
  | e, env, H => Q e env H
theorem CT.seq {P : Program} {x y : Code} {Q : Post} {env : List AV} {H : Heap} (h : CT P x (Post.then P y Q) env H) : CT P (.seq x y) Q env H := by
  intro B0 w0 F Z φ a w r
  refine wp_seq (wp_mono (h B0 w0 F Z φ a w r) ?_)
  intro e a' w' u
  obtain ⟨env', H', Z', φ', t, hz, hp, r'⟩ := u
  cases e with
  | normal =>
    refine wp_mono (t B0 w0 F Z' φ' a' w' r') ?_
    rintro e2 a2 w2 ⟨env2, H2, Z2, φ2, t2, hz2, hp2, r2⟩
    exact ⟨env2, H2, Z2, φ2, t2, Fro.le_trans hz hz2, Pm.le_trans hp hp2, r2⟩
  | _ => exact ⟨env', H', Z', φ', t, hz, hp, r'⟩
theorem CT.cond {P : Program} {c : Operand} {x y : Code} {Q : Post} {env : List AV} {H : Heap} {b : Bool} (hc : ev env c = .p (.bool b))
    (ht : b = true → CT P x Q env H) (hf : b = false → CT P y Q env H) : CT P (.cond c x y) Q env H := by
  intro B0 w0 F Z φ a w r
  have hv := ev_ok r.env c
  rw [hc] at hv
  have : a.eval c = .bool b := by
    generalize a.eval c = x at hv
    cases hv with
    | p h => cases h; rfl
  exact wp_cond_split this (fun e => ht e B0 w0 F Z φ a w r) (fun e => hf e B0 w0 F Z φ a w r)
theorem CT.condU {P : Program} {c : Operand} {x y : Code} {Q : Post} {env : List AV} {H : Heap} (hc : ev env c = .ub)
    (ht : CT P x Q env H) (hf : CT P y Q env H) : CT P (.cond c x y) Q env H := by
  intro B0 w0 F Z φ a w r
  have hv := ev_ok r.env c
  rw [hc] at hv
  obtain ⟨b, this⟩ : ∃ b, a.eval c = .bool b := by
    generalize a.eval c = x at hv
    cases hv with
    | ub b => exact ⟨b, rfl⟩
  exact wp_cond_split this (fun _ => ht B0 w0 F Z φ a w r) (fun _ => hf B0 w0 F Z φ a w r)
def Post.block (id : Nat) (Q : Post) : Post
  | .exit i, env, H => if i = id then Q .normal env H else Q (.exit i) env H
  | e, env, H => Q e env H
theorem CT.block {P : Program} {id : Nat} {c : Code} {Q : Post} {env : List AV} {H : Heap} (h : CT P c (Post.block id Q) env H) : CT P (.block id c) Q env H := by
  intro B0 w0 F Z φ a w r
  refine wp_block (wp_mono (h B0 w0 F Z φ a w r) ?_)
  intro e a' w' u
  cases e with
  | exit i =>
    simp only [Exit.inBlock]
    split
    · rename_i hi
      refine u.mono fun env' H' t => ?_
      simpa only [Post.block, if_pos hi] using t
    · rename_i hi
      refine u.mono fun env' H' t => ?_
      simpa only [Post.block, if_neg hi] using t
  | _ => exact u
theorem CT.loop {P : Program} {c : Code} {Q : Post} {env : List AV} {H : Heap} {σ : Type} (I : σ → List AV → Heap → Prop) (μ : σ → Nat) (s0 : σ) (h0 : I s0 env H)
    (round : ∀ s env H, I s env H → CT P c (fun e env' H' => match e with
      | .normal => ∃ s', I s' env' H' ∧ μ s' < μ s
      | e => Q e env' H') env H) : CT P (.loop c) Q env H := by
  intro B0 w0 F Z φ a w r
  intro b k cs
  have key : ∀ n s, μ s = n → ∀ env H Z φ a w, I s env H → Rel B0 w0 F Z φ H env a w →
      ∃ e a' w', Up B0 w0 F Z φ (Q e) a' w' ∧ Arrives P (lone (b.at a (.code c :: .inLoop c :: k)) cs w) b k cs e a' w' := by
    intro n
    induction n using Nat.strongRecOn with
    | _ n ih =>
      intro s hn env H Z φ a w hI r
      obtain ⟨e, a₁, w₁, u, harr⟩ := round s env H hI B0 w0 F Z φ a w r b (.inLoop c :: k) cs
      obtain ⟨env', H', Z', φ', t, hz, hp, r'⟩ := u
      cases e with
      | normal =>
        obtain ⟨s', hI', hlt⟩ := t
        obtain ⟨e₂, a₂, w₂, u₂, harr₂⟩ := ih (μ s') (hn ▸ hlt) s' rfl env' H' Z' φ' a₁ w₁ hI' r'
        obtain ⟨env2, H2, Z2, φ2, t2, hz2, hp2, r2⟩ := u₂
        exact ⟨e₂, a₂, w₂, ⟨env2, H2, Z2, φ2, t2, Fro.le_trans hz hz2, Pm.le_trans hp hp2, r2⟩, .of_steps (Steps.trans harr (.one step_inLoop)) harr₂⟩
      | exit id => exact ⟨_, a₁, w₁, ⟨env', H', Z', φ', t, hz, hp, r'⟩, .pass (x := .inLoop c) rfl (fun _ _ => .inl (by simp)) harr⟩
      | goto l => exact ⟨_, a₁, w₁, ⟨env', H', Z', φ', t, hz, hp, r'⟩, .pass (x := .inLoop c) rfl (fun _ _ => .inl (by simp)) harr⟩
      | ret => exact ⟨_, a₁, w₁, ⟨env', H', Z', φ', t, hz, hp, r'⟩, .pass (x := .inLoop c) rfl (fun _ _ => .inl (by simp)) harr⟩
      | panic ch => exact ⟨_, a₁, w₁, ⟨env', H', Z', φ', t, hz, hp, r'⟩, .pass (x := .inLoop c) rfl (fun _ _ => .inl (by simp)) harr⟩
      | outgrown => exact ⟨_, a₁, w₁, ⟨env', H', Z', φ', t, hz, hp, r'⟩, .pass (x := .inLoop c) rfl (fun _ _ => .inl (by simp)) harr⟩
  obtain ⟨e, a', w', hq, harr⟩ := key _ s0 rfl env H Z φ a w h0 r
  exact ⟨e, a', w', hq, .of_steps (.one step_loop) harr⟩
inductive AV.wk : AV → AV → Prop
  | any (v : AV) : AV.wk v .any
  | refl (v : AV) : AV.wk v v
  | nil : AV.wk (.p .nil) (.p (.sl []))
  | nilo (r sz off : Nat) : AV.wk (.p .nil) (.sl r sz off 0)
  | esl : AV.wk .esl (.p (.sl []))
  | eslo (r sz off : Nat) : AV.wk .esl (.sl r sz off 0)
  | agg (vs vs' : List AV) (hl : vs.length = vs'.length) (h : ∀ (i : Nat) (v v' : AV), vs[i]? = some v → vs'[i]? = some v' → AV.wk v v') : AV.wk (.agg vs) (.agg vs')
  | tup (vs vs' : List AV) (hl : vs.length = vs'.length) (h : ∀ (i : Nat) (v v' : AV), vs[i]? = some v → vs'[i]? = some v' → AV.wk v v') : AV.wk (.tup vs) (.tup vs')
theorem AV.wk_ok {Z : Fro} {φ : Pm} {v v' : AV} {x : Value} (h : AV.wk v v') (c : Cv Z φ v x) : Cv Z φ v' x := by
  induction h generalizing x with
  | any v => exact .any x
  | refl v => exact c
  | nil => cases c with | p h => cases h; exact .p (.emp none 0)
  | nilo r sz off => cases c with | p h => cases h; exact .slz r sz off none
  | esl => cases c with | esl a => exact .p (.emp a 0)
  | eslo r sz off => cases c with | esl a => exact .slz r sz off a
  | agg vs vs' hl h ih =>
    cases c with
    | agg _ xs hs hh =>
      refine .agg vs' xs (hs.trans hl) fun i av x hi hx => ?_
      have hlt : i < vs.length := by rw [hl]; exact (List.getElem?_eq_some_iff.1 hi).1
      exact ih i _ av (List.getElem?_eq_getElem hlt) hi (hh i _ x (List.getElem?_eq_getElem hlt) hx)
  | tup vs vs' hl h ih =>
    cases c with
    | tup _ xs hs hh =>
      refine .tup vs' xs (hs.trans hl) fun i av x hi hx => ?_
      have hlt : i < vs.length := by rw [hl]; exact (List.getElem?_eq_some_iff.1 hi).1
      exact ih i _ av (List.getElem?_eq_getElem hlt) hi (hh i _ x (List.getElem?_eq_getElem hlt) hx)
theorem CT.weak {P : Program} {c : Code} {Q : Post} {env env' : List AV} {H H' : Heap} (hl : env'.length = env.length)
    (he : ∀ (i : Nat) (v v' : AV), env[i]? = some v → env'[i]? = some v' → AV.wk v v') (hH : Heap.le H' H) (h : CT P c Q env' H') : CT P c Q env H := by
  intro B0 w0 F Z φ a w r
  refine h B0 w0 F Z φ a w ⟨r.disj.of_le hH, r.sim.forget (Heap.or_le hH r.disj), ⟨r.env.1.trans hl.symm, ?_⟩, r.defers⟩
  intro i v' x hi hx
  have hlt : i < env.length := by rw [← hl]; exact (List.getElem?_eq_some_iff.1 hi).1
  exact AV.wk_ok (he i _ v' (List.getElem?_eq_getElem hlt) hi) (r.env.2 i _ x (List.getElem?_eq_getElem hlt) hx)
end Go.Sep
namespace Go.Sep
open Go Go.RowKit
inductive TK where
  | int (k : IntKind)
  | bool
  | str
  | slice (e : Nat)
  | struct (fs : List (Nat × Nat))
  | ptr (e : Nat)
  | func
  | arr (n e : Nat)
structure TD where
  k : TK
  size : Nat
  bytes : Nat
  zero : List AV
abbrev Tab := Nat → Option TD
def TK.ok (P : Program) (t : Nat) : TK → Prop
  | .int k => P.underlying t = some (.int k)
  | .bool => P.underlying t = some .bool
  | .str => P.underlying t = some .string
  | .slice e => P.underlying t = some (.slice e)
  | .struct fs => ∃ fields : Array Field, P.underlying t = some (.struct fields) ∧ fields.toList.map (fun f => (f.offset, f.type)) = fs ∧
      P.stoodInHeld t = false ∧ P.eqGuardType P.depth t = false ∧ ∀ f ∈ fields.toList, f.name ≠ "_"
  | .ptr e => P.underlying t = some (.pointer e)
  | .func => ∃ a b c, P.underlying t = some (.func a b c)
  | .arr n e => P.underlying t = some (.array n e)
def TK.agg : TK → Bool
  | .struct _ => true
  | .arr _ _ => true
  | _ => false
structure TD.Ok (P : Program) (t : Nat) (d : TD) : Prop where
  k : d.k.ok P t
  info : ∃ i z, P.info? t = some i ∧ i.size = d.size ∧ i.bytes = d.bytes ∧ i.zero = some z ∧ z.cells.toList.map constA = d.zero
  zlen : d.zero.length = d.size
  pos : 0 < d.size
  one : d.k.agg = false → d.size = 1
def Tab.Ok (P : Program) (tab : Tab) : Prop := ∀ t d, tab t = some d → TD.Ok P t d
theorem TK.ok_agg {P : Program} {t : Nat} {k : TK} (h : k.ok P t) (w : World) : (isAgg t).run P w = .ok k.agg w := by
  cases k with
  | struct fs => obtain ⟨fields, h, _⟩ := h; simp [isAgg, run_underlying h, TK.agg]
  | func => obtain ⟨a, b, c, h⟩ := h; simp [isAgg, run_underlying h, TK.agg]
  | _ => simp only [TK.ok] at h; simp [isAgg, run_underlying h, TK.agg]
theorem TD.run_size {P : Program} {t : Nat} {d : TD} (h : TD.Ok P t d) (w : World) : (sizeOf t).run P w = .ok d.size w := by
  obtain ⟨i, z, hi, hs, _⟩ := h.info
  simp [sizeOf, typeInfo, hi, hs]
def RelL (Z : Fro) (φ : Pm) (vs : List AV) (xs : List Value) : Prop :=
  xs.length = vs.length ∧ ∀ (i : Nat) (av : AV) (x : Value), vs[i]? = some av → xs[i]? = some x → Cv Z φ av x
theorem RelL.nil (Z : Fro) (φ : Pm) : RelL Z φ [] [] := ⟨rfl, fun i av x h => by simp at h⟩
theorem RelL.append {Z : Fro} {φ : Pm} {vs vs' : List AV} {xs xs' : List Value} (h : RelL Z φ vs xs) (k : RelL Z φ vs' xs') : RelL Z φ (vs ++ vs') (xs ++ xs') := by
  refine ⟨by simp [h.1, k.1], ?_⟩
  intro i av x hi hx
  by_cases hl : i < vs.length
  · rw [List.getElem?_append_left hl] at hi
    rw [List.getElem?_append_left (by rw [h.1]; exact hl)] at hx
    exact h.2 i av x hi hx
  · rw [List.getElem?_append_right (by omega)] at hi
    rw [List.getElem?_append_right (by rw [h.1]; omega), h.1] at hx
    exact k.2 _ av x hi hx
theorem RelL.take {Z : Fro} {φ : Pm} {vs : List AV} {xs : List Value} (h : RelL Z φ vs xs) (n : Nat) : RelL Z φ (vs.take n) (xs.take n) := by
  refine ⟨by simp [h.1], ?_⟩
  intro i av x hi hx
  rw [List.getElem?_take] at hi hx
  split at hi
  · rename_i hlt
    rw [if_pos hlt] at hx; exact h.2 i av x hi hx
  · cases hi
theorem RelL.drop {Z : Fro} {φ : Pm} {vs : List AV} {xs : List Value} (h : RelL Z φ vs xs) (n : Nat) : RelL Z φ (vs.drop n) (xs.drop n) := by
  refine ⟨by simp [h.1], ?_⟩
  intro i av x hi hx
  rw [List.getElem?_drop] at hi hx
  exact h.2 _ av x hi hx
theorem RelL.mono {Z Z' : Fro} {φ φ' : Pm} {vs : List AV} {xs : List Value} (hZ : Fro.le Z Z') (hφ : Pm.le φ φ') (h : RelL Z φ vs xs) : RelL Z' φ' vs xs :=
  ⟨h.1, fun i av x hi hx => (h.2 i av x hi hx).mono hZ hφ⟩
theorem RelL.constA (Z : Fro) (φ : Pm) (xs : List Value) : RelL Z φ (xs.map constA) xs := by
  refine ⟨by simp, ?_⟩
  intro i av x hi hx
  rw [List.getElem?_map, hx] at hi
  cases hi; exact constA_ok Z φ x
theorem RelL.gather {Z : Fro} {φ : Pm} (vs : List AV) (get : Nat → Option Value) (h : ∀ (i : Nat) (av : AV), vs[i]? = some av → ∃ x, get i = some x ∧ Cv Z φ av x) :
    ∃ xs, RelL Z φ vs xs ∧ ∀ (i : Nat) (x : Value), xs[i]? = some x → get i = some x := by
  induction vs generalizing get with
  | nil => exact ⟨[], RelL.nil Z φ, fun i x hx => by simp at hx⟩
  | cons v vs ih =>
    obtain ⟨x, hx, hc⟩ := h 0 v rfl
    obtain ⟨xs, hr, hg⟩ := ih (fun i => get (i + 1)) (fun i av hi => h (i + 1) av (by simpa using hi))
    refine ⟨x :: xs, ⟨by simp [hr.1], ?_⟩, ?_⟩
    · intro i av y hi hy
      cases i with
      | zero => simp at hi hy; subst hi; subst hy; exact hc
      | succ i => simp at hi hy; exact hr.2 i av y hi hy
    · intro i y hy
      cases i with
      | zero => simp at hy; subst hy; exact hx
      | succ i => simp at hy; exact hg i y hy
def AV.cells : AV → Option (List AV)
  | .agg vs => some vs
  | .any => none
  | .tup _ => none
  | v => some [v]
def AV.isCell : AV → Bool
  | .agg _ => false
  | .any => false
  | .tup _ => false
  | _ => true
theorem AV.cells_ok {Z : Fro} {φ : Pm} {v : AV} {x : Value} (c : Cv Z φ v x) {vs : List AV} (h : v.cells = some vs) : RelL Z φ vs x.cells.toList := by
  have one : ∀ {v : AV} {x : Value}, Cv Z φ v x → RelL Z φ [v] [x] := by
    intro v x c
    refine ⟨rfl, ?_⟩
    intro i av y hi hy
    cases i with
    | zero => simp at hi hy; subst hi; subst hy; exact c
    | succ i => simp at hi
  cases c with
  | agg ws xs hs hh =>
    simp only [AV.cells, Option.some.injEq] at h; subst h
    exact ⟨by simpa [Value.cells] using hs, fun i av y hi hy => hh i av y hi (by simpa [Value.cells] using hy)⟩
  | any => cases h
  | tup => cases h
  | p hz =>
    simp only [AV.cells, Option.some.injEq] at h; subst h
    have : x.cells = #[x] := by cases hz <;> rfl
    rw [this]; exact one (.p hz)
  | ptr off hp => simp only [AV.cells, Option.some.injEq] at h; subst h; exact one (.ptr off hp)
  | fp cells b o vals hz hv => simp only [AV.cells, Option.some.injEq] at h; subst h; exact one (.fp cells b o vals hz hv)
  | nilp => simp only [AV.cells, Option.some.injEq] at h; subst h; exact one .nilp
  | slz r sz off a => simp only [AV.cells, Option.some.injEq] at h; subst h; exact one (.slz r sz off a)
  | sl hp hl hC => simp only [AV.cells, Option.some.injEq] at h; subst h; exact one (.sl hp hl hC)
  | fn f caps xs hs hh => simp only [AV.cells, Option.some.injEq] at h; subst h; exact one (.fn f caps xs hs hh)
  | nilfn => simp only [AV.cells, Option.some.injEq] at h; subst h; exact one .nilfn
  | esl a => simp only [AV.cells, Option.some.injEq] at h; subst h; exact one (.esl a)
  | ub b => simp only [AV.cells, Option.some.injEq] at h; subst h; exact one (.ub b)
theorem AV.isCell_ok {Z : Fro} {φ : Pm} {v : AV} {x : Value} (c : Cv Z φ v x) (h : v.isCell = true) : x.oneCell' = true := by
  cases c with
  | p hz => cases hz <;> rfl
  | any => cases h
  | agg => cases h
  | tup => cases h
  | _ => rfl
theorem RelL.oneCell {Z : Fro} {φ : Pm} {vs : List AV} {xs : List Value} (h : RelL Z φ vs xs) (hc : vs.all AV.isCell = true) : ∀ x ∈ xs, x.oneCell' = true := by
  intro x hx
  obtain ⟨i, hi, he⟩ := List.mem_iff_getElem.1 hx
  have hv : vs[i]? = some (vs[i]'(by rw [← h.1]; exact hi)) := List.getElem?_eq_getElem _
  exact AV.isCell_ok (h.2 i _ x hv (by rw [List.getElem?_eq_getElem hi, he])) (List.all_eq_true.1 hc _ (List.getElem_mem _))
theorem addr_add (b o n : Nat) : (⟨b, o, none⟩ : Addr).add n = ⟨b, o + n, none⟩ := by unfold Addr.add; split <;> simp_all
def ptrReads (H : Heap) (a : AV) (n : Nat) (K : List AV → Prop) : Prop :=
  match a with
  | .ptr r off => match H r with
    | some cs => off + n ≤ cs.length ∧ K ((cs.drop off).take n)
    | none => False
  | .fp cs => n ≤ cs.length ∧ K ((cs.take n).map .p)
  | _ => False
theorem ptrReads_ok {Z : Fro} {φ : Pm} {B0 : Nat} {w0 w : World} {H F : Heap} (s : Sim Z φ B0 w0 (H.or F) w) {a : AV} {x : Value} (c : Cv Z φ a x) {n : Nat} {K : List AV → Prop} (h : ptrReads H a n K) :
    ∃ b o vs xs, x = .pointer (some ⟨b, o, none⟩) ∧ K vs ∧ vs.length = n ∧ RelL Z φ vs xs ∧ ∀ (i : Nat) (y : Value), xs[i]? = some y → w.cell? ⟨b, o + i, none⟩ = some y := by
  cases c with
  | ptr off hp =>
    rename_i r pl
    simp only [ptrReads] at h
    cases hH : H r with
    | none => rw [hH] at h; exact h.elim
    | some cs =>
      rw [hH] at h
      obtain ⟨hl, hk⟩ := h
      obtain ⟨pl', hp', hla⟩ := s.live r cs (Heap.or_left hH)
      rw [hp] at hp'; cases hp'
      have hg : ∀ (i : Nat) (av : AV), ((cs.drop off).take n)[i]? = some av → ∃ y, w.cell? ⟨pl.b, pl.o + off + i, none⟩ = some y ∧ Cv Z φ av y := by
        intro i av hi
        rw [List.getElem?_take] at hi
        split at hi
        · rw [List.getElem?_drop] at hi
          rcases hla with ⟨_, rfl⟩ | ⟨cur, e, h1, h2, h3, h4, h5⟩
          · simp at hi
          · obtain ⟨y, hy, hc⟩ := h5 _ av hi
            refine ⟨y, ?_, hc⟩
            rw [cell_of_row w pl.b _ cur e _ h1, ← hy]; congr 1; omega
        · cases hi
      obtain ⟨xs, hr, hx⟩ := RelL.gather _ (fun i => w.cell? ⟨pl.b, pl.o + off + i, none⟩) hg
      exact ⟨pl.b, pl.o + off, _, xs, rfl, hk, by simp only [List.length_take, List.length_drop]; omega, hr, hx⟩
  | fp cs b o vals hz hv =>
    simp only [ptrReads] at h
    obtain ⟨hl, hk⟩ := h
    have hg : ∀ (i : Nat) (av : AV), ((cs.take n).map AV.p)[i]? = some av → ∃ y, w.cell? ⟨b, o + i, none⟩ = some y ∧ Cv Z φ av y := by
      intro i av hi
      rw [List.getElem?_map, List.getElem?_take] at hi
      split at hi
      · cases hc : cs[i]? with
        | none => rw [hc] at hi; cases hi
        | some p =>
          rw [hc] at hi; cases hi
          exact ⟨vals i, s.froz _ _ _ (hz i (List.getElem?_eq_some_iff.1 hc).1), .p (hv i p hc)⟩
      · cases hi
    obtain ⟨xs, hr, hx⟩ := RelL.gather _ (fun i => w.cell? ⟨b, o + i, none⟩) hg
    exact ⟨b, o, _, xs, rfl, hk, by simp only [List.length_map, List.length_take]; omega, hr, hx⟩
  | _ => exact h.elim
def loadV (tab : Tab) (t : Nat) (a : AV) (H : Heap) (K : AV → Prop) : Prop :=
  match tab t with
  | some d => ptrReads H a d.size fun vs => K (if d.k.agg then .agg vs else vs.headD .any)
  | none => False
theorem loadV_ok {P : Program} {tab : Tab} (hT : tab.Ok P) {Z : Fro} {φ : Pm} {B0 : Nat} {w0 w : World} {H F : Heap} (s : Sim Z φ B0 w0 (H.or F) w) {t : Nat} {a : AV} {x : Value} (c : Cv Z φ a x) {K : AV → Prop} (h : loadV tab t a H K) :
    ∃ v y, K v ∧ Cv Z φ v y ∧ (Instr.loadAt t x).run P w = .ok y w := by
  unfold loadV at h
  cases hd : tab t with
  | none => rw [hd] at h; exact h.elim
  | some d =>
    rw [hd] at h
    have ok := hT t d hd
    obtain ⟨b, o, vs, xs, rfl, hk, hlen, hr, hx⟩ := ptrReads_ok s c h
    have hla : ∀ j v, xs[j]? = some v → w.cell? ((⟨b, o, none⟩ : Addr).add j) = some v := fun j v hv => by rw [addr_add]; exact hx j v hv
    have hxl : xs.length = d.size := by rw [hr.1, hlen]
    have hload : (loadCells ⟨b, o, none⟩ d.size).run P w = .ok xs.toArray w := by rw [← hxl]; exact run_loadCells_list w _ xs hla
    cases hag : d.k.agg with
    | true =>
      refine ⟨_, .agg xs.toArray, hk, ?_, ?_⟩
      · rw [if_pos hag]
        exact .agg vs _ (by simpa using hr.1) (fun i av y hi hy => hr.2 i av y hi (by simpa using hy))
      · simp [Instr.loadAt, Instr.sureAddr, loadVar, TK.ok_agg ok.k, hag, TD.run_size ok, hload]
    | false =>
      have h1 := ok.one hag
      obtain ⟨v, rfl⟩ : ∃ v, vs = [v] := by
        match vs, hlen with
        | [v], _ => exact ⟨v, rfl⟩
        | [], hl => simp [h1] at hl
        | _ :: _ :: _, hl => simp [h1] at hl
      obtain ⟨y, rfl⟩ : ∃ y, xs = [y] := by
        match xs, hr.1 with
        | [y], _ => exact ⟨y, rfl⟩
      refine ⟨_, y, hk, ?_, ?_⟩
      · rw [if_neg (by simp [hag])]
        exact hr.2 0 v y rfl rfl
      · have h0 := hx 0 y rfl
        simp only [Nat.add_zero] at h0
        simp [Instr.loadAt, Instr.sureAddr, loadVar, TK.ok_agg ok.k, hag, h0]
def splice (cs : List AV) (off : Nat) (vs : List AV) : List AV := cs.take off ++ vs ++ cs.drop (off + vs.length)
theorem splice_length {cs : List AV} {off : Nat} {vs : List AV} (h : off + vs.length ≤ cs.length) : (splice cs off vs).length = cs.length := by
  simp [splice]; omega
theorem Sim.store {Z : Fro} {φ : Pm} {B0 : Nat} {w0 w : World} {H : Heap} (s : Sim Z φ B0 w0 H w) {r : Nat} {cs : List AV} (hr : H r = some cs) {pl : Place} (hp : φ r = some pl)
    {off : Nat} {vs : List AV} {xs : List Value} (hl : off + vs.length ≤ pl.C) (hoff : off ≤ cs.length) (hv : RelL Z φ vs xs) (h1 : vs.all AV.isCell = true) (P : Program) :
    ∃ w', (storeCells ⟨pl.b, pl.o + off, none⟩ xs).run P w = .ok () w' ∧ Sim Z φ B0 w0 (H.set r (splice cs off vs)) w' := by
  obtain ⟨pl', hp', hla⟩ := s.live r cs hr
  rw [hp] at hp'; cases hp'
  rcases hla with ⟨h0, rfl⟩ | ⟨cur, e, g1, g2, g3, g4, g5⟩
  · have hvs : vs = [] := List.eq_nil_of_length_eq_zero (by omega)
    subst hvs
    have hxs : xs = [] := List.eq_nil_of_length_eq_zero hv.1
    subst hxs
    refine ⟨w, rfl, ?_⟩
    have : H.set r (splice [] off []) = H := by
      funext x
      by_cases hx : x = r
      · subst hx; rw [Heap.set_same, hr]; simp [splice]
      · rw [Heap.set_other hx]
    rw [this]; exact s
  · have hxl : xs.length = vs.length := hv.1
    have hrun := run_storeCells_at (P := P) pl.b (pl.o + off) e xs 0 cur w g1 (by omega) (hv.oneCell h1)
    simp only [Nat.add_zero] at hrun
    by_cases hC : pl.C = 0
    · have hvs : vs = [] := List.eq_nil_of_length_eq_zero (by omega)
      subst hvs
      have hxs : xs = [] := List.eq_nil_of_length_eq_zero hv.1
      subst hxs
      refine ⟨w, rfl, ?_⟩
      have hcs : cs = [] := List.eq_nil_of_length_eq_zero (by omega)
      subst hcs
      have : H.set r (splice [] off []) = H := by
        funext x
        by_cases hx : x = r
        · subst hx; rw [Heap.set_same, hr]; simp [splice]
        · rw [Heap.set_other hx]
      rw [this]; exact s
    refine ⟨_, hrun, s.setRow hr hp g1 hC _ ?_ ?_ _ ?_ ?_⟩
    · simp only [List.size_toArray, List.length_append, List.length_take, List.length_drop, Array.length_toList]; omega
    · intro i hi
      simp only [List.getElem?_toArray]
      rcases hi with hi | hi
      · rw [List.append_assoc, List.getElem?_append_left (by simp only [List.length_take, Array.length_toList]; omega), List.getElem?_take, if_pos (by omega)]
        simp
      · rw [List.getElem?_append_right (by simp only [List.length_append, List.length_take, Array.length_toList]; omega), List.getElem?_drop]
        simp only [List.length_append, List.length_take, Array.length_toList, Array.getElem?_toList]
        congr 1; omega
    · simp only [splice, List.length_append, List.length_take, List.length_drop]; omega
    · intro i av hi
      simp only [splice] at hi
      simp only [List.getElem?_toArray]
      by_cases hlo : i < off
      · rw [List.append_assoc, List.getElem?_append_left (by simp only [List.length_take]; omega), List.getElem?_take, if_pos hlo] at hi
        obtain ⟨x, hx, hc⟩ := g5 i av hi
        refine ⟨x, ?_, hc⟩
        rw [List.append_assoc, List.getElem?_append_left (by simp only [List.length_take, Array.length_toList]; omega), List.getElem?_take, if_pos (by omega)]
        simpa using hx
      · by_cases hmid : i < off + vs.length
        · rw [List.append_assoc, List.getElem?_append_right (by simp only [List.length_take]; omega), List.getElem?_append_left (by simp only [List.length_take]; omega)] at hi
          have hmin : min off cs.length = off := by omega
          simp only [List.length_take, hmin] at hi
          have hxi : i - off < xs.length := by omega
          refine ⟨xs[i - off], ?_, hv.2 _ av _ hi (List.getElem?_eq_getElem hxi)⟩
          rw [List.append_assoc, List.getElem?_append_right (by simp only [List.length_take, Array.length_toList]; omega), List.getElem?_append_left (by simp only [List.length_take, Array.length_toList]; omega)]
          have hmin2 : min (pl.o + off) cur.size = pl.o + off := by omega
          simp only [List.length_take, Array.length_toList, hmin2]
          rw [show pl.o + i - (pl.o + off) = i - off by omega]
          exact List.getElem?_eq_getElem hxi
        · rw [List.getElem?_append_right (by simp only [List.length_append, List.length_take]; omega), List.getElem?_drop] at hi
          have hmin : min off cs.length = off := by omega
          simp only [List.length_append, List.length_take, hmin] at hi
          rw [show off + vs.length + (i - (off + vs.length)) = i by omega] at hi
          obtain ⟨x, hx, hc⟩ := g5 i av hi
          refine ⟨x, ?_, hc⟩
          rw [List.getElem?_append_right (by simp only [List.length_append, List.length_take, Array.length_toList]; omega), List.getElem?_drop]
          have hmin2 : min (pl.o + off) cur.size = pl.o + off := by omega
          simp only [List.length_append, List.length_take, Array.length_toList, hmin2, Array.getElem?_toList]
          rw [← hx]; congr 1; omega
def storeV (tab : Tab) (t : Nat) (a v : AV) (H : Heap) (K : Heap → Prop) : Prop :=
  match tab t, a, v.cells with
  | some d, .ptr r off, some vs => match H r with
    | some cs => off + d.size ≤ cs.length ∧ vs.length = d.size ∧ vs.all AV.isCell = true ∧ K (H.set r (splice cs off vs))
    | none => False
  | _, _, _ => False
theorem storeV_ok {P : Program} {tab : Tab} (hT : tab.Ok P) {Z : Fro} {φ : Pm} {B0 : Nat} {w0 w : World} {H F : Heap} (hd : Disj H F) (s : Sim Z φ B0 w0 (H.or F) w) {t : Nat} {a v : AV} {x y : Value}
    (ca : Cv Z φ a x) (cv : Cv Z φ v y) {K : Heap → Prop} (h : storeV tab t a v H K) :
    ∃ H' w', K H' ∧ Disj H' F ∧ Sim Z φ B0 w0 (H'.or F) w' ∧ (Instr.storeAt t x y).run P w = .ok () w' := by
  unfold storeV at h
  split at h
  · rename_i d r off vs hdt hvs
    split at h
    · rename_i cs hH
      obtain ⟨h1, h2, h3, hk⟩ := h
      have ok := hT t d hdt
      cases ca with
      | ptr _ hp =>
        rename_i pl
        obtain ⟨pl', hp', hla⟩ := s.live r cs (Heap.or_left hH)
        rw [hp] at hp'; cases hp'
        have hC : cs.length ≤ pl.C := by
          rcases hla with ⟨_, rfl⟩ | ⟨_, _, _, _, h, _⟩
          · simp
          · exact h
        have hrl := AV.cells_ok cv hvs
        obtain ⟨w', hrun, s'⟩ := s.store (Heap.or_left hH) hp (off := off) (by omega) (by omega) hrl h3 P
        refine ⟨_, w', hk, hd.set (hd.fresh hH), by rw [Heap.or_set]; exact s', ?_⟩
        have hsz : y.cells.size = d.size := by have := hrl.1; simp only [Array.length_toList] at this; omega
        simp [Instr.storeAt, Instr.sureAddr, storeVar, TD.run_size ok, hsz, hrun]
    · exact h.elim
  · exact h.elim
end Go.Sep
namespace Go.Sep
open Go Go.RowKit
theorem Sim.allocF {Z : Fro} {φ : Pm} {B0 : Nat} {w0 w : World} {H F : Heap} (hd : Disj H F) (s : Sim Z φ B0 w0 (H.or F) w) (cur : Array Value) (e : TypeId) (C : Nat) (hC : C ≤ cur.size)
    (blk : List AV) (hb : blk.length ≤ C) (hv : ∀ (i : Nat) (av : AV), blk[i]? = some av → ∃ x, cur[i]? = some x ∧ Cv Z φ av x) :
    ∃ r φ', H r = none ∧ Pm.le φ φ' ∧ φ' r = some ⟨w.heap.size, 0, C⟩ ∧ Disj (H.set r blk) F ∧ Sim Z φ' B0 w0 ((H.set r blk).or F) (w.alloc (.cells cur e)) := by
  obtain ⟨r, φ', h1, _, h3, h4, h5⟩ := s.alloc cur e C hC blk hb hv
  have hHr : H r = none := by
    cases hH : H r with
    | none => rfl
    | some b => rw [Heap.or_left hH] at h1; cases h1
  have hFr : F r = none := by simpa [Heap.or, hHr] using h1
  exact ⟨r, φ', hHr, h3, h4, hd.set hFr, by rw [Heap.or_set]; exact h5⟩
theorem RelL.get {Z : Fro} {φ : Pm} {vs : List AV} {xs : List Value} (h : RelL Z φ vs xs) {i : Nat} {av : AV} (hi : vs[i]? = some av) : ∃ x, xs[i]? = some x ∧ Cv Z φ av x := by
  have hl : i < xs.length := by rw [h.1]; exact (List.getElem?_eq_some_iff.1 hi).1
  exact ⟨xs[i], List.getElem?_eq_getElem hl, h.2 i av _ hi (List.getElem?_eq_getElem hl)⟩
theorem newVar_ok {P : Program} {Z : Fro} {φ : Pm} {B0 : Nat} {w0 w : World} {H F : Heap} (hd : Disj H F) (s : Sim Z φ B0 w0 (H.or F) w) {vs : List AV} {x : Value} (hr : RelL Z φ vs x.cells.toList) (t : TypeId)
    {K : AV → Heap → Prop} (h : ∀ r, H r = none → K (.ptr r 0) (H.set r vs)) :
    ∃ y w', ((do pure (.pointer (some (← newVar t x))) : Sem Value)).run P w = .ok y w' ∧ UpV B0 w0 F Z φ K y w' := by
  obtain ⟨r, φ', h1, h2, h3, h4, h5⟩ := s.allocF hd x.cells t x.cells.size (Nat.le_refl _) vs (by have := hr.1; simp only [Array.length_toList] at this; omega)
    (fun i av hi => by obtain ⟨y, hy, hc⟩ := hr.get hi; exact ⟨y, by simpa using hy, hc⟩)
  refine ⟨.pointer (some ⟨w.heap.size, 0, none⟩), w.alloc (.cells x.cells t), ?_, _, _, Z, φ', h r h1, Fro.le_refl _, h2, h4, h5, ?_⟩
  · simp [newVar, newRow]
  · exact .ptr 0 h3
def allocV (tab : Tab) (t : Nat) (H : Heap) (K : AV → Heap → Prop) : Prop :=
  match tab t with
  | some d => ∀ r, H r = none → K (.ptr r 0) (H.set r d.zero)
  | none => False
theorem allocV_ok {P : Program} {tab : Tab} (hT : tab.Ok P) {Z : Fro} {φ : Pm} {B0 : Nat} {w0 w : World} {H F : Heap} (hd : Disj H F) (s : Sim Z φ B0 w0 (H.or F) w) {t : Nat} {K : AV → Heap → Prop} (h : allocV tab t H K) :
    ∃ y w', (Instr.alloc t true (.tuple #[])).run P w = .ok y w' ∧ UpV B0 w0 F Z φ K y w' := by
  unfold allocV at h
  cases hdt : tab t with
  | none => rw [hdt] at h; exact h.elim
  | some d =>
    rw [hdt] at h
    obtain ⟨i, z, hi, _, _, hz, hzc⟩ := (hT t d hdt).info
    have hr : RelL Z φ d.zero z.cells.toList := by rw [← hzc]; exact RelL.constA _ _ _
    obtain ⟨y, w', h1, h2⟩ := newVar_ok (P := P) hd s hr t h
    refine ⟨y, w', ?_, h2⟩
    rw [← h1]
    simp [Instr.alloc, zeroValue, typeInfo, hi, hz]
def boxV (v : AV) (H : Heap) (K : AV → Heap → Prop) : Prop :=
  match v.cells with
  | some vs => ∀ r, H r = none → K (.ptr r 0) (H.set r vs)
  | none => False
theorem boxV_ok {P : Program} {Z : Fro} {φ : Pm} {B0 : Nat} {w0 w : World} {H F : Heap} (hd : Disj H F) (s : Sim Z φ B0 w0 (H.or F) w) {v : AV} {x : Value} (c : Cv Z φ v x) {t : Nat} {K : AV → Heap → Prop} (h : boxV v H K) :
    ∃ y w', (Instr.box t x).run P w = .ok y w' ∧ UpV B0 w0 F Z φ K y w' := by
  unfold boxV at h
  cases hv : v.cells with
  | none => rw [hv] at h; exact h.elim
  | some vs => rw [hv] at h; exact newVar_ok (P := P) hd s (AV.cells_ok c hv) t h
def fieldAddrV (tab : Tab) (t : Nat) (a : AV) (f : Nat) (K : AV → Prop) : Prop :=
  match tab t with
  | some d => match d.k with
    | .struct fs => match fs[f]? with
      | some (o, ft) => match tab ft with
        | some _ => match a with
          | .ptr r off => K (.ptr r (off + o))
          | .fp cs => o ≤ cs.length ∧ K (.fp (cs.drop o))
          | _ => False
        | none => False
      | none => False
    | _ => False
  | none => False
theorem fields_get {fields : Array Field} {fs : List (Nat × Nat)} (hf : fields.toList.map (fun f => (f.offset, f.type)) = fs) {f o ft : Nat} (h : fs[f]? = some (o, ft)) :
    ∃ fd, fields[f]? = some fd ∧ fd.offset = o ∧ fd.type = ft := by
  rw [← hf, List.getElem?_map] at h
  cases hh : fields.toList[f]? with
  | none => rw [hh] at h; cases h
  | some fd => rw [hh] at h; cases h; exact ⟨fd, by simpa using hh, rfl, rfl⟩
theorem fieldAddrV_ok {P : Program} {tab : Tab} (hT : tab.Ok P) {Z : Fro} {φ : Pm} {w : World} {t : Nat} {a : AV} {x : Value} (c : Cv Z φ a x) {f : Nat} {K : AV → Prop} (h : fieldAddrV tab t a f K) :
    ∃ v y, K v ∧ Cv Z φ v y ∧ (Instr.fieldAt t x f).run P w = .ok y w := by
  unfold fieldAddrV at h
  split at h
  case h_2 => exact h.elim
  rename_i d hdt
  split at h
  case h_2 => exact h.elim
  rename_i fs hk
  split at h
  case h_2 => exact h.elim
  rename_i o ft hfs
  split at h
  case h_2 => exact h.elim
  rename_i fd hft
  have ok := hT t d hdt
  have okf := hT ft fd hft
  have hkk := ok.k
  rw [hk] at hkk
  obtain ⟨fields, hu, hmap, _⟩ := hkk
  obtain ⟨fl, hfl, hofs, hty⟩ := fields_get hmap hfs
  have hpos : fd.size ≠ 0 := by have := okf.pos; omega
  cases c with
  | ptr off hp =>
    rename_i r pl
    refine ⟨_, _, h, .ptr (off + o) hp, ?_⟩
    simp [Instr.fieldAt, run_underlying hu, hfl, Instr.sureAddr, fieldPlace, hty, TD.run_size okf, hpos, addr_add, hofs, Nat.add_assoc]
  | fp cs b o' vals hz hv =>
    obtain ⟨hlen, hK⟩ := h
    refine ⟨_, .pointer (some ⟨b, o' + o, none⟩), hK, .fp _ b (o' + o) (fun i => vals (o + i)) ?_ ?_, ?_⟩
    · intro i hi
      rw [Nat.add_assoc]
      exact hz _ (by simp only [List.length_drop] at hi; omega)
    · intro i p hi
      rw [List.getElem?_drop] at hi
      exact hv _ p hi
    · simp [Instr.fieldAt, run_underlying hu, hfl, Instr.sureAddr, fieldPlace, hty, TD.run_size okf, hpos, addr_add, hofs]
  | _ => exact h.elim
def indexAddrV (tab : Tab) (t : Nat) (a i : AV) (K : AV → Prop) : Prop :=
  match tab t, i with
  | some d, .p (.int _ n) => match d.k with
    | .slice e => match tab e with
      | some ed => match a with
        | .sl r sz off len => sz = ed.size ∧ 0 ≤ n ∧ n < len ∧ K (.ptr r (off + n.toNat * sz))
        | .p (.sl es) => 0 ≤ n ∧ n < es.length ∧ (es.getD n.toNat []).length = ed.size ∧ K (.fp (es.getD n.toNat []))
        | _ => False
      | none => False
    | .arr m e => match tab e with
      | some ed => match a with
        | .ptr r off => 0 ≤ n ∧ n < (m : Int) ∧ K (.ptr r (off + n.toNat * ed.size))
        | _ => False
      | none => False
    | _ => False
  | _, _ => False
theorem indexAddrV_ok {P : Program} {tab : Tab} (hT : tab.Ok P) {Z : Fro} {φ : Pm} {w : World} {t : Nat} {a i : AV} {x y : Value} (ca : Cv Z φ a x) (ci : Cv Z φ i y) {K : AV → Prop} (h : indexAddrV tab t a i K) :
    ∃ v z, K v ∧ Cv Z φ v z ∧ (Instr.indexAt t x y).run P w = .ok z w := by
  unfold indexAddrV at h
  split at h
  case h_2 => exact h.elim
  rename_i d k n hdt
  split at h
  case h_3 => exact h.elim
  case h_2 =>
    rename_i m e hk
    split at h
    case h_2 => exact h.elim
    rename_i ed hed
    have ok := hT t d hdt
    have oke := hT e ed hed
    have hu := ok.k
    rw [hk] at hu
    simp only [TK.ok] at hu
    have hy : y = .int k n := by cases ci with | p h => cases h; rfl
    subst hy
    cases ca with
    | ptr off hp =>
      obtain ⟨h0, h1, hK⟩ := h
      refine ⟨_, _, hK, .ptr _ hp, ?_⟩
      simp [Instr.indexAt, Instr.sureAddr, asIntOf, run_underlying hu, TD.run_size oke, h0, h1, addr_add, Nat.add_assoc]
    | _ => exact h.elim
  rename_i e hk
  split at h
  case h_2 => exact h.elim
  rename_i ed hed
  have ok := hT t d hdt
  have oke := hT e ed hed
  have hu := ok.k
  rw [hk] at hu
  simp only [TK.ok] at hu
  have hy : y = .int k n := by cases ci with | p h => cases h; rfl
  subst hy
  cases ca with
  | sl hp hl hC =>
    rename_i r sz off len c pl
    obtain ⟨rfl, h0, h1, hK⟩ := h
    refine ⟨_, _, hK, .ptr _ hp, ?_⟩
    simp [Instr.indexAt, asIntOf, run_underlying hu, TD.run_size oke, h0, h1, addr_add, Nat.add_assoc]
  | slz r sz off a =>
    obtain ⟨rfl, h0, h1, hK⟩ := h
    simp at h1; omega
  | p hz =>
    cases hz with
    | emp a c => obtain ⟨h0, h1, _⟩ := h; simp at h1; omega
    | sl es sz b o c vals hc hsz hz hv =>
      obtain ⟨h0, h1, h2, hK⟩ := h
      have hlt : n.toNat < es.length := by omega
      have hg : es[n.toNat]? = some es[n.toNat] := List.getElem?_eq_getElem hlt
      have hgd : es.getD n.toNat [] = es[n.toNat] := by simp [List.getD, hg]
      have hsze : sz = ed.size := by rw [← h2, hgd]; exact (hsz _ (List.getElem_mem hlt)).symm
      subst hsze
      refine ⟨_, .pointer (some ⟨b, o + n.toNat * ed.size, none⟩), hK, .fp _ b _ (fun j => vals (n.toNat * ed.size + j)) ?_ ?_, ?_⟩
      · intro j hj
        rw [h2] at hj
        rw [Nat.add_assoc]
        refine hz _ ?_
        have : (n.toNat + 1) * ed.size ≤ es.length * ed.size := Nat.mul_le_mul_right _ hlt
        rw [Nat.add_mul] at this; omega
      · intro j p hj
        rw [hgd] at hj
        exact hv n.toNat _ hg j p hj
      · simp [Instr.indexAt, asIntOf, run_underlying hu, TD.run_size oke, h0, h1, addr_add]
    | _ => exact h.elim
  | _ => exact h.elim
def partV (tab : Tab) (vs : List AV) (o ft : Nat) (K : AV → Prop) : Prop :=
  match tab ft with
  | some fd => o + fd.size ≤ vs.length ∧ K (if fd.k.agg then .agg ((vs.drop o).take fd.size) else vs.getD o .any)
  | none => False
def fieldV (tab : Tab) (t : Nat) (a : AV) (f : Nat) (K : AV → Prop) : Prop :=
  match tab t with
  | some d => match d.k with
    | .struct fs => match fs[f]? with
      | some (o, ft) => match a with
        | .agg vs => partV tab vs o ft K
        | _ => False
      | none => False
    | _ => False
  | none => False
theorem fieldV_ok {P : Program} {tab : Tab} (hT : tab.Ok P) {Z : Fro} {φ : Pm} {w : World} {t : Nat} {a : AV} {x : Value} (c : Cv Z φ a x) {f : Nat} {K : AV → Prop} (h : fieldV tab t a f K) :
    ∃ v y, K v ∧ Cv Z φ v y ∧ (Instr.field t x f).run P w = .ok y w := by
  unfold fieldV at h
  split at h
  case h_2 => exact h.elim
  rename_i d hdt
  split at h
  case h_2 => exact h.elim
  rename_i fs hk
  split at h
  case h_2 => exact h.elim
  rename_i o ft hfs
  unfold partV at h
  have ok := hT t d hdt
  have hkk := ok.k
  rw [hk] at hkk
  obtain ⟨fields, hu, hmap, _⟩ := hkk
  obtain ⟨fl, hfl, hofs, hty⟩ := fields_get hmap hfs
  cases c with
  | agg vs xs hs hh =>
    dsimp only at h
    split at h
    case h_2 => exact h.elim
    rename_i fd hft
    obtain ⟨hlen, hK⟩ := h
    have okf := hT ft fd hft
    cases hag : fd.k.agg with
    | true =>
      rw [if_pos hag] at hK
      refine ⟨_, .agg (xs.extract o (o + fd.size)), hK, .agg _ _ ?_ ?_, ?_⟩
      · simp only [Array.size_extract, List.length_take, List.length_drop]; omega
      · intro i av y hi hy
        rw [List.getElem?_take] at hi
        split at hi
        case isFalse => cases hi
        rename_i hlt
        rw [List.getElem?_drop] at hi
        rw [Array.getElem?_extract] at hy
        split at hy
        · exact hh _ av y hi hy
        · cases hy
      · simp [Instr.field, run_underlying hu, hfl, asAgg, part, hty, TK.ok_agg okf.k, hag, TD.run_size okf, hofs]
    | false =>
      rw [if_neg (by simp [hag])] at hK
      have h1 := okf.one hag
      have hlt : o < vs.length := by omega
      have hltx : o < xs.size := by omega
      refine ⟨_, xs[o], hK, ?_, ?_⟩
      · have hg : vs[o]? = some vs[o] := List.getElem?_eq_getElem hlt
        have : vs.getD o .any = vs[o] := by simp [List.getD, hg]
        rw [this]
        exact hh o _ _ hg (Array.getElem?_eq_getElem hltx)
      · simp [Instr.field, run_underlying hu, hfl, asAgg, part, hty, TK.ok_agg okf.k, hag, hofs, Array.getElem?_eq_getElem hltx]
  | _ => exact h.elim
def extractV (a : AV) (i : Nat) (K : AV → Prop) : Prop :=
  match a with
  | .tup vs => i < vs.length ∧ K (vs.getD i .any)
  | _ => False
theorem extractV_ok {P : Program} {Z : Fro} {φ : Pm} {w : World} {a : AV} {x : Value} (c : Cv Z φ a x) {i : Nat} {K : AV → Prop} (h : extractV a i K) :
    ∃ v y, K v ∧ Cv Z φ v y ∧ (Instr.extract x i).run P w = .ok y w := by
  cases c with
  | tup vs xs hs hh =>
    obtain ⟨hl, hK⟩ := h
    have hlx : i < xs.size := by omega
    have hg : vs[i]? = some vs[i] := List.getElem?_eq_getElem hl
    refine ⟨_, xs[i], hK, ?_, ?_⟩
    · have : vs.getD i .any = vs[i] := by simp [List.getD, hg]
      rw [this]; exact hh i _ _ hg (Array.getElem?_eq_getElem hlx)
    · simp [Instr.extract, Array.getElem?_eq_getElem hlx]
  | _ => exact h.elim
end Go.Sep
namespace Go.Sep
open Go Go.RowKit
def numV (a : AV) (K : Int → Prop) : Prop :=
  match a with
  | .p (.int _ n) => K n
  | _ => False
theorem numV_ok {Z : Fro} {φ : Pm} {a : AV} {x : Value} (c : Cv Z φ a x) {K : Int → Prop} (h : numV a K) : ∃ k n, x = .int k n ∧ K n := by
  cases c with
  | p hz => cases hz with
    | int k n => exact ⟨k, n, rfl, h⟩
    | _ => exact h.elim
  | _ => exact h.elim
def bndV (o : Option AV) (n : Int) (K : Int → Prop) : Prop :=
  match o with
  | some a => numV a K
  | none => K n
theorem numV.mono {a : AV} {A B : Int → Prop} (hAB : ∀ v, A v → B v) (h : numV a A) : numV a B := by
  unfold numV at *
  split at h
  · exact hAB _ h
  · exact h.elim
theorem bndV.mono {o : Option AV} {n : Int} {A B : Int → Prop} (hAB : ∀ v, A v → B v) (h : bndV o n A) : bndV o n B := by
  cases o with
  | none => exact hAB _ h
  | some a => exact numV.mono hAB h
def sliceV (tab : Tab) (t : Nat) (a : AV) (lo hi mx : Option AV) (K : AV → Prop) : Prop :=
  match tab t with
  | some d => match d.k with
    | .slice e => match tab e with
      | some ed => match a with
        | .sl r sz off len => sz = ed.size ∧ (mx.isSome = true → hi.isSome = true) ∧ bndV lo 0 fun l => bndV hi len fun h => bndV mx h fun m => 0 ≤ l ∧ l ≤ h ∧ h ≤ m ∧ m ≤ len ∧
            K (if mx.isSome = true ∧ m = 0 then .esl else .sl r sz (off + l.toNat * sz) (h - l).toNat)
        | .p (.sl es) => (mx.isSome = true → hi.isSome = true) ∧ bndV lo 0 fun l => bndV hi es.length fun h => bndV mx h fun m => 0 ≤ l ∧ l ≤ h ∧ h ≤ m ∧ m ≤ es.length ∧
            (∀ e ∈ es, e.length = ed.size) ∧ ((mx.isSome = true ∧ m = 0 ∧ K .esl) ∨ ((mx.isSome = true → m ≠ 0) ∧ K (.p (.sl ((es.drop l.toNat).take (h - l).toNat)))))
        | .p .nil => (mx.isSome = true → hi.isSome = true) ∧ bndV lo 0 fun l => bndV hi 0 fun h => bndV mx h fun m => l = 0 ∧ h = 0 ∧ m = 0 ∧ K (if mx.isSome then .esl else .p .nil)
        | _ => False
      | none => False
    | .str => match a with
      | .p (.str s) => mx.isSome = false ∧ bndV lo 0 fun l => bndV hi s.size fun h => 0 ≤ l ∧ l ≤ h ∧ h ≤ s.size ∧ K (.p (.str (s.extract l.toNat h.toNat)))
      | _ => False
    | _ => False
  | none => False
def OptRel (Z : Fro) (φ : Pm) : Option AV → Option Value → Prop
  | none, none => True
  | some a, some x => Cv Z φ a x
  | _, _ => False
theorem bounds_ok {P : Program} {Z : Fro} {φ : Pm} (w : World) {lo hi mx : Option AV} {xl xh xm : Option Value} (cl : OptRel Z φ lo xl) (ch : OptRel Z φ hi xh) (cm : OptRel Z φ mx xm) (isS : Bool) (len cap : Nat) (n : Int)
    (hn : n = len) (hc : len ≤ cap) (hms : isS = false → mx = none ∧ cap = len) (hmh : mx.isSome = true → hi.isSome = true) {K : Int → Int → Int → Prop}
    (h : bndV lo 0 fun l => bndV hi n fun hh => bndV mx hh fun m => 0 ≤ l ∧ l ≤ hh ∧ hh ≤ m ∧ m ≤ len ∧ K l hh m) :
    ∃ (l hh m m' : Nat), K l hh m ∧ l ≤ hh ∧ hh ≤ m ∧ m ≤ len ∧ hh ≤ m' ∧ m' ≤ cap ∧ (mx.isSome = true → m' = m) ∧ (mx.isSome = false → m' = cap) ∧
      (Instr.sliceBounds isS len cap xl xh xm).run P w = .ok (l, hh, m') w := by
  have bnd : ∀ (v : Int) (k : IntKind) (y : Nat) (c : BoundsCode), 0 ≤ v → v ≤ y → (Instr.sliceBound (.int k v) y c).run P w = .ok v.toNat w := by
    intro v k y c h0 h1
    simp [Instr.sliceBound, asIntOf, h0, h1]
  have getl : ∃ l : Int, (bndV hi n fun hh => bndV mx hh fun m => 0 ≤ l ∧ l ≤ hh ∧ hh ≤ m ∧ m ≤ len ∧ K l hh m) ∧ ((xl = none ∧ l = 0) ∨ ∃ k, xl = some (.int k l)) := by
    cases lo with
    | none => cases xl with
      | none => exact ⟨0, h, .inl ⟨rfl, rfl⟩⟩
      | some x => exact cl.elim
    | some a => cases xl with
      | none => exact cl.elim
      | some x => obtain ⟨k, n, rfl, hk⟩ := numV_ok cl h; exact ⟨n, hk, .inr ⟨k, rfl⟩⟩
  obtain ⟨l, hl, hxl⟩ := getl
  have geth : ∃ hh : Int, (bndV mx hh fun m => 0 ≤ l ∧ l ≤ hh ∧ hh ≤ m ∧ m ≤ len ∧ K l hh m) ∧ ((xh = none ∧ hh = len) ∨ ∃ k, xh = some (.int k hh)) := by
    cases hi with
    | none => cases xh with
      | none => exact ⟨n, hl, .inl ⟨rfl, hn⟩⟩
      | some x => exact ch.elim
    | some a => cases xh with
      | none => exact ch.elim
      | some x => obtain ⟨k, n, rfl, hk⟩ := numV_ok ch hl; exact ⟨n, hk, .inr ⟨k, rfl⟩⟩
  obtain ⟨hh, hm, hxh⟩ := geth
  cases mx with
  | none => cases xm with
    | some x => exact cm.elim
    | none =>
      obtain ⟨h0, h1, h2, h3, hK⟩ := hm
      refine ⟨l.toNat, hh.toNat, hh.toNat, cap, by rw [Int.toNat_of_nonneg h0, Int.toNat_of_nonneg (by omega)]; exact hK, by omega, by omega, by omega, by omega, by omega, by simp, by simp, ?_⟩
      have el := fun k c => bnd l k hh.toNat c h0 (by omega)
      have eh := fun k c => bnd hh k cap c (by omega) (by omega)
      rcases hxl with ⟨rfl, rfl⟩ | ⟨k, rfl⟩ <;> rcases hxh with ⟨rfl, rfl⟩ | ⟨k', rfl⟩ <;> 
        (unfold Instr.sliceBounds
         simp only [Sem.run_bind, Sem.run_pure, Result.andThen_ok]
         try rw [eh]
         simp only [Result.andThen_ok, Int.toNat_natCast] at *
         try rw [el]
         first | rfl | simp)
  | some am => cases xm with
    | none => exact cm.elim
    | some x =>
      obtain ⟨km, m, rfl, h0, h1, h2, h3, hK⟩ := numV_ok cm hm
      have hS : isS = true := by cases isS with | true => rfl | false => exact absurd (hms rfl).1 (by simp)
      refine ⟨l.toNat, hh.toNat, m.toNat, m.toNat, by rw [Int.toNat_of_nonneg h0, Int.toNat_of_nonneg (by omega), Int.toNat_of_nonneg (by omega)]; exact hK, by omega, by omega, by omega, by omega, by omega, by simp, by simp, ?_⟩
      have e0 := fun c => bnd m km cap c (by omega) (by omega)
      have el := fun k c => bnd l k hh.toNat c h0 (by omega)
      have eh := fun k c => bnd hh k m.toNat c (by omega) (by omega)
      rcases hxh with ⟨rfl, _⟩ | ⟨k', rfl⟩
      · exact absurd (hmh rfl) (by cases hi with | none => simp | some _ => exact ch.elim)
      · rcases hxl with ⟨rfl, rfl⟩ | ⟨k, rfl⟩ <;> simp [Instr.sliceBounds, e0, eh, el]
theorem Cz.drop {Z : Fro} {es : List (List PV)} {x : Value} (c : Cz Z (.sl es) x) (l n : Nat) (h : l + n ≤ es.length) (sz : Nat) (hsz : ∀ e ∈ es, e.length = sz) :
    ∃ a cap, x = .slice a es.length cap ∧ es.length ≤ cap ∧ ∀ cap', n ≤ cap' →
      Cz Z (.sl ((es.drop l).take n)) (.slice (a.map (·.add (l * sz))) n cap') ∧ (n = 0 → ∀ a', Cz Z (.sl ((es.drop l).take n)) (.slice a' n cap')) := by
  have hemp : ∀ (a' : Option Addr) (cap' : Nat), n = 0 → Cz Z (.sl ((es.drop l).take n)) (.slice a' n cap') := by
    intro a' cap' hn
    subst hn
    rw [List.take_zero]; exact .emp _ _
  cases c with
  | emp a c =>
    refine ⟨a, c, rfl, Nat.zero_le _, fun cap' _ => ?_⟩
    have hn : n = 0 := by simp at h; omega
    exact ⟨hemp _ _ hn, fun _ a' => hemp a' cap' hn⟩
  | sl _ sz' b o c vals hc hs hz hv =>
    refine ⟨some ⟨b, o, none⟩, c, rfl, hc, fun cap' hcap => ⟨?_, fun hn a' => hemp a' cap' hn⟩⟩
    by_cases hn : n = 0
    · exact hemp _ _ hn
    have hlen : ((es.drop l).take n).length = n := by simp only [List.length_take, List.length_drop]; omega
    have hse : sz' = sz := by
      have h0 : 0 < es.length := by omega
      rw [← hs _ (List.getElem_mem h0), hsz _ (List.getElem_mem h0)]
    subst hse
    have e1 : ((some (⟨b, o, none⟩ : Addr)).map (·.add (l * sz'))) = some ⟨b, o + l * sz', none⟩ := by simp [addr_add]
    rw [e1]
    have key := Cz.sl (Z := Z) ((es.drop l).take n) sz' b (o + l * sz') cap' (fun i => vals (l * sz' + i)) (by omega)
      (fun e he => hs e (List.mem_of_mem_drop (List.mem_of_mem_take he)))
      (by
        intro i hi
        rw [hlen] at hi
        rw [Nat.add_assoc]
        refine hz _ ?_
        have : (l + n) * sz' ≤ es.length * sz' := Nat.mul_le_mul_right _ h
        rw [Nat.add_mul] at this; omega)
      (by
        intro i e he j p hp
        rw [List.getElem?_take] at he
        split at he
        case isFalse => cases he
        rw [List.getElem?_drop] at he
        have := hv _ e he j p hp
        rw [Nat.add_mul, Nat.add_assoc] at this
        exact this)
    rw [hlen] at key
    exact key
theorem sliceV_ok {P : Program} {tab : Tab} (hT : tab.Ok P) {Z : Fro} {φ : Pm} {w : World} {t : Nat} {a : AV} {x : Value} (c : Cv Z φ a x) {lo hi mx : Option AV} {xl xh xm : Option Value}
    (cl : OptRel Z φ lo xl) (ch : OptRel Z φ hi xh) (cm : OptRel Z φ mx xm) {K : AV → Prop} (h : sliceV tab t a lo hi mx K) :
    ∃ v y, K v ∧ Cv Z φ v y ∧ (Instr.sliceAt t x xl xh xm).run P w = .ok y w := by
  unfold sliceV at h
  split at h
  case h_2 => exact h.elim
  rename_i d hdt
  have ok := hT t d hdt
  split at h
  · rename_i e hk
    split at h
    case h_2 => exact h.elim
    rename_i ed hed
    have oke := hT e ed hed
    have hu := ok.k
    rw [hk] at hu
    simp only [TK.ok] at hu
    cases c with
    | slz r sz off a =>
      obtain ⟨rfl, hmh, h⟩ := h
      obtain ⟨l, hh, m, m', hK, h1, h2, h3, h4, h5, h6, h7, hrun⟩ := bounds_ok (P := P) w cl ch cm true 0 0 _ (by rfl) (Nat.le_refl _) (by simp) hmh h
      have hl0 : l = 0 := by omega
      have hh0 : hh = 0 := by omega
      have hm0 : m = 0 := by omega
      have hm0' : m' = 0 := by omega
      subst hl0; subst hh0; subst hm0; subst hm0'
      refine ⟨_, .slice a 0 0, hK, ?_, ?_⟩
      · split
        · exact .esl a
        · exact .slz _ _ _ a
      · simp [Instr.sliceAt, Instr.slice, run_underlying hu, hrun, TD.run_size oke]
    | sl hp hl hC =>
      rename_i r sz off len c pl
      obtain ⟨rfl, hmh, h⟩ := h
      obtain ⟨l, hh, m, m', hK, h1, h2, h3, h4, h5, h6, h7, hrun⟩ := bounds_ok (P := P) w cl ch cm true len c _ (by rfl) hl (by simp) hmh h
      have hmul : (l + (m' - l)) * ed.size ≤ c * ed.size := Nat.mul_le_mul_right _ (by omega)
      rw [Nat.add_mul] at hmul
      have hm'c : (if m' = l then (some ⟨pl.b, pl.o + off, none⟩ : Option Addr) else (some (⟨pl.b, pl.o + off, none⟩ : Addr)).map (·.add (l * ed.size))) =
          (if m' = l then some ⟨pl.b, pl.o + off, none⟩ else some ⟨pl.b, pl.o + (off + l * ed.size), none⟩) := by
        simp [addr_add, Nat.add_assoc]
      refine ⟨_, .slice (if m' = l then (some ⟨pl.b, pl.o + off, none⟩ : Option Addr) else (some (⟨pl.b, pl.o + off, none⟩ : Addr)).map (·.add (l * ed.size))) (hh - l) (m' - l), hK, ?_, ?_⟩
      · rw [hm'c]
        have htn : ((hh : Int) - (l : Int)).toNat = hh - l := by omega
        rw [htn, Int.toNat_natCast]
        split
        · rename_i hc0
          have : m' = 0 := by rw [h6 hc0.1]; omega
          have e1 : hh - l = 0 := by omega
          have e2 : m' - l = 0 := by omega
          rw [e1, e2]; exact .esl _
        · by_cases hml : m' = l
          · have e1 : hh - l = 0 := by omega
            have e2 : m' - l = 0 := by omega
            rw [e1, e2]; exact .slz _ _ _ _
          · rw [if_neg hml]
            exact .sl hp (by omega) (by omega)
      · simp [Instr.sliceAt, Instr.slice, run_underlying hu, hrun, TD.run_size oke]
    | p hz =>
      have hx := hz
      cases hz with
      | nil =>
        obtain ⟨hmh, h⟩ := h
        obtain ⟨l, hh, m, m', hK, h1, h2, h3, h4, h5, h6, h7, hrun⟩ := bounds_ok (P := P) w cl ch cm true 0 0 _ (by rfl) (Nat.le_refl _) (by simp) hmh
          (K := fun l h m => K (if mx.isSome then .esl else .p .nil)) (by
            refine bndV.mono (fun l h => ?_) h
            refine bndV.mono (fun hh h => ?_) h
            refine bndV.mono (fun m h => ?_) h
            obtain ⟨a1, a2, a3, a4⟩ := h
            subst a1; subst a2; subst a3
            exact ⟨by omega, by omega, by omega, by omega, a4⟩)
        have hl0 : l = 0 := by omega
        have hh0 : hh = 0 := by omega
        have hm0' : m' = 0 := by omega
        subst hl0; subst hh0; subst hm0'
        refine ⟨_, .slice none 0 0, hK, ?_, ?_⟩
        · split
          · exact .esl _
          · exact .p .nil
        · simp [Instr.sliceAt, Instr.slice, run_underlying hu, hrun, TD.run_size oke]
      | emp a c =>
        obtain ⟨hmh, h⟩ := h
        obtain ⟨l, hh, m, m', hK, h1, h2, h3, h4, h5, h6, h7, hrun⟩ := bounds_ok (P := P) w cl ch cm true 0 c _ (by rfl) (Nat.zero_le _) (by simp) hmh h
        have hl0 : l = 0 := by omega
        have hh0 : hh = 0 := by omega
        have hm0 : m = 0 := by omega
        subst hl0; subst hh0; subst hm0
        obtain ⟨_, hK⟩ := hK
        have hr2 : (Instr.sliceAt t (.slice a 0 c) xl xh xm).run P w = .ok (.slice (if m' = 0 then a else a.map (·.add (0 * ed.size))) 0 m') w := by
          simp [Instr.sliceAt, Instr.slice, run_underlying hu, hrun, TD.run_size oke]
        rcases hK with ⟨g1, _, g3⟩ | ⟨g1, g3⟩
        · have := h6 g1
          subst this
          exact ⟨_, _, g3, .esl _, hr2⟩
        · exact ⟨_, _, g3, .p (by simpa using Cz.emp _ _), hr2⟩
      | sl es sz b o c vals hc hsz hz hv =>
        obtain ⟨hmh, h⟩ := h
        obtain ⟨l, hh, m, m', hK, h1, h2, h3, h4, h5, h6, h7, hrun⟩ := bounds_ok (P := P) w cl ch cm true es.length c _ (by rfl) hc (by simp) hmh h
        obtain ⟨hes, hK⟩ := hK
        have hr2 : (Instr.sliceAt t (.slice (some ⟨b, o, none⟩) es.length c) xl xh xm).run P w =
            .ok (.slice (if m' = l then some ⟨b, o, none⟩ else (some (⟨b, o, none⟩ : Addr)).map (·.add (l * ed.size))) (hh - l) (m' - l)) w := by
          simp [Instr.sliceAt, Instr.slice, run_underlying hu, hrun, TD.run_size oke]
        rcases hK with ⟨g1, g2, g3⟩ | ⟨g1, g3⟩
        · have := h6 g1
          have e1 : hh - l = 0 := by omega
          have e2 : m' - l = 0 := by omega
          refine ⟨_, _, g3, ?_, hr2⟩
          rw [e1, e2]; exact .esl _
        · refine ⟨_, _, g3, ?_, hr2⟩
          obtain ⟨a', cap', hxe, _, hd⟩ := hx.drop l (hh - l) (by omega) ed.size hes
          cases hxe
          have htn : ((hh : Int) - (l : Int)).toNat = hh - l := by omega
          rw [htn, Int.toNat_natCast]
          by_cases hml : m' = l
          · rw [if_pos hml]
            exact .p ((hd _ (by omega)).2 (by omega) _)
          · rw [if_neg hml]
            exact .p (hd _ (by omega)).1
      | _ => exact h.elim
    | _ => exact h.elim
  · rename_i hk
    have hu := ok.k
    rw [hk] at hu
    simp only [TK.ok] at hu
    cases c with
    | p hz =>
      cases hz with
      | str s =>
        obtain ⟨hmx, h⟩ := h
        have hmn : mx = none := by cases mx with | none => rfl | some _ => cases hmx
        subst hmn
        have hxm : xm = none := by cases xm with | none => rfl | some _ => exact cm.elim
        subst hxm
        obtain ⟨l, hh, m, m', hK, h1, h2, h3, h4, h5, h6, h7, hrun⟩ := bounds_ok (P := P) w cl ch (mx := none) (xm := none) trivial false s.size s.size _ (by rfl) (Nat.le_refl _) (by simp) (by simp)
          (K := fun l h _ => K (.p (.str (s.extract l.toNat h.toNat)))) (by
            refine bndV.mono (fun l h => ?_) h
            refine bndV.mono (fun hh h => ?_) h
            obtain ⟨a1, a2, a3, a4⟩ := h
            exact ⟨a1, a2, Int.le_refl _, a3, a4⟩)
        refine ⟨_, .string (s.extract l hh), hK, .p (.str _), ?_⟩
        simp [Instr.sliceAt, Instr.slice, run_underlying hu, hrun]
      | _ => exact h.elim
    | _ => exact h.elim
  · exact h.elim
end Go.Sep
namespace Go.Sep
open Go Go.RowKit
theorem flatten_get {α : Type} {sz : Nat} (hpos : 0 < sz) : ∀ (es : List (List α)), (∀ e ∈ es, e.length = sz) → ∀ k : Nat, es.flatten[k]? = (es[k / sz]?).bind (fun e => e[k % sz]?) := by
  intro es
  induction es with
  | nil => intro _ k; simp
  | cons e es ih =>
    intro h k
    have he := h e (by simp)
    rw [List.flatten_cons]
    by_cases hk : k < sz
    · rw [List.getElem?_append_left (by omega), Nat.div_eq_of_lt hk, Nat.mod_eq_of_lt hk]; simp
    · rw [List.getElem?_append_right (by omega), he, ih (fun e' he' => h e' (by simp [he'])) (k - sz)]
      have h1 : k / sz = (k - sz) / sz + 1 := by
        rw [Nat.div_eq k sz, if_pos ⟨hpos, by omega⟩]
      have h2 : k % sz = (k - sz) % sz := by
        rw [Nat.mod_eq k sz, if_pos ⟨hpos, by omega⟩]
      rw [h1, h2, List.getElem?_cons_succ]
theorem flatten_len {α : Type} {sz : Nat} : ∀ (es : List (List α)), (∀ e ∈ es, e.length = sz) → es.flatten.length = es.length * sz := by
  intro es
  induction es with
  | nil => intro _; simp
  | cons e es ih =>
    intro h
    rw [List.flatten_cons, List.length_append, h e (by simp), ih (fun e' he' => h e' (by simp [he'])), List.length_cons, Nat.add_mul]; omega
def zerosA (n : Nat) (z : List AV) : List AV := (List.replicate n z).flatten
theorem zerosA_len (n : Nat) (z : List AV) : (zerosA n z).length = n * z.length := by
  unfold zerosA
  rw [flatten_len (sz := z.length) _ (fun e he => by rw [List.eq_of_mem_replicate he]), List.length_replicate]
theorem zeros_rel {Z : Fro} {φ : Pm} {z : List AV} {xs : Array Value} (h : RelL Z φ z xs.toList) (hpos : 0 < z.length) (n : Nat) :
    RelL Z φ (zerosA n z) ((Array.range (n * z.length)).map (fun i => xs[i % xs.size]!)).toList := by
  have hs : xs.size = z.length := by have := h.1; simpa using this
  refine ⟨by rw [zerosA_len]; simp, ?_⟩
  intro i av x hi hx
  unfold zerosA at hi
  rw [flatten_get (sz := z.length) hpos _ (fun e he => by rw [List.eq_of_mem_replicate he])] at hi
  have hm : i % z.length < z.length := Nat.mod_lt _ hpos
  rw [List.getElem?_replicate] at hi
  split at hi
  case isFalse => cases hi
  simp only [Option.bind_some] at hi
  have hx2 : x = xs[i % xs.size]! := by
    simp only [Array.toList_map, List.getElem?_map] at hx
    cases hr : (Array.range (n * z.length)).toList[i]? with
    | none => rw [hr] at hx; cases hx
    | some q =>
      rw [hr] at hx
      have : q = i := by
        rw [Array.toList_range] at hr
        have := List.getElem?_eq_some_iff.1 hr
        obtain ⟨_, h2⟩ := this
        simpa using h2.symm
      subst this
      simpa using hx.symm
  have hlt : i % xs.size < xs.size := by rw [hs]; exact hm
  rw [hx2, getElem!_pos xs _ hlt]
  refine h.2 (i % z.length) av _ hi ?_
  rw [← hs]
  simp
theorem foldSet (off : Nat) : ∀ (xs : List Value) (k : Nat) (cells : Array Value), off + k + xs.length ≤ cells.size →
    ((xs.zipIdx k).foldl (fun cs (p : Value × Nat) => cs.setIfInBounds (off + p.2) p.1) cells).toList = cells.toList.take (off + k) ++ xs ++ cells.toList.drop (off + k + xs.length) := by
  intro xs
  induction xs with
  | nil => intro k cells _; simp
  | cons x xs ih =>
    intro k cells h
    simp only [List.zipIdx_cons, List.foldl_cons]
    rw [ih (k + 1) _ (by simp only [Array.size_setIfInBounds]; simp only [List.length_cons] at h; omega)]
    simp only [Array.toList_setIfInBounds, List.length_cons]
    simp only [List.length_cons] at h
    have hl : off + k < cells.toList.length := by simp only [Array.length_toList]; omega
    rw [List.take_set, List.drop_set]
    rw [if_pos (by omega)]
    have h1 : off + (k + 1) = off + k + 1 := by omega
    rw [h1, List.take_add_one, List.set_append_right _ _ (by simp only [List.length_take]; omega)]
    simp only [List.length_take, Array.length_toList]
    rw [show min (off + k) cells.size = off + k by omega, Nat.sub_self]
    rw [List.getElem?_eq_getElem hl]
    simp only [Option.toList_some, List.set_cons_zero, List.append_assoc, List.singleton_append]
    rw [show off + k + 1 + xs.length = off + k + (xs.length + 1) by omega]
theorem RelL.splice {Z : Fro} {φ : Pm} {cs vs : List AV} {ys xs : List Value} (h : RelL Z φ cs ys) (k : RelL Z φ vs xs) (off : Nat) :
    RelL Z φ (splice cs off vs) (ys.take off ++ xs ++ ys.drop (off + xs.length)) := by
  rw [k.1]
  exact ((h.take off).append k).append (h.drop _)
def fillV (place : Nat → Option (Nat × Nat)) : List AV → List (Nat × AV) → Option (List AV)
  | cs, [] => some cs
  | cs, (i, v) :: rest =>
    match place i, v.cells with
    | some (off, size), some vs => if vs.length = size ∧ off + size ≤ cs.length then fillV place (splice cs off vs) rest else none
    | _, _ => none
def PartsRel (Z : Fro) (φ : Pm) : List (Nat × AV) → List (Nat × Value) → Prop
  | [], [] => True
  | (i, v) :: a, (j, x) :: b => i = j ∧ Cv Z φ v x ∧ PartsRel Z φ a b
  | _, _ => False
theorem fillV_ok {Z : Fro} {φ : Pm} (place : Nat → Option (Nat × Nat)) : ∀ (ps : List (Nat × AV)) (qs : List (Nat × Value)) (cs cs' : List AV) (cells : Array Value),
    PartsRel Z φ ps qs → RelL Z φ cs cells.toList → fillV place cs ps = some cs' → ∃ cells', Instr.fill place cells qs = some cells' ∧ RelL Z φ cs' cells'.toList := by
  intro ps
  induction ps with
  | nil =>
    intro qs cs cs' cells hp hr hf
    cases qs with
    | nil => simp only [fillV, Option.some.injEq] at hf; subst hf; exact ⟨cells, rfl, hr⟩
    | cons q qs => exact hp.elim
  | cons p ps ih =>
    intro qs cs cs' cells hp hr hf
    obtain ⟨i, v⟩ := p
    cases qs with
    | nil => exact hp.elim
    | cons q qs =>
      obtain ⟨j, x⟩ := q
      obtain ⟨rfl, hc, hps⟩ := hp
      simp only [fillV] at hf
      split at hf
      case h_2 => cases hf
      rename_i off size vs hpl hvs
      split at hf
      case isFalse => cases hf
      rename_i hcond
      have hx := AV.cells_ok hc hvs
      have hxs : x.cells.size = size := by have := hx.1; simp only [Array.length_toList] at this; omega
      have hcs : cells.size = cs.length := by have := hr.1; simpa using this
      have hfold : (x.cells.zipIdx.foldl (fun cs (p : Value × Nat) => cs.setIfInBounds (off + p.2) p.1) cells).toList =
          cells.toList.take off ++ x.cells.toList ++ cells.toList.drop (off + x.cells.toList.length) := by
        have := foldSet off x.cells.toList 0 cells (by simp only [Array.length_toList]; omega)
        simp only [Nat.add_zero] at this
        rw [← this, ← Array.foldl_toList, Array.toList_zipIdx]
      obtain ⟨cells', h1, h2⟩ := ih qs (Sep.splice cs off vs) cs' (x.cells.zipIdx.foldl (fun cs (p : Value × Nat) => cs.setIfInBounds (off + p.2) p.1) cells) hps
        (by rw [hfold]; exact hr.splice hx off) hf
      refine ⟨cells', ?_, h2⟩
      have hn1 : ¬ (x.cells.size ≠ size) := by simp [hxs]
      have hn2 : ¬ (off + x.cells.size > cells.size) := by omega
      simp only [Instr.fill, hpl]
      rw [if_neg (by simp only [Bool.or_eq_true, decide_eq_true_eq, not_or]; exact ⟨hn1, hn2⟩)]
      exact h1
def buildSliceV (tab : Tab) (t len : Nat) (ps : List (Nat × AV)) (H : Heap) (K : AV → Heap → Prop) : Prop :=
  match tab t with
  | some d => match d.k with
    | .slice e => match tab e with
      | some ed => len * ed.size ≤ 16777216 ∧ match fillV (fun i => some (i * ed.size, ed.size)) (zerosA len ed.zero) ps with
        | some cs => ∀ r, H r = none → K (.sl r ed.size 0 len) (H.set r cs)
        | none => False
      | none => False
    | _ => False
  | none => False
theorem fillV_len (place : Nat → Option (Nat × Nat)) : ∀ (ps : List (Nat × AV)) (cs cs' : List AV), fillV place cs ps = some cs' → cs'.length = cs.length := by
  intro ps
  induction ps with
  | nil => intro cs cs' h; simp only [fillV, Option.some.injEq] at h; rw [h]
  | cons p ps ih =>
    intro cs cs' h
    obtain ⟨i, v⟩ := p
    simp only [fillV] at h
    split at h
    case h_2 => cases h
    split at h
    case isFalse => cases h
    rename_i hc
    rw [ih _ _ h, splice_length (by omega)]
theorem buildSliceV_ok {P : Program} {tab : Tab} (hT : tab.Ok P) {Z : Fro} {φ : Pm} {B0 : Nat} {w0 w : World} {H F : Heap} (hd : Disj H F) (s : Sim Z φ B0 w0 (H.or F) w) {t len : Nat} {ps : List (Nat × AV)} {qs : Array (Nat × Value)}
    (hp : PartsRel Z φ ps qs.toList) {K : AV → Heap → Prop} (h : buildSliceV tab t len ps H K) :
    ∃ y w', (Instr.buildSlice t len qs).run P w = .ok y w' ∧ UpV B0 w0 F Z φ K y w' := by
  unfold buildSliceV at h
  split at h
  case h_2 => exact h.elim
  rename_i d hdt
  split at h
  case h_2 => exact h.elim
  rename_i e hk
  split at h
  case h_2 => exact h.elim
  rename_i ed hed
  obtain ⟨hlim, h⟩ := h
  split at h
  case h_2 => exact h.elim
  rename_i cs hcs
  have ok := hT t d hdt
  have oke := hT e ed hed
  have hu := ok.k
  rw [hk] at hu
  simp only [TK.ok] at hu
  obtain ⟨i, z, hi, hsz, _, hz, hzc⟩ := oke.info
  have hzr : RelL Z φ ed.zero z.cells.toList := by rw [← hzc]; exact RelL.constA _ _ _
  have hzs : z.cells.size = ed.size := by have := hzr.1; simp only [Array.length_toList] at this; rw [this, oke.zlen]
  have hzeros := zeros_rel hzr (by rw [oke.zlen]; exact oke.pos) len
  rw [oke.zlen] at hzeros
  have hlz : ¬ (len * ed.size > 2 ^ 24) := by omega
  by_cases h0 : len * ed.size = 0
  · have hl0 : len = 0 := by rcases Nat.mul_eq_zero.1 h0 with h | h; exact h; have := oke.pos; omega
    subst hl0
    obtain ⟨cells', hf, hrc⟩ := fillV_ok (Z := Z) (φ := φ) (fun i => some (i * ed.size, ed.size)) ps qs.toList _ cs #[] hp (by simpa [zerosA] using RelL.nil Z φ) hcs
    obtain ⟨r, φ', h1, h2, h3, h4, h5⟩ := s.allocF hd cells' e cells'.size (Nat.le_refl _) cs (by have := hrc.1; simp only [Array.length_toList] at this; omega)
      (fun i av hi => by obtain ⟨y, hy, hc⟩ := hrc.get hi; exact ⟨y, by simpa using hy, hc⟩)
    refine ⟨.slice (some ⟨w.heap.size, 0, none⟩) 0 0, _, ?_, _, _, Z, φ', h r h1, Fro.le_refl _, h2, h4, h5, .slz _ _ _ _⟩
    have hr0 : Array.map (fun (_ : Nat) => (default : Value)) (Array.range 0) = #[] := by apply Array.ext'; simp
    simp [Instr.buildSlice, run_underlying hu, TD.run_size oke, hr0, hf, newRow]
  · obtain ⟨cells', hf, hrc⟩ := fillV_ok (Z := Z) (φ := φ) (fun i => some (i * ed.size, ed.size)) ps qs.toList _ cs
      ((Array.range (len * ed.size)).map (fun i => z.cells[i % z.cells.size]!)) hp hzeros hcs
    have hcl : cells'.size = len * ed.size := by
      have := hrc.1
      simp only [Array.length_toList] at this
      rw [this, fillV_len _ _ _ _ hcs, zerosA_len, oke.zlen]
    obtain ⟨r, φ', h1, h2, h3, h4, h5⟩ := s.allocF hd cells' e cells'.size (Nat.le_refl _) cs (by have := hrc.1; simp only [Array.length_toList] at this; omega)
      (fun i av hi => by obtain ⟨y, hy, hc⟩ := hrc.get hi; exact ⟨y, by simpa using hy, hc⟩)
    refine ⟨.slice (some ⟨w.heap.size, 0, none⟩) len len, _, ?_, _, _, Z, φ', h r h1, Fro.le_refl _, h2, h4, h5, .sl h3 (Nat.le_refl _) (by simp only; omega)⟩
    simp [Instr.buildSlice, run_underlying hu, TD.run_size oke, hlz, h0, zeroValue, typeInfo, hi, hz, hf, newRow]
def buildV (tab : Tab) (t : Nat) (ps : List (Nat × AV)) (K : AV → Prop) : Prop :=
  match tab t with
  | some d => match d.k with
    | .struct fs => (fs.all fun p => (tab p.2).isSome) = true ∧ match fillV (fun i => (fs[i]?).bind fun p => (tab p.2).map fun fd => (p.1, fd.size)) d.zero ps with
      | some cs => K (.agg cs)
      | none => False
    | .arr _ e => match tab e with
      | some ed => match fillV (fun i => some (i * ed.size, ed.size)) d.zero ps with
        | some cs => K (.agg cs)
        | none => False
      | none => False
    | _ => False
  | none => False
theorem mapM_sizes {P : Program} (w : World) (sz : Nat → Nat) : ∀ (l : List Field), (∀ f ∈ l, (sizeOf f.type).run P w = .ok (sz f.type) w) →
    (l.mapM fun f => do pure (f.offset, ← sizeOf f.type) : Sem (List (Nat × Nat))).run P w = .ok (l.map fun f => (f.offset, sz f.type)) w := by
  intro l
  induction l with
  | nil => intro _; simp
  | cons f l ih =>
    intro h
    have h1 := h f (by simp)
    have h2 := ih (fun g hg => h g (by simp [hg]))
    simp only [List.mapM_cons, Sem.run_bind, h1, Result.andThen_ok, Sem.run_pure, h2, List.map_cons]
theorem buildV_ok {P : Program} {tab : Tab} (hT : tab.Ok P) {Z : Fro} {φ : Pm} {w : World} {t : Nat} {ps : List (Nat × AV)} {qs : Array (Nat × Value)}
    (hp : PartsRel Z φ ps qs.toList) {K : AV → Prop} (h : buildV tab t ps K) :
    ∃ v y, K v ∧ Cv Z φ v y ∧ (Instr.build t qs).run P w = .ok y w := by
  unfold buildV at h
  split at h
  case h_2 => exact h.elim
  rename_i d hdt
  split at h
  case h_3 => exact h.elim
  case h_2 =>
    rename_i m e hk
    split at h
    case h_2 => exact h.elim
    rename_i ed hed
    split at h
    case h_2 => exact h.elim
    rename_i cs hcs
    have ok := hT t d hdt
    have oke := hT e ed hed
    have hu := ok.k
    rw [hk] at hu
    simp only [TK.ok] at hu
    obtain ⟨i, z, hi, hsz, _, hz, hzc⟩ := ok.info
    have hzr : RelL Z φ d.zero z.cells.toList := by rw [← hzc]; exact RelL.constA _ _ _
    obtain ⟨cells', hf, hrc⟩ := fillV_ok (Z := Z) (φ := φ) _ ps qs.toList _ cs z.cells hp hzr hcs
    refine ⟨_, .agg cells', h, .agg cs cells' (by have := hrc.1; simpa using this) (fun i av x hi hx => hrc.2 i av x hi (by simpa using hx)), ?_⟩
    have hzv : (zeroValue t).run P w = .ok z w := by simp [zeroValue, typeInfo, hi, hz]
    simp only [Instr.build, Sem.run_bind, hzv, run_underlying hu, Result.andThen_ok, TD.run_size oke, hf, Sem.run_pure]
  rename_i fs hk
  obtain ⟨hall, h⟩ := h
  split at h
  case h_2 => exact h.elim
  rename_i cs hcs
  have ok := hT t d hdt
  have hkk := ok.k
  rw [hk] at hkk
  obtain ⟨fields, hu, hmap, _⟩ := hkk
  obtain ⟨i, z, hi, hsz, _, hz, hzc⟩ := ok.info
  have hzr : RelL Z φ d.zero z.cells.toList := by rw [← hzc]; exact RelL.constA _ _ _
  let sz : Nat → Nat := fun t => match tab t with | some fd => fd.size | none => 0
  have hsizes : ∀ f ∈ fields.toList, (sizeOf f.type).run P w = .ok (sz f.type) w := by
    intro f hf
    have hmem : (f.offset, f.type) ∈ fs := by rw [← hmap]; exact List.mem_map.2 ⟨f, hf, rfl⟩
    have hne := List.all_eq_true.1 hall _ hmem
    cases hft : tab f.type with
    | none => simp [hft] at hne
    | some fd => simp only [sz, hft]; exact TD.run_size (hT _ fd hft) w
  have hm := mapM_sizes (P := P) w sz fields.toList hsizes
  have hm2 : (fields.mapM fun f => do pure (f.offset, ← sizeOf f.type) : Sem (Array (Nat × Nat))).run P w = .ok (fields.toList.map fun f => (f.offset, sz f.type)).toArray w := by
    rw [Array.mapM_eq_mapM_toList]
    rw [Sem.run_map, hm]; rfl
  have hplace : (fun (i : Nat) => (fs[i]?).bind fun (p : Nat × Nat) => (tab p.2).map fun fd => (p.1, fd.size)) = (fun (i : Nat) => ((fields.toList.map fun f => (f.offset, sz f.type)).toArray)[i]?) := by
    funext j
    simp only [List.getElem?_toArray, List.getElem?_map]
    rw [← hmap, List.getElem?_map]
    cases hj : fields.toList[j]? with
    | none => simp
    | some f =>
      have hmem : (f.offset, f.type) ∈ fs := by rw [← hmap]; exact List.mem_map.2 ⟨f, List.mem_of_getElem? hj, rfl⟩
      have hne := List.all_eq_true.1 hall _ hmem
      cases hft : tab f.type with
      | none => simp [hft] at hne
      | some fd => simp [sz, hft]
  rw [hplace] at hcs
  obtain ⟨cells', hf, hrc⟩ := fillV_ok (Z := Z) (φ := φ) _ ps qs.toList _ cs z.cells hp hzr hcs
  refine ⟨_, .agg cells', h, .agg cs cells' (by have := hrc.1; simpa using this) (fun i av x hi hx => hrc.2 i av x hi (by simpa using hx)), ?_⟩
  have hzv : (zeroValue t).run P w = .ok z w := by simp [zeroValue, typeInfo, hi, hz]
  simp only [Instr.build, Sem.run_bind, hzv, run_underlying hu, Result.andThen_ok, hm2, hf, Sem.run_pure]
end Go.Sep
namespace Go.Sep
open Go Go.RowKit
def makeSliceV (tab : Tab) (t : Nat) (l c : AV) (H : Heap) (K : AV → Heap → Prop) : Prop :=
  match tab t with
  | some d => match d.k with
    | .slice e => match tab e with
      | some ed => numV l fun n => numV c fun m => 0 ≤ n ∧ n ≤ m ∧ m * ed.bytes ≤ 140737488355328 ∧ m ≤ 9223372036854775807 ∧
          ∀ r, H r = none → K (.sl r ed.size 0 n.toNat) (H.set r (zerosA n.toNat ed.zero))
      | none => False
    | _ => False
  | none => False
theorem zerosA_get {n m : Nat} {z : List AV} (h : n ≤ m) {i : Nat} {av : AV} (hi : (zerosA n z)[i]? = some av) : (zerosA m z)[i]? = some av := by
  obtain ⟨k, rfl⟩ : ∃ k, m = n + k := ⟨m - n, by omega⟩
  unfold zerosA at *
  rw [← List.replicate_append_replicate, List.flatten_append, List.getElem?_append_left (List.getElem?_eq_some_iff.1 hi).1]; exact hi
theorem wrap64_id {n : Int} (h0 : -9223372036854775808 ≤ n) (h1 : n ≤ 9223372036854775807) : IntKind.i64.wrap n = n := IntWalk.i64_in n (by omega)
theorem makeSliceV_ok {P : Program} {tab : Tab} (hT : tab.Ok P) {Z : Fro} {φ : Pm} {B0 : Nat} {w0 w : World} {H F : Heap} (hd : Disj H F) (s : Sim Z φ B0 w0 (H.or F) w) {t : Nat} {l c : AV} {xl xc : Value}
    (cl : Cv Z φ l xl) (cc : Cv Z φ c xc) {K : AV → Heap → Prop} (h : makeSliceV tab t l c H K) :
    ∃ y w', (Instr.makeSlice t xl xc).run P w = .ok y w' ∧ UpV B0 w0 F Z φ K y w' := by
  unfold makeSliceV at h
  split at h
  case h_2 => exact h.elim
  rename_i d hdt
  split at h
  case h_2 => exact h.elim
  rename_i e hk
  split at h
  case h_2 => exact h.elim
  rename_i ed hed
  obtain ⟨k1, n, rfl, h⟩ := numV_ok cl h
  obtain ⟨k2, m, rfl, h0, h1, h2, h3, h⟩ := numV_ok cc h
  have ok := hT t d hdt
  have oke := hT e ed hed
  have hu := ok.k
  rw [hk] at hu
  simp only [TK.ok] at hu
  obtain ⟨i, z, hi, hsz, hby, hz, hzc⟩ := oke.info
  have hzr : RelL Z φ ed.zero z.cells.toList := by rw [← hzc]; exact RelL.constA _ _ _
  have hzeros := zeros_rel hzr (by rw [oke.zlen]; exact oke.pos) m.toNat
  rw [oke.zlen] at hzeros
  have e1 : IntKind.i64.wrap n = n := wrap64_id (by omega) (by omega)
  have e2 : IntKind.i64.wrap m = m := wrap64_id (by omega) (by omega)
  have hcomm : (ed.bytes : Int) * m = m * ed.bytes := Int.mul_comm _ _
  have g1 : ¬ (m < 0) := by omega
  have g2 : ¬ (281474976710656 < (ed.bytes : Int) * m) := by rw [hcomm]; omega
  have g3 : ¬ (n < 0) := by omega
  have g4 : ¬ (m < n) := by omega
  have hzl : (zerosA n.toNat ed.zero).length ≤ m.toNat * ed.size := by
    rw [zerosA_len, oke.zlen]; exact Nat.mul_le_mul_right _ (by omega)
  by_cases hm0 : m.toNat * ed.size = 0
  · have hm : m.toNat = 0 := by rcases Nat.mul_eq_zero.1 hm0 with h | h; exact h; have := oke.pos; omega
    have hn : n.toNat = 0 := by omega
    obtain ⟨r, φ', q1, q2, q3, q4, q5⟩ := s.allocF hd #[] e 0 (Nat.le_refl _) (zerosA n.toNat ed.zero) (by rw [hn]; simp [zerosA]) (by rw [hn]; intro i av hi; simp [zerosA] at hi)
    refine ⟨.slice (some ⟨w.heap.size, 0, none⟩) n.toNat m.toNat, _, ?_, _, _, Z, φ', h r q1, Fro.le_refl _, q2, q4, q5, ?_⟩
    · have hr0 : Array.map (fun (_ : Nat) => (default : Value)) (Array.range 0) = #[] := by apply Array.ext'; simp
      simp [Instr.makeSlice, run_underlying hu, asInt, asIntOf, typeInfo, hi, e1, e2, hby, g1, g2, g3, g4, sizeOf, hsz, hm0, hr0, newRow]
    · rw [hn, hm]; exact .slz _ _ _ _
  · have hcs : ((Array.range (m.toNat * ed.size)).map (fun i => z.cells[i % z.cells.size]!)).size = m.toNat * ed.size := by simp
    obtain ⟨r, φ', q1, q2, q3, q4, q5⟩ := s.allocF hd ((Array.range (m.toNat * ed.size)).map (fun i => z.cells[i % z.cells.size]!)) e (m.toNat * ed.size) (by rw [hcs]; exact Nat.le_refl _) (zerosA n.toNat ed.zero) hzl
      (fun i av hi => by
        obtain ⟨y, hy, hc⟩ := hzeros.get (zerosA_get (m := m.toNat) (by omega) hi)
        rw [Array.getElem?_toList] at hy
        exact ⟨y, hy, hc⟩)
    refine ⟨.slice (some ⟨w.heap.size, 0, none⟩) n.toNat m.toNat, _, ?_, _, _, Z, φ', h r q1, Fro.le_refl _, q2, q4, q5, .sl q3 (by omega) (by simp only; omega)⟩
    simp [Instr.makeSlice, run_underlying hu, asInt, asIntOf, typeInfo, hi, e1, e2, hby, g1, g2, g3, g4, sizeOf, hsz, hm0, zeroValue, hz, newRow]
def srcV (H : Heap) (sz : Nat) (x : AV) (K : List AV → Nat → Prop) : Prop :=
  match x with
  | .p .nil => K [] 0
  | .esl => K [] 0
  | .p (.sl es) => (∀ e ∈ es, e.length = sz) ∧ K (es.flatten.map .p) es.length
  | .sl r sz' off len => sz' = sz ∧ match H r with
    | some cs => off + len * sz ≤ cs.length ∧ K ((cs.drop off).take (len * sz)) len
    | none => False
  | _ => False
theorem srcV_ok {P : Program} {Z : Fro} {φ : Pm} {B0 : Nat} {w0 w : World} {H F : Heap} (s : Sim Z φ B0 w0 (H.or F) w) {sz : Nat} (hpos : 0 < sz) {x : AV} {v : Value} (c : Cv Z φ x v) {K : List AV → Nat → Prop} (h : srcV H sz x K) :
    ∃ a m cap vs xs, v = .slice a m cap ∧ K vs m ∧ vs.length = m * sz ∧ RelL Z φ vs xs ∧ m ≤ cap ∧
      ∀ w', w'.heap = w.heap → (Builtin.firstCells sz m v).run P w' = .ok xs.toArray w' := by
  have empty : ∀ (a : Option Addr) (cap : Nat) (w' : World), (Builtin.firstCells sz 0 (.slice a 0 cap)).run P w' = .ok (([] : List Value).toArray) w' := by
    intro a cap w'
    cases a with
    | none => simp [Builtin.firstCells]
    | some a => simp [Builtin.firstCells, loadCells, loadCellsFrom]
  cases c with
  | p hz =>
    cases hz with
    | nil => exact ⟨none, 0, 0, [], [], rfl, h, by simp, RelL.nil _ _, Nat.le_refl _, fun w' _ => empty _ _ w'⟩
    | emp a c =>
      obtain ⟨_, hK⟩ := h
      exact ⟨a, 0, c, [], [], rfl, hK, by simp, RelL.nil _ _, Nat.zero_le _, fun w' _ => empty _ _ w'⟩
    | sl es sz' b o c vals hc hs hz hv =>
      obtain ⟨hes, hK⟩ := h
      have hfl := flatten_len es hes
      have hg : ∀ (i : Nat) (av : AV), (es.flatten.map AV.p)[i]? = some av → ∃ y, w.cell? ⟨b, o + i, none⟩ = some y ∧ Cv Z φ av y := by
        intro i av hi
        rw [List.getElem?_map, flatten_get hpos es hes] at hi
        cases he : es[i / sz]? with
        | none => rw [he] at hi; cases hi
        | some e =>
          rw [he] at hi
          simp only [Option.bind_some] at hi
          cases hp : e[i % sz]? with
          | none => rw [hp] at hi; cases hi
          | some p =>
            rw [hp] at hi; cases hi
            have hlt := (List.getElem?_eq_some_iff.1 he).1
            have hse : sz' = sz := by rw [← hs _ (List.getElem_mem hlt), hes _ (List.getElem_mem hlt)]
            subst hse
            have hcz := hv _ e he _ p hp
            have hii : i / sz' * sz' + i % sz' = i := by rw [Nat.mul_comm]; exact Nat.div_add_mod i sz'
            rw [hii] at hcz
            have hil : i < es.length * sz' := by
              have h1 : (i / sz' + 1) * sz' ≤ es.length * sz' := Nat.mul_le_mul_right _ hlt
              rw [Nat.add_mul] at h1
              have := Nat.mod_lt i hpos
              omega
            exact ⟨_, s.froz _ _ _ (hz i hil), .p hcz⟩
      obtain ⟨xs, hr, hx⟩ := RelL.gather _ (fun i => w.cell? ⟨b, o + i, none⟩) hg
      have hvl : (es.flatten.map AV.p).length = es.length * sz := by rw [List.length_map, hfl]
      refine ⟨_, _, c, _, xs, rfl, hK, hvl, hr, hc, ?_⟩
      intro w' hw'
      refine run_firstCells_some w' sz es.length ⟨b, o, none⟩ es.length c xs (by rw [hr.1, hvl]) ?_
      intro j y hy
      rw [addr_add]
      have := hx j y hy
      simpa [World.cell?, hw'] using this
    | _ => exact h.elim
  | esl a => exact ⟨a, 0, 0, [], [], rfl, h, by simp, RelL.nil _ _, Nat.le_refl _, fun w' _ => empty _ _ w'⟩
  | slz r sz' off a =>
    obtain ⟨rfl, h⟩ := h
    split at h
    case h_2 => exact h.elim
    obtain ⟨_, hK⟩ := h
    exact ⟨a, 0, 0, _, [], rfl, hK, by simp, by simpa using RelL.nil Z φ, Nat.le_refl _, fun w' _ => empty _ _ w'⟩
  | sl hp hl hC =>
    rename_i r sz' off len cap pl
    obtain ⟨rfl, h⟩ := h
    split at h
    case h_2 => exact h.elim
    rename_i cs hH
    obtain ⟨hlen, hK⟩ := h
    obtain ⟨b, o, vs, xs, hx, hk, hvl, hr, hcell⟩ := ptrReads_ok (K := fun vs => K vs len) s (Cv.ptr (Z := Z) off hp) (n := len * sz') (by simp only [ptrReads]; rw [hH]; exact ⟨hlen, hK⟩)
    cases hx
    refine ⟨_, _, cap, vs, xs, rfl, hk, hvl, hr, hl, ?_⟩
    intro w' hw'
    refine run_firstCells_some w' sz' len _ len cap xs (by rw [hr.1, hvl]) ?_
    intro j y hy
    rw [addr_add]
    have := hcell j y hy
    simpa [World.cell?, hw'] using this
  | _ => exact h.elim
def lenV (tab : Tab) (t : Nat) (x : AV) (K : AV → Prop) : Prop :=
  match tab t with
  | some d => match d.k with
    | .slice _ => match x with
      | .p .nil => K (.p (.int .i64 0))
      | .esl => K (.p (.int .i64 0))
      | .p (.sl es) => K (.p (.int .i64 es.length))
      | .sl _ _ _ len => K (.p (.int .i64 len))
      | _ => False
    | .str => match x with
      | .p (.str s) => K (.p (.int .i64 s.size))
      | _ => False
    | _ => False
  | none => False
theorem lenV_ok {P : Program} {tab : Tab} (hT : tab.Ok P) {Z : Fro} {φ : Pm} {w : World} {t : Nat} {a : AV} {x : Value} (c : Cv Z φ a x) (ty : Nat) {K : AV → Prop} (h : lenV tab t a K) :
    ∃ v y, K v ∧ Cv Z φ v y ∧ (Builtin.len_ #[t] ty #[x]).run P w = .ok y w := by
  unfold lenV at h
  split at h
  case h_2 => exact h.elim
  rename_i d hdt
  have ok := hT t d hdt
  split at h
  · rename_i e hk
    have hu := ok.k
    rw [hk] at hu
    simp only [TK.ok] at hu
    have fin : ∀ (a : Option Addr) (n cap : Nat), (Builtin.len_ #[t] ty #[.slice a n cap]).run P w = .ok (.int .i64 n) w := by
      intro a n cap
      simp [Builtin.len_, run_underlying hu, goInt]
    cases c with
    | p hz =>
      cases hz with
      | nil => exact ⟨_, _, h, .p (.int _ _), fin _ _ _⟩
      | emp a c => exact ⟨_, _, h, .p (.int _ _), fin _ _ _⟩
      | sl es sz b o c vals hc hsz hz hv => exact ⟨_, _, h, .p (.int _ _), fin _ _ _⟩
      | _ => exact h.elim
    | esl a => exact ⟨_, _, h, .p (.int _ _), fin _ _ _⟩
    | slz r sz off a => exact ⟨_, _, h, .p (.int _ _), fin _ _ _⟩
    | sl hp hl hC => exact ⟨_, _, h, .p (.int _ _), fin _ _ _⟩
    | _ => exact h.elim
  · rename_i hk
    have hu := ok.k
    rw [hk] at hu
    simp only [TK.ok] at hu
    cases c with
    | p hz =>
      cases hz with
      | str s => exact ⟨_, _, h, .p (.int _ _), by simp [Builtin.len_, run_underlying hu, goInt]⟩
      | _ => exact h.elim
    | _ => exact h.elim
  · exact h.elim
def capV (tab : Tab) (t : Nat) (a : AV) (K : AV → Prop) : Prop :=
  match tab t with
  | some d => match d.k with
    | .slice _ => match a with
      | .p .nil => K (.p (.int .i64 0))
      | _ => False
    | _ => False
  | none => False
theorem capV_ok {P : Program} {tab : Tab} (hT : tab.Ok P) {Z : Fro} {φ : Pm} {w : World} {t : Nat} {a : AV} {x : Value} (c : Cv Z φ a x) (ty : Nat) {K : AV → Prop} (h : capV tab t a K) :
    ∃ v y, K v ∧ Cv Z φ v y ∧ (Builtin.cap_ #[t] ty #[x]).run P w = .ok y w := by
  unfold capV at h
  split at h
  case h_2 => exact h.elim
  rename_i d hdt
  have ok := hT t d hdt
  split at h
  case h_2 => exact h.elim
  rename_i e hk
  have hu := ok.k
  rw [hk] at hu
  simp only [TK.ok] at hu
  split at h
  case h_2 => exact h.elim
  cases c with
  | p hz =>
    cases hz with
    | nil => exact ⟨_, _, h, .p (.int _ _), by simp [Builtin.cap_, run_underlying hu, goInt]⟩
theorem splice_take {bcs new : List AV} {off L M : Nat} (h : off + L ≤ bcs.length) (hn : new.length = M) :
    ((splice bcs (off + L) new).drop off).take (L + M) = (bcs.drop off).take L ++ new := by
  unfold splice
  have hl1 : ((bcs.drop off).take L).length = L := by simp only [List.length_take, List.length_drop]; omega
  rw [List.append_assoc, List.drop_append_of_le_length (by simp only [List.length_take]; omega), List.drop_take, show off + L - off = L by omega,
    List.take_append, hl1, List.take_of_length_le (l := (bcs.drop off).take L) (by omega), show L + M - L = M by omega,
    List.take_append_of_le_length (by omega), List.take_of_length_le (l := new) (by omega)]
def baseV (H : Heap) (sz : Nat) (x : AV) (K : List AV → Nat → Heap → Prop) : Prop :=
  match x with
  | .p .nil => K [] 0 H
  | .esl => K [] 0 H
  | .sl r sz' off len => sz' = sz ∧ match H r with
    | some cs => off + len * sz ≤ cs.length ∧ K ((cs.drop off).take (len * sz)) len (H.del r)
    | none => False
  | _ => False
def appendV (tab : Tab) (t0 t1 : Nat) (s x : AV) (H : Heap) (K : AV → Heap → Prop) : Prop :=
  match tab t0, tab t1 with
  | some d, some d1 => match d.k, d1.k with
    | .slice e, .slice _ => match tab e with
      | some ed => srcV H ed.size x fun new m => baseV H ed.size s fun old n H1 =>
          (n + m) * ed.bytes ≤ 140737488355328 ∧ n + m ≤ 9223372036854775807 ∧ new.all AV.isCell = true ∧
          ∀ r, H r = none → K (.sl r ed.size 0 (n + m)) (H1.set r (old ++ new))
      | none => False
    | .slice e, .int _ => match tab e with
      | some ed => match s with
        | .p .nil => match x with
          | .p (.int _ n) => 0 < n ∧ n * ed.bytes ≤ 140737488355328 ∧ n ≤ 9223372036854775807 ∧ ∀ r, H r = none → K (.sl r ed.size 0 n.toNat) (H.set r (zerosA n.toNat ed.zero))
          | _ => False
        | _ => False
      | none => False
    | _, _ => False
  | _, _ => False
theorem appendZ_ok {P : Program} {tab : Tab} (hT : tab.Ok P) {Z : Fro} {φ : Pm} {B0 : Nat} {w0 w : World} {H F : Heap} (hd : Disj H F) (s : Sim Z φ B0 w0 (H.or F) w) {t0 t1 e : Nat} {d d1 ed : TD} {ki kx : IntKind}
    (hdt : tab t0 = some d) (hdt1 : tab t1 = some d1) (hk : d.k = .slice e) (hk1 : d1.k = .int ki) (hed : tab e = some ed) (ty : Nat) {n : Int} {K : AV → Heap → Prop} (h0 : 0 < n) (hb : n * ed.bytes ≤ 140737488355328) (h63 : n ≤ 9223372036854775807)
    (h : ∀ r, H r = none → K (.sl r ed.size 0 n.toNat) (H.set r (zerosA n.toNat ed.zero))) :
    ∃ y w', (Builtin.append_ #[t0, t1] ty #[.slice none 0 0, .int kx n]).run P w = .ok y w' ∧ UpV B0 w0 F Z φ K y w' := by
  have ok := hT t0 d hdt
  have ok1 := hT t1 d1 hdt1
  have oke := hT e ed hed
  have hu := ok.k
  rw [hk] at hu
  simp only [TK.ok] at hu
  have hu1 := ok1.k
  rw [hk1] at hu1
  simp only [TK.ok] at hu1
  obtain ⟨i, z, hi, hsz, hby, hz, hzc⟩ := oke.info
  have hzl : z.cells.size = ed.size := by have := congrArg List.length hzc; simp only [List.length_map, Array.length_toList] at this; rw [this, oke.zlen]
  have hpos := oke.pos
  obtain ⟨m, rfl⟩ : ∃ m : Nat, n = m := ⟨n.toNat, by omega⟩
  simp only [Int.toNat_natCast] at h
  have hzr : RelL Z φ ed.zero z.cells.toList := by rw [← hzc]; exact RelL.constA _ _ _
  have hzeros := zeros_rel hzr (by rw [oke.zlen]; exact oke.pos) m
  rw [oke.zlen] at hzeros
  have hb' : (0 + m) * ed.bytes ≤ 140737488355328 := by rw [Nat.zero_add]; omega
  have g1 : ¬ (m ≤ 0) := by omega
  have g3 := growslice_fits (old := 0) (need := 0 + m) (by omega) hb'
  rw [Nat.zero_add] at g3
  have g3' : ¬ (281474976710656 < Builtin.nextslicecap m 0 * ed.bytes) := by omega
  have g4 : ¬ ((9223372036854775807 : Int) < (m : Int)) := by omega
  have g5 : ¬ ((m : Int) < 0) := by omega
  have g6 : ¬ (281474976710656 < (m : Int) * ed.bytes) := by omega
  have g7 : ¬ (m * ed.size = 0) := by
    intro hh; rcases Nat.mul_eq_zero.1 hh with h | h <;> omega
  have e1 : IntKind.i64.wrap (m : Int) = m := wrap64_id (by omega) (by omega)
  have hge := grownCap_ge w m 0 e
  have hcs : (Builtin.zeroCells z.cells m ++ Builtin.zeroCells z.cells (grownCap w m 0 e - m)).size = grownCap w m 0 e * ed.size := by
    simp only [Array.size_append, size_zeroCells, hzl]
    rw [← Nat.add_mul]; congr 1; omega
  have hzz : (Builtin.zeroCells z.cells m).toList = ((Array.range (m * ed.size)).map (fun i => z.cells[i % z.cells.size]!)).toList := by simp [Builtin.zeroCells, hzl]
  obtain ⟨r, φ', q1, q2, q3, q4, q5⟩ := s.drew.allocF hd (Builtin.zeroCells z.cells m ++ Builtin.zeroCells z.cells (grownCap w m 0 e - m)) e (grownCap w m 0 e * ed.size) (by rw [hcs]; exact Nat.le_refl _) (zerosA m ed.zero)
    (by rw [zerosA_len, oke.zlen]; exact Nat.mul_le_mul_right _ hge)
    (fun i av hi => by
      obtain ⟨y, hy, hc⟩ := hzeros.get hi
      rw [← hzz] at hy
      refine ⟨y, ?_, hc⟩
      have hil : i < (Builtin.zeroCells z.cells m).toList.length := (List.getElem?_eq_some_iff.1 hy).1
      rw [Array.getElem?_append_left (by simpa using hil)]
      simpa using hy)
  refine ⟨.slice (some ⟨w.heap.size, 0, none⟩) m (grownCap w m 0 e), _, ?_, _, _, Z, φ', h r q1, Fro.le_refl _, q2, q4, q5, .sl q3 hge (by simp only; omega)⟩
  simp [Builtin.append_, run_underlying hu, run_underlying hu1, TD.run_size oke, typeInfo, zeroValue, hi, hz, hby, asInt, asIntOf, e1, g3', g4, g5, g6, Question.forced, Builtin.firstCells, newRow, grownCap]
  rw [if_neg (by omega), if_neg g7]
theorem appendV_ok {P : Program} {tab : Tab} (hT : tab.Ok P) {Z : Fro} {φ : Pm} {B0 : Nat} {w0 w : World} {H F : Heap} (hd : Disj H F) (s : Sim Z φ B0 w0 (H.or F) w) {t0 t1 : Nat} {sv x : AV} {xs xx : Value}
    (cs : Cv Z φ sv xs) (cx : Cv Z φ x xx) (ty : Nat) {K : AV → Heap → Prop} (h : appendV tab t0 t1 sv x H K) :
    ∃ y w', (Builtin.append_ #[t0, t1] ty #[xs, xx]).run P w = .ok y w' ∧ UpV B0 w0 F Z φ K y w' := by
  unfold appendV at h
  split at h
  case h_2 => exact h.elim
  rename_i d d1 hdt hdt1
  split at h
  case h_3 => exact h.elim
  case h_2 e ki hk hk1 =>
    split at h
    case h_2 => exact h.elim
    rename_i ed hed
    split at h
    case h_2 => exact h.elim
    split at h
    case h_2 => exact h.elim
    rename_i kx n
    obtain ⟨h0, h1, h2, h3⟩ := h
    cases cs with
    | p hz0 => cases hz0 with
      | nil => cases cx with
        | p hx0 => cases hx0 with
          | int => exact appendZ_ok hT hd s hdt hdt1 hk hk1 hed ty h0 h1 h2 h3
  rename_i e e1 hk hk1
  split at h
  case h_2 => exact h.elim
  rename_i ed hed
  have ok := hT t0 d hdt
  have ok1 := hT t1 d1 hdt1
  have oke := hT e ed hed
  have hu := ok.k
  rw [hk] at hu
  simp only [TK.ok] at hu
  have hu1 := ok1.k
  rw [hk1] at hu1
  simp only [TK.ok] at hu1
  obtain ⟨i, z, hi, hsz, hby, hz, hzc⟩ := oke.info
  have hzl : z.cells.size = ed.size := by have := congrArg List.length hzc; simp only [List.length_map, Array.length_toList] at this; rw [this, oke.zlen]
  have hpos := oke.pos
  obtain ⟨xa, m, xcap, new, news, rfl, hK, hnl, hnr, _, hnrun⟩ := srcV_ok (P := P) s hpos cx h
  have hnewsl : news.length = m * ed.size := by rw [hnr.1, hnl]
  have grow : ∀ (base : Option Addr) (n c : Nat) (old : List AV) (olds : List Value) (H1 : Heap), Heap.le H1 H → RelL Z φ old olds → old.length = n * ed.size →
      (Builtin.firstCells ed.size n (.slice base n c)).run P w.drew = .ok olds.toArray w.drew → c < n + m → (n + m) * ed.bytes ≤ 140737488355328 → n + m ≤ 9223372036854775807 →
      (∀ r, H r = none → K (.sl r ed.size 0 (n + m)) (H1.set r (old ++ new))) →
      ∃ y w', (Builtin.append_ #[t0, t1] ty #[.slice base n c, .slice xa m xcap]).run P w = .ok y w' ∧ UpV B0 w0 F Z φ K y w' := by
    intro base n c old olds H1 hle hor hol hrun hlt hb h63 hK
    have g1 : ¬ (n + m ≤ c) := by omega
    have g3 := growslice_fits (old := c) hlt hb
    have g3' : ¬ (281474976710656 < Builtin.nextslicecap (n + m) c * ed.bytes) := by omega
    have g4 : ¬ ((9223372036854775807 : Int) < (n : Int) + (m : Int)) := by omega
    have hge := grownCap_ge w (n + m) c e
    have hrel : RelL Z φ (old ++ new) (olds ++ news) := hor.append hnr
    have hcur : (olds ++ news).length = (n + m) * ed.size := by rw [hrel.1, List.length_append, hol, hnl, Nat.add_mul]
    have hcs : (olds.toArray ++ news.toArray ++ Builtin.zeroCells z.cells (grownCap w (n + m) c e - (n + m))).size = grownCap w (n + m) c e * ed.size := by
      simp only [Array.size_append, List.size_toArray, size_zeroCells, hzl]
      simp only [List.length_append] at hcur
      rw [hcur, ← Nat.add_mul]; congr 1; omega
    obtain ⟨r, φ', q1, q2, q3, q4, q5⟩ := s.drew.allocF hd (olds.toArray ++ news.toArray ++ Builtin.zeroCells z.cells (grownCap w (n + m) c e - (n + m))) e (grownCap w (n + m) c e * ed.size) (by rw [hcs]; exact Nat.le_refl _) (old ++ new)
      (by rw [← hrel.1, hcur]; exact Nat.mul_le_mul_right _ hge)
      (fun i av hi => by
        obtain ⟨y, hy, hc⟩ := hrel.get hi
        refine ⟨y, ?_, hc⟩
        have hil : i < (olds ++ news).length := (List.getElem?_eq_some_iff.1 hy).1
        rw [Array.getElem?_append_left (by simpa using hil)]
        simpa using hy)
    have hle2 : Heap.le (H1.set r (old ++ new)) (H.set r (old ++ new)) := Heap.set_le hle
    refine ⟨.slice (some ⟨w.heap.size, 0, none⟩) (n + m) (grownCap w (n + m) c e), _, ?_, _, _, Z, φ', hK r q1, Fro.le_refl _, q2, q4.of_le hle2, q5.forget (Heap.or_le hle2 q4), .sl q3 hge (by simp only; omega)⟩
    simp [Builtin.append_, run_underlying hu, run_underlying hu1, TD.run_size oke, typeInfo, zeroValue, hi, hz, hby, Builtin.lenOf, g1, g3', g4, Question.forced, hrun, hnrun w.drew rfl, newRow, grownCap]
    congr 2
    apply Array.ext'
    simp [List.append_assoc]
  have none_ : ∀ (base : Option Addr) (H1 : Heap), Heap.le H1 H → m = 0 → (∀ r, H r = none → K (.sl r ed.size 0 (0 + m)) (H1.set r ([] ++ new))) →
      ∃ y w', (Builtin.append_ #[t0, t1] ty #[.slice base 0 0, .slice xa m xcap]).run P w = .ok y w' ∧ UpV B0 w0 F Z φ K y w' := by
    intro base H1 hle hm hK
    subst hm
    have hnew : new = [] := List.eq_nil_of_length_eq_zero (by omega)
    have hnews : news = [] := List.eq_nil_of_length_eq_zero (by omega)
    subst hnew; subst hnews
    obtain ⟨r, φ', q1, q2, q3, q4, q5⟩ := s.ghost
    have hHr : H r = none := by
      cases hH : H r with
      | none => rfl
      | some b => rw [Heap.or_left hH] at q1; cases q1
    have hFr : F r = none := by simpa [Heap.or, hHr] using q1
    have hd2 : Disj (H.set r []) F := hd.set hFr
    have hle2 : Heap.le (H1.set r []) (H.set r []) := Heap.set_le hle
    rw [← Heap.or_set] at q5
    refine ⟨.slice base 0 0, w, ?_, _, _, Z, φ', hK r hHr, Fro.le_refl _, q3, hd2.of_le hle2, q5.forget (Heap.or_le hle2 hd2), .slz _ _ _ _⟩
    have h0 := hnrun w rfl
    cases base with
    | none => simp [Builtin.append_, run_underlying hu, run_underlying hu1, TD.run_size oke, Builtin.lenOf, h0]
    | some a => simp [Builtin.append_, run_underlying hu, run_underlying hu1, TD.run_size oke, Builtin.lenOf, h0, storeCells]
  have nilrun : ∀ (base : Option Addr), (Builtin.firstCells ed.size 0 (.slice base 0 0)).run P w.drew = .ok (([] : List Value).toArray) w.drew := by
    intro base
    cases base with
    | none => simp [Builtin.firstCells]
    | some a => simp [Builtin.firstCells, loadCells, loadCellsFrom]
  have fromNil : ∀ (base : Option Addr) (H1 : Heap), Heap.le H1 H → ((0 + m) * ed.bytes ≤ 140737488355328 ∧ 0 + m ≤ 9223372036854775807 ∧ new.all AV.isCell = true ∧
      ∀ r, H r = none → K (.sl r ed.size 0 (0 + m)) (H1.set r ([] ++ new))) →
      ∃ y w', (Builtin.append_ #[t0, t1] ty #[.slice base 0 0, .slice xa m xcap]).run P w = .ok y w' ∧ UpV B0 w0 F Z φ K y w' := by
    intro base H1 hle hK
    by_cases hm : m = 0
    · exact none_ base H1 hle hm hK.2.2.2
    · exact grow base 0 0 [] [] H1 hle (RelL.nil _ _) (by simp) (nilrun base) (by omega) hK.1 hK.2.1 hK.2.2.2
  have hdel : ∀ r, Heap.le (H.del r) H := by
    intro r x b hx
    by_cases h : x = r
    · subst h; rw [Heap.del_same] at hx; cases hx
    · rwa [Heap.del_other h] at hx
  cases cs with
  | p hz0 =>
    cases hz0 with
    | nil => exact fromNil none H (Heap.le_refl _) hK
    | _ => exact hK.elim
  | esl a => exact fromNil a H (Heap.le_refl _) hK
  | slz r sz' off a =>
    obtain ⟨rfl, hK⟩ := hK
    split at hK
    case h_2 => exact hK.elim
    obtain ⟨_, hK⟩ := hK
    simp only [Nat.zero_mul, List.take_zero] at hK
    exact fromNil a (H.del r) (hdel r) hK
  | sl hp hl hC =>
    rename_i r sz' off len cap pl
    obtain ⟨rfl, hK⟩ := hK
    split at hK
    case h_2 => exact hK.elim
    rename_i bcs hH
    obtain ⟨hlen, hb, h63, hcell, hK⟩ := hK
    by_cases hroom : len + m ≤ cap
    · have hCm : (len + m) * ed.size ≤ cap * ed.size := Nat.mul_le_mul_right _ hroom
      rw [Nat.add_mul] at hCm
      obtain ⟨w', hrun, s'⟩ := s.store (Heap.or_left hH) hp (off := off + len * ed.size) (vs := new) (xs := news) (by omega) (by omega) hnr hcell P
      have hsr : ((H.or F).set r (splice bcs (off + len * ed.size) new)) r = some (splice bcs (off + len * ed.size) new) := Heap.set_same _ _ _
      obtain ⟨r', φ', q1, q2, q3, q4, q5⟩ := s'.sub hsr hp off (len * ed.size + m * ed.size)
      have hr'r : r' ≠ r := fun e => by subst e; rw [hsr] at q1; cases q1
      rw [Heap.set_other hr'r] at q1
      have hHr : H r' = none := by
        cases hH : H r' with
        | none => rfl
        | some b => rw [Heap.or_left hH] at q1; cases q1
      have hFr : F r' = none := by simpa [Heap.or, hHr] using q1
      have hFr0 : F r = none := hd.fresh hH
      have hblk : ((splice bcs (off + len * ed.size) new).drop off).take (len * ed.size + m * ed.size) = (bcs.drop off).take (len * ed.size) ++ new := by
        exact splice_take hlen hnl
      rw [hblk] at q5
      have heq : (((H.or F).set r (splice bcs (off + len * ed.size) new)).del r).set r' ((bcs.drop off).take (len * ed.size) ++ new) = ((H.del r).set r' ((bcs.drop off).take (len * ed.size) ++ new)).or F := by
        rw [Heap.or_set, Heap.or_del hFr0]
        funext x
        simp only [Heap.set, Heap.del]
        by_cases hx : x = r' <;> by_cases hx2 : x = r <;> simp [hx, hx2]
      rw [heq] at q5
      refine ⟨.slice (some ⟨pl.b, pl.o + off, none⟩) (len + m) cap, w', ?_, _, _, Z, φ', hK r' hHr, Fro.le_refl _, q3, (hd.del).set hFr, q5, ?_⟩
      · have h0 := hnrun w rfl
        have hst : (storeCells (⟨pl.b, pl.o + off + len * ed.size, none⟩ : Addr) news 0).run P w = .ok () w' := by
          rw [Nat.add_assoc]; exact hrun
        simp [Builtin.append_, run_underlying hu, run_underlying hu1, TD.run_size oke, Builtin.lenOf, h0, hroom, addr_add, hst]
      · exact .sl (pl := ⟨pl.b, pl.o + off, pl.C - off⟩) q4 hroom (by simp only; omega)
    · obtain ⟨b, o, vs, oxs, hx, hk, hvl, hr, hcellr⟩ := ptrReads_ok (K := fun vs => vs = (bcs.drop off).take (len * ed.size)) s (Cv.ptr (Z := Z) off hp) (n := len * ed.size) (by simp only [ptrReads]; rw [hH]; exact ⟨hlen, rfl⟩)
      cases hx
      subst hk
      refine grow _ len cap _ oxs (H.del r) (hdel r) hr hvl ?_ (by omega) hb h63 hK
      refine run_firstCells_some w.drew ed.size len _ len cap oxs (by rw [hr.1, hvl]) ?_
      intro j y hy
      rw [addr_add, World.cell?_drew]
      exact hcellr j y hy
  | _ => exact hK.elim
end Go.Sep
namespace Go.Sep
open Go Go.RowKit
def bitsI (op : BinOp) (k : IntKind) (x y : Int) : Int :=
  let a := BitVec.ofInt k.bits x
  let b := BitVec.ofInt k.bits y
  k.wrap (match op with
    | .and => (a &&& b).toNat
    | .or => (a ||| b).toNat
    | .xor => (a ^^^ b).toNat
    | _ => (a &&& ~~~b).toNat)
def eqS (k : TK) (a b : AV) : Option Bool :=
  match k, a, b with
  | .int _, .p (.int k x), .p (.int k' y) => if k = k' then some (decide (x = y)) else none
  | .bool, .p (.bool x), .p (.bool y) => some (x == y)
  | .str, .p (.str x), .p (.str y) => some (x.toList == y.toList)
  | _, _, _ => none
def eF_ (tab : Tab) (xs ys : List AV) : List (Nat × Nat) → Option Bool
  | [] => some true
  | (o, ft) :: fs =>
    match tab ft, xs[o]?, ys[o]? with
    | some fd, some a, some b => match eqS fd.k a b, eF_ tab xs ys fs with
      | some r, some q => some (r && q)
      | _, _ => none
    | _, _, _ => none
def isNilV (k : TK) (a : AV) : Option Bool :=
  match k, a with
  | .slice _, .p .nil => some true
  | .slice _, .p (.sl (_ :: _)) => some false
  | .slice _, .sl _ _ _ (_ + 1) => some false
  | .ptr _, .nilp => some true
  | .ptr _, .ptr _ _ => some false
  | .ptr _, .fp _ => some false
  | .func, .nilfn => some true
  | .func, .fn _ _ => some false
  | _, _ => none
def eqV (tab : Tab) (t : Nat) (x y : AV) : Option Bool :=
  match tab t with
  | none => none
  | some d =>
    match x, y with
    | .agg xs, .agg ys => match d.k with
      | .struct fs => eF_ tab xs ys fs
      | _ => none
    | x, y => match d.k with
      | .bool => match x, y with
        | .p (.bool a), .p (.bool b) => some (a == b)
        | _, _ => none
      | k => match isNilV k x, isNilV k y with
        | some r, some true => some r
        | some true, some r => some r
        | _, _ => none
def sliceLike : AV → Bool
  | .p .nil => true
  | .p (.sl _) => true
  | .sl _ _ _ _ => true
  | .esl => true
  | _ => false
def unkV (tab : Tab) (t : Nat) (x y : AV) (A : Prop) : Prop :=
  match tab t with
  | some d => match d.k with
    | .slice _ => match y with
      | .p .nil => sliceLike x = true ∧ A
      | _ => False
    | _ => False
  | none => False
def binV (tab : Tab) (op : BinOp) (t : Nat) (x y : AV) (K : AV → Prop) : Prop :=
  match x, y with
  | .p (.int k a), .p (.int k' b) =>
    match op with
    | .shl => 0 ≤ b ∧ K (.p (.int k (k.wrap (a * 2 ^ (min b.toNat k.bits)))))
    | .shr => 0 ≤ b ∧ K (.p (.int k (a.fdiv (2 ^ (min b.toNat k.bits)))))
    | .add => k = k' ∧ K (.p (.int k (k.wrap (a + b))))
    | .sub => k = k' ∧ K (.p (.int k (k.wrap (a - b))))
    | .mul => k = k' ∧ K (.p (.int k (k.wrap (a * b))))
    | .quo => k = k' ∧ b ≠ 0 ∧ K (.p (.int k (k.wrap (a.tdiv b))))
    | .rem => k = k' ∧ b ≠ 0 ∧ K (.p (.int k (a.tmod b)))
    | .and => k = k' ∧ K (.p (.int k (bitsI .and k a b)))
    | .or => k = k' ∧ K (.p (.int k (bitsI .or k a b)))
    | .xor => k = k' ∧ K (.p (.int k (bitsI .xor k a b)))
    | .andNot => k = k' ∧ K (.p (.int k (bitsI .andNot k a b)))
    | .eql => k = k' ∧ K (.p (.bool (decide (a = b))))
    | .neq => k = k' ∧ K (.p (.bool (!decide (a = b))))
    | .lss => k = k' ∧ K (.p (.bool (decide (a < b))))
    | .leq => k = k' ∧ K (.p (.bool (decide (a ≤ b))))
    | .gtr => k = k' ∧ K (.p (.bool (decide (b < a))))
    | .geq => k = k' ∧ K (.p (.bool (decide (b ≤ a))))
  | .p (.str a), .p (.str b) =>
    match op with
    | .add => a.size + b.size ≤ 9223372036854775807 ∧ K (.p (.str (a ++ b)))
    | .eql => K (.p (.bool (a.toList == b.toList)))
    | .neq => K (.p (.bool (!(a.toList == b.toList))))
    | _ => False
  | x, y =>
    match op, eqV tab t x y with
    | .eql, some r => K (.p (.bool r))
    | .neq, some r => K (.p (.bool (!r)))
    | .eql, none => unkV tab t x y (K .ub)
    | .neq, none => unkV tab t x y (K .ub)
    | _, _ => False
theorem eqS_ok {P : Program} {tab : Tab} (_hT : tab.Ok P) {Z : Fro} {φ : Pm} {w : World} {t : Nat} {d : TD} (ok : TD.Ok P t d) {a b : AV} {x y : Value} (ca : Cv Z φ a x) (cb : Cv Z φ b y) {r : Bool} (h : eqS d.k a b = some r) (n : Nat) :
    (Op.equalIn (n + 1) t x y).run P w = .ok r w := by
  unfold eqS at h
  have hk := ok.k
  split at h
  · rename_i k k1 x1 k2 y1 hkk
    rw [hkk] at hk
    split at h
    case isFalse => cases h
    rename_i hkeq
    subst hkeq
    cases ca with | p hz => cases hz; cases cb with | p hz2 => cases hz2; cases h; exact run_equalIn_int w n t k1 k x1 y1 hk
  · rename_i x1 y1 hkk
    rw [hkk] at hk
    cases ca with | p hz => cases hz; cases cb with | p hz2 => cases hz2; cases h; exact run_equalIn_bool' w n t x1 y1 hk
  · rename_i x1 y1 hkk
    rw [hkk] at hk
    cases ca with | p hz => cases hz; cases cb with | p hz2 => cases hz2; cases h; exact run_equalIn_string w n t x1 y1 hk
  · cases h
theorem part_one {P : Program} {w : World} {t : Nat} {d : TD} (ok : TD.Ok P t d) (hag : d.k.agg = false) {cs : Array Value} {o : Nat} {x : Value} (h : cs[o]? = some x) : (part t cs o).run P w = .ok x w := by
  simp [part, TK.ok_agg ok.k, hag, h]
theorem eqS_agg {k : TK} {a b : AV} {r : Bool} (h : eqS k a b = some r) : k.agg = false := by
  unfold eqS at h; split at h <;> first | rfl | cases h
theorem eqFieldsV_ok {P : Program} {tab : Tab} (hT : tab.Ok P) {Z : Fro} {φ : Pm} {w : World} {xs ys : List AV} {xa ya : Array Value}
    (hx : ∀ (i : Nat) (av : AV) (x : Value), xs[i]? = some av → xa[i]? = some x → Cv Z φ av x) (hxs : xa.size = xs.length)
    (hy : ∀ (i : Nat) (av : AV) (x : Value), ys[i]? = some av → ya[i]? = some x → Cv Z φ av x) (hys : ya.size = ys.length) (n : Nat) :
    ∀ (fields : List Field) (r : Bool), (∀ f ∈ fields, f.name ≠ "_") → eF_ tab xs ys (fields.map fun f => (f.offset, f.type)) = some r →
      (Op.eqFields (n + 1) xa ya fields).run P w = .ok r w := by
  intro fields
  induction fields with
  | nil => intro r _ h; simp only [List.map_nil, eF_, Option.some.injEq] at h; subst h; rfl
  | cons f fields ih =>
    intro r hn h
    simp only [List.map_cons, eF_] at h
    split at h
    case h_2 => cases h
    rename_i fd a b hft hxa hyb
    split at h
    case h_2 => cases h
    rename_i r1 r2 h1 h2
    cases h
    have okf := hT _ fd hft
    have hag := eqS_agg h1
    have gx : ∃ x, xa[f.offset]? = some x := by
      have := (List.getElem?_eq_some_iff.1 hxa).1
      exact ⟨xa[f.offset]'(by omega), Array.getElem?_eq_getElem _⟩
    have gy : ∃ y, ya[f.offset]? = some y := by
      have := (List.getElem?_eq_some_iff.1 hyb).1
      exact ⟨ya[f.offset]'(by omega), Array.getElem?_eq_getElem _⟩
    obtain ⟨x, hx'⟩ := gx
    obtain ⟨y, hy'⟩ := gy
    have e1 := eqS_ok (w := w) hT okf (hx _ _ _ hxa hx') (hy _ _ _ hyb hy') h1 n
    have e2 := ih r2 (fun g hg => hn g (by simp [hg])) h2
    have hnm : f.name ≠ "_" := hn f (by simp)
    simp only [Op.eqFields]
    rw [if_pos hnm]
    simp only [Sem.run_bind, part_one okf hag hx', part_one okf hag hy', Result.andThen_ok, e1]
    cases r1 with
    | true => simp [e2]
    | false => simp
theorem isNilV_ok {P : Program} {Z : Fro} {φ : Pm} {t : Nat} {d : TD} (ok : TD.Ok P t d) {a : AV} {x : Value} {r : Bool} (h : isNilV d.k a = some r) (c : Cv Z φ a x) :
    (∃ e base n cap, P.underlying t = some (.slice e) ∧ x = .slice base n cap ∧ r = base.isNone) ∨
    (∃ e ad, P.underlying t = some (.pointer e) ∧ x = .pointer ad ∧ r = ad.isNone) ∨
    (∃ a1 b1 c1, P.underlying t = some (.func a1 b1 c1) ∧ ((x = .nilFunc ∧ r = true) ∨ (∃ f u v, x = .func f u v ∧ r = false))) := by
  have hk := ok.k
  unfold isNilV at h
  split at h <;> (try cases h) <;> (rename_i hkk; rw [hkk] at hk; simp only [TK.ok] at hk)
  · cases c with | p hz => cases hz; exact .inl ⟨_, _, _, _, hk, rfl, rfl⟩
  · cases c with | p hz => cases hz; exact .inl ⟨_, _, _, _, hk, rfl, rfl⟩
  · cases c; exact .inl ⟨_, _, _, _, hk, rfl, rfl⟩
  · cases c; exact .inr (.inl ⟨_, _, hk, rfl, rfl⟩)
  · cases c; exact .inr (.inl ⟨_, _, hk, rfl, rfl⟩)
  · cases c; exact .inr (.inl ⟨_, _, hk, rfl, rfl⟩)
  · cases c; obtain ⟨a1, b1, c1, hk⟩ := hk; exact .inr (.inr ⟨a1, b1, c1, hk, .inl ⟨rfl, rfl⟩⟩)
  · cases c; obtain ⟨a1, b1, c1, hk⟩ := hk; exact .inr (.inr ⟨a1, b1, c1, hk, .inr ⟨_, _, _, rfl, rfl⟩⟩)
theorem eqNil_ok {P : Program} {Z : Fro} {φ : Pm} {w : World} {t : Nat} {d : TD} (ok : TD.Ok P t d) {a b : AV} {x y : Value} (ca : Cv Z φ a x) (cb : Cv Z φ b y) {r q : Bool}
    (ha : isNilV d.k a = some r) (hb : isNilV d.k b = some q) (hrq : r = true ∨ q = true) :
    (∀ n, (Op.equalIn (n + 1) t x y).run P w = .ok (r && q) w) ∧ (∀ op o o', (eqGuard op t o o' x y).run P w = .ok () w) ∧ binOp .eql t x y = (do pure (.bool (← Op.equal t x y))) ∧ binOp .neq t x y = (do pure (.bool (!(← Op.equal t x y)))) := by
  have hg : ∀ {x y : Value}, ((∃ base n cap, x = Value.slice base n cap) ∧ (∃ base n cap, y = Value.slice base n cap)) ∨ ((∃ ad, x = Value.pointer ad) ∧ (∃ ad, y = Value.pointer ad)) ∨
      ((x = .nilFunc ∨ (∃ f u v, x = Value.func f u v)) ∧ (y = .nilFunc ∨ (∃ f u v, y = Value.func f u v))) →
      (∀ op o o', (eqGuard op t o o' x y).run P w = .ok () w) ∧ binOp .eql t x y = (do pure (.bool (← Op.equal t x y))) ∧ binOp .neq t x y = (do pure (.bool (!(← Op.equal t x y)))) := by
    intro x y hx
    rcases hx with ⟨⟨_, _, _, rfl⟩, ⟨_, _, _, rfl⟩⟩ | ⟨⟨_, rfl⟩, ⟨_, rfl⟩⟩ | ⟨rfl | ⟨_, _, _, rfl⟩, rfl | ⟨_, _, _, rfl⟩⟩ <;>
      exact ⟨(fun op o o' => by cases op <;> simp [eqGuard]), rfl, rfl⟩
  rcases isNilV_ok ok ha ca with ⟨e, base, n, c, hu, rfl, rfl⟩ | ⟨e, ad, hu, rfl, rfl⟩ | ⟨a1, b1, c1, hu, hr⟩
  · rcases isNilV_ok ok hb cb with ⟨e', base', n', c', hu', rfl, rfl⟩ | ⟨e', ad', hu', rfl, rfl⟩ | ⟨a1', b1', c1', hu', hr'⟩
    · refine ⟨?_, hg (.inl ⟨⟨_, _, _, rfl⟩, ⟨_, _, _, rfl⟩⟩)⟩
      cases base <;> cases base' <;> first | (simp at hrq; done) | (intro n; simp [Op.equalIn, run_underlying hu])
    · rw [hu] at hu'; cases hu'
    · rw [hu] at hu'; cases hu'
  · rcases isNilV_ok ok hb cb with ⟨e', base', n', c', hu', rfl, rfl⟩ | ⟨e', ad', hu', rfl, rfl⟩ | ⟨a1', b1', c1', hu', hr'⟩
    · rw [hu] at hu'; cases hu'
    · refine ⟨?_, hg (.inr (.inl ⟨⟨_, rfl⟩, ⟨_, rfl⟩⟩))⟩
      cases ad <;> cases ad' <;> first | (simp at hrq; done) | (intro n; simp [Op.equalIn, run_underlying hu])
    · rw [hu] at hu'; cases hu'
  · rcases hr with ⟨rfl, rfl⟩ | ⟨f, u, v, rfl, rfl⟩
    · rcases isNilV_ok ok hb cb with ⟨e', base', n', c', hu', rfl, rfl⟩ | ⟨e', ad', hu', rfl, rfl⟩ | ⟨a1', b1', c1', hu', hr'⟩
      · rw [hu] at hu'; cases hu'
      · rw [hu] at hu'; cases hu'
      · rcases hr' with ⟨rfl, rfl⟩ | ⟨f, u, v, rfl, rfl⟩
        · exact ⟨(by intro n; simp [Op.equalIn, run_underlying hu]), hg (.inr (.inr ⟨.inl rfl, .inl rfl⟩))⟩
        · exact ⟨(by intro n; simp [Op.equalIn, run_underlying hu]), hg (.inr (.inr ⟨.inl rfl, .inr ⟨_, _, _, rfl⟩⟩))⟩
    · rcases isNilV_ok ok hb cb with ⟨e', base', n', c', hu', rfl, rfl⟩ | ⟨e', ad', hu', rfl, rfl⟩ | ⟨a1', b1', c1', hu', hr'⟩
      · rw [hu] at hu'; cases hu'
      · rw [hu] at hu'; cases hu'
      · rcases hr' with ⟨rfl, rfl⟩ | ⟨f', u', v', rfl, rfl⟩
        · exact ⟨(by intro n; simp [Op.equalIn, run_underlying hu]), hg (.inr (.inr ⟨.inr ⟨_, _, _, rfl⟩, .inl rfl⟩))⟩
        · simp at hrq
theorem eqV_ok {P : Program} {tab : Tab} (hT : tab.Ok P) {Z : Fro} {φ : Pm} {w : World} {t : Nat} {a b : AV} {x y : Value} (ca : Cv Z φ a x) (cb : Cv Z φ b y) {r : Bool} (h : eqV tab t a b = some r) :
    (Op.equal t x y).run P w = .ok r w ∧ (∀ op o o', (eqGuard op t o o' x y).run P w = .ok () w) ∧ binOp .eql t x y = (do pure (.bool (← Op.equal t x y))) ∧ binOp .neq t x y = (do pure (.bool (!(← Op.equal t x y)))) := by
  unfold eqV at h
  split at h
  · cases h
  rename_i d hdt
  have ok := hT t d hdt
  split at h
  · rename_i xs ys
    split at h
    case h_2 => cases h
    rename_i fs hk
    have hkk := ok.k
    rw [hk] at hkk
    obtain ⟨fields, hu, hmap, h1, h2, h3⟩ := hkk
    cases ca with
    | agg _ xa hxs hx =>
      cases cb with
      | agg _ ya hys hy =>
        refine ⟨?_, ?_, ?_, ?_⟩
        · have hfo : P.fieldsOf t = fields := by simp [Program.fieldsOf, hu]
          unfold Op.equal Op.maxDepth
          rw [show (10000 : Nat) = 9998 + 1 + 1 from rfl, run_equalIn_struct w _ t xa ya (by rw [hfo]; exact hu) h1, hfo]
          rw [← hmap] at h
          exact eqFieldsV_ok hT hx hxs hy hys _ _ _ h3 h
        · intro op o o'
          exact run_eqGuard_agg w op t o o' xa ya h2
        · rfl
        · rfl
  · split at h
    · rename_i hk
      split at h
      case h_2 => cases h
      have hkk := ok.k
      rw [hk] at hkk
      cases ca with
      | p hz =>
        cases hz
        cases cb with
        | p hz2 =>
          cases hz2
          cases h
          refine ⟨?_, ?_, ?_, ?_⟩
          · exact run_equalIn_bool' w 9999 t _ _ hkk
          · intro op o o'; cases op <;> simp [eqGuard]
          · rfl
          · rfl
    · split at h
      · rename_i r1 h1 h2
        cases h
        obtain ⟨g1, g2⟩ := eqNil_ok (w := w) ok ca cb h1 h2 (.inr rfl)
        exact ⟨by have := g1 9999; rwa [Bool.and_true] at this, g2⟩
      · rename_i r1 h1 h2
        cases h
        obtain ⟨g1, g2⟩ := eqNil_ok (w := w) ok ca cb h1 h2 (.inl rfl)
        exact ⟨by have := g1 9999; rwa [Bool.true_and] at this, g2⟩
      · cases h
end Go.Sep
namespace Go.Sep
open Go Go.RowKit
theorem sliceLike_ok {Z : Fro} {φ : Pm} {a : AV} {x : Value} (c : Cv Z φ a x) (h : sliceLike a = true) : ∃ b n k, x = .slice b n k := by
  cases c with
  | p hz => cases hz <;> first | exact ⟨_, _, _, rfl⟩ | simp [sliceLike] at h
  | slz r sz off a => exact ⟨_, _, _, rfl⟩
  | sl h1 h2 h3 => exact ⟨_, _, _, rfl⟩
  | esl a => exact ⟨_, _, _, rfl⟩
  | _ => simp [sliceLike] at h
theorem unkV_ok {P : Program} {tab : Tab} (hT : tab.Ok P) {Z : Fro} {φ : Pm} {w : World} {t : Nat} {a b : AV} {x y : Value} (ca : Cv Z φ a x) (cb : Cv Z φ b y) {A : Prop} (h : unkV tab t a b A) :
    A ∧ ∃ r, (Op.equal t x y).run P w = .ok r w ∧ (∀ op o o', (eqGuard op t o o' x y).run P w = .ok () w) ∧ binOp .eql t x y = (do pure (.bool (← Op.equal t x y))) ∧ binOp .neq t x y = (do pure (.bool (!(← Op.equal t x y)))) := by
  unfold unkV at h
  split at h
  · rename_i d hd
    split at h
    · rename_i e hk
      split at h
      · obtain ⟨hs, hA⟩ := h
        obtain ⟨bs, n, k, rfl⟩ := sliceLike_ok ca hs
        have hu := (hT t d hd).k
        rw [hk] at hu
        simp only [TK.ok] at hu
        cases cb with
        | p hz =>
          cases hz
          refine ⟨hA, bs.isNone, ?_, (fun op o o' => by cases op <;> simp [eqGuard]), rfl, rfl⟩
          have key : ∀ m, (Op.equalIn (m + 1) t (.slice bs n k) (.slice none 0 0)).run P w = .ok bs.isNone w := by
            intro m; cases bs <;> simp [Op.equalIn, run_underlying hu]
          exact key 9999
      · exact h.elim
    · exact h.elim
  · exact h.elim
theorem binV_ok {P : Program} {tab : Tab} (hT : tab.Ok P) {Z : Fro} {φ : Pm} {w : World} {op : BinOp} {t : Nat} {a b : AV} {x y : Value} (ca : Cv Z φ a x) (cb : Cv Z φ b y) {K : AV → Prop} (h : binV tab op t a b K) (o o' : Operand) :
    ∃ v z, K v ∧ Cv Z φ v z ∧ (do eqGuard op t o o' x y; binOp op t x y : Sem Value).run P w = .ok z w := by
  unfold binV at h
  split at h
  · rename_i k m k' n
    cases ca with
    | p hz =>
      cases hz
      cases cb with
      | p hz2 =>
        cases hz2
        have hg : (eqGuard op t o o' (.int k m) (.int k' n)).run P w = .ok () w := by cases op <;> simp [eqGuard]
        simp only [Sem.run_bind, hg, Result.andThen_ok]
        cases op <;> dsimp only at h
        case shl => exact ⟨_, _, h.2, .p (.int _ _), by have := h.1; simp [binOp, Op.shift, Int.not_lt.2 this]⟩
        case shr => exact ⟨_, _, h.2, .p (.int _ _), by have := h.1; simp [binOp, Op.shift, Int.not_lt.2 this]⟩
        case quo => obtain ⟨rfl, h0, hK⟩ := h; exact ⟨_, _, hK, .p (.int _ _), by simp [binOp, Op.intDiv, h0]⟩
        case rem => obtain ⟨rfl, h0, hK⟩ := h; exact ⟨_, _, hK, .p (.int _ _), by simp [binOp, Op.intDiv, h0]⟩
        all_goals obtain ⟨rfl, hK⟩ := h
        case eql => exact ⟨_, _, hK, .p (.bool _), by simp only [binOp]; rw [if_neg (by simp)]; rfl⟩
        case neq => exact ⟨_, _, hK, .p (.bool _), by simp only [binOp]; rw [if_neg (by simp)]; rfl⟩
        case lss => exact ⟨_, _, hK, .p (.bool _), by simp only [binOp]; rw [if_neg (by simp)]; rfl⟩
        case leq => exact ⟨_, _, hK, .p (.bool _), by simp only [binOp]; rw [if_neg (by simp)]; rfl⟩
        case gtr => exact ⟨_, _, hK, .p (.bool _), by simp only [binOp]; rw [if_neg (by simp)]; rfl⟩
        case geq => exact ⟨_, _, hK, .p (.bool _), by simp only [binOp]; rw [if_neg (by simp)]; rfl⟩
        all_goals exact ⟨_, _, hK, .p (.int _ _), by simp only [binOp]; rw [if_neg (by simp)]; rfl⟩
  · rename_i u v
    cases ca with
    | p hz =>
      cases hz
      cases cb with
      | p hz2 =>
        cases hz2
        have hg : (eqGuard op t o o' (.string u) (.string v)).run P w = .ok () w := by cases op <;> simp [eqGuard]
        simp only [Sem.run_bind, hg, Result.andThen_ok]
        cases op <;> dsimp only at h <;> first | exact h.elim | skip
        case add =>
          obtain ⟨h0, hK⟩ := h
          refine ⟨_, .string (u ++ v), hK, .p (.str _), ?_⟩
          have : ¬ ((9223372036854775807 : Int) < (u.size : Int) + (v.size : Int)) := by omega
          simp [binOp, Op.stringOp, this]
        case eql => exact ⟨_, _, h, .p (.bool _), rfl⟩
        case neq => exact ⟨_, _, h, .p (.bool _), rfl⟩
  · rename_i hni hns
    split at h
    · rename_i r he
      obtain ⟨e1, e2, e3, e4⟩ := eqV_ok (w := w) hT ca cb he
      exact ⟨_, .bool r, h, .p (.bool _), by simp only [Sem.run_bind, e2, Result.andThen_ok, e3, e1, Sem.run_pure]⟩
    · rename_i r he
      obtain ⟨e1, e2, e3, e4⟩ := eqV_ok (w := w) hT ca cb he
      exact ⟨_, .bool (!r), h, .p (.bool _), by simp only [Sem.run_bind, e2, Result.andThen_ok, e4, e1, Sem.run_pure]⟩
    · rename_i he
      obtain ⟨hA, r, e1, e2, e3, e4⟩ := unkV_ok (w := w) hT ca cb h
      exact ⟨_, .bool r, hA, .ub _, by simp only [Sem.run_bind, e2, Result.andThen_ok, e3, e1, Sem.run_pure]⟩
    · rename_i he
      obtain ⟨hA, r, e1, e2, e3, e4⟩ := unkV_ok (w := w) hT ca cb h
      exact ⟨_, .bool (!r), hA, .ub _, by simp only [Sem.run_bind, e2, Result.andThen_ok, e4, e1, Sem.run_pure]⟩
    · exact h.elim
def unV (op : UnOp) (x : AV) (K : AV → Prop) : Prop :=
  match op, x with
  | .neg, .p (.int k n) => K (.p (.int k (k.wrap (0 - n))))
  | .xor, .p (.int k n) => K (.p (.int k (bitsI .xor k (if k.signed then -1 else k.max) n)))
  | .not, .p (.bool b) => K (.p (.bool (!b)))
  | _, _ => False
theorem unV_ok {P : Program} {Z : Fro} {φ : Pm} {w : World} {op : UnOp} {a : AV} {x : Value} (ca : Cv Z φ a x) {K : AV → Prop} (h : unV op a K) :
    ∃ v z, K v ∧ Cv Z φ v z ∧ (Op.unary op x).run P w = .ok z w := by
  unfold unV at h
  split at h
  · cases ca with | p hz => cases hz; exact ⟨_, _, h, .p (.int _ _), rfl⟩
  · cases ca with | p hz => cases hz; exact ⟨_, _, h, .p (.int _ _), rfl⟩
  · cases ca with | p hz => cases hz; exact ⟨_, _, h, .p (.bool _), rfl⟩
  · exact h.elim
def convV (tab : Tab) (src dst : Nat) (x : AV) (K : AV → Prop) : Prop :=
  match tab src, tab dst, x with
  | some _, some d, .p (.int _ n) => match d.k with
    | .int k => K (.p (.int k (k.wrap n)))
    | _ => False
  | _, _, _ => False
theorem convV_ok {P : Program} {tab : Tab} (hT : tab.Ok P) {Z : Fro} {φ : Pm} {w : World} {src dst : Nat} {a : AV} {x : Value} (ca : Cv Z φ a x) {K : AV → Prop} (h : convV tab src dst a K) :
    ∃ v z, K v ∧ Cv Z φ v z ∧ (convert src dst x).run P w = .ok z w := by
  unfold convV at h
  split at h
  case h_2 => exact h.elim
  rename_i sd d k n hs hd
  split at h
  case h_2 => exact h.elim
  rename_i k2 hk
  have ok := hT dst d hd
  have hu := ok.k
  rw [hk] at hu
  simp only [TK.ok] at hu
  have oks := hT src sd hs
  obtain ⟨ds, hds⟩ : ∃ ds, P.underlying src = some ds := by
    have := oks.k
    cases hsk : sd.k <;> rw [hsk] at this <;> simp only [TK.ok] at this
    case struct => obtain ⟨_, h, _⟩ := this; exact ⟨_, h⟩
    case func => obtain ⟨_, _, _, h⟩ := this; exact ⟨_, h⟩
    all_goals exact ⟨_, this⟩
  cases ca with
  | p hz =>
    cases hz
    exact ⟨_, _, h, .p (.int _ _), by simp [convert, run_underlying hu, run_underlying hds, Conv.intToInt]⟩
def mmV (b : Builtin) (x y : AV) (K : AV → Prop) : Prop :=
  match b, x, y with
  | .max, .p (.int k m), .p (.int _ n) => K (.p (.int k (if n > m then n else m)))
  | .min, .p (.int k m), .p (.int _ n) => K (.p (.int k (if n < m then n else m)))
  | _, _, _ => False
end Go.Sep
namespace Go.Sep
open Go Go.RowKit
theorem Heap.set_set (H : Heap) (r : Nat) (b c : List AV) : (H.set r b).set r c = H.set r c := by
  funext x; by_cases h : x = r <;> simp [Heap.set, h]
theorem Heap.set_comm {H : Heap} {r s : Nat} (h : r ≠ s) (b c : List AV) : (H.set r b).set s c = (H.set s c).set r b := by
  funext x; by_cases h1 : x = r <;> by_cases h2 : x = s <;> simp_all [Heap.set]
theorem Heap.set_none {H : Heap} {r s : Nat} {b : List AV} : ((H.set r b) s = none) = (s ≠ r ∧ H s = none) := by
  by_cases h : s = r <;> simp [Heap.set, h]
theorem Heap.del_set {H : Heap} {r : Nat} {b : List AV} (h : H r = none) : (H.set r b).del r = H := by
  funext x; by_cases hx : x = r <;> simp [Heap.set, Heap.del, hx, h]
theorem Heap.del_set_other {H : Heap} {r s : Nat} {b : List AV} (h : r ≠ s) : (H.set r b).del s = (H.del s).set r b := by
  funext x; by_cases h1 : x = r <;> by_cases h2 : x = s <;> simp_all [Heap.set, Heap.del]
theorem Heap.le_setN {H0 H : Heap} {r : Nat} {b : List AV} (h : Heap.le H0 H) (hr : H0 r = none) : Heap.le H0 (H.set r b) := by
  intro x c e
  have : x ≠ r := fun e' => by subst e'; rw [hr] at e; cases e
  rw [Heap.set_other this]; exact h x c e
theorem Heap.le_del {H0 H : Heap} {r : Nat} (h : Heap.le H0 H) (hr : H0 r = none) : Heap.le H0 (H.del r) := by
  intro x c e
  have : x ≠ r := fun e' => by subst e'; rw [hr] at e; cases e
  rw [Heap.del_other this]; exact h x c e
inductive Wk : AV → Heap → AV → Heap → Prop where
  | refl (v : AV) (H : Heap) : Wk v H v H
  | forget {v : AV} {H H' : Heap} (h : Heap.le H' H) : Wk v H v H'
  | freeze {v v' : AV} {H : Heap} {r : Nat} {cells : List PV} (hr : H r = some (cells.map .p))
      (hv : ∀ (Z : Fro) (φ : Pm) (pl : Place) (vals : Nat → Value), φ r = some pl → cells.length ≤ pl.C ∨ cells = [] → (∀ i, i < cells.length → Z pl.b (pl.o + i) = some (vals i)) → (∀ (i : Nat) (p : PV), cells[i]? = some p → Cz Z p (vals i)) → ∀ x, Cv Z φ v x → Cv Z φ v' x) : Wk v H v' (H.del r)
  | val {v v' : AV} {H : Heap} (h : AV.wk v v') : Wk v H v' H
  | cell {v : AV} {H : Heap} {r : Nat} {cs cs' : List AV} (hr : H r = some cs) (hl : cs'.length ≤ cs.length) (h : ∀ (i : Nat) (a a' : AV), cs[i]? = some a → cs'[i]? = some a' → AV.wk a a') : Wk v H v (H.set r cs')
  | frzIn {v v' : AV} {H : Heap} {r s : Nat} {cells : List PV} {cs cs' : List AV} (hr : H r = some (cells.map .p)) (hs : H s = some cs) (hrs : s ≠ r) (hl : cs'.length = cs.length)
      (hw : ∀ (Z : Fro) (φ : Pm) (pl : Place) (vals : Nat → Value), φ r = some pl → cells.length ≤ pl.C ∨ cells = [] → (∀ i, i < cells.length → Z pl.b (pl.o + i) = some (vals i)) → (∀ (i : Nat) (p : PV), cells[i]? = some p → Cz Z p (vals i)) → ∀ x, Cv Z φ v x → Cv Z φ v' x)
      (hv : ∀ (Z : Fro) (φ : Pm) (pl : Place) (vals : Nat → Value), φ r = some pl → cells.length ≤ pl.C ∨ cells = [] → (∀ i, i < cells.length → Z pl.b (pl.o + i) = some (vals i)) → (∀ (i : Nat) (p : PV), cells[i]? = some p → Cz Z p (vals i)) →
        ∀ (i : Nat) (a a' : AV) (x : Value), cs[i]? = some a → cs'[i]? = some a' → Cv Z φ a x → Cv Z φ a' x) : Wk v H v' ((H.del r).set s cs')
  | trans {v v' v'' : AV} {H H' H'' : Heap} (h : Wk v H v' H') (k : Wk v' H' v'' H'') : Wk v H v'' H''
theorem LiveAt.cells' {Z : Fro} {φ : Pm} {B0 : Nat} {w : World} {pl : Place} {cs cs' : List AV} (hl : cs'.length ≤ cs.length) (h : ∀ (i : Nat) (a a' : AV) (x : Value), cs[i]? = some a → cs'[i]? = some a' → Cv Z φ a x → Cv Z φ a' x)
    (k : LiveAt Z φ B0 w pl cs) : LiveAt Z φ B0 w pl cs' := by
  rcases k with ⟨h1, rfl⟩ | ⟨cur, e, h1, h2, h3, h4, h5⟩
  · exact .inl ⟨h1, List.eq_nil_of_length_eq_zero (by simpa using hl)⟩
  · refine .inr ⟨cur, e, h1, h2, Nat.le_trans hl h3, h4, fun i av hi => ?_⟩
    have hlt : i < cs.length := Nat.lt_of_lt_of_le (List.getElem?_eq_some_iff.1 hi).1 hl
    obtain ⟨x, hx, hc⟩ := h5 i _ (List.getElem?_eq_getElem hlt)
    exact ⟨x, hx, h i _ av x (List.getElem?_eq_getElem hlt) hi hc⟩
theorem Sim.recell {Z : Fro} {φ : Pm} {B0 : Nat} {w0 w : World} {H : Heap} (s : Sim Z φ B0 w0 H w) {r : Nat} {cs cs' : List AV} (hr : H r = some cs)
    (h : ∀ pl, φ r = some pl → LiveAt Z φ B0 w pl cs → LiveAt Z φ B0 w pl cs') : Sim Z φ B0 w0 (H.set r cs') w := by
  have hn : ∀ x, (H.set r cs') x ≠ none → H x ≠ none := by
    intro x hx
    by_cases e : x = r
    · subst e; rw [hr]; simp
    · rwa [Heap.set_other e] at hx
  refine ⟨s.b0, s.below, s.bnd, ?_, fun x y pl pl' e e' => s.disj x y pl pl' (hn x e) (hn y e'), s.froz, fun b i v hz x pl e => s.zsep b i v hz x pl (hn x e)⟩
  intro x blk hx
  by_cases e : x = r
  · subst e
    rw [Heap.set_same] at hx; cases hx
    obtain ⟨pl, hp, hla⟩ := s.live x _ hr
    exact ⟨pl, hp, h pl hp hla⟩
  · rw [Heap.set_other e] at hx; exact s.live x blk hx
theorem UpV.wk {B0 : Nat} {w0 : World} {F : Heap} {v v' : AV} {H H' : Heap} (h : Wk v H v' H') : ∀ {Z : Fro} {φ : Pm} {x : Value} {w : World}, Disj H F → Sim Z φ B0 w0 (H.or F) w → Cv Z φ v x →
    ∃ Z' φ', Fro.le Z Z' ∧ Pm.le φ φ' ∧ Disj H' F ∧ Sim Z' φ' B0 w0 (H'.or F) w ∧ Cv Z' φ' v' x := by
  induction h with
  | refl v H => intro Z φ x w hd hs hc; exact ⟨Z, φ, Fro.le_refl _, Pm.le_refl _, hd, hs, hc⟩
  | forget hl => intro Z φ x w hd hs hc; exact ⟨Z, φ, Fro.le_refl _, Pm.le_refl _, hd.of_le hl, hs.forget (Heap.or_le hl hd), hc⟩
  | freeze hr hv =>
    intro Z φ x w hd hs hc
    rename_i v v' H r cells
    obtain ⟨pl, hp, hla⟩ := hs.live r _ (Heap.or_left hr)
    obtain ⟨Z', vals, hz, h1, h2, h3⟩ := hs.freeze (Heap.or_left hr) hp
    rw [← Heap.or_del (hd.fresh hr)] at h3
    refine ⟨Z', φ, hz, Pm.le_refl _, hd.del, h3, hv Z' φ pl vals hp ?_ h1 h2 x (hc.mono hz (Pm.le_refl _))⟩
    rcases hla with ⟨_, h⟩ | ⟨_, _, _, _, h, _⟩
    · exact .inr (by simpa using h)
    · exact .inl (by simpa using h)
  | val h => intro Z φ x w hd hs hc; exact ⟨Z, φ, Fro.le_refl _, Pm.le_refl _, hd, hs, AV.wk_ok h hc⟩
  | cell hr hl hk =>
    intro Z φ x w hd hs hc
    rename_i v H r cs cs'
    refine ⟨Z, φ, Fro.le_refl _, Pm.le_refl _, hd.set (hd.fresh hr), ?_, hc⟩
    rw [Heap.or_set]
    exact hs.recell (Heap.or_left hr) fun pl _ hla => hla.cells' hl fun i a a' x h1 h2 h3 => AV.wk_ok (hk i a a' h1 h2) h3
  | frzIn hr hs' hrs hl hw hv =>
    intro Z φ x w hd hs hc
    rename_i v v' H r s cells cs cs'
    obtain ⟨pl, hp, hla⟩ := hs.live r _ (Heap.or_left hr)
    obtain ⟨Z', vals, hz, h1, h2, h3⟩ := hs.freeze (Heap.or_left hr) hp
    rw [← Heap.or_del (hd.fresh hr)] at h3
    have hd' : Disj (H.del r) F := hd.del
    have hs2 : (H.del r) s = some cs := by rw [Heap.del_other hrs]; exact hs'
    have hC : cells.length ≤ pl.C ∨ cells = [] := by
      rcases hla with ⟨_, h⟩ | ⟨_, _, _, _, h, _⟩
      · exact .inr (by simpa using h)
      · exact .inl (by simpa using h)
    refine ⟨Z', φ, hz, Pm.le_refl _, hd'.set (hd.fresh hs'), ?_, hw Z' φ pl vals hp hC h1 h2 x (hc.mono hz (Pm.le_refl _))⟩
    rw [Heap.or_set]
    exact h3.recell (Heap.or_left hs2) fun pl' _ hla' => hla'.cells' (Nat.le_of_eq hl) fun i a a' x a1 a2 a3 => hv Z' φ pl vals hp hC h1 h2 i a a' x a1 a2 a3
  | trans h k ih1 ih2 =>
    intro Z φ x w hd hs hc
    obtain ⟨Z1, φ1, a1, a2, a3, a4, a5⟩ := ih1 hd hs hc
    obtain ⟨Z2, φ2, b1, b2, b3, b4, b5⟩ := ih2 a3 a4 a5
    exact ⟨Z2, φ2, Fro.le_trans a1 b1, Pm.le_trans a2 b2, b3, b4, b5⟩
mutual
inductive FrzR (r sz : Nat) (es : List (List PV)) : AV → AV → Prop where
  | here : FrzR r sz es (.sl r sz 0 es.length) (.p (.sl es))
  | same (v : AV) : FrzR r sz es v v
  | agg {vs vs' : List AV} (h : FrzL r sz es vs vs') : FrzR r sz es (.agg vs) (.agg vs')
  | tup {vs vs' : List AV} (h : FrzL r sz es vs vs') : FrzR r sz es (.tup vs) (.tup vs')
inductive FrzL (r sz : Nat) (es : List (List PV)) : List AV → List AV → Prop where
  | nil : FrzL r sz es [] []
  | cons {v v' : AV} {vs vs' : List AV} (h : FrzR r sz es v v') (t : FrzL r sz es vs vs') : FrzL r sz es (v :: vs) (v' :: vs')
end
section
variable {Z : Fro} {φ : Pm} {r sz : Nat} {es : List (List PV)}
theorem frz_here (hpos : 0 < sz) (hsz : ∀ e ∈ es, e.length = sz) {pl : Place} (hp : φ r = some pl) {vals : Nat → Value}
    (h1 : ∀ i, i < es.flatten.length → Z pl.b (pl.o + i) = some (vals i)) (h2 : ∀ (i : Nat) (p : PV), es.flatten[i]? = some p → Cz Z p (vals i)) {x : Value} (c : Cv Z φ (.sl r sz 0 es.length) x) : Cv Z φ (.p (.sl es)) x := by
  generalize hn : es.length = n at c
  cases c with
  | slz _ _ _ a =>
    have : es = [] := List.eq_nil_of_length_eq_zero hn
    subst this
    exact .p (.emp a 0)
  | sl hp' hl hC =>
    rw [hp] at hp'; cases hp'
    subst hn
    refine .p ?_
    rw [Nat.add_zero]
    refine Cz.sl es sz pl.b pl.o _ vals hl hsz ?_ ?_
    · intro i hi; exact h1 i (by rw [flatten_len es hsz]; exact hi)
    · intro i e he j p hpj
      refine h2 _ p ?_
      have hj : j < sz := by
        have := (List.getElem?_eq_some_iff.1 hpj).1
        rw [hsz e (List.mem_of_getElem? he)] at this; exact this
      rw [flatten_get hpos es hsz]
      have e1 : (i * sz + j) / sz = i := by rw [Nat.mul_comm, Nat.mul_add_div hpos, Nat.div_eq_of_lt hj, Nat.add_zero]
      have e2 : (i * sz + j) % sz = j := by rw [Nat.mul_comm, Nat.mul_add_mod, Nat.mod_eq_of_lt hj]
      rw [e1, e2, he]; exact hpj
theorem frz_rel (hpos : 0 < sz) (hsz : ∀ e ∈ es, e.length = sz) {pl : Place} (hp : φ r = some pl) {vals : Nat → Value}
    (h1 : ∀ i, i < es.flatten.length → Z pl.b (pl.o + i) = some (vals i)) (h2 : ∀ (i : Nat) (p : PV), es.flatten[i]? = some p → Cz Z p (vals i)) :
    ∀ {v v' : AV}, FrzR r sz es v v' → ∀ x, Cv Z φ v x → Cv Z φ v' x := by
  intro v v' h
  refine FrzR.rec (motive_1 := fun v v' _ => ∀ x, Cv Z φ v x → Cv Z φ v' x)
    (motive_2 := fun vs vs' _ => vs'.length = vs.length ∧ ∀ (i : Nat) (v v' : AV) (x : Value), vs[i]? = some v → vs'[i]? = some v' → Cv Z φ v x → Cv Z φ v' x) ?_ ?_ ?_ ?_ ?_ ?_ h
  · intro x c; exact frz_here hpos hsz hp h1 h2 c
  · intro v x c; exact c
  · intro vs vs' _ ih x c
    cases c with
    | agg _ xs hs hh =>
      refine .agg vs' xs (hs.trans ih.1.symm) ?_
      intro i av y hi hy
      have hl : i < vs.length := by rw [← ih.1]; exact (List.getElem?_eq_some_iff.1 hi).1
      exact ih.2 i _ av y (List.getElem?_eq_getElem hl) hi (hh i _ y (List.getElem?_eq_getElem hl) hy)
  · intro vs vs' _ ih x c
    cases c with
    | tup _ xs hs hh =>
      refine .tup vs' xs (hs.trans ih.1.symm) ?_
      intro i av y hi hy
      have hl : i < vs.length := by rw [← ih.1]; exact (List.getElem?_eq_some_iff.1 hi).1
      exact ih.2 i _ av y (List.getElem?_eq_getElem hl) hi (hh i _ y (List.getElem?_eq_getElem hl) hy)
  · exact ⟨rfl, fun i v v' x h => by simp at h⟩
  · intro v v' vs vs' _ _ ih1 ih2
    refine ⟨by simp [ih2.1], ?_⟩
    intro i u u' x hu hu' c
    cases i with
    | zero => simp at hu hu'; subst hu; subst hu'; exact ih1 x c
    | succ i => simp at hu hu'; exact ih2.2 i u u' x hu hu' c
theorem frz_relL (hpos : 0 < sz) (hsz : ∀ e ∈ es, e.length = sz) {pl : Place} (hp : φ r = some pl) {vals : Nat → Value}
    (h1 : ∀ i, i < es.flatten.length → Z pl.b (pl.o + i) = some (vals i)) (h2 : ∀ (i : Nat) (p : PV), es.flatten[i]? = some p → Cz Z p (vals i)) :
    ∀ {vs vs' : List AV}, FrzL r sz es vs vs' → vs'.length = vs.length ∧ ∀ (i : Nat) (v v' : AV) (x : Value), vs[i]? = some v → vs'[i]? = some v' → Cv Z φ v x → Cv Z φ v' x := by
  intro vs vs' h
  refine FrzL.rec (motive_1 := fun v v' _ => ∀ x, Cv Z φ v x → Cv Z φ v' x)
    (motive_2 := fun vs vs' _ => vs'.length = vs.length ∧ ∀ (i : Nat) (v v' : AV) (x : Value), vs[i]? = some v → vs'[i]? = some v' → Cv Z φ v x → Cv Z φ v' x) ?_ ?_ ?_ ?_ ?_ ?_ h
  · intro x c; exact frz_here hpos hsz hp h1 h2 c
  · intro v x c; exact c
  · intro vs vs' _ ih x c
    cases c with
    | agg _ xs hs hh =>
      refine .agg vs' xs (hs.trans ih.1.symm) ?_
      intro i av y hi hy
      have hl : i < vs.length := by rw [← ih.1]; exact (List.getElem?_eq_some_iff.1 hi).1
      exact ih.2 i _ av y (List.getElem?_eq_getElem hl) hi (hh i _ y (List.getElem?_eq_getElem hl) hy)
  · intro vs vs' _ ih x c
    cases c with
    | tup _ xs hs hh =>
      refine .tup vs' xs (hs.trans ih.1.symm) ?_
      intro i av y hi hy
      have hl : i < vs.length := by rw [← ih.1]; exact (List.getElem?_eq_some_iff.1 hi).1
      exact ih.2 i _ av y (List.getElem?_eq_getElem hl) hi (hh i _ y (List.getElem?_eq_getElem hl) hy)
  · exact ⟨rfl, fun i v v' x h => by simp at h⟩
  · intro v v' vs vs' _ _ ih1 ih2
    refine ⟨by simp [ih2.1], ?_⟩
    intro i u u' x hu hu' c
    cases i with
    | zero => simp at hu hu'; subst hu; subst hu'; exact ih1 x c
    | succ i => simp at hu hu'; exact ih2.2 i u u' x hu hu' c
end
theorem Wk.frz {v v' : AV} {H : Heap} {r sz : Nat} {es : List (List PV)} (hpos : 0 < sz) (hr : H r = some (es.flatten.map .p)) (hsz : ∀ e ∈ es, e.length = sz) (hv : FrzR r sz es v v') : Wk v H v' (H.del r) :=
  .freeze hr fun _ _ _ _ hp _ h1 h2 x c => frz_rel hpos hsz hp h1 h2 hv x c
theorem Wk.frzAt {v v' : AV} {H : Heap} {r s sz : Nat} {es : List (List PV)} {cs cs' : List AV} (hpos : 0 < sz) (hr : H r = some (es.flatten.map .p)) (hsz : ∀ e ∈ es, e.length = sz) (hs : H s = some cs) (hrs : s ≠ r)
    (hc : FrzL r sz es cs cs') (hv : FrzR r sz es v v') (hl : cs'.length = cs.length) : Wk v H v' ((H.del r).set s cs') :=
  .frzIn hr hs hrs hl (fun _ _ _ _ hp _ h1 h2 x c => frz_rel hpos hsz hp h1 h2 hv x c) fun _ _ _ _ hp _ h1 h2 i a a' x a1 a2 a3 => (frz_relL hpos hsz hp h1 h2 hc).2 i a a' x a1 a2 a3
def wkK (K : AV → Heap → Prop) (v : AV) (H : Heap) : Prop := ∃ v' H', Wk v H v' H' ∧ K v' H'
theorem wkK.keep {K : AV → Heap → Prop} {v : AV} {H : Heap} (h : K v H) : wkK K v H := ⟨v, H, .refl v H, h⟩
theorem wkK.mono {K K' : AV → Heap → Prop} (k : ∀ v H, K v H → K' v H) {v : AV} {H : Heap} (h : wkK K v H) : wkK K' v H := by
  obtain ⟨v', H', h1, h2⟩ := h; exact ⟨v', H', h1, k _ _ h2⟩
theorem UpV.ofWk {B0 : Nat} {w0 : World} {F : Heap} {Z : Fro} {φ : Pm} {K : AV → Heap → Prop} {x : Value} {w : World} (h : UpV B0 w0 F Z φ (wkK K) x w) : UpV B0 w0 F Z φ K x w := by
  obtain ⟨v, H1, Z1, φ1, ⟨v', H', hw, hk⟩, h1, h2, h3, h4, h5⟩ := h
  obtain ⟨Z2, φ2, b1, b2, b3, b4, b5⟩ := UpV.wk hw h3 h4 h5
  exact ⟨v', H', Z2, φ2, hk, Fro.le_trans h1 b1, Pm.le_trans h2 b2, b3, b4, b5⟩
end Go.Sep
