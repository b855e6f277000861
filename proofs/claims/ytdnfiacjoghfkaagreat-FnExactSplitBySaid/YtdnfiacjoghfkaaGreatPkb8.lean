/- Texts laid together: Lt1 Lt2 Lt3 Lt4 Ma2 Ma4 Qc1 Qm0 Mm1 Mm2 Lt5 Mt0. -/
import Derived.Test.YtdnfiacjoghfkaaGreatPkb7
import Derived.Test.YtdnfiacjoghfkaaGreatProg
import Derived.Maps.Keyed
import Derived.Maps.OwnSet
import Derived.Maps.Views
import Derived.DeepKeys4
import Derived.Carry
import Derived.OwnWalk
import Derived.Maps.AppendAt
import Derived.WalkKit
set_option linter.unusedVariables false
set_option linter.unusedSimpArgs false
/- Forests: rows that own rows. -/
namespace Go.Sep
open Go Go.RowKit
set_option linter.unusedVariables false

/-- How a thing of kind α lies in cells, in a heap, with the blocks it owns. -/
abbrev Lay (α : Type) := α → List AV → Heap → List Nat → Prop
/-- Plain cells. -/
def LPl {α : Type} (e : α → List PV) : Lay α := fun a cs _ D => cs = (e a).map .p ∧ D = []
/-- Things one behind the other. -/
def LL {α : Type} (L : Lay α) : List α → List AV → Heap → List Nat → Prop
  | [], cs, _, D => cs = [] ∧ D = []
  | a :: az, cs, G, D => ∃ c1 c2 D1 D2, cs = c1 ++ c2 ∧ D = D1 ++ D2 ∧ L a c1 G D1 ∧ LL L az c2 G D2
/-- A slice that owns its row. -/
def LRow {α : Type} (L : Lay α) (sz : Nat) : List α → AV → Heap → List Nat → Prop := fun xs x G D => ∃ q cs D', x = .sl q sz 0 xs.length ∧ G q = some cs ∧ LL L xs cs G D' ∧ D = q :: D'

/-- The lay looks at its own blocks alone. -/
def Lay.Local {α : Type} (L : Lay α) : Prop := ∀ a cs G G' D, L a cs G D → (∀ y ∈ D, ∀ b, G y = some b → G' y = some b) → L a cs G' D
/-- Of so many cells, by value e. -/
def Lay.Size {α : Type} (L : Lay α) (sz : Nat) : Prop := ∀ a cs G D, L a cs G D → cs.length = sz

theorem LPl.local {α : Type} (e : α → List PV) : Lay.Local (LPl e) := fun a cs G G' D h _ => h
theorem LPl.size {α : Type} {e : α → List PV} {sz : Nat} (h : ∀ a, (e a).length = sz) : Lay.Size (LPl e) sz := fun a cs G D hl => by rw [hl.1, List.length_map, h]
theorem LL.local {α : Type} {L : Lay α} (hL : L.Local) : ∀ {az : List α} {cs : List AV} {G G' : Heap} {D : List Nat}, LL L az cs G D → (∀ y ∈ D, ∀ b, G y = some b → G' y = some b) → LL L az cs G' D
  | [], cs, G, G', D, h, _ => h
  | a :: az, cs, G, G', D, ⟨c1, c2, D1, D2, e1, e2, h1, h2⟩, hf => by
    subst e2
    exact ⟨c1, c2, D1, D2, e1, rfl, hL _ _ _ _ _ h1 (fun y hy => hf y (List.mem_append_left _ hy)), LL.local hL h2 (fun y hy => hf y (List.mem_append_right _ hy))⟩
theorem LL.size {α : Type} {L : Lay α} {sz : Nat} (hL : L.Size sz) : ∀ {az : List α} {cs : List AV} {G : Heap} {D : List Nat}, LL L az cs G D → cs.length = az.length * sz
  | [], cs, G, D, h => by rw [h.1]; simp
  | a :: az, cs, G, D, ⟨c1, c2, D1, D2, e1, e2, h1, h2⟩ => by
    rw [e1, List.length_append, hL _ _ _ _ h1, LL.size hL h2, List.length_cons, Nat.add_mul, Nat.one_mul]; omega
theorem LRow.local {α : Type} {L : Lay α} {sz : Nat} (hL : L.Local) {xs : List α} {x : AV} {G G' : Heap} {D : List Nat} (h : LRow L sz xs x G D) (hf : ∀ y ∈ D, ∀ b, G y = some b → G' y = some b) : LRow L sz xs x G' D := by
  obtain ⟨q, cs, D', e1, e2, e3, e4⟩ := h
  subst e4
  exact ⟨q, cs, D', e1, hf q (by simp) _ e2, LL.local hL e3 (fun y hy => hf y (by simp [hy])), rfl⟩
/-- The lay's blocks are there. -/
def Lay.Has {α : Type} (L : Lay α) : Prop := ∀ a cs G D, L a cs G D → ∀ y ∈ D, G y ≠ none
theorem LPl.has {α : Type} (e : α → List PV) : Lay.Has (LPl e) := fun a cs G D h y hy => by rw [h.2] at hy; cases hy
theorem LL.has {α : Type} {L : Lay α} (hL : L.Has) : ∀ {az : List α} {cs : List AV} {G : Heap} {D : List Nat}, LL L az cs G D → ∀ y ∈ D, G y ≠ none
  | [], cs, G, D, h => fun y hy => by rw [h.2] at hy; cases hy
  | a :: az, cs, G, D, ⟨c1, c2, D1, D2, e1, e2, h1, h2⟩ => fun y hy => by
    rw [e2] at hy
    rcases List.mem_append.1 hy with hy | hy
    · exact hL _ _ _ _ h1 y hy
    · exact LL.has hL h2 y hy
theorem LRow.has {α : Type} {L : Lay α} {sz : Nat} (hL : L.Has) {xs : List α} {x : AV} {G : Heap} {D : List Nat} (h : LRow L sz xs x G D) : ∀ y ∈ D, G y ≠ none := by
  obtain ⟨q, cs, D', e1, e2, e3, e4⟩ := h
  intro y hy
  rw [e4] at hy
  rcases List.mem_cons.1 hy with rfl | hy
  · rw [e2]; simp
  · exact LL.has hL e3 y hy
theorem LL.plain {α : Type} {e : α → List PV} {G : Heap} : ∀ (xs : List α), LL (LPl e) xs (cells (xs.map e)) G []
  | [] => ⟨rfl, rfl⟩
  | x :: xs => ⟨(e x).map .p, cells (xs.map e), [], [], by simp [cells], rfl, ⟨rfl, rfl⟩, LL.plain xs⟩
theorem splice_at {pre c c' post : List AV} {off n : Nat} (ho : off = pre.length) (hn : n = c'.length) (hc : c.length = c'.length) : List.take off (pre ++ (c ++ post)) ++ c' ++ List.drop (off + n) (pre ++ (c ++ post)) = pre ++ (c' ++ post) := by
  subst ho; subst hn
  rw [List.take_left', List.append_assoc]
  · congr 2
    rw [List.drop_append, ← hc]
    simp
  · rfl
theorem LL.snoc {α : Type} {L : Lay α} {a : α} {c2 : List AV} {G : Heap} {D2 : List Nat} (h2 : L a c2 G D2) : ∀ {az : List α} {c1 : List AV} {D1 : List Nat}, LL L az c1 G D1 → LL L (az ++ [a]) (c1 ++ c2) G (D1 ++ D2)
  | [], c1, D1, h => by
    obtain ⟨rfl, rfl⟩ := h
    exact ⟨c2, [], D2, [], by simp, by simp, h2, rfl, rfl⟩
  | b :: az, c1, D1, ⟨d1, d2, E1, E2, e1, e2, h1, h3⟩ => by
    subst e1; subst e2
    exact ⟨d1, d2 ++ c2, E1, E2 ++ D2, by simp, by simp, h1, LL.snoc h2 h3⟩
/-- The thing at a place, and what lies around it. -/
theorem LL.split {α : Type} [Inhabited α] {L : Lay α} {sz : Nat} (hL : L.Size sz) : ∀ {az : List α} {cs : List AV} {G : Heap} {D : List Nat} {i : Nat}, LL L az cs G D → i < az.length →
    ∃ c1 c c2 D1 Di D2, cs = c1 ++ (c ++ c2) ∧ D = D1 ++ (Di ++ D2) ∧ c1.length = i * sz ∧ L (az.getD i default) c G Di ∧ LL L (az.take i) c1 G D1 ∧ LL L (az.drop (i + 1)) c2 G D2
  | a :: az, cs, G, D, 0, ⟨c1, c2, D1, D2, e1, e2, h1, h2⟩, _ => ⟨[], c1, c2, [], D1, D2, by simpa using e1, by simpa using e2, by simp, by simpa using h1, ⟨rfl, rfl⟩, by simpa using h2⟩
  | a :: az, cs, G, D, i + 1, ⟨c1, c2, D1, D2, e1, e2, h1, h2⟩, hi => by
    obtain ⟨d1, d, d2, E1, Ei, E2, f1, f2, f3, f4, f5, f6⟩ := LL.split hL h2 (i := i) (by simpa using hi)
    subst e1; subst e2; subst f1; subst f2
    refine ⟨c1 ++ d1, d, d2, D1 ++ E1, Ei, E2, by simp, by simp, ?_, by simpa using f4, ⟨c1, d1, D1, E1, rfl, rfl, h1, f5⟩, by simpa using f6⟩
    rw [List.length_append, hL _ _ _ _ h1, f3, Nat.add_mul, Nat.one_mul]; omega
/-! ### Telling forests by value -/
/-- A thing in a block is told by value where it lies. -/
def Lay.Frz {α : Type} (L : Lay α) (e : α → List PV) : Prop := ∀ (a : α) (cs : List AV) (G : Heap) (D : List Nat) (v : AV) (s : Nat) (pre post : List AV), L a cs G D → D.Nodup → s ∉ D → G s = some (pre ++ (cs ++ post)) →
  ∃ G', Wk v G v G' ∧ G' s = some (pre ++ ((e a).map .p ++ post)) ∧ ∀ y, y ≠ s → y ∉ D → G' y = G y

theorem LPl.frz {α : Type} (e : α → List PV) : (LPl e).Frz e := by
  rintro a cs G D v s pre post ⟨rfl, rfl⟩ _ _ hs
  exact ⟨G, .refl _ _, hs, fun _ _ _ => rfl⟩
theorem LL.frz {α : Type} {L : Lay α} {e : α → List PV} (hl : L.Local) (hf : L.Frz e) : ∀ (az : List α) (cs : List AV) (G : Heap) (D : List Nat) (v : AV) (s : Nat) (pre post : List AV), LL L az cs G D → D.Nodup → s ∉ D → G s = some (pre ++ (cs ++ post)) →
    ∃ G', Wk v G v G' ∧ G' s = some (pre ++ ((az.map e).flatten.map .p ++ post)) ∧ ∀ y, y ≠ s → y ∉ D → G' y = G y
  | [], cs, G, D, v, s, pre, post, h, hD, hs, hG => by
    obtain ⟨rfl, rfl⟩ := h
    exact ⟨G, .refl _ _, by simpa using hG, fun _ _ _ => rfl⟩
  | a :: az, cs, G, D, v, s, pre, post, ⟨c1, c2, D1, D2, e1, e2, h1, h2⟩, hD, hs, hG => by
    subst e1; subst e2
    rw [List.nodup_append] at hD
    rw [List.mem_append, not_or] at hs
    obtain ⟨G1, w1, k1, f1⟩ := hf a c1 G D1 v s pre (c2 ++ post) h1 hD.1 hs.1 (by rw [hG]; simp)
    have h2' : LL L az c2 G1 D2 := LL.local hl h2 fun y hy b hb => by rw [f1 y (fun e => hs.2 (e ▸ hy)) (fun hy1 => hD.2.2 y hy1 y hy rfl)]; exact hb
    obtain ⟨G2, w2, k2, f2⟩ := LL.frz hl hf az c2 G1 D2 v s (pre ++ (e a).map .p) post h2' hD.2.1 hs.2 (by rw [k1]; simp)
    refine ⟨G2, .trans w1 w2, by rw [k2]; simp, fun y hy hyD => ?_⟩
    rw [List.mem_append, not_or] at hyD
    rw [f2 y hy hyD.2, f1 y hy hyD.1]
theorem FrzL.refl' {r sz : Nat} {es : List (List PV)} : ∀ vs, FrzL r sz es vs vs
  | [] => .nil
  | v :: vs => .cons (.same v) (FrzL.refl' vs)
theorem FrzL.at {r sz : Nat} {es : List (List PV)} {x x' : AV} (h : FrzR r sz es x x') (post : List AV) : ∀ pre, FrzL r sz es (pre ++ ([x] ++ post)) (pre ++ ([x'] ++ post))
  | [] => .cons h (FrzL.refl' post)
  | v :: pre => .cons (.same v) (FrzL.at h post pre)
/-- A slice that owns its row, in a cell of a block. -/
theorem LRow.frzIn {α : Type} {L : Lay α} {e : α → List PV} {sz : Nat} (hpos : 0 < sz) (he : ∀ a, (e a).length = sz) (hl : L.Local) (hf : L.Frz e) {xs : List α} {x : AV} {G : Heap} {D : List Nat} {v : AV} {s : Nat} {pre post : List AV} (h : LRow L sz xs x G D) (hD : D.Nodup) (hs : s ∉ D) (hG : G s = some (pre ++ ([x] ++ post))) :
    ∃ G', Wk v G v G' ∧ G' s = some (pre ++ ([.p (.sl (xs.map e))] ++ post)) ∧ ∀ y, y ≠ s → y ∉ D → G' y = G y := by
  obtain ⟨q, cs, D', rfl, hq, hll, rfl⟩ := h
  rw [List.nodup_cons] at hD
  rw [List.mem_cons, not_or] at hs
  obtain ⟨G1, w1, k1, f1⟩ := LL.frz hl hf xs cs G D' v q [] [] hll hD.2 hD.1 (by simpa using hq)
  have hG1 : G1 s = some (pre ++ ([.sl q sz 0 xs.length] ++ post)) := by rw [f1 s hs.1 hs.2]; exact hG
  have k1' : G1 q = some ((xs.map e).flatten.map .p) := by simpa using k1
  have hr : FrzR q sz (xs.map e) (.sl q sz 0 xs.length) (.p (.sl (xs.map e))) := by
    have : FrzR q sz (xs.map e) (.sl q sz 0 (xs.map e).length) (.p (.sl (xs.map e))) := .here
    rwa [List.length_map] at this
  refine ⟨(G1.del q).set s (pre ++ ([.p (.sl (xs.map e))] ++ post)), .trans w1 (Wk.frzAt hpos k1' (sized_map he xs) hG1 hs.1 (FrzL.at hr post pre) (.same v) (by simp)), Heap.set_same _ _ _, fun y hy hyD => ?_⟩
  rw [List.mem_cons, not_or] at hyD
  rw [Heap.set_other hy, Heap.del_other hyD.1, f1 y hyD.1 hyD.2]
/-- A slice that owns its row, in a value. -/
theorem LRow.frzV {α : Type} {L : Lay α} {e : α → List PV} {sz : Nat} (hpos : 0 < sz) (he : ∀ a, (e a).length = sz) (hl : L.Local) (hf : L.Frz e) {xs : List α} {x : AV} {G : Heap} {D : List Nat} {v v' : AV} (h : LRow L sz xs x G D) (hD : D.Nodup)
    (hv : ∀ q, x = .sl q sz 0 xs.length → FrzR q sz (xs.map e) x (.p (.sl (xs.map e))) → FrzR q sz (xs.map e) v v') :
    ∃ G', Wk v G v' G' ∧ ∀ y, y ∉ D → G' y = G y := by
  obtain ⟨q, cs, D', rfl, hq, hll, rfl⟩ := h
  rw [List.nodup_cons] at hD
  obtain ⟨G1, w1, k1, f1⟩ := LL.frz hl hf xs cs G D' v q [] [] hll hD.2 hD.1 (by simpa using hq)
  have k1' : G1 q = some ((xs.map e).flatten.map .p) := by simpa using k1
  have hr : FrzR q sz (xs.map e) (.sl q sz 0 xs.length) (.p (.sl (xs.map e))) := by
    have : FrzR q sz (xs.map e) (.sl q sz 0 (xs.map e).length) (.p (.sl (xs.map e))) := .here
    rwa [List.length_map] at this
  refine ⟨G1.del q, .trans w1 (Wk.frz hpos k1' (sized_map he xs) (hv q rfl hr)), fun y hyD => ?_⟩
  rw [List.mem_cons, not_or] at hyD
  rw [Heap.del_other hyD.1, f1 y hyD.1 hyD.2]
/-! ### Forests moved on -/
/-- Cells that may be moved. -/
def Lay.Gd {α : Type} (L : Lay α) : Prop := ∀ a cs G D, L a cs G D → (∀ c ∈ cs, GdC c) ∧ ∀ y ∈ D, ∀ bs, G y = some bs → ∀ c ∈ bs, GdC c
def Lay.Sh {α : Type} (L : Lay α) : Prop := ∀ a cs G D n G0, (∀ q, n ≤ q → G0 q = none) → L a cs G D → L a (cs.map (shC n)) (Heap.or G0 (shH n G)) (D.map (· + n))
theorem LPl.gd {α : Type} {e : α → List PV} (h : ∀ a, ∀ x ∈ e a, Plain (.p x)) : Lay.Gd (LPl e) := by
  rintro a cs G D ⟨rfl, rfl⟩
  refine ⟨fun c hc => ?_, fun y hy => by cases hy⟩
  obtain ⟨x, hx, rfl⟩ := List.mem_map.1 hc
  exact .p (h a x hx)
theorem LPl.sh {α : Type} (e : α → List PV) : Lay.Sh (LPl e) := by
  rintro a cs G D n G0 _ ⟨rfl, rfl⟩
  exact ⟨by rw [List.map_map]; rfl, rfl⟩
theorem LL.gd {α : Type} {L : Lay α} (hL : L.Gd) : ∀ {az : List α} {cs : List AV} {G : Heap} {D : List Nat}, LL L az cs G D → (∀ c ∈ cs, GdC c) ∧ ∀ y ∈ D, ∀ bs, G y = some bs → ∀ c ∈ bs, GdC c
  | [], _, _, _, ⟨e1, e2⟩ => by subst e1; subst e2; exact ⟨(fun c hc => by cases hc), (fun y hy => by cases hy)⟩
  | a :: az, _, _, _, ⟨c1, c2, D1, D2, e1, e2, h1, h2⟩ => by
    subst e1; subst e2
    obtain ⟨a1, a2⟩ := hL _ _ _ _ h1
    obtain ⟨b1, b2⟩ := LL.gd hL h2
    refine ⟨fun c hc => ?_, fun y hy => ?_⟩
    · rcases List.mem_append.1 hc with hc | hc
      · exact a1 c hc
      · exact b1 c hc
    · rcases List.mem_append.1 hy with hy | hy
      · exact a2 y hy
      · exact b2 y hy
theorem LL.sh {α : Type} {L : Lay α} (hL : L.Sh) {n : Nat} {G0 : Heap} (h0 : ∀ q, n ≤ q → G0 q = none) : ∀ {az : List α} {cs : List AV} {G : Heap} {D : List Nat}, LL L az cs G D → LL L az (cs.map (shC n)) (Heap.or G0 (shH n G)) (D.map (· + n))
  | [], _, _, _, ⟨e1, e2⟩ => by subst e1; subst e2; exact ⟨rfl, rfl⟩
  | a :: az, _, _, _, ⟨c1, c2, D1, D2, e1, e2, h1, h2⟩ => by
    subst e1; subst e2
    exact ⟨_, _, _, _, List.map_append, List.map_append, hL _ _ _ _ n G0 h0 h1, LL.sh hL h0 h2⟩
theorem or_sh {G0 G : Heap} {n q : Nat} (h0 : ∀ q, n ≤ q → G0 q = none) : (Heap.or G0 (shH n G)) (q + n) = (G q).map (List.map (shC n)) := by
  simp only [Heap.or, shH, h0 (q + n) (by omega), show n ≤ q + n by omega, if_true, Nat.add_sub_cancel]
theorem LRow.gd {α : Type} {L : Lay α} {sz : Nat} (hL : L.Gd) {xs : List α} {x : AV} {G : Heap} {D : List Nat} (h : LRow L sz xs x G D) : GdC x ∧ ∀ y ∈ D, ∀ bs, G y = some bs → ∀ c ∈ bs, GdC c := by
  obtain ⟨q, cs, D', rfl, hq, hll, rfl⟩ := h
  obtain ⟨h1, h2⟩ := LL.gd hL hll
  refine ⟨.inl ⟨_, _, _, _, rfl⟩, fun y hy bs hb => ?_⟩
  rcases List.mem_cons.1 hy with rfl | hy
  · rw [hq] at hb; cases hb; exact h1
  · exact h2 y hy bs hb
theorem LRow.sh {α : Type} {L : Lay α} {sz : Nat} (hL : L.Sh) {n : Nat} {G0 : Heap} (h0 : ∀ q, n ≤ q → G0 q = none) {xs : List α} {x : AV} {G : Heap} {D : List Nat} (h : LRow L sz xs x G D) : LRow L sz xs (shC n x) (Heap.or G0 (shH n G)) (D.map (· + n)) := by
  obtain ⟨q, cs, D', rfl, hq, hll, rfl⟩ := h
  exact ⟨q + n, cs.map (shC n), D'.map (· + n), rfl, by rw [or_sh h0, hq]; rfl, LL.sh hL h0 hll, rfl⟩
/-- A heap's blocks of a list alone. -/
def only (D : List Nat) (G : Heap) : Heap := fun y => if y ∈ D then G y else none
theorem only_le (D : List Nat) (G : Heap) : Heap.le (only D G) G := fun y b hb => by
  unfold only at hb; split at hb
  · exact hb
  · cases hb
theorem only_in {D : List Nat} {G : Heap} {y : Nat} (h : y ∈ D) : only D G y = G y := if_pos h
theorem only_out {D : List Nat} {G : Heap} {y : Nat} (h : y ∉ D) : only D G y = none := if_neg h
end Go.Sep
/- Programs that own their rows: copies of one's own. -/
namespace Go.Proofs.YtdnfiacjoghfkaaGreat
open Go Go.Sep Go.Pt
set_option linter.unusedSimpArgs false
set_option linter.unusedVariables false
attribute [local irreducible] CallT

abbrev LN : List Nd → AV → Heap → List Nat → Prop := LRow (LPl eN) 2
abbrev LI : List Int → AV → Heap → List Nat → Prop := LRow (LPl eI) 1
def LCh : Lay Ch := fun c cs G D => ∃ x, cs = [I c.var, x] ∧ LN c.by_ x G D
def LCm : Lay Cm := fun c cs G D => ∃ x y D1 D2, cs = [x, y] ∧ D = D1 ++ D2 ∧ LN c.when_ x G D1 ∧ LRow LCh 2 c.chs y G D2

theorem LCh.local : Lay.Local LCh := by
  rintro c cs G G' D ⟨x, e, h⟩ hf
  exact ⟨x, e, LRow.local (LPl.local eN) h hf⟩
theorem LCh.size : Lay.Size LCh 2 := by
  rintro c cs G D ⟨x, rfl, h⟩; rfl
theorem LCh.has : Lay.Has LCh := by
  rintro c cs G D ⟨x, e, h⟩
  exact LRow.has (LPl.has eN) h
theorem LCh.frz : Lay.Frz LCh eCh := by
  rintro c cs G D v s pre post ⟨x, rfl, h⟩ hD hs hG
  obtain ⟨G', w, k, f⟩ := LRow.frzIn (e := eN) (sz := 2) (pre := pre ++ [I c.var]) (post := post) (v := v) (by omega) (fun _ => rfl) (LPl.local eN) (LPl.frz eN) h hD hs (by rw [hG]; simp)
  exact ⟨G', w, by rw [k]; simp, f⟩
theorem LCm.local : Lay.Local LCm := by
  rintro c cs G G' D ⟨x, y, D1, D2, e, rfl, h1, h2⟩ hf
  exact ⟨x, y, D1, D2, e, rfl, LRow.local (LPl.local eN) h1 (fun z hz => hf z (List.mem_append_left _ hz)), LRow.local LCh.local h2 (fun z hz => hf z (List.mem_append_right _ hz))⟩
theorem LCm.size : Lay.Size LCm 2 := by
  rintro c cs G D ⟨x, y, D1, D2, rfl, e, h1, h2⟩; rfl
theorem LCm.has : Lay.Has LCm := by
  rintro c cs G D ⟨x, y, D1, D2, e, rfl, h1, h2⟩ z hz
  rcases List.mem_append.1 hz with hz | hz
  · exact LRow.has (LPl.has eN) h1 z hz
  · exact LRow.has LCh.has h2 z hz
theorem LCm.frz : Lay.Frz LCm eCm := by
  rintro c cs G D v s pre post ⟨x, y, D1, D2, rfl, rfl, h1, h2⟩ hD hs hG
  rw [List.nodup_append] at hD
  rw [List.mem_append, not_or] at hs
  obtain ⟨G1, w1, k1, f1⟩ := LRow.frzIn (e := eN) (sz := 2) (pre := pre) (post := y :: post) (v := v) (by omega) (fun _ => rfl) (LPl.local eN) (LPl.frz eN) h1 hD.1 hs.1 (by rw [hG]; simp)
  have h2' : LRow LCh 2 c.chs y G1 D2 := LRow.local LCh.local h2 fun z hz b hb => by rw [f1 z (fun e => hs.2 (e ▸ hz)) (fun hz1 => hD.2.2 z hz1 z hz rfl)]; exact hb
  obtain ⟨G2, w2, k2, f2⟩ := LRow.frzIn (e := eCh) (sz := 2) (pre := pre ++ [Ns c.when_]) (post := post) (v := v) (by omega) (fun _ => rfl) LCh.local LCh.frz h2' hD.2.1 hs.2 (by rw [k1]; simp)
  refine ⟨G2, .trans w1 w2, by rw [k2]; simp, fun z hz hzD => ?_⟩
  rw [List.mem_append, not_or] at hzD
  rw [f2 z hz hzD.2, f1 z hz hzD.1]

/-- Blocks of one's own beside a heap. -/
structure New (H G : Heap) (D : List Nat) : Prop where
  nd : D.Nodup
  fr : ∀ y ∈ D, H y = none
  le : Heap.le H G
theorem New.trans {H G G' : Heap} {D D' : List Nat} (n : New H G D) (m : New G G' D') (hh : ∀ y ∈ D, G y ≠ none) : New H G' (D ++ D') := by
  refine ⟨List.nodup_append.2 ⟨n.nd, m.nd, fun a ha b hb e => hh a ha (by rw [e]; exact m.fr b hb)⟩, fun y hy => ?_, Heap.le_trans n.le m.le⟩
  rcases List.mem_append.1 hy with hy | hy
  · exact n.fr y hy
  · cases hh : H y with
    | none => rfl
    | some b => rw [← m.fr y hy, n.le y b hh]
theorem New.base {H H' G : Heap} {D : List Nat} (n : New H' G D) (hle : Heap.le H H') : New H G D :=
  ⟨n.nd, fun y hy => by
    cases hh : H y with
    | none => rfl
    | some b => rw [← n.fr y hy, hle y b hh], Heap.le_trans hle n.le⟩
theorem New.put {H G : Heap} {D : List Nat} (n : New H G D) {q : Nat} (hq : H q = none) (b : List AV) : New H (G.set q b) D := ⟨n.nd, n.fr, Heap.le_setN n.le hq⟩

theorem toNodeS_live (xs : List Nd) (hl : xs.length ≤ 1048576) {H : Heap} {K : AV → Heap → Prop} (h : ∀ x G D, LN xs x G D → New H G D → K x G) : CallT Tryz.prog 22 [Ns xs] H K := by
  refine W22_ok ?_; simp (maxSteps := 1000000) (disch := first | assumption | (apply Ne.symm; assumption)) only [W22, vz, vu, vv, eqS, eqFieldsV, ↓condV_t, ↓condV_f, tabs, reduceCtorEq, Array.toList, ↓reduceIte, Nat.reduceAdd, Nat.reduceLeDiff, Nat.reduceLT, Nat.reduceMul, Nat.reduceSub, Int.reduceToNat, Int.reduceSub, Int.reduceAdd, Int.reduceNeg, makeSliceV]
  refine ⟨by omega, by omega, by omega, by omega, fun q hq => ?_⟩
  have z0 : rowZ eN [I 0, U 0] xs 0 = zerosA xs.length [I 0, U 0] := rowZ_zero
  rw [← z0]
  refine L22_0_rule (0 : Nat) (fun i => I i) (fun i => H.set q (rowZ eN [I 0, U 0] xs i)) (fun i => i ≤ xs.length) (fun i => xs.length - i) ⟨by omega, .refl _, Heap.le_refl _⟩ ?_
  intro i hi
  have hrl := rowZ_len (e := eN) (zero := [I 0, U 0]) (xs := xs) (i := i) (sz := 2) (fun _ => rfl) rfl hi
  (try simp (maxSteps := 1000000) (disch := first | assumption | (apply Ne.symm; assumption)) only [vz, vu, vv, eqS, eqFieldsV, ↓condV_t, ↓condV_f, tabs, reduceCtorEq, Array.toList, ↓reduceIte, Nat.reduceAdd, Nat.reduceLeDiff, Nat.reduceLT, Nat.reduceMul, Nat.reduceSub, Int.reduceToNat, Int.reduceSub, Int.reduceAdd, Int.reduceNeg, B22_0])
  refine ⟨fun h => ⟨by omega, h, ?_⟩, fun h5 => ?_⟩
  · have hlt : i < xs.length := by omega
    have hput := rowZ_put (e := eN) (zero := [I 0, U 0]) (xs := xs) (i := i) (sz := 2) (fun _ => rfl) rfl hlt rfl rfl
    refine Pu.use (toNode_spec (xs.getD i default)) ?_
    (try simp (maxSteps := 1000000) (disch := first | assumption | (apply Ne.symm; assumption)) only [vz, vu, vv, eqS, eqFieldsV, ↓condV_t, ↓condV_f, tabs, reduceCtorEq, Array.toList, ↓reduceIte, Nat.reduceAdd, Nat.reduceLeDiff, Nat.reduceLT, Nat.reduceMul, Nat.reduceSub, Int.reduceToNat, Int.reduceSub, Int.reduceAdd, Int.reduceNeg])
    refine ⟨by omega, h, by omega, i + 1, by omega, by omega, ?_, ?_⟩
    · rw [wk_int, i64_id (by omega) (by omega)]; simp
    · rw [← hput]; exact Heap.le_refl _
  · have : i = xs.length := by omega
    subst this
    refine h _ _ [q] ⟨q, _, [], rfl, Heap.set_same _ _ _, ?_, rfl⟩ ⟨by simp, by simpa using hq, Heap.le_set hq⟩
    rw [rowZ_end]; exact LL.plain xs

theorem toIntS_live (xs : List Int) (hl : xs.length ≤ 1048576) {H : Heap} {K : AV → Heap → Prop} (h : ∀ x G D, LI xs x G D → New H G D → K x G) : CallT Tryz.prog 46 [Is xs] H K := by
  refine W46_ok ?_; simp (maxSteps := 1000000) (disch := first | assumption | (apply Ne.symm; assumption)) only [W46, vz, vu, vv, eqS, eqFieldsV, ↓condV_t, ↓condV_f, tabs, reduceCtorEq, Array.toList, ↓reduceIte, Nat.reduceAdd, Nat.reduceLeDiff, Nat.reduceLT, Nat.reduceMul, Nat.reduceSub, Int.reduceToNat, Int.reduceSub, Int.reduceAdd, Int.reduceNeg, makeSliceV]
  refine ⟨by omega, by omega, by omega, by omega, fun q hq => ?_⟩
  have z0 : rowZ eI [I 0] xs 0 = zerosA xs.length [I 0] := rowZ_zero
  rw [← z0]
  refine L46_0_rule (0 : Nat) (fun i => I i) (fun i => H.set q (rowZ eI [I 0] xs i)) (fun i => i ≤ xs.length) (fun i => xs.length - i) ⟨by omega, .refl _, Heap.le_refl _⟩ ?_
  intro i hi
  have hrl := rowZ_len (e := eI) (zero := [I 0]) (xs := xs) (i := i) (sz := 1) (fun _ => rfl) rfl hi
  (try simp (maxSteps := 1000000) (disch := first | assumption | (apply Ne.symm; assumption)) only [vz, vu, vv, eqS, eqFieldsV, ↓condV_t, ↓condV_f, tabs, reduceCtorEq, Array.toList, ↓reduceIte, Nat.reduceAdd, Nat.reduceLeDiff, Nat.reduceLT, Nat.reduceMul, Nat.reduceSub, Int.reduceToNat, Int.reduceSub, Int.reduceAdd, Int.reduceNeg, B46_0])
  refine ⟨fun h => ⟨by omega, h, ?_⟩, fun h5 => ?_⟩
  · have hlt : i < xs.length := by omega
    have hput := rowZ_put (e := eI) (zero := [I 0]) (xs := xs) (i := i) (sz := 1) (fun _ => rfl) rfl hlt rfl rfl
    (try simp (maxSteps := 1000000) (disch := first | assumption | (apply Ne.symm; assumption)) only [vz, vu, vv, eqS, eqFieldsV, ↓condV_t, ↓condV_f, tabs, reduceCtorEq, Array.toList, ↓reduceIte, Nat.reduceAdd, Nat.reduceLeDiff, Nat.reduceLT, Nat.reduceMul, Nat.reduceSub, Int.reduceToNat, Int.reduceSub, Int.reduceAdd, Int.reduceNeg])
    refine ⟨by omega, h, by omega, i + 1, by omega, by omega, ?_, ?_⟩
    · rw [wk_int, i64_id (by omega) (by omega)]; simp
    · rw [← hput]; exact Heap.le_refl _
  · have : i = xs.length := by omega
    subst this
    refine h _ _ [q] ⟨q, _, [], rfl, Heap.set_same _ _ _, ?_, rfl⟩ ⟨by simp, by simpa using hq, Heap.le_set hq⟩
    rw [rowZ_end]; exact LL.plain xs

theorem LRow.sl {α : Type} {L : Lay α} {sz : Nat} {xs : List α} {x : AV} {G : Heap} {D : List Nat} (h : LRow L sz xs x G D) : ∃ q, x = .sl q sz 0 xs.length := by
  obtain ⟨q, cs, D', e1, e2, e3, e4⟩ := h; exact ⟨q, e1⟩
theorem ne_mem {D : List Nat} {y z : Nat} (hy : y ∈ D) (hz : z ∉ D) : y ≠ z := fun e => hz (e ▸ hy)
theorem ne_of_new {H G : Heap} {D : List Nat} (n : New H G D) {y : Nat} {b : List AV} (h : H y = some b) : y ∉ D := fun hy => by rw [n.fr y hy] at h; cases h

theorem toChange_live (c : Ch) (hc : smCh c) {H : Heap} {K : AV → Heap → Prop} (h : ∀ cs G D, LCh c cs G D → New H G D → K (.agg cs) G) : CallT Tryz.prog 91 [aCh c] H K := by
  refine W91_ok ?_; simp (maxSteps := 1000000) (disch := first | assumption | (apply Ne.symm; assumption)) only [W91, vz, vu, vv, eqS, eqFieldsV, ↓condV_t, ↓condV_f, tabs, reduceCtorEq, Array.toList, ↓reduceIte, Nat.reduceAdd, Nat.reduceLeDiff, Nat.reduceLT, Nat.reduceMul, Nat.reduceSub, Int.reduceToNat, Int.reduceSub, Int.reduceAdd, Int.reduceNeg]
  intro r hr r2 n1 h2 r3 n2 n3 h3
  have nn1 : r ≠ r2 := Ne.symm n1
  (try simp (maxSteps := 1000000) (disch := first | assumption | (apply Ne.symm; assumption)) only [vz, vu, vv, eqS, eqFieldsV, ↓condV_t, ↓condV_f, tabs, reduceCtorEq, Array.toList, ↓reduceIte, Nat.reduceAdd, Nat.reduceLeDiff, Nat.reduceLT, Nat.reduceMul, Nat.reduceSub, Int.reduceToNat, Int.reduceSub, Int.reduceAdd, Int.reduceNeg])
  refine toNodeS_live c.by_ hc fun x G D hx hn => ?_
  obtain ⟨q, rfl⟩ := LRow.sl hx
  have g3 := hn.le r3 _ (Heap.set_same _ _ _)
  have g2 := hn.le r2 [I 0, .p .nil] (by rw [Heap.set_other (Ne.symm n2), Heap.set_same])
  have m3 := ne_of_new hn (Heap.set_same _ _ _)
  have m2 := ne_of_new hn (y := r2) (b := [I 0, .p .nil]) (by rw [Heap.set_other (Ne.symm n2), Heap.set_same])
  have n2' : r2 ≠ r3 := Ne.symm n2
  (try simp (maxSteps := 1000000) (disch := first | assumption | (apply Ne.symm; assumption)) only [vz, vu, vv, eqS, eqFieldsV, ↓condV_t, ↓condV_f, tabs, reduceCtorEq, Array.toList, ↓reduceIte, Nat.reduceAdd, Nat.reduceLeDiff, Nat.reduceLT, Nat.reduceMul, Nat.reduceSub, Int.reduceToNat, Int.reduceSub, Int.reduceAdd, Int.reduceNeg, store_at g3])
  (try simp (maxSteps := 1000000) (disch := first | assumption | (apply Ne.symm; assumption)) only [vz, vu, vv, eqS, eqFieldsV, ↓condV_t, ↓condV_f, tabs, reduceCtorEq, Array.toList, ↓reduceIte, Nat.reduceAdd, Nat.reduceLeDiff, Nat.reduceLT, Nat.reduceMul, Nat.reduceSub, Int.reduceToNat, Int.reduceSub, Int.reduceAdd, Int.reduceNeg, store_at g2])
  refine h _ _ D ⟨_, rfl, LRow.local (LPl.local eN) hx fun y hy b hb => ?_⟩ ((((hn.base ?_).put h2 _).put h3 _))
  · rw [Heap.set_other (ne_mem hy m3), Heap.set_other (ne_mem hy m2)]; exact hb
  · exact Heap.le_setN (Heap.le_setN (Heap.le_set hr) h2) h3

theorem toChangeS_live (xs : List Ch) (hl : xs.length ≤ 1048576) (hs : ∀ x ∈ xs, smCh x) {H : Heap} {K : AV → Heap → Prop} (h : ∀ x G D, LRow LCh 2 xs x G D → New H G D → K x G) : CallT Tryz.prog 70 [Chs xs] H K := by
  refine W70_ok ?_; simp (maxSteps := 1000000) (disch := first | assumption | (apply Ne.symm; assumption)) only [W70, vz, vu, vv, eqS, eqFieldsV, ↓condV_t, ↓condV_f, tabs, reduceCtorEq, Array.toList, ↓reduceIte, Nat.reduceAdd, Nat.reduceLeDiff, Nat.reduceLT, Nat.reduceMul, Nat.reduceSub, Int.reduceToNat, Int.reduceSub, Int.reduceAdd, Int.reduceNeg, makeSliceV]
  refine ⟨by omega, by omega, by omega, by omega, fun q hq => ?_⟩
  refine L70_0_rule ((0 : Nat), H.set q (zerosA xs.length [I 0, .p .nil]), ([] : List Nat)) (fun s => I s.1) (fun s => s.2.1)
    (fun s => s.1 ≤ xs.length ∧ New H s.2.1 (q :: s.2.2) ∧ ∃ done, s.2.1 q = some (done ++ zerosA (xs.length - s.1) [I 0, .p .nil]) ∧ LL LCh (xs.take s.1) done s.2.1 s.2.2) (fun s => xs.length - s.1)
    ⟨⟨by simp, ⟨by simp, by simpa using hq, Heap.le_set hq⟩, [], by simp [Heap.set_same], ⟨rfl, rfl⟩⟩, .refl _, Heap.le_refl _⟩ ?_
  rintro ⟨i, G, D⟩ ⟨hi, hn, done, hG, hll⟩
  dsimp only at hi hn hG hll
  (try simp (maxSteps := 1000000) (disch := first | assumption | (apply Ne.symm; assumption)) only [vz, vu, vv, eqS, eqFieldsV, ↓condV_t, ↓condV_f, tabs, reduceCtorEq, Array.toList, ↓reduceIte, Nat.reduceAdd, Nat.reduceLeDiff, Nat.reduceLT, Nat.reduceMul, Nat.reduceSub, Int.reduceToNat, Int.reduceSub, Int.reduceAdd, Int.reduceNeg, B70_0])
  refine ⟨fun h => ⟨by omega, h, ?_⟩, fun h5 => ?_⟩
  · have hlt : i < xs.length := by omega
    have hm : xs.getD i default ∈ xs := getD_all (p := fun x => x ∈ xs) (fun _ h => h) hlt
    have hdl : done.length = i * 2 := by rw [LL.size LCh.size hll, List.length_take, Nat.min_eq_left hi]
    refine toChange_live (xs.getD i default) (hs _ hm) fun cs G1 D1 hc hn1 => ?_
    have hG1 := hn1.le q _ hG
    have hcl : cs.length = 2 := LCh.size _ _ _ _ hc
    have hqD1 : q ∉ D1 := ne_of_new hn1 hG
    have hcell : cs.all AV.isCell = true := by
      obtain ⟨x, rfl, hx⟩ := hc
      obtain ⟨qx, rfl⟩ := LRow.sl hx
      rfl
    have hz : zerosA (xs.length - i) [I 0, .p .nil] = [I 0, .p .nil] ++ zerosA (xs.length - (i + 1)) [I 0, .p .nil] := by
      obtain ⟨m, hm⟩ : ∃ m, xs.length - i = m + 1 := ⟨xs.length - i - 1, by omega⟩
      rw [hm, zerosA_succ, show xs.length - (i + 1) = m by omega]
    have hput := splice_at (pre := done) (c := [I 0, .p .nil]) (c' := cs) (post := zerosA (xs.length - (i + 1)) [I 0, .p .nil]) (off := i * 2) (n := 2) hdl.symm hcl.symm (by rw [hcl]; rfl)
    rw [hz] at hG1
    have hzl : (zerosA (xs.length - (i + 1)) [I 0, .p .nil]).length = (xs.length - (i + 1)) * 2 := zerosA_len _ _
    (try simp (maxSteps := 1000000) (disch := first | assumption | (apply Ne.symm; assumption)) only [vz, vu, vv, eqS, eqFieldsV, ↓condV_t, ↓condV_f, tabs, reduceCtorEq, Array.toList, ↓reduceIte, Nat.reduceAdd, Nat.reduceLeDiff, Nat.reduceLT, Nat.reduceMul, Nat.reduceSub, Int.reduceToNat, Int.reduceSub, Int.reduceAdd, Int.reduceNeg, store_at hG1, hcl, hcell])
    refine ⟨by omega, h, by simp only [List.length_append, hdl, hzl, List.length_cons, List.length_nil]; omega, (i + 1, G1.set q (done ++ (cs ++ zerosA (xs.length - (i + 1)) [I 0, .p .nil])), D ++ D1), ⟨by simp only; omega, ?_, done ++ cs, ?_, ?_⟩, by simp only; omega, ?_, ?_⟩
    · have ht := hn.trans hn1 (fun y hy => by
        rcases List.mem_cons.1 hy with rfl | hy
        · rw [hG]; simp
        · exact LL.has LCh.has hll y hy)
      exact ht.put hq _
    · show (G1.set q _) q = _
      rw [Heap.set_same, List.append_assoc]
    · show LL LCh (xs.take (i + 1)) (done ++ cs) (G1.set q (done ++ (cs ++ zerosA (xs.length - (i + 1)) [I 0, .p .nil]))) (D ++ D1)
      rw [take_succ_snoc hlt]
      refine LL.snoc (LCh.local _ _ _ _ _ hc fun y hy b hb => by rw [Heap.set_other (ne_mem hy hqD1)]; exact hb) (LL.local LCh.local hll fun y hy b hb => ?_)
      rw [Heap.set_other (fun e => ?_)]
      · exact hn1.le y b hb
      · have := hn.nd; rw [List.nodup_cons] at this; exact this.1 (e ▸ hy)
    · rw [wk_int, i64_id (by omega) (by omega)]; simp
    · have e : List.take (i * 2) (done ++ ([I 0, .p .nil] ++ zerosA (xs.length - (i + 1)) [I 0, .p .nil])) ++ cs ++ List.drop (i * 2 + 2) (done ++ ([I 0, .p .nil] ++ zerosA (xs.length - (i + 1)) [I 0, .p .nil])) = done ++ (cs ++ zerosA (xs.length - (i + 1)) [I 0, .p .nil]) := hput
      simp only
      rw [← e]
      first | exact Heap.le_refl _ | simp only [List.cons_append, List.nil_append, le_refl_true]
  · have : i = xs.length := by omega
    subst this
    rw [List.take_length] at hll
    refine h _ _ (q :: D) ⟨q, done, D, rfl, ?_, hll, rfl⟩ hn
    rw [hG]; simp [zerosA]

theorem toCommand_live (c : Cm) (hc : smCm c) {H : Heap} {K : AV → Heap → Prop}
    (hC : ∀ (xs : List Ch), xs.length ≤ 1048576 → (∀ x ∈ xs, smCh x) → ∀ {H : Heap} {K : AV → Heap → Prop}, (∀ x G D, LRow LCh 2 xs x G D → New H G D → K x G) → CallT Tryz.prog 70 [Chs xs] H K)
    (h : ∀ cs G D, LCm c cs G D → New H G D → K (.agg cs) G) : CallT Tryz.prog 54 [aCm c] H K := by
  refine W54_ok ?_; simp (maxSteps := 1000000) (disch := first | assumption | (apply Ne.symm; assumption)) only [W54, vz, vu, vv, eqS, eqFieldsV, ↓condV_t, ↓condV_f, tabs, reduceCtorEq, Array.toList, ↓reduceIte, Nat.reduceAdd, Nat.reduceLeDiff, Nat.reduceLT, Nat.reduceMul, Nat.reduceSub, Int.reduceToNat, Int.reduceSub, Int.reduceAdd, Int.reduceNeg]
  intro r hr r2 n1 h2 r3 n2 n3 h3
  have nn1 : r ≠ r2 := Ne.symm n1
  have n2' : r2 ≠ r3 := Ne.symm n2
  have n3' : r ≠ r3 := Ne.symm n3
  (try simp (maxSteps := 1000000) (disch := first | assumption | (apply Ne.symm; assumption)) only [vz, vu, vv, eqS, eqFieldsV, ↓condV_t, ↓condV_f, tabs, reduceCtorEq, Array.toList, ↓reduceIte, Nat.reduceAdd, Nat.reduceLeDiff, Nat.reduceLT, Nat.reduceMul, Nat.reduceSub, Int.reduceToNat, Int.reduceSub, Int.reduceAdd, Int.reduceNeg])
  refine toNodeS_live c.when_ hc.1 fun x G D hx hn => ?_
  obtain ⟨q, rfl⟩ := LRow.sl hx
  have g3 := hn.le r3 _ (Heap.set_same _ _ _)
  have g2 := hn.le r2 [.p .nil, .p .nil] (by rw [Heap.set_other n2', Heap.set_same])
  have g1 := hn.le r [Ns c.when_, Chs c.chs] (by rw [Heap.set_other n3', Heap.set_other nn1, Heap.set_same])
  have m3 := ne_of_new hn (Heap.set_same _ _ _)
  have m2 := ne_of_new hn (y := r2) (b := [.p .nil, .p .nil]) (by rw [Heap.set_other n2', Heap.set_same])
  (try simp (maxSteps := 1000000) (disch := first | assumption | (apply Ne.symm; assumption)) only [vz, vu, vv, eqS, eqFieldsV, ↓condV_t, ↓condV_f, tabs, reduceCtorEq, Array.toList, ↓reduceIte, Nat.reduceAdd, Nat.reduceLeDiff, Nat.reduceLT, Nat.reduceMul, Nat.reduceSub, Int.reduceToNat, Int.reduceSub, Int.reduceAdd, Int.reduceNeg, store_at g3, load_at g1])
  refine hC c.chs hc.2.1 hc.2.2 fun y G2 D2 hy hn2 => ?_
  obtain ⟨q2, rfl⟩ := LRow.sl hy
  have k3 := hn2.le r3 _ (Heap.set_same _ _ _)
  have k2 := hn2.le r2 [.p .nil, .p .nil] (by rw [Heap.set_other n2']; exact g2)
  have l3 := ne_of_new hn2 (Heap.set_same _ _ _)
  have l2 := ne_of_new hn2 (y := r2) (b := [.p .nil, .p .nil]) (by rw [Heap.set_other n2']; exact g2)
  (try simp (maxSteps := 1000000) (disch := first | assumption | (apply Ne.symm; assumption)) only [vz, vu, vv, eqS, eqFieldsV, ↓condV_t, ↓condV_f, tabs, reduceCtorEq, Array.toList, ↓reduceIte, Nat.reduceAdd, Nat.reduceLeDiff, Nat.reduceLT, Nat.reduceMul, Nat.reduceSub, Int.reduceToNat, Int.reduceSub, Int.reduceAdd, Int.reduceNeg, store_at k3])
  (try simp (maxSteps := 1000000) (disch := first | assumption | (apply Ne.symm; assumption)) only [vz, vu, vv, eqS, eqFieldsV, ↓condV_t, ↓condV_f, tabs, reduceCtorEq, Array.toList, ↓reduceIte, Nat.reduceAdd, Nat.reduceLeDiff, Nat.reduceLT, Nat.reduceMul, Nat.reduceSub, Int.reduceToNat, Int.reduceSub, Int.reduceAdd, Int.reduceNeg, store_at k2])
  have hx3 : LN c.when_ (.sl q 2 0 c.when_.length) (G.set r3 [.sl q 2 0 c.when_.length, .p .nil]) D := LRow.local (LPl.local eN) hx fun z hz b hb => by rw [Heap.set_other (ne_mem hz m3)]; exact hb
  have hn' := ((hn.base (Heap.le_setN (Heap.le_setN (Heap.le_set hr) h2) h3)).put h3 [.sl q 2 0 c.when_.length, .p .nil]).trans hn2 (LRow.has (LPl.has eN) hx3)
  refine h _ _ (D ++ D2) ⟨_, _, D, D2, rfl, rfl, LRow.local (LPl.local eN) hx3 fun z hz b hb => ?_, LRow.local LCh.local hy fun z hz b hb => ?_⟩ ((hn'.put h2 _).put h3 _)
  · rw [Heap.set_other (ne_mem hz m3), Heap.set_other (ne_mem hz m2)]; exact hn2.le z b hb
  · rw [Heap.set_other (ne_mem hz l3), Heap.set_other (ne_mem hz l2)]; exact hb

theorem toCommandS_live (xs : List Cm) (hl : xs.length ≤ 1048576) (hs : ∀ x ∈ xs, smCm x) {H : Heap} {K : AV → Heap → Prop} (h : ∀ x G D, LRow LCm 2 xs x G D → New H G D → K x G) : CallT Tryz.prog 30 [Cms xs] H K := by
  refine W30_ok ?_; simp (maxSteps := 1000000) (disch := first | assumption | (apply Ne.symm; assumption)) only [W30, vz, vu, vv, eqS, eqFieldsV, ↓condV_t, ↓condV_f, tabs, reduceCtorEq, Array.toList, ↓reduceIte, Nat.reduceAdd, Nat.reduceLeDiff, Nat.reduceLT, Nat.reduceMul, Nat.reduceSub, Int.reduceToNat, Int.reduceSub, Int.reduceAdd, Int.reduceNeg, makeSliceV]
  refine ⟨by omega, by omega, by omega, by omega, fun q hq => ?_⟩
  refine L30_0_rule ((0 : Nat), H.set q (zerosA xs.length [.p .nil, .p .nil]), ([] : List Nat)) (fun s => I s.1) (fun s => s.2.1)
    (fun s => s.1 ≤ xs.length ∧ New H s.2.1 (q :: s.2.2) ∧ ∃ done, s.2.1 q = some (done ++ zerosA (xs.length - s.1) [.p .nil, .p .nil]) ∧ LL LCm (xs.take s.1) done s.2.1 s.2.2) (fun s => xs.length - s.1)
    ⟨⟨by simp, ⟨by simp, by simpa using hq, Heap.le_set hq⟩, [], by simp [Heap.set_same], ⟨rfl, rfl⟩⟩, .refl _, Heap.le_refl _⟩ ?_
  rintro ⟨i, G, D⟩ ⟨hi, hn, done, hG, hll⟩
  dsimp only at hi hn hG hll
  (try simp (maxSteps := 1000000) (disch := first | assumption | (apply Ne.symm; assumption)) only [vz, vu, vv, eqS, eqFieldsV, ↓condV_t, ↓condV_f, tabs, reduceCtorEq, Array.toList, ↓reduceIte, Nat.reduceAdd, Nat.reduceLeDiff, Nat.reduceLT, Nat.reduceMul, Nat.reduceSub, Int.reduceToNat, Int.reduceSub, Int.reduceAdd, Int.reduceNeg, B30_0])
  refine ⟨fun h => ⟨by omega, h, ?_⟩, fun h5 => ?_⟩
  · have hlt : i < xs.length := by omega
    have hm : xs.getD i default ∈ xs := getD_all (p := fun x => x ∈ xs) (fun _ h => h) hlt
    have hdl : done.length = i * 2 := by rw [LL.size LCm.size hll, List.length_take, Nat.min_eq_left hi]
    refine toCommand_live (xs.getD i default) (hs _ hm) (fun ys h1 h2 {H K} h3 => toChangeS_live ys h1 h2 h3) fun cs G1 D1 hc hn1 => ?_
    have hG1 := hn1.le q _ hG
    have hcl : cs.length = 2 := LCm.size _ _ _ _ hc
    have hqD1 : q ∉ D1 := ne_of_new hn1 hG
    have hcell : cs.all AV.isCell = true := by
      obtain ⟨x, y, E1, E2, rfl, rfl, hx, hy⟩ := hc
      obtain ⟨qx, rfl⟩ := LRow.sl hx
      obtain ⟨qy, rfl⟩ := LRow.sl hy
      rfl
    have hz : zerosA (xs.length - i) [.p .nil, .p .nil] = [.p .nil, .p .nil] ++ zerosA (xs.length - (i + 1)) [.p .nil, .p .nil] := by
      obtain ⟨m, hm⟩ : ∃ m, xs.length - i = m + 1 := ⟨xs.length - i - 1, by omega⟩
      rw [hm, zerosA_succ, show xs.length - (i + 1) = m by omega]
    have hput := splice_at (pre := done) (c := [.p .nil, .p .nil]) (c' := cs) (post := zerosA (xs.length - (i + 1)) [.p .nil, .p .nil]) (off := i * 2) (n := 2) hdl.symm hcl.symm (by rw [hcl]; rfl)
    rw [hz] at hG1
    have hzl : (zerosA (xs.length - (i + 1)) [.p .nil, .p .nil]).length = (xs.length - (i + 1)) * 2 := zerosA_len _ _
    (try simp (maxSteps := 1000000) (disch := first | assumption | (apply Ne.symm; assumption)) only [vz, vu, vv, eqS, eqFieldsV, ↓condV_t, ↓condV_f, tabs, reduceCtorEq, Array.toList, ↓reduceIte, Nat.reduceAdd, Nat.reduceLeDiff, Nat.reduceLT, Nat.reduceMul, Nat.reduceSub, Int.reduceToNat, Int.reduceSub, Int.reduceAdd, Int.reduceNeg, store_at hG1, hcl, hcell])
    refine ⟨by omega, h, by simp only [List.length_append, hdl, hzl, List.length_cons, List.length_nil]; omega, (i + 1, G1.set q (done ++ (cs ++ zerosA (xs.length - (i + 1)) [.p .nil, .p .nil])), D ++ D1), ⟨by simp only; omega, ?_, done ++ cs, ?_, ?_⟩, by simp only; omega, ?_, ?_⟩
    · have ht := hn.trans hn1 (fun y hy => by
        rcases List.mem_cons.1 hy with rfl | hy
        · rw [hG]; simp
        · exact LL.has LCm.has hll y hy)
      exact ht.put hq _
    · show (G1.set q _) q = _
      rw [Heap.set_same, List.append_assoc]
    · show LL LCm (xs.take (i + 1)) (done ++ cs) (G1.set q (done ++ (cs ++ zerosA (xs.length - (i + 1)) [.p .nil, .p .nil]))) (D ++ D1)
      rw [take_succ_snoc hlt]
      refine LL.snoc (LCm.local _ _ _ _ _ hc fun y hy b hb => by rw [Heap.set_other (ne_mem hy hqD1)]; exact hb) (LL.local LCm.local hll fun y hy b hb => ?_)
      rw [Heap.set_other (fun e => ?_)]
      · exact hn1.le y b hb
      · have := hn.nd; rw [List.nodup_cons] at this; exact this.1 (e ▸ hy)
    · rw [wk_int, i64_id (by omega) (by omega)]; simp
    · have e : List.take (i * 2) (done ++ ([.p .nil, .p .nil] ++ zerosA (xs.length - (i + 1)) [.p .nil, .p .nil])) ++ cs ++ List.drop (i * 2 + 2) (done ++ ([.p .nil, .p .nil] ++ zerosA (xs.length - (i + 1)) [.p .nil, .p .nil])) = done ++ (cs ++ zerosA (xs.length - (i + 1)) [.p .nil, .p .nil]) := hput
      simp only
      rw [← e]
      first | exact Heap.le_refl _ | simp only [List.cons_append, List.nil_append, le_refl_true]
  · have : i = xs.length := by omega
    subst this
    rw [List.take_length] at hll
    refine h _ _ (q :: D) ⟨q, done, D, rfl, ?_, hll, rfl⟩ hn
    rw [hG]; simp [zerosA]
end Go.Proofs.YtdnfiacjoghfkaaGreat
/- Programs that own their rows: copies told by value, and marks. -/
namespace Go.Proofs.YtdnfiacjoghfkaaGreat
open Go Go.Sep Go.Pt
set_option linter.unusedSimpArgs false
set_option linter.unusedVariables false
attribute [local irreducible] CallT

def LPg (p : Pg) (v : AV) (G : Heap) (D : List Nat) : Prop := ∃ x y D1 D2, v = .agg [I p.wide, I p.vars, x, y] ∧ D = D1 ++ D2 ∧ LN p.start x G D1 ∧ LRow LCm 2 p.cmds y G D2
theorem LPg.local {p : Pg} {v : AV} {G G' : Heap} {D : List Nat} (h : LPg p v G D) (hf : ∀ y ∈ D, ∀ b, G y = some b → G' y = some b) : LPg p v G' D := by
  obtain ⟨x, y, D1, D2, e, rfl, h1, h2⟩ := h
  exact ⟨x, y, D1, D2, e, rfl, LRow.local (LPl.local eN) h1 (fun z hz => hf z (List.mem_append_left _ hz)), LRow.local LCm.local h2 (fun z hz => hf z (List.mem_append_right _ hz))⟩
theorem LPg.has {p : Pg} {v : AV} {G : Heap} {D : List Nat} (h : LPg p v G D) : ∀ y ∈ D, G y ≠ none := by
  obtain ⟨x, y, D1, D2, e, rfl, h1, h2⟩ := h
  intro z hz
  rcases List.mem_append.1 hz with hz | hz
  · exact LRow.has (LPl.has eN) h1 z hz
  · exact LRow.has LCm.has h2 z hz
theorem LPg.wk {p : Pg} {v : AV} {G : Heap} {D : List Nat} (h : LPg p v G D) (hD : D.Nodup) (C : AV → AV) (hC : ∀ {q sz es a a'}, FrzR q sz es a a' → FrzR q sz es (C a) (C a')) : ∃ G', Wk (C v) G (C (aPg p)) G' ∧ ∀ y, y ∉ D → G' y = G y := by
  obtain ⟨x, y, D1, D2, rfl, rfl, h1, h2⟩ := h
  rw [List.nodup_append] at hD
  obtain ⟨G1, w1, f1⟩ := LRow.frzV (e := eN) (sz := 2) (v := C (.agg [I p.wide, I p.vars, x, y])) (v' := C (.agg [I p.wide, I p.vars, Ns p.start, y])) (by omega) (fun _ => rfl) (LPl.local eN) (LPl.frz eN) h1 hD.1
    (fun q _ hr => hC (.agg (.cons (.same _) (.cons (.same _) (.cons hr (.cons (.same _) .nil))))))
  have h2' := LRow.local LCm.local h2 (G' := G1) fun z hz b hb => by rw [f1 z (fun hz1 => hD.2.2 z hz1 z hz rfl)]; exact hb
  obtain ⟨G2, w2, f2⟩ := LRow.frzV (e := eCm) (sz := 2) (v := C (.agg [I p.wide, I p.vars, Ns p.start, y])) (v' := C (aPg p)) (by omega) (fun _ => rfl) LCm.local LCm.frz h2' hD.2.1
    (fun q _ hr => hC (.agg (.cons (.same _) (.cons (.same _) (.cons (.same _) (.cons hr .nil))))))
  refine ⟨G2, .trans w1 w2, fun z hz => ?_⟩
  rw [List.mem_append, not_or] at hz
  rw [f2 z hz.2, f1 z hz.1]

def LSt (of : List Int) (v : AV) (G : Heap) (D : List Nat) : Prop := ∃ x, v = .agg [x] ∧ LI of x G D
theorem LI_row {xs : List Int} {x : AV} {G : Heap} {D : List Nat} (h : LI xs x G D) : ∃ q, x = rowP q xs ∧ G q = some (cells (xs.map eI)) ∧ D = [q] := by
  obtain ⟨q, cs, D', e1, e2, e3, e4⟩ := h
  have key : ∀ (xs : List Int) cs D', LL (LPl eI) xs cs G D' → cs = cells (xs.map eI) ∧ D' = [] := by
    intro xs
    induction xs with
    | nil => intro cs D' h; exact h
    | cons a bs ih =>
      rintro cs D' ⟨c1, c2, D1, D2, rfl, rfl, ⟨rfl, rfl⟩, h2⟩
      obtain ⟨rfl, rfl⟩ := ih _ _ h2
      exact ⟨by simp [cells], rfl⟩
  obtain ⟨rfl, rfl⟩ := key _ _ _ e3
  exact ⟨q, e1, e2, e4⟩
theorem LSt.local {of : List Int} {v : AV} {G G' : Heap} {D : List Nat} (h : LSt of v G D) (hf : ∀ y ∈ D, ∀ b, G y = some b → G' y = some b) : LSt of v G' D := by
  obtain ⟨x, e, h⟩ := h; exact ⟨x, e, LRow.local (LPl.local eI) h hf⟩
theorem LSt.has {of : List Int} {v : AV} {G : Heap} {D : List Nat} (h : LSt of v G D) : ∀ y ∈ D, G y ≠ none := by
  obtain ⟨x, e, h⟩ := h; exact LRow.has (LPl.has eI) h
theorem LSt.wk {of : List Int} {v : AV} {G : Heap} {D : List Nat} (h : LSt of v G D) (hD : D.Nodup) (C : AV → AV) (hC : ∀ {q sz es a a'}, FrzR q sz es a a' → FrzR q sz es (C a) (C a')) : ∃ G', Wk (C v) G (C (aS of)) G' ∧ ∀ y, y ∉ D → G' y = G y := by
  obtain ⟨x, rfl, h⟩ := h
  exact LRow.frzV (e := eI) (sz := 1) (v := C (.agg [x])) (v' := C (aS of)) (by omega) (fun _ => rfl) (LPl.local eI) (LPl.frz eI) h hD (fun q _ hr => hC (.agg (.cons hr .nil)))

theorem toProgram_live (p : Pg) (hp : smPg p) {H : Heap} {K : AV → Heap → Prop} (h : ∀ v G D, LPg p v G D → New H G D → K v G) : CallT Tryz.prog 8 [aPg p] H K := by
  refine W8_ok ?_; simp (maxSteps := 1000000) (disch := first | assumption | (apply Ne.symm; assumption)) only [W8, vz, vu, vv, eqS, eqFieldsV, ↓condV_t, ↓condV_f, tabs, reduceCtorEq, Array.toList, ↓reduceIte, Nat.reduceAdd, Nat.reduceLeDiff, Nat.reduceLT, Nat.reduceMul, Nat.reduceSub, Int.reduceToNat, Int.reduceSub, Int.reduceAdd, Int.reduceNeg]
  intro r hr r2 n1 h2 r3 n2 n3 h3
  have nn1 : r ≠ r2 := Ne.symm n1
  have n2' : r2 ≠ r3 := Ne.symm n2
  have n3' : r ≠ r3 := Ne.symm n3
  (try simp (maxSteps := 1000000) (disch := first | assumption | (apply Ne.symm; assumption)) only [vz, vu, vv, eqS, eqFieldsV, ↓condV_t, ↓condV_f, tabs, reduceCtorEq, Array.toList, ↓reduceIte, Nat.reduceAdd, Nat.reduceLeDiff, Nat.reduceLT, Nat.reduceMul, Nat.reduceSub, Int.reduceToNat, Int.reduceSub, Int.reduceAdd, Int.reduceNeg])
  refine toNodeS_live p.start hp.1 fun x G D hx hn => ?_
  obtain ⟨q, rfl⟩ := LRow.sl hx
  have g3 := hn.le r3 _ (Heap.set_same _ _ _)
  have g2 := hn.le r2 [I 0, I 0, .p .nil, .p .nil] (by rw [Heap.set_other n2', Heap.set_same])
  have g1 := hn.le r [I p.wide, I p.vars, Ns p.start, Cms p.cmds] (by rw [Heap.set_other n3', Heap.set_other nn1, Heap.set_same])
  have m3 := ne_of_new hn (Heap.set_same _ _ _)
  (try simp (maxSteps := 1000000) (disch := first | assumption | (apply Ne.symm; assumption)) only [vz, vu, vv, eqS, eqFieldsV, ↓condV_t, ↓condV_f, tabs, reduceCtorEq, Array.toList, ↓reduceIte, Nat.reduceAdd, Nat.reduceLeDiff, Nat.reduceLT, Nat.reduceMul, Nat.reduceSub, Int.reduceToNat, Int.reduceSub, Int.reduceAdd, Int.reduceNeg, store_at g3, load_at g1])
  refine toCommandS_live p.cmds hp.2.1 hp.2.2 fun y G2 D2 hy hn2 => ?_
  obtain ⟨q2, rfl⟩ := LRow.sl hy
  have k3 := hn2.le r3 _ (Heap.set_same _ _ _)
  have k2 := hn2.le r2 [I 0, I 0, .p .nil, .p .nil] (by rw [Heap.set_other n2']; exact g2)
  have l3 := ne_of_new hn2 (Heap.set_same _ _ _)
  have l2 := ne_of_new hn2 (y := r2) (b := [I 0, I 0, .p .nil, .p .nil]) (by rw [Heap.set_other n2']; exact g2)
  have m2 := ne_of_new hn (y := r2) (b := [I 0, I 0, .p .nil, .p .nil]) (by rw [Heap.set_other n2', Heap.set_same])
  (try simp (maxSteps := 1000000) (disch := first | assumption | (apply Ne.symm; assumption)) only [vz, vu, vv, eqS, eqFieldsV, ↓condV_t, ↓condV_f, tabs, reduceCtorEq, Array.toList, ↓reduceIte, Nat.reduceAdd, Nat.reduceLeDiff, Nat.reduceLT, Nat.reduceMul, Nat.reduceSub, Int.reduceToNat, Int.reduceSub, Int.reduceAdd, Int.reduceNeg, store_at k3])
  (try simp (maxSteps := 1000000) (disch := first | assumption | (apply Ne.symm; assumption)) only [vz, vu, vv, eqS, eqFieldsV, ↓condV_t, ↓condV_f, tabs, reduceCtorEq, Array.toList, ↓reduceIte, Nat.reduceAdd, Nat.reduceLeDiff, Nat.reduceLT, Nat.reduceMul, Nat.reduceSub, Int.reduceToNat, Int.reduceSub, Int.reduceAdd, Int.reduceNeg, store_at k2])
  have hx3 : LN p.start (.sl q 2 0 p.start.length) (G.set r3 [I p.wide, I p.vars, .sl q 2 0 p.start.length, .p .nil]) D := LRow.local (LPl.local eN) hx fun z hz b hb => by rw [Heap.set_other (ne_mem hz m3)]; exact hb
  have hn' := ((hn.base (Heap.le_setN (Heap.le_setN (Heap.le_set hr) h2) h3)).put h3 [I p.wide, I p.vars, .sl q 2 0 p.start.length, .p .nil]).trans hn2 (LRow.has (LPl.has eN) hx3)
  refine h _ _ (D ++ D2) ⟨_, _, D, D2, rfl, rfl, LRow.local (LPl.local eN) hx3 fun z hz b hb => ?_, LRow.local LCm.local hy fun z hz b hb => ?_⟩ ((hn'.put h2 _).put h3 _)
  · rw [Heap.set_other (ne_mem hz m3), Heap.set_other (ne_mem hz m2)]; exact hn2.le z b hb
  · rw [Heap.set_other (ne_mem hz l3), Heap.set_other (ne_mem hz l2)]; exact hb

theorem toSight_live (of : List Int) (hl : of.length ≤ 1048576) {H : Heap} {K : AV → Heap → Prop} (h : ∀ v G D, LSt of v G D → New H G D → K v G) : CallT Tryz.prog 21 [aS of] H K := by
  refine W21_ok ?_; simp (maxSteps := 1000000) (disch := first | assumption | (apply Ne.symm; assumption)) only [W21, vz, vu, vv, eqS, eqFieldsV, ↓condV_t, ↓condV_f, tabs, reduceCtorEq, Array.toList, ↓reduceIte, Nat.reduceAdd, Nat.reduceLeDiff, Nat.reduceLT, Nat.reduceMul, Nat.reduceSub, Int.reduceToNat, Int.reduceSub, Int.reduceAdd, Int.reduceNeg]
  intro r hr r2 n1 h2 r3 n2 n3 h3
  have n2' : r2 ≠ r3 := Ne.symm n2
  (try simp (maxSteps := 1000000) (disch := first | assumption | (apply Ne.symm; assumption)) only [vz, vu, vv, eqS, eqFieldsV, ↓condV_t, ↓condV_f, tabs, reduceCtorEq, Array.toList, ↓reduceIte, Nat.reduceAdd, Nat.reduceLeDiff, Nat.reduceLT, Nat.reduceMul, Nat.reduceSub, Int.reduceToNat, Int.reduceSub, Int.reduceAdd, Int.reduceNeg])
  refine toIntS_live of hl fun x G D hx hn => ?_
  obtain ⟨q, rfl⟩ := LRow.sl hx
  have g3 := hn.le r3 _ (Heap.set_same _ _ _)
  have g2 := hn.le r2 [.p .nil] (by rw [Heap.set_other n2', Heap.set_same])
  have m3 := ne_of_new hn (Heap.set_same _ _ _)
  have m2 := ne_of_new hn (y := r2) (b := [.p .nil]) (by rw [Heap.set_other n2', Heap.set_same])
  (try simp (maxSteps := 1000000) (disch := first | assumption | (apply Ne.symm; assumption)) only [vz, vu, vv, eqS, eqFieldsV, ↓condV_t, ↓condV_f, tabs, reduceCtorEq, Array.toList, ↓reduceIte, Nat.reduceAdd, Nat.reduceLeDiff, Nat.reduceLT, Nat.reduceMul, Nat.reduceSub, Int.reduceToNat, Int.reduceSub, Int.reduceAdd, Int.reduceNeg, store_at g3])
  (try simp (maxSteps := 1000000) (disch := first | assumption | (apply Ne.symm; assumption)) only [vz, vu, vv, eqS, eqFieldsV, ↓condV_t, ↓condV_f, tabs, reduceCtorEq, Array.toList, ↓reduceIte, Nat.reduceAdd, Nat.reduceLeDiff, Nat.reduceLT, Nat.reduceMul, Nat.reduceSub, Int.reduceToNat, Int.reduceSub, Int.reduceAdd, Int.reduceNeg, store_at g2])
  refine h _ _ D ⟨_, rfl, LRow.local (LPl.local eI) hx fun y hy b hb => ?_⟩ ((((hn.base ?_).put h2 _).put h3 _))
  · rw [Heap.set_other (ne_mem hy m3), Heap.set_other (ne_mem hy m2)]; exact hb
  · exact Heap.le_setN (Heap.le_setN (Heap.le_set hr) h2) h3

/-! ### Marks -/
def marked (k : Int) (n : Nat) : List Int := (List.range n).map fun (j : Nat) => k + (j : Int)
theorem marked_len (k : Int) (n : Nat) : (marked k n).length = n := by simp [marked]

theorem markIntS_live (xs : List Int) (hl : xs.length ≤ 1048576) {k : Int} (h0 : 0 ≤ k) (h1 : k ≤ 1000000000) {q : Nat} {G : Heap} (hG : G q = some (cells (xs.map eI))) {K : AV → Heap → Prop}
    (h : K (I (k + xs.length)) (G.set q (cells ((marked k xs.length).map eI)))) : CallT Tryz.prog 40 [rowP q xs, I k] G K := by
  refine W40_ok ?_; simp (maxSteps := 1000000) (disch := first | assumption | (apply Ne.symm; assumption)) only [W40, vz, vu, vv, eqS, eqFieldsV, ↓condV_t, ↓condV_f, tabs, reduceCtorEq, Array.toList, ↓reduceIte, Nat.reduceAdd, Nat.reduceLeDiff, Nat.reduceLT, Nat.reduceMul, Nat.reduceSub, Int.reduceToNat, Int.reduceSub, Int.reduceAdd, Int.reduceNeg]
  refine L40_0_rule (0 : Nat) (fun i => I (k + i)) (fun i => I i) (fun i => G.set q (cells ((marked k i ++ xs.drop i).map eI))) (fun i => i ≤ xs.length) (fun i => xs.length - i) ⟨by omega, ?_, .refl _, ?_⟩ ?_
  · rw [wk_int]; simp
  · intro y b hy
    by_cases e : y = q
    · subst e; rw [Heap.set_same] at hy; rw [hG]; simpa [marked] using hy
    · rw [Heap.set_other e] at hy; exact hy
  intro i hi
  have hcl : (cells ((marked k i ++ xs.drop i).map eI)).length = xs.length := by
    rw [cells_I, List.length_map, List.length_append, marked_len, List.length_drop]; omega
  (try simp (maxSteps := 1000000) (disch := first | assumption | (apply Ne.symm; assumption)) only [vz, vu, vv, eqS, eqFieldsV, ↓condV_t, ↓condV_f, tabs, reduceCtorEq, Array.toList, ↓reduceIte, Nat.reduceAdd, Nat.reduceLeDiff, Nat.reduceLT, Nat.reduceMul, Nat.reduceSub, Int.reduceToNat, Int.reduceSub, Int.reduceAdd, Int.reduceNeg, B40_0, hcl])
  refine ⟨fun h5 => ?_, fun h5 => ?_⟩
  · have hlt : i < xs.length := by omega
    refine ⟨by omega, h5, by omega, i + 1, by omega, by omega, ?_, ?_, ?_⟩
    · rw [wk_int, i64_id (by omega) (by omega)]; omega
    · rw [wk_int, i64_id (by omega) (by omega)]; simp
    · have e1 : xs.drop i = xs.getD i 0 :: xs.drop (i + 1) := by rw [List.drop_eq_getElem_cons hlt]; simp [List.getD, hlt]
      have e2 : marked k (i + 1) = marked k i ++ [k + i] := by simp [marked, List.range_succ]
      have e3 : cells ((marked k i ++ xs.drop i).map eI) = cells ((marked k i).map eI) ++ ([I (xs.getD i 0)] ++ cells ((xs.drop (i + 1)).map eI)) := by rw [e1, List.map_append, cells_app]; rfl
      have e4 : cells ((marked k (i + 1) ++ xs.drop (i + 1)).map eI) = cells ((marked k i).map eI) ++ ([I (k + i)] ++ cells ((xs.drop (i + 1)).map eI)) := by rw [e2, List.append_assoc, List.map_append, cells_app]; rfl
      have e5 := splice_at (pre := cells ((marked k i).map eI)) (c := [I (xs.getD i 0)]) (c' := [I (k + i)]) (post := cells ((xs.drop (i + 1)).map eI)) (off := i * 1) (n := 1) (by rw [cells_I, List.length_map, marked_len, Nat.mul_one]) rfl rfl
      rw [← e3, ← e4] at e5
      rw [← e5]; exact Heap.le_refl _
  · have : i = xs.length := by omega
    subst this
    simpa using h

theorem heldIntS_spec (n : Nat) (hl : n ≤ 1048576) {k : Int} (h0 : 0 ≤ k) (h1 : k ≤ 1000000000) : Pu Tryz.prog 41 [Is (marked k n), I k] (I (k + n)) := by
  refine Pu.of fun H => ?_
  have hml := marked_len k n
  refine W41_ok ?_; simp (maxSteps := 1000000) (disch := first | assumption | (apply Ne.symm; assumption)) only [W41, vz, vu, vv, eqS, eqFieldsV, ↓condV_t, ↓condV_f, tabs, reduceCtorEq, Array.toList, ↓reduceIte, Nat.reduceAdd, Nat.reduceLeDiff, Nat.reduceLT, Nat.reduceMul, Nat.reduceSub, Int.reduceToNat, Int.reduceSub, Int.reduceAdd, Int.reduceNeg]
  refine L41_0_rule (0 : Nat) (fun i => I (k + i)) (fun i => I i) (fun _ => H) (fun i => i ≤ n) (fun i => n - i) ⟨by omega, ?_, .refl _, Heap.le_refl _⟩ ?_
  · rw [wk_int]; simp
  intro i hi
  (try simp (maxSteps := 1000000) (disch := first | assumption | (apply Ne.symm; assumption)) only [vz, vu, vv, eqS, eqFieldsV, ↓condV_t, ↓condV_f, tabs, reduceCtorEq, Array.toList, ↓reduceIte, Nat.reduceAdd, Nat.reduceLeDiff, Nat.reduceLT, Nat.reduceMul, Nat.reduceSub, Int.reduceToNat, Int.reduceSub, Int.reduceAdd, Int.reduceNeg, B41_0, hml])
  refine ⟨fun h5 => ?_, fun h5 => ?_⟩
  · have hlt : i < n := by omega
    have e : (marked k n).getD i default = k + i := by simp [marked, List.getD, hlt]
    rw [e]
    refine ⟨by omega, h5, fun h6 => absurd rfl h6, fun _ => ⟨i + 1, by omega, by omega, ?_, ?_⟩⟩
    · rw [wk_int, i64_id (by omega) (by omega)]; omega
    · rw [wk_int, i64_id (by omega) (by omega)]; simp
  · have : i = n := by omega
    subst this; rfl
end Go.Proofs.YtdnfiacjoghfkaaGreat
/- Marks on programs that own their rows. -/
namespace Go.Proofs.YtdnfiacjoghfkaaGreat
open Go Go.Sep Go.Pt
set_option linter.unusedSimpArgs false
set_option linter.unusedVariables false
attribute [local irreducible] CallT

theorem drop_cons {α : Type} [Inhabited α] {xs : List α} {i : Nat} (h : i < xs.length) : xs.drop i = xs.getD i default :: xs.drop (i + 1) := by
  rw [List.drop_eq_getElem_cons h]; simp [List.getD, h]
/-- A row half of which is done. -/
structure Half {α : Type} (L : Lay α) (G0 : Heap) (q : Nat) (D : List Nat) (xs : List α) (i : Nat) (G : Heap) (done : List α) : Prop where
  ex : ∃ cd cr Dd Dr, G q = some (cd ++ cr) ∧ LL L done cd G Dd ∧ LL L (xs.drop i) cr G Dr ∧ D = Dd ++ Dr
  len : done.length = i
  fr : ∀ y, y ∉ q :: D → G y = G0 y

theorem LL_plain_D {α : Type} {e : α → List PV} {G : Heap} : ∀ {xs : List α} {cs : List AV} {D : List Nat}, LL (LPl e) xs cs G D → D = []
  | [], _, _, h => h.2
  | a :: bs, _, _, ⟨c1, c2, D1, D2, e1, e2, h1, h2⟩ => by rw [e2, h1.2, LL_plain_D h2]; rfl
theorem LL_plain_any {α : Type} {e : α → List PV} {G : Heap} (G' : Heap) {xs : List α} {cs : List AV} {D : List Nat} (h : LL (LPl e) xs cs G D) : LL (LPl e) xs cs G' D :=
  LL.local (LPl.local e) h fun y hy => by rw [LL_plain_D h] at hy; cases hy
theorem markNodeS_live (t : List Nd) (hl : t.length ≤ 1048576) {x : AV} {G : Heap} {D : List Nat} (hx : LN t x G D) (hD : D.Nodup) {k : Int} (h0 : 0 ≤ k) (hk : k ≤ 900000000) {K : AV → Heap → Prop}
    (h : ∀ k' t' G', LN t' x G' D → t'.length = t.length → (∀ y, y ∉ D → G' y = G y) → k ≤ k' → k' ≤ k + 2 * t.length → K (I k') G') : CallT Tryz.prog 25 [x, I k] G K := by
  obtain ⟨q, cs, D', rfl, hq, hll, rfl⟩ := hx
  refine W25_ok ?_; simp (maxSteps := 1000000) (disch := first | assumption | (apply Ne.symm; assumption)) only [W25, vz, vu, vv, eqS, eqFieldsV, ↓condV_t, ↓condV_f, tabs, reduceCtorEq, Array.toList, ↓reduceIte, Nat.reduceAdd, Nat.reduceLeDiff, Nat.reduceLT, Nat.reduceMul, Nat.reduceSub, Int.reduceToNat, Int.reduceSub, Int.reduceAdd, Int.reduceNeg]
  refine L25_0_rule ((0 : Nat), G, ([] : List Nd)) (fun s => I (k + 2 * s.1)) (fun s => I s.1) (fun s => s.2.1) (fun s => s.1 ≤ t.length ∧ Half (LPl eN) G q D' t s.1 s.2.1 s.2.2) (fun s => t.length - s.1)
    ⟨⟨by simp, ⟨⟨[], cs, [], D', by simpa using hq, ⟨rfl, rfl⟩, by simpa using hll, rfl⟩, rfl, fun _ _ => rfl⟩⟩, ?_, .refl _, Heap.le_refl _⟩ ?_
  · rw [wk_int]; simp
  rintro ⟨i, G1, done⟩ ⟨hi, ⟨⟨cd, cr, Dd, Dr, e1, e2, e3, e4⟩, e5, e6⟩⟩
  dsimp only at hi e1 e2 e3 e4 e5 e6
  (try simp (maxSteps := 1000000) (disch := first | assumption | (apply Ne.symm; assumption)) only [vz, vu, vv, eqS, eqFieldsV, ↓condV_t, ↓condV_f, tabs, reduceCtorEq, Array.toList, ↓reduceIte, Nat.reduceAdd, Nat.reduceLeDiff, Nat.reduceLT, Nat.reduceMul, Nat.reduceSub, Int.reduceToNat, Int.reduceSub, Int.reduceAdd, Int.reduceNeg, B25_0])
  refine ⟨fun h5 => ?_, fun h5 => ?_⟩
  · have hlt : i < t.length := by omega
    rw [drop_cons hlt] at e3
    obtain ⟨c, c2, Di, D2, rfl, rfl, ⟨rfl, rfl⟩, f2⟩ := e3
    have hdl : cd.length = i * 2 := by rw [LL.size (LPl.size (e := eN) (sz := 2) (fun _ => rfl)) e2, e5]
    generalize t.getD i default = a at e1
    have e1' : G1 q = some (cd ++ (I a.op :: U a.n :: c2)) := e1
    have p1 : ∀ z, List.take (i * 2) (cd ++ (I a.op :: U a.n :: c2)) ++ [z] ++ List.drop (i * 2 + 1) (cd ++ (I a.op :: U a.n :: c2)) = cd ++ (z :: U a.n :: c2) := fun z => splice_at (c := [I a.op]) (c' := [z]) (post := U a.n :: c2) hdl.symm rfl rfl
    have p2 : ∀ z w, List.take (i * 2 + 1) (cd ++ (z :: U a.n :: c2)) ++ [w] ++ List.drop (i * 2 + 1 + 1) (cd ++ (z :: U a.n :: c2)) = cd ++ (z :: w :: c2) := fun z w => by
      have := splice_at (pre := cd ++ [z]) (c := [U a.n]) (c' := [w]) (post := c2) (off := i * 2 + 1) (n := 1) (by simp [hdl]) rfl rfl
      simpa using this
    (try simp (maxSteps := 1000000) (disch := first | assumption | (apply Ne.symm; assumption)) only [vz, vu, vv, eqS, eqFieldsV, ↓condV_t, ↓condV_f, tabs, reduceCtorEq, Array.toList, ↓reduceIte, Nat.reduceAdd, Nat.reduceLeDiff, Nat.reduceLT, Nat.reduceMul, Nat.reduceSub, Int.reduceToNat, Int.reduceSub, Int.reduceAdd, Int.reduceNeg, store_at e1'])
    rw [p1]
    refine ⟨by omega, h5, by omega, by omega, h5, by simp only [List.length_take, List.length_drop, List.length_append, List.length_cons, List.length_nil]; omega,
      (i + 1, G1.set q (cd ++ (I (k + 2 * i) :: U (IntKind.u64.wrap (IntKind.i64.wrap (k + 2 * ↑i + 1))) :: c2)), done ++ [⟨k + 2 * i, IntKind.u64.wrap (IntKind.i64.wrap (k + 2 * ↑i + 1))⟩]), ⟨by simp only; omega, ⟨⟨cd ++ [I (k + 2 * i), U (IntKind.u64.wrap (IntKind.i64.wrap (k + 2 * ↑i + 1)))], c2, Dd, D2, ?_, ?_, ?_, ?_⟩, by simp [e5], fun y hy => ?_⟩⟩, by simp only; omega, ?_, ?_, ?_⟩
    · show (G1.set q _) q = _
      rw [Heap.set_same]; simp
    · have := LL.snoc (L := LPl eN) (a := ⟨k + 2 * i, IntKind.u64.wrap (IntKind.i64.wrap (k + 2 * ↑i + 1))⟩) (G := G1.set q (cd ++ (I (k + 2 * i) :: U (IntKind.u64.wrap (IntKind.i64.wrap (k + 2 * ↑i + 1))) :: c2))) (D2 := []) ⟨rfl, rfl⟩ (LL_plain_any _ e2)
      simpa using this
    · exact LL_plain_any _ f2
    · simpa using e4
    · show (G1.set q _) y = _
      rw [List.mem_cons, not_or] at hy
      rw [Heap.set_other hy.1, e6 y (by simp [hy.1, hy.2])]
    · rw [wk_int, i64_id (n := k + 2 * i + 1) (by omega) (by omega), i64_id (by omega) (by omega)]; simp only; omega
    · rw [wk_int, i64_id (by omega) (by omega)]; simp
    · have := p2 (I (k + 2 * i)) (U (IntKind.u64.wrap (IntKind.i64.wrap (k + 2 * ↑i + 1))))
      simp only
      rw [this]; exact Heap.le_refl _
  · have : i = t.length := by omega
    subst this
    rw [List.drop_length] at e3
    obtain ⟨rfl, rfl⟩ := e3
    refine h _ done G1 ⟨q, cd, D', by rw [e5], by simpa using e1, by rw [e4]; simpa using e2, rfl⟩ e5 e6 (by omega) (by omega)

end Go.Proofs.YtdnfiacjoghfkaaGreat
/- Specs: automata that own their rows: copies, marks. -/
namespace Go.Proofs.YtdnfiacjoghfkaaGreat
open Go Go.Sep Go.Pt
set_option linter.unusedSimpArgs false
set_option linter.unusedVariables false
attribute [local irreducible] CallT

abbrev LE : List Ed → AV → Heap → List Nat → Prop := LRow (LPl eE) 3
def LIc : Lay (List Int) := fun l cs G D => ∃ x, cs = [x] ∧ LI l x G D
abbrev LII : List (List Int) → AV → Heap → List Nat → Prop := LRow LIc 1
theorem LIc.local : Lay.Local LIc := by
  rintro c cs G G' D ⟨x, e, h⟩ hf
  exact ⟨x, e, LRow.local (LPl.local eI) h hf⟩
theorem LIc.size : Lay.Size LIc 1 := by
  rintro c cs G D ⟨x, rfl, h⟩; rfl
theorem LIc.has : Lay.Has LIc := by
  rintro c cs G D ⟨x, e, h⟩
  exact LRow.has (LPl.has eI) h
theorem LIc.frz : Lay.Frz LIc eL := by
  rintro c cs G D v s pre post ⟨x, rfl, h⟩ hD hs hG
  obtain ⟨G', w, k, f⟩ := LRow.frzIn (e := eI) (sz := 1) (pre := pre) (post := post) (v := v) (by omega) (fun _ => rfl) (LPl.local eI) (LPl.frz eI) h hD hs (by rw [hG])
  exact ⟨G', w, by rw [k]; rfl, f⟩
def LAu (a : Au) (v : AV) (G : Heap) (D : List Nat) : Prop := ∃ x y z D1 D2 D3, v = .agg [I a.states, x, y, z] ∧ D = D1 ++ (D2 ++ D3) ∧ LI a.first x G D1 ∧ LE a.edges y G D2 ∧ LII a.goals z G D3
theorem LAu.local {a : Au} {v : AV} {G G' : Heap} {D : List Nat} (h : LAu a v G D) (hf : ∀ y ∈ D, ∀ b, G y = some b → G' y = some b) : LAu a v G' D := by
  obtain ⟨x, y, z, D1, D2, D3, e, rfl, h1, h2, h3⟩ := h
  exact ⟨x, y, z, D1, D2, D3, e, rfl, LRow.local (LPl.local eI) h1 (fun u hu => hf u (by simp [hu])), LRow.local (LPl.local eE) h2 (fun u hu => hf u (by simp [hu])), LRow.local LIc.local h3 (fun u hu => hf u (by simp [hu]))⟩
theorem LAu.has {a : Au} {v : AV} {G : Heap} {D : List Nat} (h : LAu a v G D) : ∀ y ∈ D, G y ≠ none := by
  obtain ⟨x, y, z, D1, D2, D3, e, rfl, h1, h2, h3⟩ := h
  intro u hu
  simp only [List.mem_append] at hu
  rcases hu with hu | hu | hu
  · exact LRow.has (LPl.has eI) h1 u hu
  · exact LRow.has (LPl.has eE) h2 u hu
  · exact LRow.has LIc.has h3 u hu
theorem nd3' {A B C : List Nat} (h : (A ++ (B ++ C)).Nodup) : A.Nodup ∧ B.Nodup ∧ C.Nodup ∧ (∀ y ∈ A, y ∉ B) ∧ (∀ y ∈ A, y ∉ C) ∧ (∀ y ∈ B, y ∉ C) := by
  rw [List.nodup_append, List.nodup_append] at h
  obtain ⟨h1, ⟨h2, h3, h4⟩, h5⟩ := h
  exact ⟨h1, h2, h3, fun y hy hb => h5 y hy y (List.mem_append_left _ hb) rfl, fun y hy hb => h5 y hy y (List.mem_append_right _ hb) rfl, fun y hy hb => h4 y hy y hb rfl⟩
theorem LAu.wk {a : Au} {v : AV} {G : Heap} {D : List Nat} (h : LAu a v G D) (hD : D.Nodup) (C : AV → AV) (hC : ∀ {q sz es a a'}, FrzR q sz es a a' → FrzR q sz es (C a) (C a')) : ∃ G', Wk (C v) G (C (aAu a)) G' ∧ ∀ y, y ∉ D → G' y = G y := by
  obtain ⟨x, y, z, D1, D2, D3, rfl, rfl, h1, h2, h3⟩ := h
  obtain ⟨n1, n2, n3, d12, d13, d23⟩ := nd3' hD
  obtain ⟨G1, w1, f1⟩ := LRow.frzV (e := eI) (sz := 1) (v := C (.agg [I a.states, x, y, z])) (v' := C (.agg [I a.states, Is a.first, y, z])) (by omega) (fun _ => rfl) (LPl.local eI) (LPl.frz eI) h1 n1
    (fun q _ hr => hC (.agg (.cons (.same _) (.cons hr (.cons (.same _) (.cons (.same _) .nil))))))
  have h2' := LRow.local (LPl.local eE) h2 (G' := G1) fun u hu b hb => by rw [f1 u (fun h => d12 u h hu)]; exact hb
  obtain ⟨G2, w2, f2⟩ := LRow.frzV (e := eE) (sz := 3) (v := C (.agg [I a.states, Is a.first, y, z])) (v' := C (.agg [I a.states, Is a.first, Es a.edges, z])) (by omega) (fun _ => rfl) (LPl.local eE) (LPl.frz eE) h2' n2
    (fun q _ hr => hC (.agg (.cons (.same _) (.cons (.same _) (.cons hr (.cons (.same _) .nil))))))
  have h3' := LRow.local LIc.local h3 (G' := G2) fun u hu b hb => by rw [f2 u (fun h => d23 u h hu), f1 u (fun h => d13 u h hu)]; exact hb
  obtain ⟨G3, w3, f3⟩ := LRow.frzV (e := eL) (sz := 1) (v := C (.agg [I a.states, Is a.first, Es a.edges, z])) (v' := C (aAu a)) (by omega) (fun _ => rfl) LIc.local LIc.frz h3' n3
    (fun q _ hr => hC (.agg (.cons (.same _) (.cons (.same _) (.cons (.same _) (.cons hr .nil))))))
  refine ⟨G3, .trans w1 (.trans w2 w3), fun u hu => ?_⟩
  simp only [List.mem_append, not_or] at hu
  rw [f3 u hu.2.2, f2 u hu.2.1, f1 u hu.1]

end Go.Proofs.YtdnfiacjoghfkaaGreat
/- Specs: rows of numbers laid one behind the other, moved, copied. -/
namespace Go.Proofs.YtdnfiacjoghfkaaGreat
open Go Go.Sep Go.Pt
set_option linter.unusedSimpArgs false
set_option linter.unusedVariables false
attribute [local irreducible] CallT

theorem cI_len (xs : List Int) : (cP fI xs).length = xs.length := by simp [cP]
theorem cI_app (xs ys : List Int) : cP fI (xs ++ ys) = cP fI xs ++ cP fI ys := by simp [cP]
theorem app_intsX {q : Nat} {xs ys : List Int} {ex : List AV} {G : Heap} {K : AV → Heap → Prop} (hq : G q = some (cP fI xs ++ ex)) (hl : xs.length + ys.length ≤ 1000000000)
    (h : ∀ q', G q' = none → q' ≠ q → K (rowP q' (xs ++ ys)) ((G.del q).set q' (cP fI (xs ++ ys)))) : appendV tab 29 29 (rowP q xs) (Is ys) G (wkK K) := by
  have hlen := cI_len xs
  simp only [appendV, tab_29, tab_3, srcV, baseV, hq]
  have e2 : List.map AV.p (List.map eI ys).flatten = cP fI ys := flat_P fI ys
  refine ⟨szI ys, trivial, by rw [List.length_append, hlen]; omega, by simp only [List.length_map]; omega, by simp only [List.length_map]; omega, cells_cell _, fun q' hq' => wkK.keep ?_⟩
  have hne : q' ≠ q := fun e => by rw [e, hq] at hq'; cases hq'
  have := h q' hq' hne
  have e : List.take (xs.length * 1) (List.drop 0 (cP fI xs ++ ex)) = cP fI xs := by rw [List.drop_zero, Nat.mul_one, ← hlen, List.take_left]
  rw [e, e2, List.length_map]
  rw [cI_app] at this
  simpa only [rowP, List.length_append] using this
theorem app_topI {q : Nat} {xs ys : List Int} {G : Heap} {K : AV → Heap → Prop} (hq : G q = none) (hl : xs.length + ys.length ≤ 1000000) (h : ∀ q', G q' = none → K (rowP q' (xs ++ ys)) (G.set q' (cP fI (xs ++ ys)))) :
    appendV tab 29 29 (rowP q xs) (Is ys) (G.set q (cP fI xs)) (wkK K) :=
  app_intsX (ex := []) (by rw [Heap.set_same, List.append_nil]) (by omega) fun q' hq' hne => by
    rw [Heap.del_set hq]
    rw [Heap.set_none] at hq'
    exact h q' hq'.2
theorem push_topI {q : Nat} {xs : List Int} {b : Int} {G : Heap} {K : AV → Heap → Prop} (hq : G q = none) (hl : xs.length ≤ 100000) (h : ∀ q', G q' = none → K (rowP q' (xs ++ [b])) (G.set q' (cP fI (xs ++ [b])))) :
    buildSliceV tab 29 1 [(0, I b)] (G.set q (cP fI xs)) (wkK fun v H1 => appendV tab 29 29 (rowP q xs) v H1 (wkK K)) := by
  refine lit1 tab_29 rfl tab_3 ⟨rfl, rfl⟩ ?_
  exact app_topI (ys := [b]) hq (by simp; omega) h
def below (n : Nat) : List Int := (List.range n).map fun (i : Nat) => (i : Int)
/-- Numbers that are not great. -/
def smI (l : List Int) : Prop := l.length ≤ 10000 ∧ ∀ x ∈ l, 0 ≤ x ∧ x ≤ 100000

theorem fin_int {q : Nat} {xs : List Int} {H G : Heap} (hq : H q = none) (hG : Heap.le (H.set q (cP fI xs)) G) : wkK (fun r H' => r = Is xs ∧ H' = H) (rowP q xs) G := by
  have := fin_own (sz := 1) (es := xs.map eI) (q := q) (H := H) (H' := G) (K := fun r H' => r = Is xs ∧ H' = H) (by omega) (szI _) hq (by
    have e : cells (xs.map eI) = cP fI xs := cells_P fI xs
    rw [e]; exact hG) ⟨rfl, rfl⟩
  simpa only [Go.Sep.own, List.length_map] using this

theorem l1Has_spec (l : List Int) (x : Int) (hl : l.length ≤ 1048576) : Pu Tryz.prog 86 [Is l, I x] (B (decide (x ∈ l))) := by
  refine Pu.of fun H => ?_
  refine W86_ok ?_; simp (maxSteps := 1000000) (disch := first | assumption | (apply Ne.symm; assumption)) only [W86, vz, vu, vv, eqS, eqFieldsV, ↓condV_t, ↓condV_f, tabs, reduceCtorEq, Array.toList, ↓reduceIte, Nat.reduceAdd, Nat.reduceLeDiff, Nat.reduceLT, Nat.reduceMul, Nat.reduceSub, Int.reduceToNat, Int.reduceSub, Int.reduceAdd, Int.reduceNeg]
  refine L86_0_rule (0 : Nat) (fun i => I i) (fun _ => H) (fun i => i ≤ l.length ∧ ∀ j, j < i → l.getD j default ≠ x) (fun i => l.length - i) ⟨⟨by omega, by intros; omega⟩, .refl _, Heap.le_refl _⟩ ?_
  rintro i ⟨hi, ha⟩
  (try simp (maxSteps := 1000000) (disch := first | assumption | (apply Ne.symm; assumption)) only [vz, vu, vv, eqS, eqFieldsV, ↓condV_t, ↓condV_f, tabs, reduceCtorEq, Array.toList, ↓reduceIte, Nat.reduceAdd, Nat.reduceLeDiff, Nat.reduceLT, Nat.reduceMul, Nat.reduceSub, Int.reduceToNat, Int.reduceSub, Int.reduceAdd, Int.reduceNeg, B86_0])
  refine ⟨fun h1 => ⟨by omega, h1, fun h2 => ?_, fun h2 => ⟨i + 1, ⟨by omega, fun j hj => ?_⟩, by omega, ?_⟩⟩, fun h1 => ?_⟩
  · have hlt : i < l.length := by omega
    have hm : x ∈ l := by rw [← h2]; exact getD_all (p := fun x => x ∈ l) (fun _ h => h) hlt
    rw [decide_eq_true hm]
  · rcases Nat.lt_succ_iff_lt_or_eq.1 hj with h | rfl
    · exact ha j h
    · exact h2
  · rw [wk_int, i64_id (by omega) (by omega)]; simp
  · have hm : x ∉ l := by
      intro hm
      obtain ⟨j, hj, e⟩ := List.mem_iff_getElem.1 hm
      exact ha j (by omega) (by rw [getD_lt hj]; exact e)
    rw [decide_eq_false hm]

end Go.Proofs.YtdnfiacjoghfkaaGreat
/- Specs: states in which a condition holds. -/
namespace Go.Proofs.YtdnfiacjoghfkaaGreat
open Go Go.Sep Go.Pt
set_option linter.unusedSimpArgs false
set_option linter.unusedVariables false
attribute [local irreducible] CallT

theorem push_intR {q : Nat} {xs : List Int} {b : Int} {G : Heap} {K : AV → Heap → Prop} (hq : G q = some (cP fI xs)) (hl : xs.length ≤ 100000000)
    (h : ∀ q', G q' = none → q' ≠ q → K (rowP q' (xs ++ [b])) ((G.del q).set q' (cP fI (xs ++ [b])))) :
    buildSliceV tab 29 1 [(0, I b)] G (wkK fun v H1 => appendV tab 29 29 (rowP q xs) v H1 (wkK K)) := by
  refine lit1 tab_29 rfl tab_3 ⟨rfl, rfl⟩ ?_
  refine app_row (f := fI) (ys := [b]) tab_29 rfl tab_3 rfl (by decide) hq (by simp; omega) fun q' hq' => h q' hq' fun e => by rw [e, hq] at hq'; cases hq'
/-- The first n states in which a condition holds. -/
def whN (p : Pg) (t : List Nd) (n : Nat) : List Int := ((List.range n).filter (holdP p t)).map fun (i : Nat) => (i : Int)
theorem whN_succ (p : Pg) (t : List Nd) (n : Nat) : whN p t (n + 1) = if holdP p t n = true then whN p t n ++ [(n : Int)] else whN p t n := by
  unfold whN
  rw [List.range_succ, List.filter_append, List.map_append]
  by_cases h : holdP p t n = true
  · have e : [n].filter (holdP p t) = [n] := by rw [List.filter_cons_of_pos (by exact h)]; rfl
    rw [if_pos h, e]; rfl
  · have e : [n].filter (holdP p t) = [] := by rw [List.filter_cons_of_neg (by exact h)]; rfl
    rw [if_neg h, e]; simp
theorem whN_len (p : Pg) (t : List Nd) (n : Nat) : (whN p t n).length ≤ n := by
  unfold whN
  rw [List.length_map]
  have := List.length_filter_le (holdP p t) (List.range n)
  simpa using this
theorem whN_mem {p : Pg} {t : List Nd} {n : Nat} (x : Int) : x ∈ whN p t n ↔ ∃ i : Nat, x = i ∧ i < n ∧ holdP p t i = true := by
  unfold whN
  rw [List.mem_map]
  constructor
  · rintro ⟨i, hi, rfl⟩
    rw [List.mem_filter, List.mem_range] at hi
    exact ⟨i, rfl, hi⟩
  · rintro ⟨i, rfl, hi⟩
    exact ⟨i, by rw [List.mem_filter, List.mem_range]; exact hi, rfl⟩
theorem statesP_nat {p : Pg} (hs : SmallP p) : statesP p = (allP p : Nat) := by
  unfold statesP allP; rw [powI]
theorem l8Those_spec (p : Pg) (hb : smallP p = true) (t : List Nd) (ht : vT t) (hk : kind p.wide p.vars t = 2) : Pu Tryz.prog 66 [aPg p, Ns t] (Is (whN p t (allP p))) := by
  have hs := smallP_of hb
  have hal := allP_bd hs
  have hsp := statesP_nat hs
  refine ⟨fun H => CallT.fin ?_⟩
  refine CallT.ghost W66_hb fun q0 hq0 => ?_
  refine W66_ok ?_; simp (maxSteps := 1000000) (disch := first | assumption | (apply Ne.symm; assumption)) only [W66, vz, vu, vv, eqS, eqFieldsV, ↓condV_t, ↓condV_f, tabs, reduceCtorEq, Array.toList, ↓reduceIte, Nat.reduceAdd, Nat.reduceLeDiff, Nat.reduceLT, Nat.reduceMul, Nat.reduceSub, Int.reduceToNat, Int.reduceSub, Int.reduceAdd, Int.reduceNeg]
  intro r hrq hr
  refine L66_0_rule ((0 : Nat), q0) (fun z => rowP z.2 (whN p t z.1)) (fun z => I z.1) (fun z => (H.set r [I p.wide, I p.vars, Ns p.start, Cms p.cmds]).set z.2 (cP fI (whN p t z.1))) (fun z => z.1 ≤ allP p ∧ H z.2 = none ∧ z.2 ≠ r) (fun z => allP p - z.1)
    ⟨⟨by omega, hq0, fun e => hrq e.symm⟩, .nilo _ _ _, .refl _, ?_⟩ ?_
  · rw [Heap.set_comm hrq]; exact Heap.le_refl _
  rintro ⟨i, q⟩ ⟨hi, hq, hqr⟩
  dsimp only at hi hq hqr
  have nn : r ≠ q := Ne.symm hqr
  have hsl := whN_len p t i
  have hsucc := whN_succ p t i
  have e5 : IntKind.i64.wrap ((i : Int) + 1) = ((i + 1 : Nat) : Int) := by rw [i64_id (by omega) (by omega)]; simp
  (try simp (maxSteps := 1000000) (disch := first | assumption | (apply Ne.symm; assumption)) only [vz, vu, vv, eqS, eqFieldsV, ↓condV_t, ↓condV_f, tabs, reduceCtorEq, Array.toList, ↓reduceIte, Nat.reduceAdd, Nat.reduceLeDiff, Nat.reduceLT, Nat.reduceMul, Nat.reduceSub, Int.reduceToNat, Int.reduceSub, Int.reduceAdd, Int.reduceNeg, B66_0])
  refine Pu.use (l7Many_spec p hb) ?_
  rw [hsp]
  (try simp (maxSteps := 1000000) (disch := first | assumption | (apply Ne.symm; assumption)) only [vz, vu, vv, eqS, eqFieldsV, ↓condV_t, ↓condV_f, tabs, reduceCtorEq, Array.toList, ↓reduceIte, Nat.reduceAdd, Nat.reduceLeDiff, Nat.reduceLT, Nat.reduceMul, Nat.reduceSub, Int.reduceToNat, Int.reduceSub, Int.reduceAdd, Int.reduceNeg])
  refine ⟨fun h1 => ?_, fun h1 => ?_⟩
  · have hlt : i < allP p := by omega
    refine Pu.use (l7Of_spec p hs i (by omega)) ?_
    (try simp (maxSteps := 1000000) (disch := first | assumption | (apply Ne.symm; assumption)) only [vz, vu, vv, eqS, eqFieldsV, ↓condV_t, ↓condV_f, tabs, reduceCtorEq, Array.toList, ↓reduceIte, Nat.reduceAdd, Nat.reduceLeDiff, Nat.reduceLT, Nat.reduceMul, Nat.reduceSub, Int.reduceToNat, Int.reduceSub, Int.reduceAdd, Int.reduceNeg])
    refine Pu.use (l7Holds_spec p hs t ht _ (stP_len' _ _) (stP_lt' _ _) hk) ?_
    (try simp (maxSteps := 1000000) (disch := first | assumption | (apply Ne.symm; assumption)) only [vz, vu, vv, eqS, eqFieldsV, ↓condV_t, ↓condV_f, tabs, reduceCtorEq, Array.toList, ↓reduceIte, Nat.reduceAdd, Nat.reduceLeDiff, Nat.reduceLT, Nat.reduceMul, Nat.reduceSub, Int.reduceToNat, Int.reduceSub, Int.reduceAdd, Int.reduceNeg, e5])
    refine ⟨fun h2 => ?_, fun h2 => ?_⟩
    · rw [if_pos (by exact decide_eq_true h2)] at hsucc
      refine push_intR (xs := whN p t i) (by rw [Heap.set_same]) (by omega) fun q' hq' hne => ?_
      simp only [Heap.set_none] at hq'
      obtain ⟨p1, p2, p3⟩ := hq'
      rw [← hsucc]
      refine ⟨(i + 1, q'), ⟨by simp only; omega, p3, p2⟩, by simp only; omega, .refl _, .refl _, ?_⟩
      generalize cP fI (whN p t (i + 1)) = zz
      (intro y b hy; simp only [Heap.set, Heap.del] at hy ⊢; (repeat' split at hy) <;> (repeat' split) <;> simp_all [cells])
    · rw [if_neg (by simpa [holdP] using h2)] at hsucc
      refine ⟨(i + 1, q), ⟨by simp only; omega, hq, hqr⟩, by simp only; omega, ?_, .refl _, ?_⟩
      · rw [hsucc]; exact .refl _
      · rw [hsucc]; exact Heap.le_refl _
  · have hi' : i = allP p := by omega
    subst hi'
    exact fin_int hq (Heap.set_le (Heap.le_set hr))

/-! ### The graph -/
end Go.Proofs.YtdnfiacjoghfkaaGreat
/- Plain facts: keys numbered by their first places. -/
namespace Go.Pt
section
variable {α β : Type} [DecidableEq α] [DecidableEq β]
def newAt (k : Nat → α) (j : Nat) : Bool := (List.range j).all fun i => decide (k i ≠ k j)
theorem newAt_iff {k : Nat → α} {j : Nat} : newAt k j = true ↔ ∀ i, i < j → k i ≠ k j := by simp [newAt, List.all_eq_true]
def cntN (k : Nat → α) : Nat → Nat
  | 0 => 0
  | n + 1 => if newAt k n then cntN k n + 1 else cntN k n
theorem cntN_mono (k : Nat → α) {i j : Nat} (h : i ≤ j) : cntN k i ≤ cntN k j := by
  induction j with
  | zero => have : i = 0 := by omega
            subst this; exact Nat.le_refl _
  | succ j ih =>
    by_cases e : i = j + 1
    · subst e; exact Nat.le_refl _
    · have := ih (by omega)
      simp only [cntN]; split <;> omega
theorem cntN_le (k : Nat → α) (n : Nat) : cntN k n ≤ n := by
  induction n with
  | zero => exact Nat.le_refl _
  | succ n ih => simp only [cntN]; split <;> omega
theorem cntN_lt (k : Nat → α) {i j : Nat} (hi : newAt k i = true) (h : i < j) : cntN k i < cntN k j := by
  have h1 : cntN k (i + 1) = cntN k i + 1 := by simp [cntN, hi]
  have h2 := cntN_mono k (show i + 1 ≤ j from h)
  omega
def fstN (k : Nat → α) (i : Nat) : Nat := (List.range (i + 1)).findIdx fun j => decide (k j = k i)
theorem fstN_spec (k : Nat → α) (i : Nat) : fstN k i ≤ i ∧ k (fstN k i) = k i ∧ ∀ j, j < fstN k i → k j ≠ k i := by
  have hlt : fstN k i < (List.range (i + 1)).length := List.findIdx_lt_length_of_exists ⟨i, by simp, by simp⟩
  have hle : fstN k i ≤ i := by simp at hlt; omega
  have h1 := List.findIdx_getElem (w := hlt)
  refine ⟨hle, ?_, fun j hj => ?_⟩
  · have h2 : (fun j => decide (k j = k i)) ((List.range (i + 1))[fstN k i]'hlt) = true := h1
    simpa using h2
  · have h2 := List.not_of_lt_findIdx (p := fun j => decide (k j = k i)) (xs := List.range (i + 1)) (i := j) hj
    simpa using h2
theorem fstN_new (k : Nat → α) (i : Nat) : newAt k (fstN k i) = true := by
  obtain ⟨h1, h2, h3⟩ := fstN_spec k i
  rw [newAt_iff]; intro j hj; rw [h2]; exact h3 j hj
theorem fstN_eq {k : Nat → α} {i f : Nat} (h1 : f ≤ i) (h2 : k f = k i) (h3 : ∀ j, j < f → k j ≠ k i) : fstN k i = f := by
  obtain ⟨a1, a2, a3⟩ := fstN_spec k i
  rcases Nat.lt_trichotomy (fstN k i) f with h | h | h
  · exact absurd a2 (h3 _ h)
  · exact h
  · exact absurd h2 (a3 _ h)
theorem fstN_self {k : Nat → α} {i : Nat} (h : newAt k i = true) : fstN k i = i := fstN_eq (Nat.le_refl _) rfl (newAt_iff.1 h)
theorem fstN_same {k : Nat → α} {i j : Nat} (h : k i = k j) : fstN k i = fstN k j := by
  obtain ⟨a1, a2, a3⟩ := fstN_spec k j
  obtain ⟨b1, b2, b3⟩ := fstN_spec k i
  by_cases hle : fstN k j ≤ i
  · exact fstN_eq hle (a2.trans h.symm) fun m hm => by rw [h]; exact a3 m hm
  · exact absurd h (a3 i (by omega))
/-- The number of the key at place i. -/
def numN (k : Nat → α) (i : Nat) : Nat := cntN k (fstN k i)
theorem numN_new {k : Nat → α} {i : Nat} (h : newAt k i = true) : numN k i = cntN k i := by rw [numN, fstN_self h]
theorem numN_same {k : Nat → α} {i j : Nat} (h : k i = k j) : numN k i = numN k j := by rw [numN, numN, fstN_same h]
theorem numN_iff {k : Nat → α} {i j : Nat} : numN k i = numN k j ↔ k i = k j := by
  refine ⟨fun h => ?_, numN_same⟩
  obtain ⟨a1, a2, a3⟩ := fstN_spec k i
  obtain ⟨b1, b2, b3⟩ := fstN_spec k j
  unfold numN at h
  rcases Nat.lt_trichotomy (fstN k i) (fstN k j) with hl | he | hl
  · have := cntN_lt k (fstN_new k i) hl; omega
  · rw [← a2, ← b2, he]
  · have := cntN_lt k (fstN_new k j) hl; omega
theorem numN_lt (k : Nat → α) {i n : Nat} (h : i < n) : numN k i < cntN k n := by
  have := (fstN_spec k i).1
  exact cntN_lt k (fstN_new k i) (by omega)
theorem not_new {k : Nat → α} {i : Nat} (h : newAt k i = false) : fstN k i < i := by
  have h1 := (fstN_spec k i).1
  rcases Nat.lt_or_eq_of_le h1 with h2 | h2
  · exact h2
  · have := fstN_new k i; rw [h2, h] at this; cases this
/-- Numbers hang on which keys are alike alone. -/
theorem newAt_ext {k : Nat → α} {k' : Nat → β} {n : Nat} (h : ∀ i j, i < n → j < n → (k i = k j ↔ k' i = k' j)) {i : Nat} (hi : i < n) : newAt k i = newAt k' i := by
  rw [Bool.eq_iff_iff, newAt_iff, newAt_iff]
  constructor <;> intro h2 j hj e
  · exact h2 j hj ((h j i (by omega) hi).2 e)
  · exact h2 j hj ((h j i (by omega) hi).1 e)
theorem cntN_ext {k : Nat → α} {k' : Nat → β} {n : Nat} (h : ∀ i j, i < n → j < n → (k i = k j ↔ k' i = k' j)) : ∀ {m : Nat}, m ≤ n → cntN k m = cntN k' m
  | 0, _ => rfl
  | m + 1, hm => by simp only [cntN, newAt_ext h (show m < n by omega), cntN_ext h (show m ≤ n by omega)]
theorem numN_ext {k : Nat → α} {k' : Nat → β} {n : Nat} (h : ∀ i j, i < n → j < n → (k i = k j ↔ k' i = k' j)) {i : Nat} (hi : i < n) : numN k i = numN k' i := by
  obtain ⟨a1, a2, a3⟩ := fstN_spec k i
  have hf : fstN k' i = fstN k i := fstN_eq a1 ((h _ _ (by omega) hi).1 a2) fun j hj e => a3 j hj ((h _ _ (by omega) hi).2 e)
  rw [numN, numN, hf]
  exact cntN_ext h (by omega)
end

/-- Classes that are numbered so already. -/
theorem runS_inv {of : List Int} : ∀ (i : Nat), i ≤ of.length → ∀ c, runS 0 (of.take i) = some c → c = cntN (fun j => of.getD j default) i ∧ (∀ j, j < i → of.getD j default = numN (fun j => of.getD j default) j) ∧ ∀ v : Nat, (v : Int) < c → ∃ j, j < i ∧ of.getD j default = v
  | 0, _, c, h => by
    simp only [List.take_zero, runS, Option.some.injEq] at h
    subst h
    exact ⟨rfl, fun j hj => by omega, fun v hv => by omega⟩
  | i + 1, hi, c, h => by
    have hlt : i < of.length := hi
    rw [take_succ_snoc hlt, runS_snoc] at h
    cases hr : runS 0 (of.take i) with
    | none => rw [hr] at h; cases h
    | some c0 =>
      rw [hr] at h
      obtain ⟨h1, h2, h3⟩ := runS_inv i (by omega) c0 hr
      simp only [Option.bind_some] at h
      split at h
      · cases h
      rename_i hb
      injection h with h
      by_cases e : of.getD i default = c0
      · rw [if_pos e] at h
        have hnew : newAt (fun j => of.getD j default) i = true := by
          rw [newAt_iff]
          intro j hj e2
          have h4 := h2 j hj
          have h5 := numN_lt (fun j => of.getD j default) hj
          have e2' : of.getD j default = of.getD i default := e2
          rw [e2', e] at h4
          omega
        refine ⟨?_, fun j hj => ?_, fun v hv => ?_⟩
        · simp only [cntN, hnew, if_true]; omega
        · rcases Nat.lt_succ_iff_lt_or_eq.1 hj with h4 | rfl
          · exact h2 j h4
          · rw [numN_new hnew, e, h1]
        · by_cases hv2 : (v : Int) < c0
          · obtain ⟨j, hj, ej⟩ := h3 v hv2
            exact ⟨j, by omega, ej⟩
          · exact ⟨i, by omega, by rw [e]; omega⟩
      · rw [if_neg e] at h
        obtain ⟨j0, hj0, ej0⟩ := h3 (of.getD i default).toNat (by omega)
        have ej : of.getD j0 default = of.getD i default := by omega
        have hnew : newAt (fun j => of.getD j default) i = false := by
          rw [Bool.eq_false_iff]; intro hn
          exact (newAt_iff.1 hn) j0 hj0 ej
        refine ⟨?_, fun j hj => ?_, fun v hv => ?_⟩
        · simp only [cntN, hnew, Bool.false_eq_true, if_false]; omega
        · rcases Nat.lt_succ_iff_lt_or_eq.1 hj with h4 | rfl
          · exact h2 j h4
          · rw [← ej, h2 j0 hj0]
            exact congrArg _ (numN_same (k := fun j => of.getD j default) ej)
        · obtain ⟨j, hj, e3⟩ := h3 v (by omega)
          exact ⟨j, by omega, e3⟩
theorem runS_num {of : List Int} {c : Int} (h : runS 0 of = some c) {j : Nat} (hj : j < of.length) : of.getD j default = numN (fun j => of.getD j default) j :=
  (runS_inv of.length (Nat.le_refl _) c (by rw [List.take_length]; exact h)).2.1 j hj

/-- The numbers of n keys. -/
def numL {α : Type} [DecidableEq α] (k : Nat → α) (n : Nat) : List Int := (List.range n).map fun i => (numN k i : Int)
theorem numL_len {α : Type} [DecidableEq α] (k : Nat → α) (n : Nat) : (numL k n).length = n := by simp [numL]
theorem numL_succ {α : Type} [DecidableEq α] (k : Nat → α) (n : Nat) : numL k (n + 1) = numL k n ++ [(numN k n : Int)] := by simp [numL, List.range_succ]
theorem numL_get {α : Type} [DecidableEq α] (k : Nat → α) {n i : Nat} (h : i < n) : (numL k n).getD i default = numN k i := by simp [numL, List.getD, h]
theorem numL_ext {α β : Type} [DecidableEq α] [DecidableEq β] {k : Nat → α} {k' : Nat → β} {n : Nat} (h : ∀ i j, i < n → j < n → (k i = k j ↔ k' i = k' j)) : numL k n = numL k' n := by
  unfold numL
  refine List.map_congr_left fun i hi => ?_
  rw [numN_ext h (List.mem_range.1 hi)]
end Go.Pt
/- The walk of impl.numbered: a map from keys to numbers that the call makes and keeps to itself, and a row of numbers that it hands back. -/
namespace Go.Proofs.YtdnfiacjoghfkaaGreat.Nmb
open Go Go.RowKit Go.Maps Go.Pt
set_option linter.unusedVariables false
set_option linter.unusedSimpArgs false

theorem law : Keyed Tryz.prog 67 := Keyed.of_law (deep_law_laid (by kernel_rfl) (m := 2) (by omega) (of_decide_eq_true (by kernel_rfl)) (by kernel_rfl) (by rw [Tryz.underlying67]))
abbrev kv (x : Int × Int) : Value := .agg #[.int .i64 x.1, .int .i64 x.2]
def i64 (n : Int) : Prop := (Lit.int .i64 n).wf = true
def ok2 (x : Int × Int) : Prop := i64 x.1 ∧ i64 x.2
theorem laidK : Tryz.prog.keyType 67 = true := by kernel_rfl
theorem cells2 : Tryz.prog.cellsOf 67 = 2 := by kernel_rfl
theorem cells1 : Tryz.prog.cellsOf 3 = 1 := by kernel_rfl
theorem sizeT : ∃ d, Tryz.prog.types.size + 1 = d + 2 := ⟨Tryz.prog.types.size - 1, by
  have : 1 ≤ Tryz.prog.types.size := by
    have : decide (1 ≤ Tryz.prog.types.size) = true := by kernel_rfl
    exact of_decide_eq_true this
  omega⟩
theorem lits2 (d : Nat) {x : Int × Int} (h : ok2 x) : Tryz.prog.keyLits (d + 2) 67 [.int .i64 x.1, .int .i64 x.2] = some [.int .i64 x.1, .int .i64 x.2] := by
  have h1 := h.1
  have h2 := h.2
  unfold i64 at h1 h2
  have e1 : ∀ n, (Lit.int .i64 n).wf = true → Tryz.prog.keyLits (d + 1) 3 [.int .i64 n] = some [.int .i64 n] := by
    intro n hn
    simp [Program.keyLits, Tryz.underlying3, hn]
  have er : List.range 2 = [0, 1] := rfl
  have f1 := e1 _ h1
  have f2 := e1 _ h2
  have key : ∀ d1 : Nat, Tryz.prog.keyLits d1 3 [.int .i64 x.1] = some [.int .i64 x.1] → Tryz.prog.keyLits d1 3 [.int .i64 x.2] = some [.int .i64 x.2] → Tryz.prog.keyLits (d1 + 1) 67 [.int .i64 x.1, .int .i64 x.2] = some [.int .i64 x.1, .int .i64 x.2] := by
    intro d1 f1 f2
    simp [Program.keyLits, Tryz.underlying67, cells2, cells1, er, f1, f2]
  exact key (d + 1) f1 f2
theorem kv_key {x : Int × Int} (h : ok2 x) : ∃ l, keyOf Tryz.prog 67 (kv x) = some l := by
  obtain ⟨d, hd⟩ := sizeT
  have hl := lits2 d h
  have hf : Value.formed Tryz.prog 67 (kv x) = true := by simp [Value.formed, kv, Tryz.underlying67, cells2]
  refine ⟨.string (keyBytes [.int .i64 x.1, .int .i64 x.2]), ?_⟩
  unfold keyOf
  simp only [Tryz.underlying67, laidK, hf, Bool.and_self, if_true, hd]
  have ec : (kv x).cells.toList = [.int .i64 x.1, .int .i64 x.2] := rfl
  rw [ec, hl]; rfl
noncomputable def kl (x : Int × Int) : Lit := (keyOf Tryz.prog 67 (kv x)).getD (.bool false)
theorem kl_key {x : Int × Int} (h : ok2 x) : keyOf Tryz.prog 67 (kv x) = some (kl x) := by
  obtain ⟨l, hl⟩ := kv_key h
  rw [kl, hl]; rfl
attribute [local irreducible] kl
theorem kl_inj {x y : Int × Int} (hx : ok2 x) (hy : ok2 y) (h : kl x = kl y) : x = y := by
  have := law.inj (kl_key hx) (by rw [h]; exact kl_key hy)
  simp only [kv, Value.agg.injEq] at this
  have e := congrArg Array.toList this
  simp only [List.cons.injEq, Value.int.injEq, true_and, and_true] at e
  exact Prod.ext e.1 e.2

/-- What the map holds after k keys. -/
structure DK (D : DataW Unit) (ks : Nat → Int × Int) (k : Nat) : Prop where
  tidy : Maps.Tidy D
  has : ∀ x, ok2 x → (Maps.has D (kl x) = true ↔ ∃ j, j < k ∧ ks j = x)
  at_ : ∀ j, j < k → ∀ z, D.atKey (kl (ks j)) z = .lit (.int .i64 (numN ks j))
  size : Maps.size D = cntN ks k
theorem DK.zero (ks : Nat → Int × Int) : DK (.map []) ks 0 :=
  ⟨Maps.tidy_empty, fun x hx => by simp [Maps.has], fun j hj => by omega, rfl⟩
theorem DK.is_new {D : DataW Unit} {ks : Nat → Int × Int} {k : Nat} (h : DK D ks k) (hk : ok2 (ks k)) : Maps.has D (kl (ks k)) = !newAt ks k := by
  rw [Bool.eq_iff_iff, h.has _ hk]
  cases hn : newAt ks k
  · simp only [Bool.not_false, iff_true]
    obtain ⟨_, h2, _⟩ := fstN_spec ks k
    exact ⟨_, not_new hn, h2⟩
  · simp only [Bool.not_true, Bool.false_eq_true, iff_false]
    rintro ⟨j, hj, e⟩
    exact (newAt_iff.1 hn) j hj e
theorem DK.old {D : DataW Unit} {ks : Nat → Int × Int} {k : Nat} (h : DK D ks k) (hk : ok2 (ks k)) (hn : newAt ks k = false) : DK D ks (k + 1) ∧ ∀ z, D.atKey (kl (ks k)) z = .lit (.int .i64 (numN ks k)) := by
  obtain ⟨_, h2, _⟩ := fstN_spec ks k
  have hf := not_new hn
  have hat : ∀ z, D.atKey (kl (ks k)) z = .lit (.int .i64 (numN ks k)) := fun z => by
    rw [← numN_same h2, ← h2]; exact h.at_ _ hf z
  refine ⟨⟨h.tidy, fun x hx => ?_, fun j hj => ?_, ?_⟩, hat⟩
  · rw [h.has x hx]
    constructor
    · rintro ⟨j, hj, e⟩; exact ⟨j, by omega, e⟩
    · rintro ⟨j, hj, e⟩
      rcases Nat.lt_succ_iff_lt_or_eq.1 hj with h3 | rfl
      · exact ⟨j, h3, e⟩
      · exact ⟨_, hf, h2.trans e⟩
  · rcases Nat.lt_succ_iff_lt_or_eq.1 hj with h3 | rfl
    · exact h.at_ j h3
    · exact hat
  · rw [h.size]; simp [cntN, hn]
theorem DK.new {D : DataW Unit} {ks : Nat → Int × Int} {k : Nat} (h : DK D ks k) (hks : ∀ j, j ≤ k → ok2 (ks j)) (hn : newAt ks k = true) : DK (D.put (kl (ks k)) (.lit (.int .i64 (cntN ks k)))) ks (k + 1) := by
  have hk := hks k (Nat.le_refl _)
  have hlit : WideAt.IsKeyLit (kl (ks k)) := Keyed.key law (kl_key hk)
  have hnum := numN_new hn
  refine ⟨h.tidy.put hlit _, fun x hx => ?_, fun j hj z => ?_, ?_⟩
  · by_cases e : x = ks k
    · subst e
      rw [Maps.has_put_same h.tidy.isMap hlit]
      simp only [true_iff]; exact ⟨k, by omega, rfl⟩
    · rw [Maps.has_put_other (fun e2 => e (kl_inj hx hk e2)), h.has x hx]
      constructor
      · rintro ⟨j, hj, e⟩; exact ⟨j, by omega, e⟩
      · rintro ⟨j, hj, e3⟩
        rcases Nat.lt_succ_iff_lt_or_eq.1 hj with h3 | rfl
        · exact ⟨j, h3, e3⟩
        · exact absurd e3.symm e
  · rcases Nat.lt_succ_iff_lt_or_eq.1 hj with h3 | rfl
    · have hne : ks j ≠ ks k := (newAt_iff.1 hn) j h3
      rw [Maps.atKey_put_other (fun e => hne (kl_inj (hks j (by omega)) hk e))]
      exact h.at_ j h3 z
    · rw [Maps.atKey_put_same h.tidy.isMap hlit, hnum]
  · have := h.is_new hk
    rw [Maps.size_put h.tidy, this, h.size]
    simp [cntN, hn]

theorem info3 : (Tryz.prog.info? 3).map (fun i => (i.zero, i.size, i.bytes)) = some (some (.int .i64 0), 1, 8) := by kernel_rfl
theorem zero3 (w : World) : (zeroValue 3).run Tryz.prog w = .ok (.int .i64 0) w := by
  obtain ⟨i0, hi, hz0, hz1, hz2⟩ := info_parts info3
  simp [zeroValue, typeInfo, hi, hz0]
theorem heap3_0 (w : World) (a b c : Obj) : (((w.alloc a).alloc b).alloc c).heap[w.heap.size]? = some a := by
  show (((w.heap.push a).push b).push c)[w.heap.size]? = some a
  rw [Array.getElem?_push, if_neg (by simp; omega), Array.getElem?_push, if_neg (by simp), Array.getElem?_push, if_pos rfl]
theorem heap3_2 (w : World) (a b c : Obj) : (((w.alloc a).alloc b).alloc c).heap[w.heap.size + 2]? = some c := by
  show (((w.heap.push a).push b).push c)[w.heap.size + 2]? = some c
  rw [Array.getElem?_push, if_pos (by simp)]
theorem keepC {w : World} {b : Nat} {o : Obj} (h : w.heap[b]? = some o) (x : Obj) : (w.alloc x).heap[b]? = some o := by
  rw [Below.heap_alloc w x b (Array.getElem?_eq_some_iff.1 h).1]; exact h
theorem keepG {w w' : World} {row : Option Nat} {b : Nat} {o : Obj} (h : w.heap[b]? = some o) (hg : w.grownBy w' row) (hne : some b ≠ row) : w'.heap[b]? = some o :=
  (hg.block b (Array.getElem?_eq_some_iff.1 h).1 hne).trans h
theorem keepS {w : World} {b : Nat} {o : Obj} (h : w.heap[b]? = some o) {a : Addr} (ha : b ≠ a.block) (u : Value) : (w.setCell a u).heap[b]? = some o := by
  rw [Below.heap_setCell _ _ _ _ ha]; exact h
theorem mapS {w : World} {k : TypeId} {R : Value → Option (DataW Unit × List MemPlace)} {b n : Nat} {D : DataW Unit} (h : w.ownsMap Tryz.prog k R b n D) {a : Addr} (ha : b ≠ a.block) (u : Value) : (w.setCell a u).ownsMap Tryz.prog k R b n D := by
  obtain ⟨es, clock, hb, r⟩ := h
  exact ⟨es, clock, keepS hb ha u, r⟩
theorem rowNe {w : World} {base : Nat} {e : TypeId} {size : Nat} {v : Value} {n : Nat} {xs : List Value} (h : w.ownsRow base e size v n xs) {b : Nat} (hb : b < base) : some b ≠ v.ownBlock := fun e1 => by
  have := (h.lt b e1.symm).1
  omega
theorem rowSl {w : World} {base : Nat} {e : TypeId} {size : Nat} {v : Value} {n : Nat} {xs : List Value} (h : w.ownsRow base e size v n xs) : ∃ a l c, v = .slice a l c := by
  rcases h.2 with ⟨h2, _⟩ | ⟨g, cap, cur, hv, _⟩
  · exact ⟨_, _, _, h2⟩
  · exact ⟨_, _, _, hv⟩
theorem cellNew2 (w : World) (o : Obj) (x : Value) (t : TypeId) : ∀ j u, [x][j]? = some u → ((w.alloc o).alloc (.cells #[x] t)).cell? ((⟨w.heap.size + 1, 0, none⟩ : Addr).add j) = some u := by
  intro j u hj
  have := cell_one_new (w.alloc o) x t j u hj
  rw [World.size_alloc] at this
  exact this
set_option maxHeartbeats 4000000 in
set_option maxRecDepth 100000 in
theorem numbered_any (b off n cap : Nat) (ks : Nat → Int × Int) (w : World) (hlen : n ≤ 1000000) (hb : b < w.heap.size)
    (hc : ∀ j, j < n → w.cell? ⟨b, off + j * 2, none⟩ = some (.int .i64 (ks j).1) ∧ w.cell? ⟨b, off + (j * 2 + 1), none⟩ = some (.int .i64 (ks j).2)) (hks : ∀ j, j < n → ok2 (ks j)) :
    Calls Tryz.prog 36 #[.slice (some ⟨b, off, none⟩) n cap] w fun e w' => ∃ v, e = .returned (.agg #[v]) ∧ w'.ownsRow (w.heap.size + 3) 3 1 v n ((numL ks n).map (Value.int .i64)) ∧ Below w.heap.size w w' := by
  have hmm := @run_makeMap Tryz.prog
  obtain ⟨i0, hi, hz0, hz1, hz2⟩ := info_parts info3
  go_enter Tryz.func36, Tryz.ntmps36
  go_wp2
  go_loopw [13] (fun i wr => ∃ k : Nat, k ≤ n ∧ i = .int .i64 k ∧ (∃ D, DK D ks k ∧ wr.ownsMap Tryz.prog 67 (plainElem Tryz.prog 3) (w.heap.size + 1) k D) ∧
      (∃ sv, wr.heap[w.heap.size + 2]? = some (.cells #[sv] 31 (0, 0)) ∧ wr.ownsRow (w.heap.size + 3) 3 1 sv k ((numL ks k).map (Value.int .i64))) ∧ wr.heap[w.heap.size]? = some (.cells #[.slice none 0 0] 31 (0, 0)) ∧
      Below w.heap.size w wr ∧ w.heap.size + 3 ≤ wr.heap.size)
    (fun i _ => n - (intOf i).toNat)
  case atStart =>
    have b1 := Below.refl w.heap.size w
    refine ⟨0, Nat.zero_le _, rfl, ⟨.map [], DK.zero ks, ?_⟩, ⟨.slice none 0 0, ?_, World.ownsRow_nil _ _ _ _⟩, ?_, ((b1.alloc (Nat.le_refl _) _).alloc (by simp) _).alloc (by simp; omega) _, by simp⟩
    · have := World.ownsMap_made (H := Unit) (w.alloc (Obj.cells #[Value.slice none 0 0] 31)) Tryz.prog 67 (plainElem Tryz.prog 3)
      rw [World.size_alloc] at this
      exact this.alloc _
    · exact heap3_2 _ _ _ _
    · exact heap3_0 _ _ _ _
  case round =>
    obtain ⟨k, hk, rfl, ⟨D, hD, hown⟩, ⟨sv, hsv, hrow⟩, hres, hnx, hws⟩ := hrel
    obtain ⟨sva, svl, svc, rfl⟩ := rowSl hrow
    have hcx : k < n → wr.cell? ⟨b, off + k * 2, none⟩ = some (.int .i64 (ks k).1) := fun _ => (hnx.cell (by exact hb)).trans (hc k (by omega)).1
    have hcy : k < n → wr.cell? ⟨b, off + k * 2 + 1, none⟩ = some (.int .i64 (ks k).2) := fun _ => (hnx.cell (by exact hb)).trans (by rw [Nat.add_assoc]; exact (hc k (by omega)).2)
    have hsz := hD.size
    have hcnt := cntN_le ks k
    have hpe : plainElem (H := Unit) Tryz.prog 3 (.int .i64 (cntN ks k)) = some (.lit (.int .i64 (cntN ks k)), []) := plainElem_int Tryz.underlying3 (by
      simp only [Lit.wf, Bool.and_eq_true, decide_eq_true_eq]
      have e1 : IntKind.i64.min = -9223372036854775808 := by decide
      have e2 : IntKind.i64.max = 9223372036854775807 := by decide
      rw [e1, e2]
      omega)
    have hsv' : wr.heap[w.heap.size + 1 + 1]? = some (.cells #[.slice sva svl svc] 31 (0, 0)) := hsv
    have hcv : wr.cell? ⟨w.heap.size + 1 + 1, 0, none⟩ = some (.slice sva svl svc) := cell_of_one hsv'
    have hcvA : ∀ X, (wr.alloc X).cell? ⟨w.heap.size + 1 + 1, 0, none⟩ = some (.slice sva svl svc) := fun X => cell_of_one (keepC hsv' X)
    have hcr := cell_of_one hres
    have hfr := free_of_one hres
    have hne1 : some (w.heap.size + 1 + 1) ≠ (Value.slice sva svl svc).ownBlock := rowNe hrow (by omega)
    have hne2 : some (w.heap.size + 1) ≠ (Value.slice sva svl svc).ownBlock := rowNe hrow (by omega)
    have hne3 : some w.heap.size ≠ (Value.slice sva svl svc).ownBlock := rowNe hrow (by omega)
    go_wp2_with (first
      | (at_lookup; refine wpList_lookup_own_ok_int _ rfl _ _ 98 rfl 67 3 .i64 law Tryz.underlying98 Tryz.underlying3 (zero3 _) (w.heap.size + 1) k D rfl (hown.alloc _) _ _ rfl (kl_key (hks k (by assumption))) ?_; intro c hat hwc)
      | (at_len; refine wpList_len_own _ rfl _ 98 rfl 67 3 Tryz.underlying98 (plainElem (H := Unit) Tryz.prog 3) (w.heap.size + 1) k D rfl (hown.alloc _) ?_)
      | (at_mapUpdate; refine wpList_mapUpdate_own _ rfl _ _ _ 98 rfl 67 3 law Tryz.underlying98 (plainElem (H := Unit) Tryz.prog 3) (w.heap.size + 1) k D rfl (hown.alloc _) (by unfold maxLen; omega) _ _ _ rfl rfl (kl_key (hks k (by assumption))) _ [] hpe ?_; intro w1 hown1 hgrow1
         have hcv1 : w1.cell? ⟨w.heap.size + 1 + 1, 0, none⟩ = some (.slice sva svl svc) := cell_of_one (keepG (keepC hsv' _) hgrow1 (by simp)))
      | (at_builtin; refine wpList_append_own _ rfl _ _ 29 rfl (w.heap.size + 3) 3 i0 (.int .i64 0) 1 8 Tryz.underlying29 hi hz0 hz1 hz2 rfl (by decide) _ _ _ rfl (((hrow.alloc _).kept hgrow1 (Or.inr hne2.symm)).alloc _) ⟨w1.heap.size, 0, none⟩ 1 1 [.int .i64 (cntN ks k)] rfl rfl (cell_one_new _ _ _) (ints_oneCell .i64 [(cntN ks k : Int)]) (by unfold maxLen; omega) (by omega) (by have := hgrow1.size; simp at this ⊢; omega) ?_; intro v' w2 hown' hgrow2 hnil2
         obtain ⟨a', l', c', rfl⟩ := rowSl hown'
         clear hnil2
         have hv2 : w2.heap[w.heap.size + 1 + 1]? = some (.cells #[.slice sva svl svc] 31 (0, 0)) := keepG (keepC (keepG (keepC hsv' _) hgrow1 (by simp)) _) hgrow2 hne1
         have hcv2 := cell_of_one hv2
         have hfr2 := free_of_one hv2)
      | (at_builtin; refine wpList_append_own _ rfl _ _ 29 rfl (w.heap.size + 3) 3 i0 (.int .i64 0) 1 8 Tryz.underlying29 hi hz0 hz1 hz2 rfl (by decide) _ _ _ rfl ((hrow.alloc _).alloc _) ⟨wr.heap.size + 1, 0, none⟩ 1 1 [.int .i64 c] rfl rfl (cellNew2 _ _ _ _) (ints_oneCell .i64 [c]) (by unfold maxLen; omega) (by omega) (by simp; omega) ?_; intro v' w2 hown' hgrow2 hnil2
         obtain ⟨a', l', c', rfl⟩ := rowSl hown'
         clear hnil2
         have hv2 : w2.heap[w.heap.size + 1 + 1]? = some (.cells #[.slice sva svl svc] 31 (0, 0)) := keepG (keepC (keepC hsv' _) _) hgrow2 hne1
         have hcv2 := cell_of_one hv2
         have hfr2 := free_of_one hv2)
      | go_in)
    · have ht : (!Maps.has D (kl (ks k))) = true := by assumption
      have hkn : k < n := by assumption
      have hn : newAt ks k = true := by
        rw [hD.is_new (hks k hkn), Bool.not_not] at ht; exact ht
      have s1 := hgrow1.size
      have s2 := hgrow2.size
      simp only [World.size_alloc] at s1 s2
      refine ⟨⟨k + 1, by omega, by simp, ⟨_, hD.new (fun j hj => hks j (by omega)) hn, ?_⟩, ⟨_, one_setCell hv2, ?_⟩, ?_, ?_, ?_⟩, ?_⟩
      · exact mapS ((hown1.alloc _).kept hgrow2 hne2) (by simp) _
      · have := ownsRow_setCell_other hown' (a := ⟨w.heap.size + 1 + 1, 0, none⟩) (rowNe (b := w.heap.size + 1 + 1) hown' (by omega)).symm (.slice a' l' c')
        rw [numL_succ, List.map_append, numN_new hn]
        exact this
      · exact keepS (keepG (keepC (keepG (keepC hres _) hgrow1 (by simp)) _) hgrow2 hne3) (by simp; omega) _
      · refine ((((hnx.alloc (by omega) _).grown hgrow1 (by simp; omega) (fun j hj => ?_)).alloc (by omega) _).grown hgrow2 (by simp; omega) (fun j hj => ?_)).setCell (by simp; omega) _
        · cases hj; omega
        · have := (hrow.lt j hj).1; omega
      · simp [World.setCell]; omega
      · simp [intOf]; omega
    · have ht : (!Maps.has D (kl (ks k))) = false := by assumption
      have hkn : k < n := by assumption
      have hn : newAt ks k = false := by
        rw [hD.is_new (hks k hkn), Bool.not_not] at ht; exact ht
      obtain ⟨hD', hat'⟩ := hD.old (hks k hkn) hn
      have hc0 : (numN ks k : Int) = c := by
        have := hat' (.lit (.int .i64 0))
        rw [hat] at this
        injection this with this
        injection this with _ this
        exact this.symm
      have s2 := hgrow2.size
      simp only [World.size_alloc] at s2
      refine ⟨⟨k + 1, by omega, by simp, ⟨_, hD', ?_⟩, ⟨_, one_setCell hv2, ?_⟩, ?_, ?_, ?_⟩, ?_⟩
      · exact (mapS (((hown.alloc _).alloc _).kept hgrow2 hne2) (by simp) _).mono (Nat.le_succ _)
      · have := ownsRow_setCell_other hown' (a := ⟨w.heap.size + 1 + 1, 0, none⟩) (rowNe (b := w.heap.size + 1 + 1) hown' (by omega)).symm (.slice a' l' c')
        rw [numL_succ, List.map_append, hc0]
        exact this
      · exact keepS (keepG (keepC (keepC hres _) _) hgrow2 hne3) (by simp; omega) _
      · refine (((hnx.alloc (by omega) _).alloc (by simp; omega) _).grown hgrow2 (by simp; omega) (fun j hj => ?_)).setCell (by simp; omega) _
        have := (hrow.lt j hj).1; omega
      · simp [World.setCell]; omega
      · simp [intOf]; omega
    · have e : k = n := by omega
      subst e
      (try simp only [Exit.inBlock, Exit.then])
      refine bodyPost_ret (results_cell_row rfl _ _ w.heap.size 31 #[.slice sva svl svc] (0, 0) _ rfl (one_setCell hres) Tryz.underlying31 rfl (by kernel_rfl)) rfl ?_
      exact ⟨_, rfl, ownsRow_setCell_other hrow hne3.symm _, hnx.setCell (Nat.le_refl _) _⟩
end Go.Proofs.YtdnfiacjoghfkaaGreat.Nmb
/- impl.numbered, told of values: a row of its own. -/
namespace Go.Sep
open Go Go.RowKit
set_option linter.unusedVariables false

/-- A row that a call has made and handed back. -/
theorem Sim.fresh {Z : Fro} {φ : Pm} {B0 : Nat} {w0 w w' : World} {H : Heap} (s : Sim Z φ B0 w0 H w) (hb : Bel w.heap.size w w') {g : Nat} (hg : w.heap.size ≤ g) {cur : Array Value} {e : TypeId} (hc : w'.heap[g]? = some (.cells cur e (0, 0))) (C : Nat) (hC : C ≤ cur.size)
    (blk : List AV) (hl : blk.length ≤ C) (hv : ∀ (i : Nat) (av : AV), blk[i]? = some av → ∃ x, cur[i]? = some x ∧ Cv Z φ av x) :
    ∃ r φ', H r = none ∧ φ r = none ∧ Pm.le φ φ' ∧ φ' r = some ⟨g, 0, C⟩ ∧ Sim Z φ' B0 w0 (H.set r blk) w' := by
  obtain ⟨n, hn⟩ := s.bnd
  have hHn : H n = none := by
    cases hH : H n with
    | none => rfl
    | some b => obtain ⟨pl, hp, _⟩ := s.live n b hH; rw [hn n (Nat.le_refl _)] at hp; cases hp
  let φ' : Pm := fun r => if r = n then some ⟨g, 0, C⟩ else φ r
  have hle : Pm.le φ φ' := by
    intro r pl h
    have : r ≠ n := fun e => by subst e; rw [hn r (Nat.le_refl _)] at h; cases h
    simp only [φ', this, if_false]; exact h
  have hnew : φ' n = some ⟨g, 0, C⟩ := by simp [φ']
  refine ⟨n, φ', hHn, hn n (Nat.le_refl _), hle, hnew, ?_⟩
  have s' := s.later hb
  have hlt : ∀ r pl, H r ≠ none → φ r = some pl → pl.C = 0 ∨ pl.b < g := by
    intro r pl hr hp
    cases hH : H r with
    | none => exact absurd hH hr
    | some b =>
      obtain ⟨pl', hp', hl⟩ := s.live r b hH
      rw [hp] at hp'; cases hp'
      rcases hl with ⟨h, _⟩ | ⟨cur', e', h1, _⟩
      · exact .inl h
      · have := (Array.getElem?_eq_some_iff.1 h1).1
        exact .inr (by omega)
  refine ⟨s'.b0, s'.below, ⟨n + 1, ?_⟩, ?_, ?_, s'.froz, ?_⟩
  · intro r hr
    have : r ≠ n := by omega
    simp only [φ', this, if_false]; exact hn r (by omega)
  · intro r b hr
    by_cases h : r = n
    · subst h
      rw [Heap.set_same] at hr; cases hr
      refine ⟨_, hnew, .inr ⟨cur, e, hc, by simpa using hC, hl, by have := s.b0; show B0 ≤ g; omega, ?_⟩⟩
      intro i av hi
      obtain ⟨x, hx, hc⟩ := hv i av hi
      exact ⟨x, by simpa using hx, hc.mono (Fro.le_refl _) hle⟩
    · rw [Heap.set_other h] at hr
      obtain ⟨pl, hp, hl⟩ := s'.live r b hr
      exact ⟨pl, hle _ _ hp, hl.mono (Fro.le_refl _) hle⟩
  · intro r r' pl pl' hr hr' hne hp hp'
    by_cases h : r = n
    · subst h
      rw [hnew] at hp; cases hp
      have h' : r' ≠ r := fun e => hne e.symm
      rw [Heap.set_other h'] at hr'
      have hp0 : φ r' = some pl' := by simpa [φ', h'] using hp'
      rcases hlt r' pl' hr' hp0 with h0 | h0 <;> (unfold Place.sep; simp only; omega)
    · by_cases h' : r' = n
      · subst h'
        rw [hnew] at hp'; cases hp'
        rw [Heap.set_other h] at hr
        have hp0 : φ r = some pl := by simpa [φ', h] using hp
        rcases hlt r pl hr hp0 with h0 | h0 <;> (unfold Place.sep; simp only; omega)
      · rw [Heap.set_other h] at hr
        rw [Heap.set_other h'] at hr'
        exact s'.disj r r' pl pl' hr hr' hne (by simpa [φ', h] using hp) (by simpa [φ', h'] using hp')
  · intro b i v hz r pl hr hp hb'
    by_cases h : r = n
    · subst h
      rw [hnew] at hp; cases hp
      have := World.block_lt_of_cell? w ⟨b, i, none⟩ (s.froz b i v hz)
      simp only at hb' this; omega
    · rw [Heap.set_other h] at hr
      exact s'.zsep b i v hz r pl hr (by simpa [φ', h] using hp) hb'
end Go.Sep
namespace Go.Proofs.YtdnfiacjoghfkaaGreat
open Go Go.Sep Go.Pt Go.RowKit
set_option linter.unusedSimpArgs false
set_option linter.unusedVariables false

abbrev e2 (x : Int × Int) : List PV := [fI x.1, fI x.2]
abbrev kN (zs : List (Int × Int)) : Nat → Int × Int := fun j => zs.getD j default
def i64R (n : Int) : Prop := -9223372036854775808 ≤ n ∧ n ≤ 9223372036854775807
theorem i64_R {n : Int} (h : i64R n) : Nmb.i64 n := by
  unfold Nmb.i64
  simp only [Lit.wf, Bool.and_eq_true, decide_eq_true_eq]
  have e1 : IntKind.i64.min = -9223372036854775808 := by decide
  have e2 : IntKind.i64.max = 9223372036854775807 := by decide
  rw [e1, e2]; exact h
theorem numbered_hb : HasBody Tryz.prog 36 := ⟨_, bodyOf Tryz.f36, Tryz.func36, by kernel_rfl, rfl⟩
theorem numbered_spec (zs : List (Int × Int)) (hpos : 0 < zs.length) (hl : zs.length ≤ 1000000) (hz : ∀ x ∈ zs, i64R x.1 ∧ i64R x.2) {H : Heap} {K : AV → Heap → Prop}
    (h : ∀ q, H q = none → K (.agg [rowP q (numL (kN zs) zs.length)]) (H.set q (cP fI (numL (kN zs) zs.length)))) : CallT Tryz.prog 36 [.p (.sl (zs.map e2))] H K := by
  refine ⟨numbered_hb, ?_⟩
  intro B0 w0 F Z φ w xs hd hs ha
  obtain ⟨hsz, hrel⟩ := ha
  obtain ⟨x, rfl⟩ : ∃ x, xs = #[x] := by
    have h1 : xs.size = 1 := hsz
    exact ⟨xs[0], by
      apply Array.ext
      · simp [h1]
      · intro i hi1 hi2
        have : i = 0 := by simp at hi2; omega
        subst this; simp⟩
  have hx := hrel 0 _ x rfl rfl
  cases hx with
  | p hx =>
  generalize hes : zs.map e2 = es at hx
  cases hx with
  | emp a c => cases zs with
    | nil => simp at hpos
    | cons a zs => simp at hes
  | sl es sz b o c vals hc hsz2 hzz hv =>
  subst hes
  have hsz' : sz = 2 := by
    cases zs with
    | nil => simp at hpos
    | cons a zs => exact (hsz2 (e2 a) (by simp)).symm
  subst hsz'
  rw [List.length_map] at hc hzz ⊢
  have cellAt : ∀ j, j < zs.length → vals (j * 2) = .int .i64 (kN zs j).1 ∧ vals (j * 2 + 1) = .int .i64 (kN zs j).2 := by
    intro j hj
    have ej : (zs.map e2)[j]? = some (e2 (kN zs j)) := by
      rw [List.getElem?_map, List.getElem?_eq_getElem hj]; simp [kN, List.getD, hj]
    have c0 := hv j _ ej 0 _ rfl
    have c1 := hv j _ ej 1 _ rfl
    refine ⟨?_, ?_⟩
    · have e : j * 2 + 0 = j * 2 := rfl
      rw [e] at c0
      generalize vals (j * 2) = y at c0
      cases c0; rfl
    · generalize vals (j * 2 + 1) = y at c1
      cases c1; rfl
  have cellW : ∀ i, i < zs.length * 2 → w.cell? ⟨b, o + i, none⟩ = some (vals i) := fun i hi => hs.froz b (o + i) _ (hzz i hi)
  have hb : b < w.heap.size := World.block_lt_of_cell? w ⟨b, o + 0, none⟩ (cellW 0 (by omega))
  refine (Nmb.numbered_any b o zs.length c (kN zs) w hl hb (fun j hj => ⟨?_, ?_⟩) (fun j hj => ?_)).mono ?_
  · rw [cellW _ (by omega), (cellAt j hj).1]
  · rw [cellW _ (by omega), (cellAt j hj).2]
  · have hm : kN zs j ∈ zs := by
      have : kN zs j = zs[j] := by simp [kN, List.getD, hj]
      rw [this]; exact List.getElem_mem hj
    exact ⟨i64_R (hz _ hm).1, i64_R (hz _ hm).2⟩
  rintro e w' ⟨v, rfl, hrow, hbel⟩
  obtain ⟨hlen, hcase⟩ := hrow
  rcases hcase with ⟨_, h0⟩ | ⟨g, cap, cur, rfl, hg, hcur, hnc, _, hcs, htk⟩
  · omega
  have hnl := numL_len (kN zs) zs.length
  obtain ⟨q, φ', hq, _, hφ, hpl, hs'⟩ := hs.fresh (g := g) ⟨hbel, trivial⟩ (by omega) hcur cap (by omega) (cP fI (numL (kN zs) zs.length)) (by rw [cI_len]; omega) (by
    intro i av hi
    rw [List.getElem?_map] at hi
    cases hxi : (numL (kN zs) zs.length)[i]? with
    | none => rw [hxi] at hi; cases hi
    | some x =>
      rw [hxi] at hi; cases hi
      refine ⟨.int .i64 x, ?_, .p (.int _ _)⟩
      have hlt : i < zs.length := by
        have := (List.getElem?_eq_some_iff.1 hxi).1; omega
      have e1 := congrArg (fun l : List Value => l[i]?) htk
      simp only [List.getElem?_map, hxi, Option.map_some] at e1
      rw [List.getElem?_take_of_lt (by omega)] at e1
      simpa using e1)
  have hqF : F q = none := by
    cases hh : H q with
    | none => simpa [Heap.or, hh] using hq
    | some b => simp [Heap.or, hh] at hq
  have hqH : H q = none := by
    cases hh : H q with
    | none => rfl
    | some b => simp [Heap.or, hh] at hq
  refine ⟨_, rfl, .agg [rowP q (numL (kN zs) zs.length)], H.set q (cP fI (numL (kN zs) zs.length)), Z, φ', h q hqH, Fro.le_refl _, hφ, hd.set hqF, by rw [Heap.or_set]; exact hs', .agg _ _ rfl ?_⟩
  intro i av x h1 h2
  match i with
  | 0 =>
    cases h1; cases h2
    have := Cv.sl (Z := Z) (sz := 1) (off := 0) (len := zs.length) (c := cap) hpl hnc (by show 0 + cap * 1 ≤ cap; omega)
    rw [rowP, hnl]; exact this
  | i + 1 => cases h1
end Go.Proofs.YtdnfiacjoghfkaaGreat
/- Marks on changes, commands, programs and sights that own their rows. -/
namespace Go.Proofs.YtdnfiacjoghfkaaGreat
open Go Go.Sep Go.Pt
set_option linter.unusedSimpArgs false
set_option linter.unusedVariables false
attribute [local irreducible] CallT

theorem nd3 {q : Nat} {A C E : List Nat} (h : (q :: (A ++ (C ++ E))).Nodup) : (q ∉ A ∧ q ∉ C ∧ q ∉ E) ∧ (∀ y ∈ A, y ∉ C) ∧ (∀ y ∈ E, y ∉ C) ∧ A.Nodup ∧ C.Nodup ∧ E.Nodup := by
  rw [List.nodup_cons, List.nodup_append, List.nodup_append] at h
  simp only [List.mem_append, not_or] at h
  refine ⟨h.1, fun y hy hc => h.2.2.2 y hy y (.inl hc) rfl, fun y hy hc => h.2.2.1.2.2 y hc y hy rfl, h.2.1, h.2.2.1.1, h.2.2.1.2.1⟩

theorem markChangeS_live (xs : List Ch) (hl : totChs xs ≤ 1048576) {x : AV} {G : Heap} {D : List Nat} (hx : LRow LCh 2 xs x G D) (hD : D.Nodup) {k : Int} (h0 : 0 ≤ k) (hk : k ≤ 800000000) {K : AV → Heap → Prop}
    (h : ∀ k' xs' G', LRow LCh 2 xs' x G' D → xs'.length = xs.length → (∀ y, y ∉ D → G' y = G y) → k ≤ k' → k' ≤ k + 2 * totChs xs → K (I k') G') : CallT Tryz.prog 62 [x, I k] G K := by
  obtain ⟨q, cs, D', rfl, hq, hll, rfl⟩ := hx
  have hlen : xs.length ≤ 1048576 := by unfold totChs at hl; omega
  refine W62_ok ?_; simp (maxSteps := 1000000) (disch := first | assumption | (apply Ne.symm; assumption)) only [W62, vz, vu, vv, eqS, eqFieldsV, ↓condV_t, ↓condV_f, tabs, reduceCtorEq, Array.toList, ↓reduceIte, Nat.reduceAdd, Nat.reduceLeDiff, Nat.reduceLT, Nat.reduceMul, Nat.reduceSub, Int.reduceToNat, Int.reduceSub, Int.reduceAdd, Int.reduceNeg]
  refine L62_0_rule ((0 : Nat), k, G, ([] : List Ch)) (fun s => I s.2.1) (fun s => I s.1) (fun s => s.2.2.1) (fun s => (s.1 ≤ xs.length ∧ k ≤ s.2.1 ∧ s.2.1 ≤ k + 2 * (s.1 + psum totCh xs s.1)) ∧ Half LCh G q D' xs s.1 s.2.2.1 s.2.2.2) (fun s => xs.length - s.1)
    ⟨⟨⟨by simp, by simp, by simp [psum]⟩, ⟨⟨[], cs, [], D', by simpa using hq, ⟨rfl, rfl⟩, by simpa using hll, rfl⟩, rfl, fun _ _ => rfl⟩⟩, .refl _, .refl _, Heap.le_refl _⟩ ?_
  rintro ⟨i, k1, G1, done⟩ ⟨⟨hi, hk1, hk2⟩, ⟨⟨cd, cr, Dd, Dr, e1, e2, e3, e4⟩, e5, e6⟩⟩
  dsimp only at hi hk1 hk2 e1 e2 e3 e4 e5 e6
  have hps := psum_le (f := totCh) (xs := xs) i
  have htd : totChs xs = xs.length + psum totCh xs xs.length := rfl
  (try simp (maxSteps := 1000000) (disch := first | assumption | (apply Ne.symm; assumption)) only [vz, vu, vv, eqS, eqFieldsV, ↓condV_t, ↓condV_f, tabs, reduceCtorEq, Array.toList, ↓reduceIte, Nat.reduceAdd, Nat.reduceLeDiff, Nat.reduceLT, Nat.reduceMul, Nat.reduceSub, Int.reduceToNat, Int.reduceSub, Int.reduceAdd, Int.reduceNeg, B62_0])
  refine ⟨fun h5 => ?_, fun h5 => ?_⟩
  · have hlt : i < xs.length := by omega
    have hsucc := psum_succ (f := totCh) hlt
    have hps2 := psum_le (f := totCh) (xs := xs) (i + 1)
    rw [drop_cons hlt] at e3
    obtain ⟨c, c2, Di, D2, rfl, rfl, ⟨x, rfl, hx⟩, f2⟩ := e3
    have hdl : cd.length = i * 2 := by rw [LL.size LCh.size e2, e5]
    subst e4
    obtain ⟨⟨q1, q2, q3⟩, dA, dE, nA, nC, nE⟩ := nd3 hD
    have htl : totCh (xs.getD i default) = (xs.getD i default).by_.length := rfl
    generalize xs.getD i default = a at e1 hx hsucc htl
    obtain ⟨qx, rfl⟩ := LRow.sl hx
    generalize hxx : (AV.sl qx 2 0 a.by_.length) = x at e1 hx
    have e1' : G1 q = some (cd ++ (I a.var :: x :: c2)) := e1
    have p1 : ∀ z, List.take (i * 2) (cd ++ (I a.var :: x :: c2)) ++ [z] ++ List.drop (i * 2 + 1) (cd ++ (I a.var :: x :: c2)) = cd ++ (z :: x :: c2) := fun z => splice_at (c := [I a.var]) (c' := [z]) (post := x :: c2) hdl.symm rfl rfl
    have rd : ∀ z, (List.take 1 (List.drop (i * 2 + 1) (cd ++ (z :: x :: c2)))).headD AV.any = x := fun z => by
      rw [List.drop_append, hdl, List.drop_of_length_le (by omega)]; simp
    (try simp (maxSteps := 1000000) (disch := first | assumption | (apply Ne.symm; assumption)) only [vz, vu, vv, eqS, eqFieldsV, ↓condV_t, ↓condV_f, tabs, reduceCtorEq, Array.toList, ↓reduceIte, Nat.reduceAdd, Nat.reduceLeDiff, Nat.reduceLT, Nat.reduceMul, Nat.reduceSub, Int.reduceToNat, Int.reduceSub, Int.reduceAdd, Int.reduceNeg, store_at e1', p1, rd])
    refine ⟨by omega, h5, by omega, by omega, h5, by omega, ?_⟩
    rw [i64_id (n := k1 + 1) (by omega) (by omega)]
    refine markNodeS_live a.by_ (by omega) (LRow.local (LPl.local eN) hx (fun y hy b hb => by rw [Heap.set_other (ne_mem hy q2)]; exact hb)) nC (by omega) (by omega) fun k2 t' G2 hx3 hlen hfr hk3 hk4 => ?_
    have g2q : G2 q = some ((cd ++ [I k1, x]) ++ c2) := by rw [hfr q q2, Heap.set_same]; simp
    (try simp (maxSteps := 1000000) (disch := first | assumption | (apply Ne.symm; assumption)) only [vz, vu, vv, eqS, eqFieldsV, ↓condV_t, ↓condV_f, tabs, reduceCtorEq, Array.toList, ↓reduceIte, Nat.reduceAdd, Nat.reduceLeDiff, Nat.reduceLT, Nat.reduceMul, Nat.reduceSub, Int.reduceToNat, Int.reduceSub, Int.reduceAdd, Int.reduceNeg])
    refine ⟨(i + 1, k2, G2, done ++ [⟨k1, t'⟩]), ⟨⟨by simp only; omega, by simp only; omega, by simp only; omega⟩, ⟨⟨cd ++ [I k1, x], c2, Dd ++ Di, D2, g2q, ?_, ?_, by simp⟩, by simp [e5], fun y hy => ?_⟩⟩, by simp only; omega, .refl _, ?_, Heap.le_refl _⟩
    · refine LL.snoc (L := LCh) (a := ⟨k1, t'⟩) ⟨x, rfl, hx3⟩ (LL.local LCh.local e2 fun y hy b hb => ?_)
      show G2 y = _
      rw [hfr y (dA y hy), Heap.set_other (ne_mem hy q1)]; exact hb
    · refine LL.local LCh.local f2 fun y hy b hb => ?_
      show G2 y = _
      rw [hfr y (dE y hy), Heap.set_other (ne_mem hy q3)]; exact hb
    · show G2 y = _
      have hy' := hy
      simp only [List.mem_cons, List.mem_append, not_or] at hy'
      rw [hfr y hy'.2.2.1, Heap.set_other hy'.1]; exact e6 y hy
    · rw [wk_int, i64_id (by omega) (by omega)]; simp
  · have : i = xs.length := by omega
    subst this
    rw [List.drop_length] at e3
    obtain ⟨rfl, rfl⟩ := e3
    refine h _ done G1 ⟨q, cd, D', by rw [e5], by simpa using e1, by rw [e4]; simpa using e2, rfl⟩ e5 e6 hk1 (by omega)

theorem markCommandS_live (xs : List Cm) (hl : totCms xs ≤ 1048576) {x : AV} {G : Heap} {D : List Nat} (hx : LRow LCm 2 xs x G D) (hD : D.Nodup) {k : Int} (h0 : 0 ≤ k) (hk : k ≤ 700000000) {K : AV → Heap → Prop}
    (h : ∀ k' xs' G', LRow LCm 2 xs' x G' D → xs'.length = xs.length → (∀ y, y ∉ D → G' y = G y) → k ≤ k' → k' ≤ k + 2 * totCms xs → K (I k') G') : CallT Tryz.prog 39 [x, I k] G K := by
  obtain ⟨q, cs, D', rfl, hq, hll, rfl⟩ := hx
  have hlen : xs.length ≤ 1048576 := by unfold totCms at hl; omega
  refine W39_ok ?_; simp (maxSteps := 1000000) (disch := first | assumption | (apply Ne.symm; assumption)) only [W39, vz, vu, vv, eqS, eqFieldsV, ↓condV_t, ↓condV_f, tabs, reduceCtorEq, Array.toList, ↓reduceIte, Nat.reduceAdd, Nat.reduceLeDiff, Nat.reduceLT, Nat.reduceMul, Nat.reduceSub, Int.reduceToNat, Int.reduceSub, Int.reduceAdd, Int.reduceNeg]
  refine L39_0_rule ((0 : Nat), k, G, ([] : List Cm)) (fun s => I s.2.1) (fun s => I s.1) (fun s => s.2.2.1) (fun s => (s.1 ≤ xs.length ∧ k ≤ s.2.1 ∧ s.2.1 ≤ k + 2 * (s.1 + psum totCm xs s.1)) ∧ Half LCm G q D' xs s.1 s.2.2.1 s.2.2.2) (fun s => xs.length - s.1)
    ⟨⟨⟨by simp, by simp, by simp [psum]⟩, ⟨⟨[], cs, [], D', by simpa using hq, ⟨rfl, rfl⟩, by simpa using hll, rfl⟩, rfl, fun _ _ => rfl⟩⟩, .refl _, .refl _, Heap.le_refl _⟩ ?_
  rintro ⟨i, k1, G1, done⟩ ⟨⟨hi, hk1, hk2⟩, ⟨⟨cd, cr, Dd, Dr, e1, e2, e3, e4⟩, e5, e6⟩⟩
  dsimp only at hi hk1 hk2 e1 e2 e3 e4 e5 e6
  have hps := psum_le (f := totCm) (xs := xs) i
  have htd : totCms xs = xs.length + psum totCm xs xs.length := rfl
  (try simp (maxSteps := 1000000) (disch := first | assumption | (apply Ne.symm; assumption)) only [vz, vu, vv, eqS, eqFieldsV, ↓condV_t, ↓condV_f, tabs, reduceCtorEq, Array.toList, ↓reduceIte, Nat.reduceAdd, Nat.reduceLeDiff, Nat.reduceLT, Nat.reduceMul, Nat.reduceSub, Int.reduceToNat, Int.reduceSub, Int.reduceAdd, Int.reduceNeg, B39_0])
  refine ⟨fun h5 => ?_, fun h5 => ?_⟩
  · have hlt : i < xs.length := by omega
    have hsucc := psum_succ (f := totCm) hlt
    have hps2 := psum_le (f := totCm) (xs := xs) (i + 1)
    rw [drop_cons hlt] at e3
    obtain ⟨c, c2, Di, D2, rfl, rfl, ⟨x, y, E1, E2, rfl, rfl, hx, hy⟩, f2⟩ := e3
    have hdl : cd.length = i * 2 := by rw [LL.size LCm.size e2, e5]
    subst e4
    obtain ⟨⟨q1, q2, q3⟩, dA, dE, nA, nC, nE⟩ := nd3 hD
    have htl : totCm (xs.getD i default) = (xs.getD i default).when_.length + totChs (xs.getD i default).chs := rfl
    generalize xs.getD i default = a at e1 hx hy hsucc htl
    rw [List.mem_append, not_or] at q2
    rw [List.nodup_append] at nC
    obtain ⟨qx, rfl⟩ := LRow.sl hx
    obtain ⟨qy, rfl⟩ := LRow.sl hy
    generalize hxx : (AV.sl qx 2 0 a.when_.length) = x at e1 hx
    generalize hyy : (AV.sl qy 2 0 a.chs.length) = y at e1 hy
    have e1' : G1 q = some (cd ++ (x :: y :: c2)) := e1
    have rd0 : (List.take 1 (List.drop (i * 2) (cd ++ (x :: y :: c2)))).headD AV.any = x := by
      rw [List.drop_append, hdl, List.drop_of_length_le (by omega)]; simp
    have rd1 : (List.take 1 (List.drop (i * 2 + 1) (cd ++ (x :: y :: c2)))).headD AV.any = y := by
      rw [List.drop_append, hdl, List.drop_of_length_le (by omega)]; simp
    (try simp (maxSteps := 1000000) (disch := first | assumption | (apply Ne.symm; assumption)) only [vz, vu, vv, eqS, eqFieldsV, ↓condV_t, ↓condV_f, tabs, reduceCtorEq, Array.toList, ↓reduceIte, Nat.reduceAdd, Nat.reduceLeDiff, Nat.reduceLT, Nat.reduceMul, Nat.reduceSub, Int.reduceToNat, Int.reduceSub, Int.reduceAdd, Int.reduceNeg, load_at e1', rd0, rd1])
    refine ⟨by omega, h5, by omega, ?_⟩
    refine markNodeS_live a.when_ (by omega) hx nC.1 (by omega) (by omega) fun k2 t' G2 hx3 hlen2 hfr hk3 hk4 => ?_
    have g2q' : G2 q = some (cd ++ (x :: y :: c2)) := by rw [hfr q q2.1]; exact e1'
    have hy2 : LRow LCh 2 a.chs y G2 E2 := LRow.local LCh.local hy fun z hz b hb => by rw [hfr z (fun hz1 => nC.2.2 z hz1 z hz rfl)]; exact hb
    (try simp (maxSteps := 1000000) (disch := first | assumption | (apply Ne.symm; assumption)) only [vz, vu, vv, eqS, eqFieldsV, ↓condV_t, ↓condV_f, tabs, reduceCtorEq, Array.toList, ↓reduceIte, Nat.reduceAdd, Nat.reduceLeDiff, Nat.reduceLT, Nat.reduceMul, Nat.reduceSub, Int.reduceToNat, Int.reduceSub, Int.reduceAdd, Int.reduceNeg, load_at g2q', rd0, rd1])
    refine ⟨by omega, h5, by omega, ?_⟩
    refine markChangeS_live a.chs (by omega) hy2 nC.2.1 (by omega) (by omega) fun k3 xs' G3 hy3 hlen3 hfr3 hk5 hk6 => ?_
    have g3q : G3 q = some ((cd ++ [x, y]) ++ c2) := by rw [hfr3 q q2.2, g2q']; simp
    have hx4 : LN t' x G3 E1 := LRow.local (LPl.local eN) hx3 fun z hz b hb => by rw [hfr3 z (fun hz1 => nC.2.2 z hz z hz1 rfl)]; exact hb
    (try simp (maxSteps := 1000000) (disch := first | assumption | (apply Ne.symm; assumption)) only [vz, vu, vv, eqS, eqFieldsV, ↓condV_t, ↓condV_f, tabs, reduceCtorEq, Array.toList, ↓reduceIte, Nat.reduceAdd, Nat.reduceLeDiff, Nat.reduceLT, Nat.reduceMul, Nat.reduceSub, Int.reduceToNat, Int.reduceSub, Int.reduceAdd, Int.reduceNeg])
    refine ⟨(i + 1, k3, G3, done ++ [⟨t', xs'⟩]), ⟨⟨by simp only; omega, by simp only; omega, by simp only; omega⟩, ⟨⟨cd ++ [x, y], c2, Dd ++ (E1 ++ E2), D2, g3q, ?_, ?_, by simp⟩, by simp [e5], fun z hz => ?_⟩⟩, by simp only; omega, .refl _, ?_, Heap.le_refl _⟩
    · refine LL.snoc (L := LCm) (a := ⟨t', xs'⟩) ⟨x, y, E1, E2, rfl, rfl, hx4, hy3⟩ (LL.local LCm.local e2 fun z hz b hb => ?_)
      show G3 z = _
      have := dA z hz
      rw [List.mem_append, not_or] at this
      rw [hfr3 z this.2, hfr z this.1]; exact hb
    · refine LL.local LCm.local f2 fun z hz b hb => ?_
      show G3 z = _
      have := dE z hz
      rw [List.mem_append, not_or] at this
      rw [hfr3 z this.2, hfr z this.1]; exact hb
    · show G3 z = _
      have hz' := hz
      simp only [List.mem_cons, List.mem_append, not_or] at hz'
      rw [hfr3 z hz'.2.2.1.2, hfr z hz'.2.2.1.1]; exact e6 z hz
    · rw [wk_int, i64_id (by omega) (by omega)]; simp
  · have : i = xs.length := by omega
    subst this
    rw [List.drop_length] at e3
    obtain ⟨rfl, rfl⟩ := e3
    refine h _ done G1 ⟨q, cd, D', by rw [e5], by simpa using e1, by rw [e4]; simpa using e2, rfl⟩ e5 e6 hk1 (by omega)

theorem markProgram_live (p : Pg) (hl : totPg p ≤ 1048576) {v : AV} {G : Heap} {D : List Nat} (hx : LPg p v G D) (hD : D.Nodup) {k : Int} (h0 : 0 ≤ k) (hk : k ≤ 600000000) {K : AV → Heap → Prop}
    (h : ∀ k' G', (∀ y, y ∉ D → G' y = G y) → k ≤ k' → k' ≤ k + 2 * totPg p → K (I k') G') : CallT Tryz.prog 14 [v, I k] G K := by
  obtain ⟨x, y, D1, D2, rfl, rfl, h1, h2⟩ := hx
  rw [List.nodup_append] at hD
  have htd : totPg p = p.start.length + totCms p.cmds := rfl
  refine CallT.fin ?_
  refine W14_ok ?_; simp (maxSteps := 1000000) (disch := first | assumption | (apply Ne.symm; assumption)) only [W14, vz, vu, vv, eqS, eqFieldsV, ↓condV_t, ↓condV_f, tabs, reduceCtorEq, Array.toList, ↓reduceIte, Nat.reduceAdd, Nat.reduceLeDiff, Nat.reduceLT, Nat.reduceMul, Nat.reduceSub, Int.reduceToNat, Int.reduceSub, Int.reduceAdd, Int.reduceNeg]
  intro r hr
  have r1 : r ∉ D1 := fun hh => LRow.has (LPl.has eN) h1 r hh hr
  have r2 : r ∉ D2 := fun hh => LRow.has LCm.has h2 r hh hr
  have h1' : LN p.start x (G.set r [I p.wide, I p.vars, x, y]) D1 := LRow.local (LPl.local eN) h1 fun z hz b hb => by rw [Heap.set_other (ne_mem hz r1)]; exact hb
  refine markNodeS_live p.start (by omega) h1' hD.1 h0 (by omega) fun k2 t' G2 hx3 hlen2 hfr hk3 hk4 => ?_
  have g2 : G2 r = some [I p.wide, I p.vars, x, y] := by rw [hfr r r1, Heap.set_same]
  have h2' : LRow LCm 2 p.cmds y G2 D2 := LRow.local LCm.local h2 fun z hz b hb => by rw [hfr z (fun hz1 => hD.2.2 z hz1 z hz rfl), Heap.set_other (ne_mem hz r2)]; exact hb
  (try simp (maxSteps := 1000000) (disch := first | assumption | (apply Ne.symm; assumption)) only [vz, vu, vv, eqS, eqFieldsV, ↓condV_t, ↓condV_f, tabs, reduceCtorEq, Array.toList, ↓reduceIte, Nat.reduceAdd, Nat.reduceLeDiff, Nat.reduceLT, Nat.reduceMul, Nat.reduceSub, Int.reduceToNat, Int.reduceSub, Int.reduceAdd, Int.reduceNeg, load_at g2])
  refine markCommandS_live p.cmds (by omega) h2' hD.2.1 (by omega) (by omega) fun k3 xs' G3 hy3 hlen3 hfr3 hk5 hk6 => ?_
  (try simp (maxSteps := 1000000) (disch := first | assumption | (apply Ne.symm; assumption)) only [vz, vu, vv, eqS, eqFieldsV, ↓condV_t, ↓condV_f, tabs, reduceCtorEq, Array.toList, ↓reduceIte, Nat.reduceAdd, Nat.reduceLeDiff, Nat.reduceLT, Nat.reduceMul, Nat.reduceSub, Int.reduceToNat, Int.reduceSub, Int.reduceAdd, Int.reduceNeg])
  refine fin_le (H := G3.del r) (Heap.del_le _ _) (h k3 (G3.del r) (fun z hz => ?_) (by omega) (by omega))
  rw [List.mem_append, not_or] at hz
  by_cases e : z = r
  · subst e; rw [Heap.del_same, hr]
  · rw [Heap.del_other e, hfr3 z hz.2, hfr z hz.1, Heap.set_other e]

end Go.Proofs.YtdnfiacjoghfkaaGreat
/- Things that own blocks: a heap as a list of them. -/
namespace Go.Sep
open Go Go.RowKit Go.Proofs.YtdnfiacjoghfkaaGreat
set_option linter.unusedVariables false

/-- A thing that owns blocks: where, and what holds of them. -/
structure Th where
  D : List Nat
  P : Heap → Prop
  loc : ∀ {G G' : Heap}, P G → (∀ y ∈ D, ∀ b, G y = some b → G' y = some b) → P G'
  has : ∀ {G : Heap}, P G → ∀ y ∈ D, G y ≠ none
def cellT (r : Nat) (b : List AV) : Th := ⟨[r], fun G => G r = some b, fun h f => f r (List.mem_singleton.2 rfl) b h, fun h y hy => by rw [List.mem_singleton.1 hy, h]; simp⟩
/-- A heap over H that holds the things Ts, each by itself. -/
structure St (H : Heap) (Ts : List Th) (G : Heap) : Prop where
  le : Heap.le H G
  nd : (Ts.flatMap Th.D).Nodup
  fr : ∀ t ∈ Ts, ∀ y ∈ t.D, H y = none
  ok : ∀ t ∈ Ts, t.P G
theorem St.nil (H : Heap) : St H [] H := ⟨Heap.le_refl _, List.nodup_nil, fun t ht => (by cases ht), fun t ht => (by cases ht)⟩
theorem St.get {H G : Heap} {Ts : List Th} {t : Th} (s : St H Ts G) (i : Nat) (h : Ts[i]? = some t) : t.P G := s.ok t (List.mem_of_getElem? h)
theorem St.ndT {H G : Heap} {Ts : List Th} {t : Th} (s : St H Ts G) (i : Nat) (h : Ts[i]? = some t) : t.D.Nodup := by
  obtain ⟨pre, post, e⟩ := List.append_of_mem (List.mem_of_getElem? h)
  have := s.nd
  rw [e, List.flatMap_append, List.flatMap_cons, List.nodup_append, List.nodup_append] at this
  exact this.2.1.1
theorem St.push {H G G' : Heap} {Ts : List Th} (s : St H Ts G) (t : Th) (hn : New G G' t.D) (hp : t.P G') : St H (t :: Ts) G' := by
  refine ⟨Heap.le_trans s.le hn.le, ?_, ?_, ?_⟩
  · rw [List.flatMap_cons, List.nodup_append]
    refine ⟨hn.nd, s.nd, fun a ha b hb e => ?_⟩
    obtain ⟨u, hu, hbu⟩ := List.mem_flatMap.1 hb
    exact u.has (s.ok u hu) b hbu (by rw [← e]; exact hn.fr a ha)
  · intro u hu y hy
    rcases List.mem_cons.1 hu with rfl | hu
    · cases hh : H y with
      | none => rfl
      | some b => rw [← hn.fr y hy, s.le y b hh]
    · exact s.fr u hu y hy
  · intro u hu
    rcases List.mem_cons.1 hu with rfl | hu
    · exact hp
    · exact u.loc (s.ok u hu) fun y _ b hb => hn.le y b hb
theorem New.cell {G : Heap} {r : Nat} {b : List AV} (hr : G r = none) : New G (G.set r b) [r] := ⟨by simp, by simpa using hr, Heap.le_set hr⟩
theorem St.cell {H G : Heap} {Ts : List Th} (s : St H Ts G) {r : Nat} (hr : G r = none) (b : List AV) : St H (cellT r b :: Ts) (G.set r b) := s.push (cellT r b) (New.cell hr) (Heap.set_same _ _ _)
theorem St.upd {H G G' : Heap} {Ts : List Th} {t : Th} (s : St H Ts G) (i : Nat) (h : Ts[i]? = some t) (t' : Th) (hD : t'.D = t.D) (hf : ∀ y, y ∉ t.D → G' y = G y) (hp : t'.P G') : St H (Ts.set i t') G' := by
  obtain ⟨hi, hti⟩ := List.getElem?_eq_some_iff.1 h
  have e : Ts = Ts.take i ++ t :: Ts.drop (i + 1) := by rw [← hti, List.getElem_cons_drop, List.take_append_drop]
  have e' : Ts.set i t' = Ts.take i ++ t' :: Ts.drop (i + 1) := by rw [List.set_eq_take_append_cons_drop, if_pos hi]
  generalize Ts.take i = pre at e e'
  generalize Ts.drop (i + 1) = post at e e'
  rw [e']
  subst e
  have hnd := s.nd
  rw [List.flatMap_append, List.flatMap_cons] at hnd
  have hdis : ∀ u ∈ pre ++ post, ∀ y ∈ u.D, y ∉ t.D := by
    intro u hu y hy hyt
    rw [List.nodup_append, List.nodup_append] at hnd
    rcases List.mem_append.1 hu with hu | hu
    · exact hnd.2.2 y (List.mem_flatMap.2 ⟨u, hu, hy⟩) y (List.mem_append_left _ hyt) rfl
    · exact hnd.2.1.2.2 y hyt y (List.mem_flatMap.2 ⟨u, hu, hy⟩) rfl
  refine ⟨fun y b hb => ?_, by rw [List.flatMap_append, List.flatMap_cons, hD]; exact hnd, fun u hu y hy => ?_, fun u hu => ?_⟩
  · rw [hf y (fun hy => by have := s.fr t (by simp) y hy; rw [this] at hb; cases hb)]; exact s.le y b hb
  · rcases List.mem_append.1 hu with hu | hu
    · exact s.fr u (List.mem_append_left _ hu) y hy
    · rcases List.mem_cons.1 hu with rfl | hu
      · exact s.fr t (by simp) y (hD ▸ hy)
      · exact s.fr u (by simp [hu]) y hy
  · have old : ∀ u ∈ pre ++ post, u.P G' := fun u hu => u.loc (s.ok u (by
      rcases List.mem_append.1 hu with hu | hu
      · exact List.mem_append_left _ hu
      · exact List.mem_append_right _ (List.mem_cons_of_mem _ hu))) fun y hy b hb => by rw [hf y (hdis u hu y hy)]; exact hb
    rcases List.mem_append.1 hu with hu | hu
    · exact old u (List.mem_append_left _ hu)
    · rcases List.mem_cons.1 hu with rfl | hu
      · exact hp
      · exact old u (List.mem_append_right _ hu)
theorem St.drop {H G : Heap} {t : Th} {Ts : List Th} (s : St H (t :: Ts) G) : St H Ts G := ⟨s.le, (by have := s.nd; rw [List.flatMap_cons, List.nodup_append] at this; exact this.2.1), fun u hu => s.fr u (List.mem_cons_of_mem _ hu), fun u hu => s.ok u (List.mem_cons_of_mem _ hu)⟩
theorem St.perm {H G : Heap} {Ts Us : List Th} (s : St H Ts G) (h : List.Perm Ts Us) : St H Us G :=
  ⟨s.le, (h.flatMap_right _).nodup s.nd, fun t ht => s.fr t (h.mem_iff.2 ht), fun t ht => s.ok t (h.mem_iff.2 ht)⟩
theorem St.disj {H G : Heap} {t u : Th} {Ts : List Th} (s : St H (t :: u :: Ts) G) : ∀ y ∈ t.D, y ∉ u.D := by
  have := s.nd
  rw [List.flatMap_cons, List.flatMap_cons, List.nodup_append] at this
  exact fun y hy hu => this.2.2 y hy y (List.mem_append_left _ hu) rfl
theorem Th.dis : ∀ {Ts : List Th} {t u : Th} {i j : Nat}, (Ts.flatMap Th.D).Nodup → Ts[i]? = some t → Ts[j]? = some u → i < j → ∀ y ∈ t.D, y ∉ u.D
  | [], _, _, _, _, _, hi, _, _ => by simp at hi
  | a :: Ts, t, u, 0, j + 1, nd, hi, hj, _ => by
    rw [List.flatMap_cons, List.nodup_append] at nd
    simp only [List.getElem?_cons_zero, Option.some.injEq] at hi
    subst hi
    exact fun y hy hu => nd.2.2 y hy y (List.mem_flatMap.2 ⟨u, List.mem_of_getElem? (by simpa using hj), hu⟩) rfl
  | a :: Ts, t, u, i + 1, j + 1, nd, hi, hj, h => by
    rw [List.flatMap_cons, List.nodup_append] at nd
    exact Th.dis nd.2.1 (by simpa using hi) (by simpa using hj) (by omega)
theorem St.disjI {H G : Heap} {t u : Th} {Ts : List Th} (s : St H Ts G) (i j : Nat) (hi : Ts[i]? = some t) (hj : Ts[j]? = some u) (hij : i ≠ j) : ∀ y ∈ t.D, y ∉ u.D := by
  rcases Nat.lt_or_gt_of_ne hij with h | h
  · exact Th.dis s.nd hi hj h
  · exact fun y hy hu => Th.dis s.nd hj hi h y hu hy
theorem St.fresh {H G : Heap} {Ts : List Th} {t : Th} (s : St H Ts G) (i : Nat) (h : Ts[i]? = some t) {q : Nat} (hq : G q = none) : q ∉ t.D := fun hm => t.has (s.get i h) q hm hq
theorem perm_pick {α : Type} : ∀ (Ts : List α) (i : Nat) (hi : i < Ts.length), List.Perm Ts (Ts[i] :: Ts.eraseIdx i)
  | a :: Ts, 0, _ => List.Perm.refl _
  | a :: Ts, i + 1, hi => ((perm_pick Ts i (by simpa using hi)).cons a).trans (List.Perm.swap _ _ _)
theorem perm_set {α : Type} : ∀ (Ts : List α) (i : Nat) (hi : i < Ts.length) (t : α), List.Perm (Ts.set i t) (t :: Ts.eraseIdx i)
  | a :: Ts, 0, _, _ => List.Perm.refl _
  | a :: Ts, i + 1, hi, t => ((perm_set Ts i (by simpa using hi) t).cons a).trans (List.Perm.swap _ _ _)
theorem sub_flat {α β : Type} {f : α → List β} {l m : List α} (h : List.Sublist l m) : List.Sublist (l.flatMap f) (m.flatMap f) := by
  induction h with
  | slnil => exact List.Sublist.refl _
  | cons a _ ih => rw [List.flatMap_cons]; exact ih.trans (List.sublist_append_right _ _)
  | cons_cons a _ ih => rw [List.flatMap_cons, List.flatMap_cons]; exact List.Sublist.append_left ih _
theorem St.pick {H G : Heap} {Ts : List Th} {t : Th} (s : St H Ts G) (i : Nat) (h : Ts[i]? = some t) : St H (t :: Ts.eraseIdx i) G := by
  obtain ⟨hi, rfl⟩ := List.getElem?_eq_some_iff.1 h
  exact s.perm (perm_pick Ts i hi)
/-- Some things turn into others. -/
theorem St.step {H G G' : Heap} {old rest : List Th} (s : St H (old ++ rest) G) (new : List Th) (hnd : (new.flatMap Th.D).Nodup) (hfr : ∀ t ∈ new, ∀ y ∈ t.D, (∃ u ∈ old, y ∈ u.D) ∨ G y = none)
    (hf : ∀ y b, G y = some b → (∀ u ∈ old, y ∉ u.D) → G' y = some b) (hp : ∀ t ∈ new, t.P G') : St H (new ++ rest) G' := by
  have hs := s.nd
  rw [List.flatMap_append, List.nodup_append] at hs
  have hdis : ∀ u ∈ rest, ∀ y ∈ u.D, ∀ t ∈ old, y ∉ t.D := fun u hu y hy t ht hyt => hs.2.2 y (List.mem_flatMap.2 ⟨t, ht, hyt⟩) y (List.mem_flatMap.2 ⟨u, hu, hy⟩) rfl
  refine ⟨fun y b hb => ?_, ?_, fun u hu y hy => ?_, fun u hu => ?_⟩
  · refine hf y b (s.le y b hb) fun u hu hy => ?_
    rw [s.fr u (List.mem_append_left _ hu) y hy] at hb; cases hb
  · rw [List.flatMap_append, List.nodup_append]
    refine ⟨hnd, hs.2.1, fun a ha b hb e => ?_⟩
    subst e
    obtain ⟨t, ht, hat⟩ := List.mem_flatMap.1 ha
    obtain ⟨u, hu, hau⟩ := List.mem_flatMap.1 hb
    rcases hfr t ht a hat with ⟨v, hv, hav⟩ | hn
    · exact hdis u hu a hau v hv hav
    · exact u.has (s.ok u (List.mem_append_right _ hu)) a hau hn
  · rcases List.mem_append.1 hu with hu | hu
    · rcases hfr u hu y hy with ⟨v, hv, hav⟩ | hn
      · exact s.fr v (List.mem_append_left _ hv) y hav
      · cases hh : H y with
        | none => rfl
        | some b => rw [← hn, s.le y b hh]
    · exact s.fr u (List.mem_append_right _ hu) y hy
  · rcases List.mem_append.1 hu with hu | hu
    · exact hp u hu
    · exact u.loc (s.ok u (List.mem_append_right _ hu)) fun y hy b hb => hf y b hb (hdis u hu y hy)
theorem St.repl {H G G' : Heap} {Ts : List Th} {t : Th} (s : St H Ts G) (i : Nat) (h : Ts[i]? = some t) (t' : Th) (hnd : t'.D.Nodup) (hfr : ∀ y ∈ t'.D, y ∈ t.D ∨ G y = none)
    (hf : ∀ y b, G y = some b → y ∉ t.D → G' y = some b) (hp : t'.P G') : St H (Ts.set i t') G' := by
  obtain ⟨hi, -⟩ := List.getElem?_eq_some_iff.1 h
  have := St.step (old := [t]) (s.pick i h) [t'] (by simpa using hnd) (fun u hu y hy => by
    rw [List.mem_singleton] at hu; subst hu
    rcases hfr y hy with h1 | h1
    · exact .inl ⟨t, by simp, h1⟩
    · exact .inr h1) (fun y b hb hy => hf y b hb (hy t (by simp))) (fun u hu => by rw [List.mem_singleton] at hu; subst hu; exact hp)
  exact this.perm (perm_set Ts i hi t').symm
/-- A block moved on with another content: an append. -/
theorem St.moved {H G : Heap} {Ts : List Th} {q q' : Nat} {b c : List AV} (s : St H Ts G) (i : Nat) (h : Ts[i]? = some (cellT q b)) (hq : G q' = none) : St H (Ts.set i (cellT q' c)) ((G.del q).set q' c) := by
  have hg : G q = some b := s.get i h
  refine s.repl i h (cellT q' c) (by simp [cellT]) (fun y hy => ?_) (fun y bb hb hy => ?_) (Heap.set_same _ _ _)
  · simp only [cellT, List.mem_singleton] at hy; subst hy; exact .inr hq
  · simp only [cellT, List.mem_singleton] at hy
    rw [Heap.set_other (fun e => by rw [e, hq] at hb; cases hb), Heap.del_other hy]; exact hb
/-- A block written over. -/
theorem St.put {H G : Heap} {Ts : List Th} {q : Nat} {b : List AV} (s : St H Ts G) (i : Nat) (h : Ts[i]? = some (cellT q b)) (c : List AV) : St H (Ts.set i (cellT q c)) (G.set q c) := by
  refine s.repl i h (cellT q c) (by simp [cellT]) (fun y hy => .inl hy) (fun y bb hb hy => ?_) (Heap.set_same _ _ _)
  simp only [cellT, List.mem_singleton] at hy
  rw [Heap.set_other hy]; exact hb
/-- Things forgotten. -/
theorem St.sub {H G : Heap} {Ts Us : List Th} (s : St H Ts G) (h : List.Sublist Us Ts) : St H Us G :=
  ⟨s.le, List.Nodup.sublist (sub_flat h) s.nd, fun t ht => s.fr t (h.subset ht), fun t ht => s.ok t (h.subset ht)⟩
/-- What is there at last. -/
theorem St.new {H G : Heap} {Ts : List Th} (s : St H Ts G) : New H G (Ts.flatMap Th.D) := ⟨s.nd, fun y hy => by
  obtain ⟨t, ht, hyt⟩ := List.mem_flatMap.1 hy
  exact s.fr t ht y hyt, s.le⟩
/-- Freezing a part: what is given up. -/
theorem St.wkNone {H G : Heap} {Ts : List Th} (s : St H Ts G) : ∀ y b, H y = some b → ∀ t ∈ Ts, y ∉ t.D := fun y b hb t ht hy => by rw [s.fr t ht y hy] at hb; cases hb
end Go.Sep
