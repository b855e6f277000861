/- Texts laid together: Lt1 Lt2 Lt3 Lt4 Ma2 Ma4 Qc1 Qc0 Lt5 Pt3 Lm0 Lm1 Mt0. -/
import Derived.Test.YtgcklgeifdefhaaPka6
set_option linter.unusedVariables false
set_option linter.unusedSimpArgs false
/- Forests: rows that own rows. -/
namespace Go.Sep
open Go Go.RowKit
set_option linter.unusedVariables false

/-- How a thing of kind α lies in cells, in a heap, with the blocks it owns. -/
abbrev Lay (α : Type) := α → List AV → Heap → List Nat → Prop
/-- Plain cells. -/
def LPl {α : Type} (e : α → List PV) : Lay α := fun a cs _ D => cs = (e a).map .p ∧ D = []
/-- Things one behind the other. -/
def LL {α : Type} (L : Lay α) : List α → List AV → Heap → List Nat → Prop
  | [], cs, _, D => cs = [] ∧ D = []
  | a :: az, cs, G, D => ∃ c1 c2 D1 D2, cs = c1 ++ c2 ∧ D = D1 ++ D2 ∧ L a c1 G D1 ∧ LL L az c2 G D2
/-- A slice that owns its row. -/
def LRow {α : Type} (L : Lay α) (sz : Nat) : List α → AV → Heap → List Nat → Prop := fun xs x G D => ∃ q cs D', x = .sl q sz 0 xs.length ∧ G q = some cs ∧ LL L xs cs G D' ∧ D = q :: D'

/-- The lay looks at its own blocks alone. -/
def Lay.Local {α : Type} (L : Lay α) : Prop := ∀ a cs G G' D, L a cs G D → (∀ y ∈ D, ∀ b, G y = some b → G' y = some b) → L a cs G' D
/-- Of so many cells, by value e. -/
def Lay.Size {α : Type} (L : Lay α) (sz : Nat) : Prop := ∀ a cs G D, L a cs G D → cs.length = sz

theorem LPl.local {α : Type} (e : α → List PV) : Lay.Local (LPl e) := fun a cs G G' D h _ => h
theorem LPl.size {α : Type} {e : α → List PV} {sz : Nat} (h : ∀ a, (e a).length = sz) : Lay.Size (LPl e) sz := fun a cs G D hl => by rw [hl.1, List.length_map, h]
theorem LL.local {α : Type} {L : Lay α} (hL : L.Local) : ∀ {az : List α} {cs : List AV} {G G' : Heap} {D : List Nat}, LL L az cs G D → (∀ y ∈ D, ∀ b, G y = some b → G' y = some b) → LL L az cs G' D
  | [], cs, G, G', D, h, _ => h
  | a :: az, cs, G, G', D, ⟨c1, c2, D1, D2, e1, e2, h1, h2⟩, hf => by
    subst e2
    exact ⟨c1, c2, D1, D2, e1, rfl, hL _ _ _ _ _ h1 (fun y hy => hf y (List.mem_append_left _ hy)), LL.local hL h2 (fun y hy => hf y (List.mem_append_right _ hy))⟩
theorem LL.size {α : Type} {L : Lay α} {sz : Nat} (hL : L.Size sz) : ∀ {az : List α} {cs : List AV} {G : Heap} {D : List Nat}, LL L az cs G D → cs.length = az.length * sz
  | [], cs, G, D, h => by rw [h.1]; simp
  | a :: az, cs, G, D, ⟨c1, c2, D1, D2, e1, e2, h1, h2⟩ => by
    rw [e1, List.length_append, hL _ _ _ _ h1, LL.size hL h2, List.length_cons, Nat.add_mul, Nat.one_mul]; omega
theorem LRow.local {α : Type} {L : Lay α} {sz : Nat} (hL : L.Local) {xs : List α} {x : AV} {G G' : Heap} {D : List Nat} (h : LRow L sz xs x G D) (hf : ∀ y ∈ D, ∀ b, G y = some b → G' y = some b) : LRow L sz xs x G' D := by
  obtain ⟨q, cs, D', e1, e2, e3, e4⟩ := h
  subst e4
  exact ⟨q, cs, D', e1, hf q (by simp) _ e2, LL.local hL e3 (fun y hy => hf y (by simp [hy])), rfl⟩
/-- The lay's blocks are there. -/
def Lay.Has {α : Type} (L : Lay α) : Prop := ∀ a cs G D, L a cs G D → ∀ y ∈ D, G y ≠ none
theorem LPl.has {α : Type} (e : α → List PV) : Lay.Has (LPl e) := fun a cs G D h y hy => by rw [h.2] at hy; cases hy
theorem LL.has {α : Type} {L : Lay α} (hL : L.Has) : ∀ {az : List α} {cs : List AV} {G : Heap} {D : List Nat}, LL L az cs G D → ∀ y ∈ D, G y ≠ none
  | [], cs, G, D, h => fun y hy => by rw [h.2] at hy; cases hy
  | a :: az, cs, G, D, ⟨c1, c2, D1, D2, e1, e2, h1, h2⟩ => fun y hy => by
    rw [e2] at hy
    rcases List.mem_append.1 hy with hy | hy
    · exact hL _ _ _ _ h1 y hy
    · exact LL.has hL h2 y hy
theorem LRow.has {α : Type} {L : Lay α} {sz : Nat} (hL : L.Has) {xs : List α} {x : AV} {G : Heap} {D : List Nat} (h : LRow L sz xs x G D) : ∀ y ∈ D, G y ≠ none := by
  obtain ⟨q, cs, D', e1, e2, e3, e4⟩ := h
  intro y hy
  rw [e4] at hy
  rcases List.mem_cons.1 hy with rfl | hy
  · rw [e2]; simp
  · exact LL.has hL e3 y hy
theorem LL.plain {α : Type} {e : α → List PV} {G : Heap} : ∀ (xs : List α), LL (LPl e) xs (cells (xs.map e)) G []
  | [] => ⟨rfl, rfl⟩
  | x :: xs => ⟨(e x).map .p, cells (xs.map e), [], [], by simp [cells], rfl, ⟨rfl, rfl⟩, LL.plain xs⟩
theorem splice_at {pre c c' post : List AV} {off n : Nat} (ho : off = pre.length) (hn : n = c'.length) (hc : c.length = c'.length) : List.take off (pre ++ (c ++ post)) ++ c' ++ List.drop (off + n) (pre ++ (c ++ post)) = pre ++ (c' ++ post) := by
  subst ho; subst hn
  rw [List.take_left', List.append_assoc]
  · congr 2
    rw [List.drop_append, ← hc]
    simp
  · rfl
theorem LL.snoc {α : Type} {L : Lay α} {a : α} {c2 : List AV} {G : Heap} {D2 : List Nat} (h2 : L a c2 G D2) : ∀ {az : List α} {c1 : List AV} {D1 : List Nat}, LL L az c1 G D1 → LL L (az ++ [a]) (c1 ++ c2) G (D1 ++ D2)
  | [], c1, D1, h => by
    obtain ⟨rfl, rfl⟩ := h
    exact ⟨c2, [], D2, [], by simp, by simp, h2, rfl, rfl⟩
  | b :: az, c1, D1, ⟨d1, d2, E1, E2, e1, e2, h1, h3⟩ => by
    subst e1; subst e2
    exact ⟨d1, d2 ++ c2, E1, E2 ++ D2, by simp, by simp, h1, LL.snoc h2 h3⟩
/-- The thing at a place, and what lies around it. -/
theorem LL.split {α : Type} [Inhabited α] {L : Lay α} {sz : Nat} (hL : L.Size sz) : ∀ {az : List α} {cs : List AV} {G : Heap} {D : List Nat} {i : Nat}, LL L az cs G D → i < az.length →
    ∃ c1 c c2 D1 Di D2, cs = c1 ++ (c ++ c2) ∧ D = D1 ++ (Di ++ D2) ∧ c1.length = i * sz ∧ L (az.getD i default) c G Di ∧ LL L (az.take i) c1 G D1 ∧ LL L (az.drop (i + 1)) c2 G D2
  | a :: az, cs, G, D, 0, ⟨c1, c2, D1, D2, e1, e2, h1, h2⟩, _ => ⟨[], c1, c2, [], D1, D2, by simpa using e1, by simpa using e2, by simp, by simpa using h1, ⟨rfl, rfl⟩, by simpa using h2⟩
  | a :: az, cs, G, D, i + 1, ⟨c1, c2, D1, D2, e1, e2, h1, h2⟩, hi => by
    obtain ⟨d1, d, d2, E1, Ei, E2, f1, f2, f3, f4, f5, f6⟩ := LL.split hL h2 (i := i) (by simpa using hi)
    subst e1; subst e2; subst f1; subst f2
    refine ⟨c1 ++ d1, d, d2, D1 ++ E1, Ei, E2, by simp, by simp, ?_, by simpa using f4, ⟨c1, d1, D1, E1, rfl, rfl, h1, f5⟩, by simpa using f6⟩
    rw [List.length_append, hL _ _ _ _ h1, f3, Nat.add_mul, Nat.one_mul]; omega
/-! ### Telling forests by value -/
/-- A thing in a block is told by value where it lies. -/
def Lay.Frz {α : Type} (L : Lay α) (e : α → List PV) : Prop := ∀ (a : α) (cs : List AV) (G : Heap) (D : List Nat) (v : AV) (s : Nat) (pre post : List AV), L a cs G D → D.Nodup → s ∉ D → G s = some (pre ++ (cs ++ post)) →
  ∃ G', Wk v G v G' ∧ G' s = some (pre ++ ((e a).map .p ++ post)) ∧ ∀ y, y ≠ s → y ∉ D → G' y = G y

theorem LPl.frz {α : Type} (e : α → List PV) : (LPl e).Frz e := by
  rintro a cs G D v s pre post ⟨rfl, rfl⟩ _ _ hs
  exact ⟨G, .refl _ _, hs, fun _ _ _ => rfl⟩
theorem LL.frz {α : Type} {L : Lay α} {e : α → List PV} (hl : L.Local) (hf : L.Frz e) : ∀ (az : List α) (cs : List AV) (G : Heap) (D : List Nat) (v : AV) (s : Nat) (pre post : List AV), LL L az cs G D → D.Nodup → s ∉ D → G s = some (pre ++ (cs ++ post)) →
    ∃ G', Wk v G v G' ∧ G' s = some (pre ++ ((az.map e).flatten.map .p ++ post)) ∧ ∀ y, y ≠ s → y ∉ D → G' y = G y
  | [], cs, G, D, v, s, pre, post, h, hD, hs, hG => by
    obtain ⟨rfl, rfl⟩ := h
    exact ⟨G, .refl _ _, by simpa using hG, fun _ _ _ => rfl⟩
  | a :: az, cs, G, D, v, s, pre, post, ⟨c1, c2, D1, D2, e1, e2, h1, h2⟩, hD, hs, hG => by
    subst e1; subst e2
    rw [List.nodup_append] at hD
    rw [List.mem_append, not_or] at hs
    obtain ⟨G1, w1, k1, f1⟩ := hf a c1 G D1 v s pre (c2 ++ post) h1 hD.1 hs.1 (by rw [hG]; simp)
    have h2' : LL L az c2 G1 D2 := LL.local hl h2 fun y hy b hb => by rw [f1 y (fun e => hs.2 (e ▸ hy)) (fun hy1 => hD.2.2 y hy1 y hy rfl)]; exact hb
    obtain ⟨G2, w2, k2, f2⟩ := LL.frz hl hf az c2 G1 D2 v s (pre ++ (e a).map .p) post h2' hD.2.1 hs.2 (by rw [k1]; simp)
    refine ⟨G2, .trans w1 w2, by rw [k2]; simp, fun y hy hyD => ?_⟩
    rw [List.mem_append, not_or] at hyD
    rw [f2 y hy hyD.2, f1 y hy hyD.1]
theorem FrzL.refl' {r sz : Nat} {es : List (List PV)} : ∀ vs, FrzL r sz es vs vs
  | [] => .nil
  | v :: vs => .cons (.same v) (FrzL.refl' vs)
theorem FrzL.at {r sz : Nat} {es : List (List PV)} {x x' : AV} (h : FrzR r sz es x x') (post : List AV) : ∀ pre, FrzL r sz es (pre ++ ([x] ++ post)) (pre ++ ([x'] ++ post))
  | [] => .cons h (FrzL.refl' post)
  | v :: pre => .cons (.same v) (FrzL.at h post pre)
/-- A slice that owns its row, in a cell of a block. -/
theorem LRow.frzIn {α : Type} {L : Lay α} {e : α → List PV} {sz : Nat} (hpos : 0 < sz) (he : ∀ a, (e a).length = sz) (hl : L.Local) (hf : L.Frz e) {xs : List α} {x : AV} {G : Heap} {D : List Nat} {v : AV} {s : Nat} {pre post : List AV} (h : LRow L sz xs x G D) (hD : D.Nodup) (hs : s ∉ D) (hG : G s = some (pre ++ ([x] ++ post))) :
    ∃ G', Wk v G v G' ∧ G' s = some (pre ++ ([.p (.sl (xs.map e))] ++ post)) ∧ ∀ y, y ≠ s → y ∉ D → G' y = G y := by
  obtain ⟨q, cs, D', rfl, hq, hll, rfl⟩ := h
  rw [List.nodup_cons] at hD
  rw [List.mem_cons, not_or] at hs
  obtain ⟨G1, w1, k1, f1⟩ := LL.frz hl hf xs cs G D' v q [] [] hll hD.2 hD.1 (by simpa using hq)
  have hG1 : G1 s = some (pre ++ ([.sl q sz 0 xs.length] ++ post)) := by rw [f1 s hs.1 hs.2]; exact hG
  have k1' : G1 q = some ((xs.map e).flatten.map .p) := by simpa using k1
  have hr : FrzR q sz (xs.map e) (.sl q sz 0 xs.length) (.p (.sl (xs.map e))) := by
    have : FrzR q sz (xs.map e) (.sl q sz 0 (xs.map e).length) (.p (.sl (xs.map e))) := .here
    rwa [List.length_map] at this
  refine ⟨(G1.del q).set s (pre ++ ([.p (.sl (xs.map e))] ++ post)), .trans w1 (Wk.frzAt hpos k1' (sized_map he xs) hG1 hs.1 (FrzL.at hr post pre) (.same v) (by simp)), Heap.set_same _ _ _, fun y hy hyD => ?_⟩
  rw [List.mem_cons, not_or] at hyD
  rw [Heap.set_other hy, Heap.del_other hyD.1, f1 y hyD.1 hyD.2]
/-- A slice that owns its row, in a value. -/
theorem LRow.frzV {α : Type} {L : Lay α} {e : α → List PV} {sz : Nat} (hpos : 0 < sz) (he : ∀ a, (e a).length = sz) (hl : L.Local) (hf : L.Frz e) {xs : List α} {x : AV} {G : Heap} {D : List Nat} {v v' : AV} (h : LRow L sz xs x G D) (hD : D.Nodup)
    (hv : ∀ q, x = .sl q sz 0 xs.length → FrzR q sz (xs.map e) x (.p (.sl (xs.map e))) → FrzR q sz (xs.map e) v v') :
    ∃ G', Wk v G v' G' ∧ ∀ y, y ∉ D → G' y = G y := by
  obtain ⟨q, cs, D', rfl, hq, hll, rfl⟩ := h
  rw [List.nodup_cons] at hD
  obtain ⟨G1, w1, k1, f1⟩ := LL.frz hl hf xs cs G D' v q [] [] hll hD.2 hD.1 (by simpa using hq)
  have k1' : G1 q = some ((xs.map e).flatten.map .p) := by simpa using k1
  have hr : FrzR q sz (xs.map e) (.sl q sz 0 xs.length) (.p (.sl (xs.map e))) := by
    have : FrzR q sz (xs.map e) (.sl q sz 0 (xs.map e).length) (.p (.sl (xs.map e))) := .here
    rwa [List.length_map] at this
  refine ⟨G1.del q, .trans w1 (Wk.frz hpos k1' (sized_map he xs) (hv q rfl hr)), fun y hyD => ?_⟩
  rw [List.mem_cons, not_or] at hyD
  rw [Heap.del_other hyD.1, f1 y hyD.1 hyD.2]
/-! ### Forests moved on -/
/-- Cells that may be moved. -/
def Lay.Gd {α : Type} (L : Lay α) : Prop := ∀ a cs G D, L a cs G D → (∀ c ∈ cs, GdC c) ∧ ∀ y ∈ D, ∀ bs, G y = some bs → ∀ c ∈ bs, GdC c
def Lay.Sh {α : Type} (L : Lay α) : Prop := ∀ a cs G D n G0, (∀ q, n ≤ q → G0 q = none) → L a cs G D → L a (cs.map (shC n)) (Heap.or G0 (shH n G)) (D.map (· + n))
theorem LPl.gd {α : Type} {e : α → List PV} (h : ∀ a, ∀ x ∈ e a, Plain (.p x)) : Lay.Gd (LPl e) := by
  rintro a cs G D ⟨rfl, rfl⟩
  refine ⟨fun c hc => ?_, fun y hy => by cases hy⟩
  obtain ⟨x, hx, rfl⟩ := List.mem_map.1 hc
  exact .p (h a x hx)
theorem LPl.sh {α : Type} (e : α → List PV) : Lay.Sh (LPl e) := by
  rintro a cs G D n G0 _ ⟨rfl, rfl⟩
  exact ⟨by rw [List.map_map]; rfl, rfl⟩
theorem LL.gd {α : Type} {L : Lay α} (hL : L.Gd) : ∀ {az : List α} {cs : List AV} {G : Heap} {D : List Nat}, LL L az cs G D → (∀ c ∈ cs, GdC c) ∧ ∀ y ∈ D, ∀ bs, G y = some bs → ∀ c ∈ bs, GdC c
  | [], _, _, _, ⟨e1, e2⟩ => by subst e1; subst e2; exact ⟨(fun c hc => by cases hc), (fun y hy => by cases hy)⟩
  | a :: az, _, _, _, ⟨c1, c2, D1, D2, e1, e2, h1, h2⟩ => by
    subst e1; subst e2
    obtain ⟨a1, a2⟩ := hL _ _ _ _ h1
    obtain ⟨b1, b2⟩ := LL.gd hL h2
    refine ⟨fun c hc => ?_, fun y hy => ?_⟩
    · rcases List.mem_append.1 hc with hc | hc
      · exact a1 c hc
      · exact b1 c hc
    · rcases List.mem_append.1 hy with hy | hy
      · exact a2 y hy
      · exact b2 y hy
theorem LL.sh {α : Type} {L : Lay α} (hL : L.Sh) {n : Nat} {G0 : Heap} (h0 : ∀ q, n ≤ q → G0 q = none) : ∀ {az : List α} {cs : List AV} {G : Heap} {D : List Nat}, LL L az cs G D → LL L az (cs.map (shC n)) (Heap.or G0 (shH n G)) (D.map (· + n))
  | [], _, _, _, ⟨e1, e2⟩ => by subst e1; subst e2; exact ⟨rfl, rfl⟩
  | a :: az, _, _, _, ⟨c1, c2, D1, D2, e1, e2, h1, h2⟩ => by
    subst e1; subst e2
    exact ⟨_, _, _, _, List.map_append, List.map_append, hL _ _ _ _ n G0 h0 h1, LL.sh hL h0 h2⟩
theorem or_sh {G0 G : Heap} {n q : Nat} (h0 : ∀ q, n ≤ q → G0 q = none) : (Heap.or G0 (shH n G)) (q + n) = (G q).map (List.map (shC n)) := by
  simp only [Heap.or, shH, h0 (q + n) (by omega), show n ≤ q + n by omega, if_true, Nat.add_sub_cancel]
theorem LRow.gd {α : Type} {L : Lay α} {sz : Nat} (hL : L.Gd) {xs : List α} {x : AV} {G : Heap} {D : List Nat} (h : LRow L sz xs x G D) : GdC x ∧ ∀ y ∈ D, ∀ bs, G y = some bs → ∀ c ∈ bs, GdC c := by
  obtain ⟨q, cs, D', rfl, hq, hll, rfl⟩ := h
  obtain ⟨h1, h2⟩ := LL.gd hL hll
  refine ⟨.inl ⟨_, _, _, _, rfl⟩, fun y hy bs hb => ?_⟩
  rcases List.mem_cons.1 hy with rfl | hy
  · rw [hq] at hb; cases hb; exact h1
  · exact h2 y hy bs hb
theorem LRow.sh {α : Type} {L : Lay α} {sz : Nat} (hL : L.Sh) {n : Nat} {G0 : Heap} (h0 : ∀ q, n ≤ q → G0 q = none) {xs : List α} {x : AV} {G : Heap} {D : List Nat} (h : LRow L sz xs x G D) : LRow L sz xs (shC n x) (Heap.or G0 (shH n G)) (D.map (· + n)) := by
  obtain ⟨q, cs, D', rfl, hq, hll, rfl⟩ := h
  exact ⟨q + n, cs.map (shC n), D'.map (· + n), rfl, by rw [or_sh h0, hq]; rfl, LL.sh hL h0 hll, rfl⟩
/-- A heap's blocks of a list alone. -/
def only (D : List Nat) (G : Heap) : Heap := fun y => if y ∈ D then G y else none
theorem only_le (D : List Nat) (G : Heap) : Heap.le (only D G) G := fun y b hb => by
  unfold only at hb; split at hb
  · exact hb
  · cases hb
theorem only_in {D : List Nat} {G : Heap} {y : Nat} (h : y ∈ D) : only D G y = G y := if_pos h
theorem only_out {D : List Nat} {G : Heap} {y : Nat} (h : y ∉ D) : only D G y = none := if_neg h
end Go.Sep
/- Programs that own their rows: copies of one's own. -/
namespace Go.Proofs.Ytgcklgeifdefhaa
open Go Go.Sep Go.Pt
set_option linter.unusedSimpArgs false
set_option linter.unusedVariables false
attribute [local irreducible] CallT

abbrev LN : List Nd → AV → Heap → List Nat → Prop := LRow (LPl eN) 2
abbrev LI : List Int → AV → Heap → List Nat → Prop := LRow (LPl eI) 1
def LCh : Lay Ch := fun c cs G D => ∃ x, cs = [I c.var, x] ∧ LN c.by_ x G D
def LCm : Lay Cm := fun c cs G D => ∃ x y D1 D2, cs = [x, y] ∧ D = D1 ++ D2 ∧ LN c.when_ x G D1 ∧ LRow LCh 2 c.chs y G D2

theorem LCh.local : Lay.Local LCh := by
  rintro c cs G G' D ⟨x, e, h⟩ hf
  exact ⟨x, e, LRow.local (LPl.local eN) h hf⟩
theorem LCh.size : Lay.Size LCh 2 := by
  rintro c cs G D ⟨x, rfl, h⟩; rfl
theorem LCh.has : Lay.Has LCh := by
  rintro c cs G D ⟨x, e, h⟩
  exact LRow.has (LPl.has eN) h
theorem LCh.frz : Lay.Frz LCh eCh := by
  rintro c cs G D v s pre post ⟨x, rfl, h⟩ hD hs hG
  obtain ⟨G', w, k, f⟩ := LRow.frzIn (e := eN) (sz := 2) (pre := pre ++ [I c.var]) (post := post) (v := v) (by omega) (fun _ => rfl) (LPl.local eN) (LPl.frz eN) h hD hs (by rw [hG]; simp)
  exact ⟨G', w, by rw [k]; simp, f⟩
theorem LCm.local : Lay.Local LCm := by
  rintro c cs G G' D ⟨x, y, D1, D2, e, rfl, h1, h2⟩ hf
  exact ⟨x, y, D1, D2, e, rfl, LRow.local (LPl.local eN) h1 (fun z hz => hf z (List.mem_append_left _ hz)), LRow.local LCh.local h2 (fun z hz => hf z (List.mem_append_right _ hz))⟩
theorem LCm.size : Lay.Size LCm 2 := by
  rintro c cs G D ⟨x, y, D1, D2, rfl, e, h1, h2⟩; rfl
theorem LCm.has : Lay.Has LCm := by
  rintro c cs G D ⟨x, y, D1, D2, e, rfl, h1, h2⟩ z hz
  rcases List.mem_append.1 hz with hz | hz
  · exact LRow.has (LPl.has eN) h1 z hz
  · exact LRow.has LCh.has h2 z hz
theorem LCm.frz : Lay.Frz LCm eCm := by
  rintro c cs G D v s pre post ⟨x, y, D1, D2, rfl, rfl, h1, h2⟩ hD hs hG
  rw [List.nodup_append] at hD
  rw [List.mem_append, not_or] at hs
  obtain ⟨G1, w1, k1, f1⟩ := LRow.frzIn (e := eN) (sz := 2) (pre := pre) (post := y :: post) (v := v) (by omega) (fun _ => rfl) (LPl.local eN) (LPl.frz eN) h1 hD.1 hs.1 (by rw [hG]; simp)
  have h2' : LRow LCh 2 c.chs y G1 D2 := LRow.local LCh.local h2 fun z hz b hb => by rw [f1 z (fun e => hs.2 (e ▸ hz)) (fun hz1 => hD.2.2 z hz1 z hz rfl)]; exact hb
  obtain ⟨G2, w2, k2, f2⟩ := LRow.frzIn (e := eCh) (sz := 2) (pre := pre ++ [Ns c.when_]) (post := post) (v := v) (by omega) (fun _ => rfl) LCh.local LCh.frz h2' hD.2.1 hs.2 (by rw [k1]; simp)
  refine ⟨G2, .trans w1 w2, by rw [k2]; simp, fun z hz hzD => ?_⟩
  rw [List.mem_append, not_or] at hzD
  rw [f2 z hz hzD.2, f1 z hz hzD.1]

/-- Blocks of one's own beside a heap. -/
structure New (H G : Heap) (D : List Nat) : Prop where
  nd : D.Nodup
  fr : ∀ y ∈ D, H y = none
  le : Heap.le H G
theorem New.trans {H G G' : Heap} {D D' : List Nat} (n : New H G D) (m : New G G' D') (hh : ∀ y ∈ D, G y ≠ none) : New H G' (D ++ D') := by
  refine ⟨List.nodup_append.2 ⟨n.nd, m.nd, fun a ha b hb e => hh a ha (by rw [e]; exact m.fr b hb)⟩, fun y hy => ?_, Heap.le_trans n.le m.le⟩
  rcases List.mem_append.1 hy with hy | hy
  · exact n.fr y hy
  · cases hh : H y with
    | none => rfl
    | some b => rw [← m.fr y hy, n.le y b hh]
theorem New.base {H H' G : Heap} {D : List Nat} (n : New H' G D) (hle : Heap.le H H') : New H G D :=
  ⟨n.nd, fun y hy => by
    cases hh : H y with
    | none => rfl
    | some b => rw [← n.fr y hy, hle y b hh], Heap.le_trans hle n.le⟩
theorem New.put {H G : Heap} {D : List Nat} (n : New H G D) {q : Nat} (hq : H q = none) (b : List AV) : New H (G.set q b) D := ⟨n.nd, n.fr, Heap.le_setN n.le hq⟩

theorem toNodeS_live (xs : List Nd) (hl : xs.length ≤ 1048576) {H : Heap} {K : AV → Heap → Prop} (h : ∀ x G D, LN xs x G D → New H G D → K x G) : CallT Try.prog 24 [Ns xs] H K := by
  refine W24_ok ?_; simp (maxSteps := 1000000) (disch := first | assumption | (apply Ne.symm; assumption)) only [W24, vz, vu, vv, eqS, eqFieldsV, ↓condV_t, ↓condV_f, tabs, reduceCtorEq, Array.toList, ↓reduceIte, Nat.reduceAdd, Nat.reduceLeDiff, Nat.reduceLT, Nat.reduceMul, Nat.reduceSub, Int.reduceToNat, Int.reduceSub, Int.reduceAdd, Int.reduceNeg, makeSliceV]
  refine ⟨by omega, by omega, by omega, by omega, fun q hq => ?_⟩
  have z0 : rowZ eN [I 0, U 0] xs 0 = zerosA xs.length [I 0, U 0] := rowZ_zero
  rw [← z0]
  refine L24_0_rule (0 : Nat) (fun i => I i) (fun i => H.set q (rowZ eN [I 0, U 0] xs i)) (fun i => i ≤ xs.length) (fun i => xs.length - i) ⟨by omega, .refl _, Heap.le_refl _⟩ ?_
  intro i hi
  have hrl := rowZ_len (e := eN) (zero := [I 0, U 0]) (xs := xs) (i := i) (sz := 2) (fun _ => rfl) rfl hi
  (try simp (maxSteps := 1000000) (disch := first | assumption | (apply Ne.symm; assumption)) only [vz, vu, vv, eqS, eqFieldsV, ↓condV_t, ↓condV_f, tabs, reduceCtorEq, Array.toList, ↓reduceIte, Nat.reduceAdd, Nat.reduceLeDiff, Nat.reduceLT, Nat.reduceMul, Nat.reduceSub, Int.reduceToNat, Int.reduceSub, Int.reduceAdd, Int.reduceNeg, B24_0])
  refine ⟨fun h => ⟨by omega, h, ?_⟩, fun h5 => ?_⟩
  · have hlt : i < xs.length := by omega
    have hput := rowZ_put (e := eN) (zero := [I 0, U 0]) (xs := xs) (i := i) (sz := 2) (fun _ => rfl) rfl hlt rfl rfl
    refine Pu.use (toNode_spec (xs.getD i default)) ?_
    (try simp (maxSteps := 1000000) (disch := first | assumption | (apply Ne.symm; assumption)) only [vz, vu, vv, eqS, eqFieldsV, ↓condV_t, ↓condV_f, tabs, reduceCtorEq, Array.toList, ↓reduceIte, Nat.reduceAdd, Nat.reduceLeDiff, Nat.reduceLT, Nat.reduceMul, Nat.reduceSub, Int.reduceToNat, Int.reduceSub, Int.reduceAdd, Int.reduceNeg])
    refine ⟨by omega, h, by omega, i + 1, by omega, by omega, ?_, ?_⟩
    · rw [wk_int, i64_id (by omega) (by omega)]; simp
    · rw [← hput]; exact Heap.le_refl _
  · have : i = xs.length := by omega
    subst this
    refine h _ _ [q] ⟨q, _, [], rfl, Heap.set_same _ _ _, ?_, rfl⟩ ⟨by simp, by simpa using hq, Heap.le_set hq⟩
    rw [rowZ_end]; exact LL.plain xs

theorem LRow.sl {α : Type} {L : Lay α} {sz : Nat} {xs : List α} {x : AV} {G : Heap} {D : List Nat} (h : LRow L sz xs x G D) : ∃ q, x = .sl q sz 0 xs.length := by
  obtain ⟨q, cs, D', e1, e2, e3, e4⟩ := h; exact ⟨q, e1⟩
theorem ne_mem {D : List Nat} {y z : Nat} (hy : y ∈ D) (hz : z ∉ D) : y ≠ z := fun e => hz (e ▸ hy)
theorem ne_of_new {H G : Heap} {D : List Nat} (n : New H G D) {y : Nat} {b : List AV} (h : H y = some b) : y ∉ D := fun hy => by rw [n.fr y hy] at h; cases h

theorem toChange_live (c : Ch) (hc : smCh c) {H : Heap} {K : AV → Heap → Prop} (h : ∀ cs G D, LCh c cs G D → New H G D → K (.agg cs) G) : CallT Try.prog 80 [aCh c] H K := by
  refine W80_ok ?_; simp (maxSteps := 1000000) (disch := first | assumption | (apply Ne.symm; assumption)) only [W80, vz, vu, vv, eqS, eqFieldsV, ↓condV_t, ↓condV_f, tabs, reduceCtorEq, Array.toList, ↓reduceIte, Nat.reduceAdd, Nat.reduceLeDiff, Nat.reduceLT, Nat.reduceMul, Nat.reduceSub, Int.reduceToNat, Int.reduceSub, Int.reduceAdd, Int.reduceNeg]
  intro r hr r2 n1 h2 r3 n2 n3 h3
  have nn1 : r ≠ r2 := Ne.symm n1
  (try simp (maxSteps := 1000000) (disch := first | assumption | (apply Ne.symm; assumption)) only [vz, vu, vv, eqS, eqFieldsV, ↓condV_t, ↓condV_f, tabs, reduceCtorEq, Array.toList, ↓reduceIte, Nat.reduceAdd, Nat.reduceLeDiff, Nat.reduceLT, Nat.reduceMul, Nat.reduceSub, Int.reduceToNat, Int.reduceSub, Int.reduceAdd, Int.reduceNeg])
  refine toNodeS_live c.by_ hc fun x G D hx hn => ?_
  obtain ⟨q, rfl⟩ := LRow.sl hx
  have g3 := hn.le r3 _ (Heap.set_same _ _ _)
  have g2 := hn.le r2 [I 0, .p .nil] (by rw [Heap.set_other (Ne.symm n2), Heap.set_same])
  have m3 := ne_of_new hn (Heap.set_same _ _ _)
  have m2 := ne_of_new hn (y := r2) (b := [I 0, .p .nil]) (by rw [Heap.set_other (Ne.symm n2), Heap.set_same])
  have n2' : r2 ≠ r3 := Ne.symm n2
  (try simp (maxSteps := 1000000) (disch := first | assumption | (apply Ne.symm; assumption)) only [vz, vu, vv, eqS, eqFieldsV, ↓condV_t, ↓condV_f, tabs, reduceCtorEq, Array.toList, ↓reduceIte, Nat.reduceAdd, Nat.reduceLeDiff, Nat.reduceLT, Nat.reduceMul, Nat.reduceSub, Int.reduceToNat, Int.reduceSub, Int.reduceAdd, Int.reduceNeg, store_at g3])
  (try simp (maxSteps := 1000000) (disch := first | assumption | (apply Ne.symm; assumption)) only [vz, vu, vv, eqS, eqFieldsV, ↓condV_t, ↓condV_f, tabs, reduceCtorEq, Array.toList, ↓reduceIte, Nat.reduceAdd, Nat.reduceLeDiff, Nat.reduceLT, Nat.reduceMul, Nat.reduceSub, Int.reduceToNat, Int.reduceSub, Int.reduceAdd, Int.reduceNeg, store_at g2])
  refine h _ _ D ⟨_, rfl, LRow.local (LPl.local eN) hx fun y hy b hb => ?_⟩ ((((hn.base ?_).put h2 _).put h3 _))
  · rw [Heap.set_other (ne_mem hy m3), Heap.set_other (ne_mem hy m2)]; exact hb
  · exact Heap.le_setN (Heap.le_setN (Heap.le_set hr) h2) h3

theorem toChangeS_live (xs : List Ch) (hl : xs.length ≤ 1048576) (hs : ∀ x ∈ xs, smCh x) {H : Heap} {K : AV → Heap → Prop} (h : ∀ x G D, LRow LCh 2 xs x G D → New H G D → K x G) : CallT Try.prog 60 [Chs xs] H K := by
  refine W60_ok ?_; simp (maxSteps := 1000000) (disch := first | assumption | (apply Ne.symm; assumption)) only [W60, vz, vu, vv, eqS, eqFieldsV, ↓condV_t, ↓condV_f, tabs, reduceCtorEq, Array.toList, ↓reduceIte, Nat.reduceAdd, Nat.reduceLeDiff, Nat.reduceLT, Nat.reduceMul, Nat.reduceSub, Int.reduceToNat, Int.reduceSub, Int.reduceAdd, Int.reduceNeg, makeSliceV]
  refine ⟨by omega, by omega, by omega, by omega, fun q hq => ?_⟩
  refine L60_0_rule ((0 : Nat), H.set q (zerosA xs.length [I 0, .p .nil]), ([] : List Nat)) (fun s => I s.1) (fun s => s.2.1)
    (fun s => s.1 ≤ xs.length ∧ New H s.2.1 (q :: s.2.2) ∧ ∃ done, s.2.1 q = some (done ++ zerosA (xs.length - s.1) [I 0, .p .nil]) ∧ LL LCh (xs.take s.1) done s.2.1 s.2.2) (fun s => xs.length - s.1)
    ⟨⟨by simp, ⟨by simp, by simpa using hq, Heap.le_set hq⟩, [], by simp [Heap.set_same], ⟨rfl, rfl⟩⟩, .refl _, Heap.le_refl _⟩ ?_
  rintro ⟨i, G, D⟩ ⟨hi, hn, done, hG, hll⟩
  dsimp only at hi hn hG hll
  (try simp (maxSteps := 1000000) (disch := first | assumption | (apply Ne.symm; assumption)) only [vz, vu, vv, eqS, eqFieldsV, ↓condV_t, ↓condV_f, tabs, reduceCtorEq, Array.toList, ↓reduceIte, Nat.reduceAdd, Nat.reduceLeDiff, Nat.reduceLT, Nat.reduceMul, Nat.reduceSub, Int.reduceToNat, Int.reduceSub, Int.reduceAdd, Int.reduceNeg, B60_0])
  refine ⟨fun h => ⟨by omega, h, ?_⟩, fun h5 => ?_⟩
  · have hlt : i < xs.length := by omega
    have hm : xs.getD i default ∈ xs := getD_all (p := fun x => x ∈ xs) (fun _ h => h) hlt
    have hdl : done.length = i * 2 := by rw [LL.size LCh.size hll, List.length_take, Nat.min_eq_left hi]
    refine toChange_live (xs.getD i default) (hs _ hm) fun cs G1 D1 hc hn1 => ?_
    have hG1 := hn1.le q _ hG
    have hcl : cs.length = 2 := LCh.size _ _ _ _ hc
    have hqD1 : q ∉ D1 := ne_of_new hn1 hG
    have hcell : cs.all AV.isCell = true := by
      obtain ⟨x, rfl, hx⟩ := hc
      obtain ⟨qx, rfl⟩ := LRow.sl hx
      rfl
    have hz : zerosA (xs.length - i) [I 0, .p .nil] = [I 0, .p .nil] ++ zerosA (xs.length - (i + 1)) [I 0, .p .nil] := by
      obtain ⟨m, hm⟩ : ∃ m, xs.length - i = m + 1 := ⟨xs.length - i - 1, by omega⟩
      rw [hm, zerosA_succ, show xs.length - (i + 1) = m by omega]
    have hput := splice_at (pre := done) (c := [I 0, .p .nil]) (c' := cs) (post := zerosA (xs.length - (i + 1)) [I 0, .p .nil]) (off := i * 2) (n := 2) hdl.symm hcl.symm (by rw [hcl]; rfl)
    rw [hz] at hG1
    have hzl : (zerosA (xs.length - (i + 1)) [I 0, .p .nil]).length = (xs.length - (i + 1)) * 2 := zerosA_len _ _
    (try simp (maxSteps := 1000000) (disch := first | assumption | (apply Ne.symm; assumption)) only [vz, vu, vv, eqS, eqFieldsV, ↓condV_t, ↓condV_f, tabs, reduceCtorEq, Array.toList, ↓reduceIte, Nat.reduceAdd, Nat.reduceLeDiff, Nat.reduceLT, Nat.reduceMul, Nat.reduceSub, Int.reduceToNat, Int.reduceSub, Int.reduceAdd, Int.reduceNeg, store_at hG1, hcl, hcell])
    refine ⟨by omega, h, by simp only [List.length_append, hdl, hzl, List.length_cons, List.length_nil]; omega, (i + 1, G1.set q (done ++ (cs ++ zerosA (xs.length - (i + 1)) [I 0, .p .nil])), D ++ D1), ⟨by simp only; omega, ?_, done ++ cs, ?_, ?_⟩, by simp only; omega, ?_, ?_⟩
    · have ht := hn.trans hn1 (fun y hy => by
        rcases List.mem_cons.1 hy with rfl | hy
        · rw [hG]; simp
        · exact LL.has LCh.has hll y hy)
      exact ht.put hq _
    · show (G1.set q _) q = _
      rw [Heap.set_same, List.append_assoc]
    · show LL LCh (xs.take (i + 1)) (done ++ cs) (G1.set q (done ++ (cs ++ zerosA (xs.length - (i + 1)) [I 0, .p .nil]))) (D ++ D1)
      rw [take_succ_snoc hlt]
      refine LL.snoc (LCh.local _ _ _ _ _ hc fun y hy b hb => by rw [Heap.set_other (ne_mem hy hqD1)]; exact hb) (LL.local LCh.local hll fun y hy b hb => ?_)
      rw [Heap.set_other (fun e => ?_)]
      · exact hn1.le y b hb
      · have := hn.nd; rw [List.nodup_cons] at this; exact this.1 (e ▸ hy)
    · rw [wk_int, i64_id (by omega) (by omega)]; simp
    · have e : List.take (i * 2) (done ++ ([I 0, .p .nil] ++ zerosA (xs.length - (i + 1)) [I 0, .p .nil])) ++ cs ++ List.drop (i * 2 + 2) (done ++ ([I 0, .p .nil] ++ zerosA (xs.length - (i + 1)) [I 0, .p .nil])) = done ++ (cs ++ zerosA (xs.length - (i + 1)) [I 0, .p .nil]) := hput
      simp only
      rw [← e]
      first | exact Heap.le_refl _ | simp only [List.cons_append, List.nil_append, le_refl_true]
  · have : i = xs.length := by omega
    subst this
    rw [List.take_length] at hll
    refine h _ _ (q :: D) ⟨q, done, D, rfl, ?_, hll, rfl⟩ hn
    rw [hG]; simp [zerosA]

theorem toCommand_live (c : Cm) (hc : smCm c) {H : Heap} {K : AV → Heap → Prop}
    (hC : ∀ (xs : List Ch), xs.length ≤ 1048576 → (∀ x ∈ xs, smCh x) → ∀ {H : Heap} {K : AV → Heap → Prop}, (∀ x G D, LRow LCh 2 xs x G D → New H G D → K x G) → CallT Try.prog 60 [Chs xs] H K)
    (h : ∀ cs G D, LCm c cs G D → New H G D → K (.agg cs) G) : CallT Try.prog 42 [aCm c] H K := by
  refine W42_ok ?_; simp (maxSteps := 1000000) (disch := first | assumption | (apply Ne.symm; assumption)) only [W42, vz, vu, vv, eqS, eqFieldsV, ↓condV_t, ↓condV_f, tabs, reduceCtorEq, Array.toList, ↓reduceIte, Nat.reduceAdd, Nat.reduceLeDiff, Nat.reduceLT, Nat.reduceMul, Nat.reduceSub, Int.reduceToNat, Int.reduceSub, Int.reduceAdd, Int.reduceNeg]
  intro r hr r2 n1 h2 r3 n2 n3 h3
  have nn1 : r ≠ r2 := Ne.symm n1
  have n2' : r2 ≠ r3 := Ne.symm n2
  have n3' : r ≠ r3 := Ne.symm n3
  (try simp (maxSteps := 1000000) (disch := first | assumption | (apply Ne.symm; assumption)) only [vz, vu, vv, eqS, eqFieldsV, ↓condV_t, ↓condV_f, tabs, reduceCtorEq, Array.toList, ↓reduceIte, Nat.reduceAdd, Nat.reduceLeDiff, Nat.reduceLT, Nat.reduceMul, Nat.reduceSub, Int.reduceToNat, Int.reduceSub, Int.reduceAdd, Int.reduceNeg])
  refine toNodeS_live c.when_ hc.1 fun x G D hx hn => ?_
  obtain ⟨q, rfl⟩ := LRow.sl hx
  have g3 := hn.le r3 _ (Heap.set_same _ _ _)
  have g2 := hn.le r2 [.p .nil, .p .nil] (by rw [Heap.set_other n2', Heap.set_same])
  have g1 := hn.le r [Ns c.when_, Chs c.chs] (by rw [Heap.set_other n3', Heap.set_other nn1, Heap.set_same])
  have m3 := ne_of_new hn (Heap.set_same _ _ _)
  have m2 := ne_of_new hn (y := r2) (b := [.p .nil, .p .nil]) (by rw [Heap.set_other n2', Heap.set_same])
  (try simp (maxSteps := 1000000) (disch := first | assumption | (apply Ne.symm; assumption)) only [vz, vu, vv, eqS, eqFieldsV, ↓condV_t, ↓condV_f, tabs, reduceCtorEq, Array.toList, ↓reduceIte, Nat.reduceAdd, Nat.reduceLeDiff, Nat.reduceLT, Nat.reduceMul, Nat.reduceSub, Int.reduceToNat, Int.reduceSub, Int.reduceAdd, Int.reduceNeg, store_at g3, load_at g1])
  refine hC c.chs hc.2.1 hc.2.2 fun y G2 D2 hy hn2 => ?_
  obtain ⟨q2, rfl⟩ := LRow.sl hy
  have k3 := hn2.le r3 _ (Heap.set_same _ _ _)
  have k2 := hn2.le r2 [.p .nil, .p .nil] (by rw [Heap.set_other n2']; exact g2)
  have l3 := ne_of_new hn2 (Heap.set_same _ _ _)
  have l2 := ne_of_new hn2 (y := r2) (b := [.p .nil, .p .nil]) (by rw [Heap.set_other n2']; exact g2)
  (try simp (maxSteps := 1000000) (disch := first | assumption | (apply Ne.symm; assumption)) only [vz, vu, vv, eqS, eqFieldsV, ↓condV_t, ↓condV_f, tabs, reduceCtorEq, Array.toList, ↓reduceIte, Nat.reduceAdd, Nat.reduceLeDiff, Nat.reduceLT, Nat.reduceMul, Nat.reduceSub, Int.reduceToNat, Int.reduceSub, Int.reduceAdd, Int.reduceNeg, store_at k3])
  (try simp (maxSteps := 1000000) (disch := first | assumption | (apply Ne.symm; assumption)) only [vz, vu, vv, eqS, eqFieldsV, ↓condV_t, ↓condV_f, tabs, reduceCtorEq, Array.toList, ↓reduceIte, Nat.reduceAdd, Nat.reduceLeDiff, Nat.reduceLT, Nat.reduceMul, Nat.reduceSub, Int.reduceToNat, Int.reduceSub, Int.reduceAdd, Int.reduceNeg, store_at k2])
  have hx3 : LN c.when_ (.sl q 2 0 c.when_.length) (G.set r3 [.sl q 2 0 c.when_.length, .p .nil]) D := LRow.local (LPl.local eN) hx fun z hz b hb => by rw [Heap.set_other (ne_mem hz m3)]; exact hb
  have hn' := ((hn.base (Heap.le_setN (Heap.le_setN (Heap.le_set hr) h2) h3)).put h3 [.sl q 2 0 c.when_.length, .p .nil]).trans hn2 (LRow.has (LPl.has eN) hx3)
  refine h _ _ (D ++ D2) ⟨_, _, D, D2, rfl, rfl, LRow.local (LPl.local eN) hx3 fun z hz b hb => ?_, LRow.local LCh.local hy fun z hz b hb => ?_⟩ ((hn'.put h2 _).put h3 _)
  · rw [Heap.set_other (ne_mem hz m3), Heap.set_other (ne_mem hz m2)]; exact hn2.le z b hb
  · rw [Heap.set_other (ne_mem hz l3), Heap.set_other (ne_mem hz l2)]; exact hb

theorem toCommandS_live (xs : List Cm) (hl : xs.length ≤ 1048576) (hs : ∀ x ∈ xs, smCm x) {H : Heap} {K : AV → Heap → Prop} (h : ∀ x G D, LRow LCm 2 xs x G D → New H G D → K x G) : CallT Try.prog 25 [Cms xs] H K := by
  refine W25_ok ?_; simp (maxSteps := 1000000) (disch := first | assumption | (apply Ne.symm; assumption)) only [W25, vz, vu, vv, eqS, eqFieldsV, ↓condV_t, ↓condV_f, tabs, reduceCtorEq, Array.toList, ↓reduceIte, Nat.reduceAdd, Nat.reduceLeDiff, Nat.reduceLT, Nat.reduceMul, Nat.reduceSub, Int.reduceToNat, Int.reduceSub, Int.reduceAdd, Int.reduceNeg, makeSliceV]
  refine ⟨by omega, by omega, by omega, by omega, fun q hq => ?_⟩
  refine L25_0_rule ((0 : Nat), H.set q (zerosA xs.length [.p .nil, .p .nil]), ([] : List Nat)) (fun s => I s.1) (fun s => s.2.1)
    (fun s => s.1 ≤ xs.length ∧ New H s.2.1 (q :: s.2.2) ∧ ∃ done, s.2.1 q = some (done ++ zerosA (xs.length - s.1) [.p .nil, .p .nil]) ∧ LL LCm (xs.take s.1) done s.2.1 s.2.2) (fun s => xs.length - s.1)
    ⟨⟨by simp, ⟨by simp, by simpa using hq, Heap.le_set hq⟩, [], by simp [Heap.set_same], ⟨rfl, rfl⟩⟩, .refl _, Heap.le_refl _⟩ ?_
  rintro ⟨i, G, D⟩ ⟨hi, hn, done, hG, hll⟩
  dsimp only at hi hn hG hll
  (try simp (maxSteps := 1000000) (disch := first | assumption | (apply Ne.symm; assumption)) only [vz, vu, vv, eqS, eqFieldsV, ↓condV_t, ↓condV_f, tabs, reduceCtorEq, Array.toList, ↓reduceIte, Nat.reduceAdd, Nat.reduceLeDiff, Nat.reduceLT, Nat.reduceMul, Nat.reduceSub, Int.reduceToNat, Int.reduceSub, Int.reduceAdd, Int.reduceNeg, B25_0])
  refine ⟨fun h => ⟨by omega, h, ?_⟩, fun h5 => ?_⟩
  · have hlt : i < xs.length := by omega
    have hm : xs.getD i default ∈ xs := getD_all (p := fun x => x ∈ xs) (fun _ h => h) hlt
    have hdl : done.length = i * 2 := by rw [LL.size LCm.size hll, List.length_take, Nat.min_eq_left hi]
    refine toCommand_live (xs.getD i default) (hs _ hm) (fun ys h1 h2 {H K} h3 => toChangeS_live ys h1 h2 h3) fun cs G1 D1 hc hn1 => ?_
    have hG1 := hn1.le q _ hG
    have hcl : cs.length = 2 := LCm.size _ _ _ _ hc
    have hqD1 : q ∉ D1 := ne_of_new hn1 hG
    have hcell : cs.all AV.isCell = true := by
      obtain ⟨x, y, E1, E2, rfl, rfl, hx, hy⟩ := hc
      obtain ⟨qx, rfl⟩ := LRow.sl hx
      obtain ⟨qy, rfl⟩ := LRow.sl hy
      rfl
    have hz : zerosA (xs.length - i) [.p .nil, .p .nil] = [.p .nil, .p .nil] ++ zerosA (xs.length - (i + 1)) [.p .nil, .p .nil] := by
      obtain ⟨m, hm⟩ : ∃ m, xs.length - i = m + 1 := ⟨xs.length - i - 1, by omega⟩
      rw [hm, zerosA_succ, show xs.length - (i + 1) = m by omega]
    have hput := splice_at (pre := done) (c := [.p .nil, .p .nil]) (c' := cs) (post := zerosA (xs.length - (i + 1)) [.p .nil, .p .nil]) (off := i * 2) (n := 2) hdl.symm hcl.symm (by rw [hcl]; rfl)
    rw [hz] at hG1
    have hzl : (zerosA (xs.length - (i + 1)) [.p .nil, .p .nil]).length = (xs.length - (i + 1)) * 2 := zerosA_len _ _
    (try simp (maxSteps := 1000000) (disch := first | assumption | (apply Ne.symm; assumption)) only [vz, vu, vv, eqS, eqFieldsV, ↓condV_t, ↓condV_f, tabs, reduceCtorEq, Array.toList, ↓reduceIte, Nat.reduceAdd, Nat.reduceLeDiff, Nat.reduceLT, Nat.reduceMul, Nat.reduceSub, Int.reduceToNat, Int.reduceSub, Int.reduceAdd, Int.reduceNeg, store_at hG1, hcl, hcell])
    refine ⟨by omega, h, by simp only [List.length_append, hdl, hzl, List.length_cons, List.length_nil]; omega, (i + 1, G1.set q (done ++ (cs ++ zerosA (xs.length - (i + 1)) [.p .nil, .p .nil])), D ++ D1), ⟨by simp only; omega, ?_, done ++ cs, ?_, ?_⟩, by simp only; omega, ?_, ?_⟩
    · have ht := hn.trans hn1 (fun y hy => by
        rcases List.mem_cons.1 hy with rfl | hy
        · rw [hG]; simp
        · exact LL.has LCm.has hll y hy)
      exact ht.put hq _
    · show (G1.set q _) q = _
      rw [Heap.set_same, List.append_assoc]
    · show LL LCm (xs.take (i + 1)) (done ++ cs) (G1.set q (done ++ (cs ++ zerosA (xs.length - (i + 1)) [.p .nil, .p .nil]))) (D ++ D1)
      rw [take_succ_snoc hlt]
      refine LL.snoc (LCm.local _ _ _ _ _ hc fun y hy b hb => by rw [Heap.set_other (ne_mem hy hqD1)]; exact hb) (LL.local LCm.local hll fun y hy b hb => ?_)
      rw [Heap.set_other (fun e => ?_)]
      · exact hn1.le y b hb
      · have := hn.nd; rw [List.nodup_cons] at this; exact this.1 (e ▸ hy)
    · rw [wk_int, i64_id (by omega) (by omega)]; simp
    · have e : List.take (i * 2) (done ++ ([.p .nil, .p .nil] ++ zerosA (xs.length - (i + 1)) [.p .nil, .p .nil])) ++ cs ++ List.drop (i * 2 + 2) (done ++ ([.p .nil, .p .nil] ++ zerosA (xs.length - (i + 1)) [.p .nil, .p .nil])) = done ++ (cs ++ zerosA (xs.length - (i + 1)) [.p .nil, .p .nil]) := hput
      simp only
      rw [← e]
      first | exact Heap.le_refl _ | simp only [List.cons_append, List.nil_append, le_refl_true]
  · have : i = xs.length := by omega
    subst this
    rw [List.take_length] at hll
    refine h _ _ (q :: D) ⟨q, done, D, rfl, ?_, hll, rfl⟩ hn
    rw [hG]; simp [zerosA]
end Go.Proofs.Ytgcklgeifdefhaa
/- Programs that own their rows: copies told by value, and marks. -/
namespace Go.Proofs.Ytgcklgeifdefhaa
open Go Go.Sep Go.Pt
set_option linter.unusedSimpArgs false
set_option linter.unusedVariables false
attribute [local irreducible] CallT

def LPg (p : Pg) (v : AV) (G : Heap) (D : List Nat) : Prop := ∃ x y D1 D2, v = .agg [I p.wide, I p.vars, x, y] ∧ D = D1 ++ D2 ∧ LN p.start x G D1 ∧ LRow LCm 2 p.cmds y G D2
theorem LPg.local {p : Pg} {v : AV} {G G' : Heap} {D : List Nat} (h : LPg p v G D) (hf : ∀ y ∈ D, ∀ b, G y = some b → G' y = some b) : LPg p v G' D := by
  obtain ⟨x, y, D1, D2, e, rfl, h1, h2⟩ := h
  exact ⟨x, y, D1, D2, e, rfl, LRow.local (LPl.local eN) h1 (fun z hz => hf z (List.mem_append_left _ hz)), LRow.local LCm.local h2 (fun z hz => hf z (List.mem_append_right _ hz))⟩
theorem LPg.has {p : Pg} {v : AV} {G : Heap} {D : List Nat} (h : LPg p v G D) : ∀ y ∈ D, G y ≠ none := by
  obtain ⟨x, y, D1, D2, e, rfl, h1, h2⟩ := h
  intro z hz
  rcases List.mem_append.1 hz with hz | hz
  · exact LRow.has (LPl.has eN) h1 z hz
  · exact LRow.has LCm.has h2 z hz
theorem LPg.wk {p : Pg} {v : AV} {G : Heap} {D : List Nat} (h : LPg p v G D) (hD : D.Nodup) (C : AV → AV) (hC : ∀ {q sz es a a'}, FrzR q sz es a a' → FrzR q sz es (C a) (C a')) : ∃ G', Wk (C v) G (C (aPg p)) G' ∧ ∀ y, y ∉ D → G' y = G y := by
  obtain ⟨x, y, D1, D2, rfl, rfl, h1, h2⟩ := h
  rw [List.nodup_append] at hD
  obtain ⟨G1, w1, f1⟩ := LRow.frzV (e := eN) (sz := 2) (v := C (.agg [I p.wide, I p.vars, x, y])) (v' := C (.agg [I p.wide, I p.vars, Ns p.start, y])) (by omega) (fun _ => rfl) (LPl.local eN) (LPl.frz eN) h1 hD.1
    (fun q _ hr => hC (.agg (.cons (.same _) (.cons (.same _) (.cons hr (.cons (.same _) .nil))))))
  have h2' := LRow.local LCm.local h2 (G' := G1) fun z hz b hb => by rw [f1 z (fun hz1 => hD.2.2 z hz1 z hz rfl)]; exact hb
  obtain ⟨G2, w2, f2⟩ := LRow.frzV (e := eCm) (sz := 2) (v := C (.agg [I p.wide, I p.vars, Ns p.start, y])) (v' := C (aPg p)) (by omega) (fun _ => rfl) LCm.local LCm.frz h2' hD.2.1
    (fun q _ hr => hC (.agg (.cons (.same _) (.cons (.same _) (.cons (.same _) (.cons hr .nil))))))
  refine ⟨G2, .trans w1 w2, fun z hz => ?_⟩
  rw [List.mem_append, not_or] at hz
  rw [f2 z hz.2, f1 z hz.1]

def LSt (of : List Int) (v : AV) (G : Heap) (D : List Nat) : Prop := ∃ x, v = .agg [x] ∧ LI of x G D
theorem LSt.local {of : List Int} {v : AV} {G G' : Heap} {D : List Nat} (h : LSt of v G D) (hf : ∀ y ∈ D, ∀ b, G y = some b → G' y = some b) : LSt of v G' D := by
  obtain ⟨x, e, h⟩ := h; exact ⟨x, e, LRow.local (LPl.local eI) h hf⟩
theorem LSt.has {of : List Int} {v : AV} {G : Heap} {D : List Nat} (h : LSt of v G D) : ∀ y ∈ D, G y ≠ none := by
  obtain ⟨x, e, h⟩ := h; exact LRow.has (LPl.has eI) h
theorem LSt.wk {of : List Int} {v : AV} {G : Heap} {D : List Nat} (h : LSt of v G D) (hD : D.Nodup) (C : AV → AV) (hC : ∀ {q sz es a a'}, FrzR q sz es a a' → FrzR q sz es (C a) (C a')) : ∃ G', Wk (C v) G (C (aS of)) G' ∧ ∀ y, y ∉ D → G' y = G y := by
  obtain ⟨x, rfl, h⟩ := h
  exact LRow.frzV (e := eI) (sz := 1) (v := C (.agg [x])) (v' := C (aS of)) (by omega) (fun _ => rfl) (LPl.local eI) (LPl.frz eI) h hD (fun q _ hr => hC (.agg (.cons hr .nil)))

theorem toProgram_live (p : Pg) (hp : smPg p) {H : Heap} {K : AV → Heap → Prop} (h : ∀ v G D, LPg p v G D → New H G D → K v G) : CallT Try.prog 7 [aPg p] H K := by
  refine W7_ok ?_; simp (maxSteps := 1000000) (disch := first | assumption | (apply Ne.symm; assumption)) only [W7, vz, vu, vv, eqS, eqFieldsV, ↓condV_t, ↓condV_f, tabs, reduceCtorEq, Array.toList, ↓reduceIte, Nat.reduceAdd, Nat.reduceLeDiff, Nat.reduceLT, Nat.reduceMul, Nat.reduceSub, Int.reduceToNat, Int.reduceSub, Int.reduceAdd, Int.reduceNeg]
  intro r hr r2 n1 h2 r3 n2 n3 h3
  have nn1 : r ≠ r2 := Ne.symm n1
  have n2' : r2 ≠ r3 := Ne.symm n2
  have n3' : r ≠ r3 := Ne.symm n3
  (try simp (maxSteps := 1000000) (disch := first | assumption | (apply Ne.symm; assumption)) only [vz, vu, vv, eqS, eqFieldsV, ↓condV_t, ↓condV_f, tabs, reduceCtorEq, Array.toList, ↓reduceIte, Nat.reduceAdd, Nat.reduceLeDiff, Nat.reduceLT, Nat.reduceMul, Nat.reduceSub, Int.reduceToNat, Int.reduceSub, Int.reduceAdd, Int.reduceNeg])
  refine toNodeS_live p.start hp.1 fun x G D hx hn => ?_
  obtain ⟨q, rfl⟩ := LRow.sl hx
  have g3 := hn.le r3 _ (Heap.set_same _ _ _)
  have g2 := hn.le r2 [I 0, I 0, .p .nil, .p .nil] (by rw [Heap.set_other n2', Heap.set_same])
  have g1 := hn.le r [I p.wide, I p.vars, Ns p.start, Cms p.cmds] (by rw [Heap.set_other n3', Heap.set_other nn1, Heap.set_same])
  have m3 := ne_of_new hn (Heap.set_same _ _ _)
  (try simp (maxSteps := 1000000) (disch := first | assumption | (apply Ne.symm; assumption)) only [vz, vu, vv, eqS, eqFieldsV, ↓condV_t, ↓condV_f, tabs, reduceCtorEq, Array.toList, ↓reduceIte, Nat.reduceAdd, Nat.reduceLeDiff, Nat.reduceLT, Nat.reduceMul, Nat.reduceSub, Int.reduceToNat, Int.reduceSub, Int.reduceAdd, Int.reduceNeg, store_at g3, load_at g1])
  refine toCommandS_live p.cmds hp.2.1 hp.2.2 fun y G2 D2 hy hn2 => ?_
  obtain ⟨q2, rfl⟩ := LRow.sl hy
  have k3 := hn2.le r3 _ (Heap.set_same _ _ _)
  have k2 := hn2.le r2 [I 0, I 0, .p .nil, .p .nil] (by rw [Heap.set_other n2']; exact g2)
  have l3 := ne_of_new hn2 (Heap.set_same _ _ _)
  have l2 := ne_of_new hn2 (y := r2) (b := [I 0, I 0, .p .nil, .p .nil]) (by rw [Heap.set_other n2']; exact g2)
  have m2 := ne_of_new hn (y := r2) (b := [I 0, I 0, .p .nil, .p .nil]) (by rw [Heap.set_other n2', Heap.set_same])
  (try simp (maxSteps := 1000000) (disch := first | assumption | (apply Ne.symm; assumption)) only [vz, vu, vv, eqS, eqFieldsV, ↓condV_t, ↓condV_f, tabs, reduceCtorEq, Array.toList, ↓reduceIte, Nat.reduceAdd, Nat.reduceLeDiff, Nat.reduceLT, Nat.reduceMul, Nat.reduceSub, Int.reduceToNat, Int.reduceSub, Int.reduceAdd, Int.reduceNeg, store_at k3])
  (try simp (maxSteps := 1000000) (disch := first | assumption | (apply Ne.symm; assumption)) only [vz, vu, vv, eqS, eqFieldsV, ↓condV_t, ↓condV_f, tabs, reduceCtorEq, Array.toList, ↓reduceIte, Nat.reduceAdd, Nat.reduceLeDiff, Nat.reduceLT, Nat.reduceMul, Nat.reduceSub, Int.reduceToNat, Int.reduceSub, Int.reduceAdd, Int.reduceNeg, store_at k2])
  have hx3 : LN p.start (.sl q 2 0 p.start.length) (G.set r3 [I p.wide, I p.vars, .sl q 2 0 p.start.length, .p .nil]) D := LRow.local (LPl.local eN) hx fun z hz b hb => by rw [Heap.set_other (ne_mem hz m3)]; exact hb
  have hn' := ((hn.base (Heap.le_setN (Heap.le_setN (Heap.le_set hr) h2) h3)).put h3 [I p.wide, I p.vars, .sl q 2 0 p.start.length, .p .nil]).trans hn2 (LRow.has (LPl.has eN) hx3)
  refine h _ _ (D ++ D2) ⟨_, _, D, D2, rfl, rfl, LRow.local (LPl.local eN) hx3 fun z hz b hb => ?_, LRow.local LCm.local hy fun z hz b hb => ?_⟩ ((hn'.put h2 _).put h3 _)
  · rw [Heap.set_other (ne_mem hz m3), Heap.set_other (ne_mem hz m2)]; exact hn2.le z b hb
  · rw [Heap.set_other (ne_mem hz l3), Heap.set_other (ne_mem hz l2)]; exact hb

/-! ### Marks -/
def marked (k : Int) (n : Nat) : List Int := (List.range n).map fun (j : Nat) => k + (j : Int)
end Go.Proofs.Ytgcklgeifdefhaa
/- Marks on programs that own their rows. -/
namespace Go.Proofs.Ytgcklgeifdefhaa
open Go Go.Sep Go.Pt
set_option linter.unusedSimpArgs false
set_option linter.unusedVariables false
attribute [local irreducible] CallT

theorem drop_cons {α : Type} [Inhabited α] {xs : List α} {i : Nat} (h : i < xs.length) : xs.drop i = xs.getD i default :: xs.drop (i + 1) := by
  rw [List.drop_eq_getElem_cons h]; simp [List.getD, h]
/-- A row half of which is done. -/
structure Half {α : Type} (L : Lay α) (G0 : Heap) (q : Nat) (D : List Nat) (xs : List α) (i : Nat) (G : Heap) (done : List α) : Prop where
  ex : ∃ cd cr Dd Dr, G q = some (cd ++ cr) ∧ LL L done cd G Dd ∧ LL L (xs.drop i) cr G Dr ∧ D = Dd ++ Dr
  len : done.length = i
  fr : ∀ y, y ∉ q :: D → G y = G0 y

theorem LL_plain_D {α : Type} {e : α → List PV} {G : Heap} : ∀ {xs : List α} {cs : List AV} {D : List Nat}, LL (LPl e) xs cs G D → D = []
  | [], _, _, h => h.2
  | a :: bs, _, _, ⟨c1, c2, D1, D2, e1, e2, h1, h2⟩ => by rw [e2, h1.2, LL_plain_D h2]; rfl
theorem LL_plain_any {α : Type} {e : α → List PV} {G : Heap} (G' : Heap) {xs : List α} {cs : List AV} {D : List Nat} (h : LL (LPl e) xs cs G D) : LL (LPl e) xs cs G' D :=
  LL.local (LPl.local e) h fun y hy => by rw [LL_plain_D h] at hy; cases hy
theorem markNodeS_live (t : List Nd) (hl : t.length ≤ 1048576) {x : AV} {G : Heap} {D : List Nat} (hx : LN t x G D) (hD : D.Nodup) {k : Int} (h0 : 0 ≤ k) (hk : k ≤ 900000000) {K : AV → Heap → Prop}
    (h : ∀ k' t' G', LN t' x G' D → t'.length = t.length → (∀ y, y ∉ D → G' y = G y) → k ≤ k' → k' ≤ k + 2 * t.length → K (I k') G') : CallT Try.prog 15 [x, I k] G K := by
  obtain ⟨q, cs, D', rfl, hq, hll, rfl⟩ := hx
  refine W15_ok ?_; simp (maxSteps := 1000000) (disch := first | assumption | (apply Ne.symm; assumption)) only [W15, vz, vu, vv, eqS, eqFieldsV, ↓condV_t, ↓condV_f, tabs, reduceCtorEq, Array.toList, ↓reduceIte, Nat.reduceAdd, Nat.reduceLeDiff, Nat.reduceLT, Nat.reduceMul, Nat.reduceSub, Int.reduceToNat, Int.reduceSub, Int.reduceAdd, Int.reduceNeg]
  refine L15_0_rule ((0 : Nat), G, ([] : List Nd)) (fun s => I (k + 2 * s.1)) (fun s => I s.1) (fun s => s.2.1) (fun s => s.1 ≤ t.length ∧ Half (LPl eN) G q D' t s.1 s.2.1 s.2.2) (fun s => t.length - s.1)
    ⟨⟨by simp, ⟨⟨[], cs, [], D', by simpa using hq, ⟨rfl, rfl⟩, by simpa using hll, rfl⟩, rfl, fun _ _ => rfl⟩⟩, ?_, .refl _, Heap.le_refl _⟩ ?_
  · rw [wk_int]; simp
  rintro ⟨i, G1, done⟩ ⟨hi, ⟨⟨cd, cr, Dd, Dr, e1, e2, e3, e4⟩, e5, e6⟩⟩
  dsimp only at hi e1 e2 e3 e4 e5 e6
  (try simp (maxSteps := 1000000) (disch := first | assumption | (apply Ne.symm; assumption)) only [vz, vu, vv, eqS, eqFieldsV, ↓condV_t, ↓condV_f, tabs, reduceCtorEq, Array.toList, ↓reduceIte, Nat.reduceAdd, Nat.reduceLeDiff, Nat.reduceLT, Nat.reduceMul, Nat.reduceSub, Int.reduceToNat, Int.reduceSub, Int.reduceAdd, Int.reduceNeg, B15_0])
  refine ⟨fun h5 => ?_, fun h5 => ?_⟩
  · have hlt : i < t.length := by omega
    rw [drop_cons hlt] at e3
    obtain ⟨c, c2, Di, D2, rfl, rfl, ⟨rfl, rfl⟩, f2⟩ := e3
    have hdl : cd.length = i * 2 := by rw [LL.size (LPl.size (e := eN) (sz := 2) (fun _ => rfl)) e2, e5]
    generalize t.getD i default = a at e1
    have e1' : G1 q = some (cd ++ (I a.op :: U a.n :: c2)) := e1
    have p1 : ∀ z, List.take (i * 2) (cd ++ (I a.op :: U a.n :: c2)) ++ [z] ++ List.drop (i * 2 + 1) (cd ++ (I a.op :: U a.n :: c2)) = cd ++ (z :: U a.n :: c2) := fun z => splice_at (c := [I a.op]) (c' := [z]) (post := U a.n :: c2) hdl.symm rfl rfl
    have p2 : ∀ z w, List.take (i * 2 + 1) (cd ++ (z :: U a.n :: c2)) ++ [w] ++ List.drop (i * 2 + 1 + 1) (cd ++ (z :: U a.n :: c2)) = cd ++ (z :: w :: c2) := fun z w => by
      have := splice_at (pre := cd ++ [z]) (c := [U a.n]) (c' := [w]) (post := c2) (off := i * 2 + 1) (n := 1) (by simp [hdl]) rfl rfl
      simpa using this
    (try simp (maxSteps := 1000000) (disch := first | assumption | (apply Ne.symm; assumption)) only [vz, vu, vv, eqS, eqFieldsV, ↓condV_t, ↓condV_f, tabs, reduceCtorEq, Array.toList, ↓reduceIte, Nat.reduceAdd, Nat.reduceLeDiff, Nat.reduceLT, Nat.reduceMul, Nat.reduceSub, Int.reduceToNat, Int.reduceSub, Int.reduceAdd, Int.reduceNeg, store_at e1'])
    rw [p1]
    refine ⟨by omega, h5, by omega, by omega, h5, by simp only [List.length_take, List.length_drop, List.length_append, List.length_cons, List.length_nil]; omega,
      (i + 1, G1.set q (cd ++ (I (k + 2 * i) :: U (IntKind.u64.wrap (IntKind.i64.wrap (k + 2 * ↑i + 1))) :: c2)), done ++ [⟨k + 2 * i, IntKind.u64.wrap (IntKind.i64.wrap (k + 2 * ↑i + 1))⟩]), ⟨by simp only; omega, ⟨⟨cd ++ [I (k + 2 * i), U (IntKind.u64.wrap (IntKind.i64.wrap (k + 2 * ↑i + 1)))], c2, Dd, D2, ?_, ?_, ?_, ?_⟩, by simp [e5], fun y hy => ?_⟩⟩, by simp only; omega, ?_, ?_, ?_⟩
    · show (G1.set q _) q = _
      rw [Heap.set_same]; simp
    · have := LL.snoc (L := LPl eN) (a := ⟨k + 2 * i, IntKind.u64.wrap (IntKind.i64.wrap (k + 2 * ↑i + 1))⟩) (G := G1.set q (cd ++ (I (k + 2 * i) :: U (IntKind.u64.wrap (IntKind.i64.wrap (k + 2 * ↑i + 1))) :: c2))) (D2 := []) ⟨rfl, rfl⟩ (LL_plain_any _ e2)
      simpa using this
    · exact LL_plain_any _ f2
    · simpa using e4
    · show (G1.set q _) y = _
      rw [List.mem_cons, not_or] at hy
      rw [Heap.set_other hy.1, e6 y (by simp [hy.1, hy.2])]
    · rw [wk_int, i64_id (n := k + 2 * i + 1) (by omega) (by omega), i64_id (by omega) (by omega)]; simp only; omega
    · rw [wk_int, i64_id (by omega) (by omega)]; simp
    · have := p2 (I (k + 2 * i)) (U (IntKind.u64.wrap (IntKind.i64.wrap (k + 2 * ↑i + 1))))
      simp only
      rw [this]; exact Heap.le_refl _
  · have : i = t.length := by omega
    subst this
    rw [List.drop_length] at e3
    obtain ⟨rfl, rfl⟩ := e3
    refine h _ done G1 ⟨q, cd, D', by rw [e5], by simpa using e1, by rw [e4]; simpa using e2, rfl⟩ e5 e6 (by omega) (by omega)

end Go.Proofs.Ytgcklgeifdefhaa
/- Specs: automata that own their rows: copies, marks. -/
namespace Go.Proofs.Ytgcklgeifdefhaa
open Go Go.Sep Go.Pt
set_option linter.unusedSimpArgs false
set_option linter.unusedVariables false
attribute [local irreducible] CallT

abbrev LE : List Ed → AV → Heap → List Nat → Prop := LRow (LPl eE) 3
def LIc : Lay (List Int) := fun l cs G D => ∃ x, cs = [x] ∧ LI l x G D
abbrev LII : List (List Int) → AV → Heap → List Nat → Prop := LRow LIc 1
theorem LIc.local : Lay.Local LIc := by
  rintro c cs G G' D ⟨x, e, h⟩ hf
  exact ⟨x, e, LRow.local (LPl.local eI) h hf⟩
theorem LIc.size : Lay.Size LIc 1 := by
  rintro c cs G D ⟨x, rfl, h⟩; rfl
theorem LIc.has : Lay.Has LIc := by
  rintro c cs G D ⟨x, e, h⟩
  exact LRow.has (LPl.has eI) h
theorem LIc.frz : Lay.Frz LIc eL := by
  rintro c cs G D v s pre post ⟨x, rfl, h⟩ hD hs hG
  obtain ⟨G', w, k, f⟩ := LRow.frzIn (e := eI) (sz := 1) (pre := pre) (post := post) (v := v) (by omega) (fun _ => rfl) (LPl.local eI) (LPl.frz eI) h hD hs (by rw [hG])
  exact ⟨G', w, by rw [k]; rfl, f⟩
def LAu (a : Au) (v : AV) (G : Heap) (D : List Nat) : Prop := ∃ x y z D1 D2 D3, v = .agg [I a.states, x, y, z] ∧ D = D1 ++ (D2 ++ D3) ∧ LI a.first x G D1 ∧ LE a.edges y G D2 ∧ LII a.goals z G D3
theorem LAu.local {a : Au} {v : AV} {G G' : Heap} {D : List Nat} (h : LAu a v G D) (hf : ∀ y ∈ D, ∀ b, G y = some b → G' y = some b) : LAu a v G' D := by
  obtain ⟨x, y, z, D1, D2, D3, e, rfl, h1, h2, h3⟩ := h
  exact ⟨x, y, z, D1, D2, D3, e, rfl, LRow.local (LPl.local eI) h1 (fun u hu => hf u (by simp [hu])), LRow.local (LPl.local eE) h2 (fun u hu => hf u (by simp [hu])), LRow.local LIc.local h3 (fun u hu => hf u (by simp [hu]))⟩
theorem LAu.has {a : Au} {v : AV} {G : Heap} {D : List Nat} (h : LAu a v G D) : ∀ y ∈ D, G y ≠ none := by
  obtain ⟨x, y, z, D1, D2, D3, e, rfl, h1, h2, h3⟩ := h
  intro u hu
  simp only [List.mem_append] at hu
  rcases hu with hu | hu | hu
  · exact LRow.has (LPl.has eI) h1 u hu
  · exact LRow.has (LPl.has eE) h2 u hu
  · exact LRow.has LIc.has h3 u hu
theorem nd3' {A B C : List Nat} (h : (A ++ (B ++ C)).Nodup) : A.Nodup ∧ B.Nodup ∧ C.Nodup ∧ (∀ y ∈ A, y ∉ B) ∧ (∀ y ∈ A, y ∉ C) ∧ (∀ y ∈ B, y ∉ C) := by
  rw [List.nodup_append, List.nodup_append] at h
  obtain ⟨h1, ⟨h2, h3, h4⟩, h5⟩ := h
  exact ⟨h1, h2, h3, fun y hy hb => h5 y hy y (List.mem_append_left _ hb) rfl, fun y hy hb => h5 y hy y (List.mem_append_right _ hb) rfl, fun y hy hb => h4 y hy y hb rfl⟩
theorem LAu.wk {a : Au} {v : AV} {G : Heap} {D : List Nat} (h : LAu a v G D) (hD : D.Nodup) (C : AV → AV) (hC : ∀ {q sz es a a'}, FrzR q sz es a a' → FrzR q sz es (C a) (C a')) : ∃ G', Wk (C v) G (C (aAu a)) G' ∧ ∀ y, y ∉ D → G' y = G y := by
  obtain ⟨x, y, z, D1, D2, D3, rfl, rfl, h1, h2, h3⟩ := h
  obtain ⟨n1, n2, n3, d12, d13, d23⟩ := nd3' hD
  obtain ⟨G1, w1, f1⟩ := LRow.frzV (e := eI) (sz := 1) (v := C (.agg [I a.states, x, y, z])) (v' := C (.agg [I a.states, Is a.first, y, z])) (by omega) (fun _ => rfl) (LPl.local eI) (LPl.frz eI) h1 n1
    (fun q _ hr => hC (.agg (.cons (.same _) (.cons hr (.cons (.same _) (.cons (.same _) .nil))))))
  have h2' := LRow.local (LPl.local eE) h2 (G' := G1) fun u hu b hb => by rw [f1 u (fun h => d12 u h hu)]; exact hb
  obtain ⟨G2, w2, f2⟩ := LRow.frzV (e := eE) (sz := 3) (v := C (.agg [I a.states, Is a.first, y, z])) (v' := C (.agg [I a.states, Is a.first, Es a.edges, z])) (by omega) (fun _ => rfl) (LPl.local eE) (LPl.frz eE) h2' n2
    (fun q _ hr => hC (.agg (.cons (.same _) (.cons (.same _) (.cons hr (.cons (.same _) .nil))))))
  have h3' := LRow.local LIc.local h3 (G' := G2) fun u hu b hb => by rw [f2 u (fun h => d23 u h hu), f1 u (fun h => d13 u h hu)]; exact hb
  obtain ⟨G3, w3, f3⟩ := LRow.frzV (e := eL) (sz := 1) (v := C (.agg [I a.states, Is a.first, Es a.edges, z])) (v' := C (aAu a)) (by omega) (fun _ => rfl) LIc.local LIc.frz h3' n3
    (fun q _ hr => hC (.agg (.cons (.same _) (.cons (.same _) (.cons (.same _) (.cons hr .nil))))))
  refine ⟨G3, .trans w1 (.trans w2 w3), fun u hu => ?_⟩
  simp only [List.mem_append, not_or] at hu
  rw [f3 u hu.2.2, f2 u hu.2.1, f1 u hu.1]

end Go.Proofs.Ytgcklgeifdefhaa
/- Specs: rows of numbers laid one behind the other, moved, copied. -/
namespace Go.Proofs.Ytgcklgeifdefhaa
open Go Go.Sep Go.Pt
set_option linter.unusedSimpArgs false
set_option linter.unusedVariables false
attribute [local irreducible] CallT

def below (n : Nat) : List Int := (List.range n).map fun (i : Nat) => (i : Int)
end Go.Proofs.Ytgcklgeifdefhaa
/- Specs: states in which a condition holds. -/
namespace Go.Proofs.Ytgcklgeifdefhaa
open Go Go.Sep Go.Pt
set_option linter.unusedSimpArgs false
set_option linter.unusedVariables false
attribute [local irreducible] CallT

theorem statesP_nat {p : Pg} (hs : SmallP p) : statesP p = (allP p : Nat) := by
  unfold statesP allP; rw [powI]
/-! ### The graph -/
end Go.Proofs.Ytgcklgeifdefhaa
/- Specs: rows of conditions that may be asked. -/
namespace Go.Proofs.Ytgcklgeifdefhaa
open Go Go.Sep Go.Pt
set_option linter.unusedSimpArgs false
set_option linter.unusedVariables false
attribute [local irreducible] CallT

def okTs (p : Pg) (ts : List (List Nd)) (least : Int) : Bool := (decide (least ≤ ts.length) && decide (ts.length ≤ 8)) && ts.all fun t => decide (kind p.wide p.vars t = 2)
theorem arePreds1_at (p : Pg) (t : List Nd) (ht : vT t) (r : Nat) {H : Heap} (hr : H r = some [I p.wide, I p.vars, Ns p.start, Cms p.cmds]) : PuAt Try.prog 46 [Ns t, .ptr r 0] H (B (!decide (kind p.wide p.vars t = 2))) := by
  intro K hK
  refine W46_ok ?_; simp (maxSteps := 1000000) (disch := first | assumption | (apply Ne.symm; assumption)) only [W46, vz, vu, vv, eqS, eqFieldsV, ↓condV_t, ↓condV_f, tabs, reduceCtorEq, Array.toList, ↓reduceIte, Nat.reduceAdd, Nat.reduceLeDiff, Nat.reduceLT, Nat.reduceMul, Nat.reduceSub, Int.reduceToNat, Int.reduceSub, Int.reduceAdd, Int.reduceNeg, load_at hr]
  refine Pu.use (isCondition_spec p t ht) ?_
  (try simp (maxSteps := 1000000) (disch := first | assumption | (apply Ne.symm; assumption)) only [vz, vu, vv, eqS, eqFieldsV, ↓condV_t, ↓condV_f, tabs, reduceCtorEq, Array.toList, ↓reduceIte, Nat.reduceAdd, Nat.reduceLeDiff, Nat.reduceLT, Nat.reduceMul, Nat.reduceSub, Int.reduceToNat, Int.reduceSub, Int.reduceAdd, Int.reduceNeg])
  cases h : decide (kind p.wide p.vars t = 2) <;> simp_all
theorem arePreds_spec (p : Pg) (ts : List (List Nd)) (hl : ts.length ≤ 1048576) (hv : ∀ t ∈ ts, vT t) (least : Int) : Pu Try.prog 27 [aPg p, Nss ts, I least] (B (okTs p ts least)) := by
  refine Pu.of fun H => ?_
  refine W27_ok ?_; simp (maxSteps := 1000000) (disch := first | assumption | (apply Ne.symm; assumption)) only [W27, vz, vu, vv, eqS, eqFieldsV, ↓condV_t, ↓condV_f, tabs, reduceCtorEq, Array.toList, ↓reduceIte, Nat.reduceAdd, Nat.reduceLeDiff, Nat.reduceLT, Nat.reduceMul, Nat.reduceSub, Int.reduceToNat, Int.reduceSub, Int.reduceAdd, Int.reduceNeg]
  intro r hr
  have hle : ∀ z, Heap.le H (H.set r z) := fun z => Heap.le_set hr
  (try simp (maxSteps := 1000000) (disch := first | assumption | (apply Ne.symm; assumption)) only [vz, vu, vv, eqS, eqFieldsV, ↓condV_t, ↓condV_f, tabs, reduceCtorEq, Array.toList, ↓reduceIte, Nat.reduceAdd, Nat.reduceLeDiff, Nat.reduceLT, Nat.reduceMul, Nat.reduceSub, Int.reduceToNat, Int.reduceSub, Int.reduceAdd, Int.reduceNeg])
  refine ⟨fun h1 => ⟨fun h2 => ?_, fun h2 => ⟨?_, hle _⟩⟩, fun h1 => ⟨?_, hle _⟩⟩
  · refine PuAt.use (ContainsFuncNs_at ts _ _ (fun t => !decide (kind p.wide p.vars t = 2)) (by omega) fun t ht => arePreds1_at p t (hv t ht) r (Heap.set_same _ _ _)) ?_
    (try simp (maxSteps := 1000000) (disch := first | assumption | (apply Ne.symm; assumption)) only [vz, vu, vv, eqS, eqFieldsV, ↓condV_t, ↓condV_f, tabs, reduceCtorEq, Array.toList, ↓reduceIte, Nat.reduceAdd, Nat.reduceLeDiff, Nat.reduceLT, Nat.reduceMul, Nat.reduceSub, Int.reduceToNat, Int.reduceSub, Int.reduceAdd, Int.reduceNeg])
    refine ⟨?_, hle _⟩
    have h2' : ts.length ≤ 8 := by omega
    simp only [okTs, h1, h2', decide_true, Bool.true_and]
    congr 2
    rw [List.all_eq_not_any_not]
  · have : ¬ ts.length ≤ 8 := by omega
    simp [okTs, this]
  · simp [okTs, h1]
theorem l15Preds_spec (p : Pg) (ts : List (List Nd)) (hl : ts.length ≤ 1048576) (hv : ∀ t ∈ ts, vT t) : Pu Try.prog 20 [aPg p, Nss ts] (B (okTs p ts 0)) := by
  refine Pu.of fun H => ?_
  refine W20_ok ?_; simp (maxSteps := 1000000) (disch := first | assumption | (apply Ne.symm; assumption)) only [W20, vz, vu, vv, eqS, eqFieldsV, ↓condV_t, ↓condV_f, tabs, reduceCtorEq, Array.toList, ↓reduceIte, Nat.reduceAdd, Nat.reduceLeDiff, Nat.reduceLT, Nat.reduceMul, Nat.reduceSub, Int.reduceToNat, Int.reduceSub, Int.reduceAdd, Int.reduceNeg]
  intro r hr
  have hle : ∀ z, Heap.le H (H.set r z) := fun z => Heap.le_set hr
  refine ⟨fun h => ?_, fun h => ?_⟩
  · have : ¬ ts.length ≤ 8 := by omega
    exact ⟨by simp [okTs, this], hle _⟩
  have h8 : ts.length ≤ 8 := by omega
  have h0 : (0 : Int) ≤ ts.length := by omega
  refine L20_0_rule (0 : Nat) (fun i => I i) (fun _ => H.set r [I p.wide, I p.vars, Ns p.start, Cms p.cmds]) (fun i => i ≤ ts.length ∧ ∀ j, j < i → kind p.wide p.vars (ts.getD j default) = 2) (fun i => ts.length - i) ⟨⟨by omega, fun j hj => by omega⟩, .refl _, Heap.le_refl _⟩ ?_
  rintro i ⟨hi, hall⟩
  (try simp (maxSteps := 1000000) (disch := first | assumption | (apply Ne.symm; assumption)) only [vz, vu, vv, eqS, eqFieldsV, ↓condV_t, ↓condV_f, tabs, reduceCtorEq, Array.toList, ↓reduceIte, Nat.reduceAdd, Nat.reduceLeDiff, Nat.reduceLT, Nat.reduceMul, Nat.reduceSub, Int.reduceToNat, Int.reduceSub, Int.reduceAdd, Int.reduceNeg, B20_0])
  refine ⟨fun h1 => ⟨by omega, h1, ?_⟩, fun h1 => ⟨?_, hle _⟩⟩
  · have hlt : i < ts.length := by omega
    have hm : ts.getD i default ∈ ts := getD_all (p := fun x => x ∈ ts) (fun _ h => h) hlt
    refine Pu.use (l7Asks_spec p _ (hv _ hm)) ?_
    cases hk : decide (kind p.wide p.vars (ts.getD i default) = 2)
    · (try simp (maxSteps := 1000000) (disch := first | assumption | (apply Ne.symm; assumption)) only [vz, vu, vv, eqS, eqFieldsV, ↓condV_t, ↓condV_f, tabs, reduceCtorEq, Array.toList, ↓reduceIte, Nat.reduceAdd, Nat.reduceLeDiff, Nat.reduceLT, Nat.reduceMul, Nat.reduceSub, Int.reduceToNat, Int.reduceSub, Int.reduceAdd, Int.reduceNeg])
      refine ⟨?_, hle _⟩
      have : (ts.all fun t => decide (kind p.wide p.vars t = 2)) = false := by rw [List.all_eq_false]; exact ⟨_, hm, by simpa using hk⟩
      simp [okTs, this]
    · (try simp (maxSteps := 1000000) (disch := first | assumption | (apply Ne.symm; assumption)) only [vz, vu, vv, eqS, eqFieldsV, ↓condV_t, ↓condV_f, tabs, reduceCtorEq, Array.toList, ↓reduceIte, Nat.reduceAdd, Nat.reduceLeDiff, Nat.reduceLT, Nat.reduceMul, Nat.reduceSub, Int.reduceToNat, Int.reduceSub, Int.reduceAdd, Int.reduceNeg])
      refine ⟨i + 1, ⟨by omega, fun j hj => ?_⟩, by omega, ?_⟩
      · rcases Nat.lt_succ_iff_lt_or_eq.1 hj with h2 | rfl
        · exact hall j h2
        · exact of_decide_eq_true hk
      · rw [wk_int, i64_id (by omega) (by omega)]; simp
  · have : i = ts.length := by omega
    subst this
    have : (ts.all fun t => decide (kind p.wide p.vars t = 2)) = true := by
      rw [List.all_eq_true]
      intro t ht
      obtain ⟨j, hj, rfl⟩ := List.getElem_of_mem ht
      have := hall j hj
      have e : ts.getD j default = ts[j] := by simp [List.getD, hj]
      rw [e] at this
      exact decide_eq_true this
    simp [okTs, this, h8]

theorem okTs_k {p : Pg} {ts : List (List Nd)} {l : Int} (h : okTs p ts l = true) : l ≤ ts.length ∧ ts.length ≤ 8 ∧ ∀ t ∈ ts, kind p.wide p.vars t = 2 := by
  simp only [okTs, Bool.and_eq_true, decide_eq_true_eq, List.all_eq_true] at h
  exact ⟨h.1.1, h.1.2, h.2⟩
end Go.Proofs.Ytgcklgeifdefhaa
/- Marks on changes, commands, programs and sights that own their rows. -/
namespace Go.Proofs.Ytgcklgeifdefhaa
open Go Go.Sep Go.Pt
set_option linter.unusedSimpArgs false
set_option linter.unusedVariables false
attribute [local irreducible] CallT

theorem nd3 {q : Nat} {A C E : List Nat} (h : (q :: (A ++ (C ++ E))).Nodup) : (q ∉ A ∧ q ∉ C ∧ q ∉ E) ∧ (∀ y ∈ A, y ∉ C) ∧ (∀ y ∈ E, y ∉ C) ∧ A.Nodup ∧ C.Nodup ∧ E.Nodup := by
  rw [List.nodup_cons, List.nodup_append, List.nodup_append] at h
  simp only [List.mem_append, not_or] at h
  refine ⟨h.1, fun y hy hc => h.2.2.2 y hy y (.inl hc) rfl, fun y hy hc => h.2.2.1.2.2 y hc y hy rfl, h.2.1, h.2.2.1.1, h.2.2.1.2.1⟩

theorem markChangeS_live (xs : List Ch) (hl : totChs xs ≤ 1048576) {x : AV} {G : Heap} {D : List Nat} (hx : LRow LCh 2 xs x G D) (hD : D.Nodup) {k : Int} (h0 : 0 ≤ k) (hk : k ≤ 800000000) {K : AV → Heap → Prop}
    (h : ∀ k' xs' G', LRow LCh 2 xs' x G' D → xs'.length = xs.length → (∀ y, y ∉ D → G' y = G y) → k ≤ k' → k' ≤ k + 2 * totChs xs → K (I k') G') : CallT Try.prog 52 [x, I k] G K := by
  obtain ⟨q, cs, D', rfl, hq, hll, rfl⟩ := hx
  have hlen : xs.length ≤ 1048576 := by unfold totChs at hl; omega
  refine W52_ok ?_; simp (maxSteps := 1000000) (disch := first | assumption | (apply Ne.symm; assumption)) only [W52, vz, vu, vv, eqS, eqFieldsV, ↓condV_t, ↓condV_f, tabs, reduceCtorEq, Array.toList, ↓reduceIte, Nat.reduceAdd, Nat.reduceLeDiff, Nat.reduceLT, Nat.reduceMul, Nat.reduceSub, Int.reduceToNat, Int.reduceSub, Int.reduceAdd, Int.reduceNeg]
  refine L52_0_rule ((0 : Nat), k, G, ([] : List Ch)) (fun s => I s.2.1) (fun s => I s.1) (fun s => s.2.2.1) (fun s => (s.1 ≤ xs.length ∧ k ≤ s.2.1 ∧ s.2.1 ≤ k + 2 * (s.1 + psum totCh xs s.1)) ∧ Half LCh G q D' xs s.1 s.2.2.1 s.2.2.2) (fun s => xs.length - s.1)
    ⟨⟨⟨by simp, by simp, by simp [psum]⟩, ⟨⟨[], cs, [], D', by simpa using hq, ⟨rfl, rfl⟩, by simpa using hll, rfl⟩, rfl, fun _ _ => rfl⟩⟩, .refl _, .refl _, Heap.le_refl _⟩ ?_
  rintro ⟨i, k1, G1, done⟩ ⟨⟨hi, hk1, hk2⟩, ⟨⟨cd, cr, Dd, Dr, e1, e2, e3, e4⟩, e5, e6⟩⟩
  dsimp only at hi hk1 hk2 e1 e2 e3 e4 e5 e6
  have hps := psum_le (f := totCh) (xs := xs) i
  have htd : totChs xs = xs.length + psum totCh xs xs.length := rfl
  (try simp (maxSteps := 1000000) (disch := first | assumption | (apply Ne.symm; assumption)) only [vz, vu, vv, eqS, eqFieldsV, ↓condV_t, ↓condV_f, tabs, reduceCtorEq, Array.toList, ↓reduceIte, Nat.reduceAdd, Nat.reduceLeDiff, Nat.reduceLT, Nat.reduceMul, Nat.reduceSub, Int.reduceToNat, Int.reduceSub, Int.reduceAdd, Int.reduceNeg, B52_0])
  refine ⟨fun h5 => ?_, fun h5 => ?_⟩
  · have hlt : i < xs.length := by omega
    have hsucc := psum_succ (f := totCh) hlt
    have hps2 := psum_le (f := totCh) (xs := xs) (i + 1)
    rw [drop_cons hlt] at e3
    obtain ⟨c, c2, Di, D2, rfl, rfl, ⟨x, rfl, hx⟩, f2⟩ := e3
    have hdl : cd.length = i * 2 := by rw [LL.size LCh.size e2, e5]
    subst e4
    obtain ⟨⟨q1, q2, q3⟩, dA, dE, nA, nC, nE⟩ := nd3 hD
    have htl : totCh (xs.getD i default) = (xs.getD i default).by_.length := rfl
    generalize xs.getD i default = a at e1 hx hsucc htl
    obtain ⟨qx, rfl⟩ := LRow.sl hx
    generalize hxx : (AV.sl qx 2 0 a.by_.length) = x at e1 hx
    have e1' : G1 q = some (cd ++ (I a.var :: x :: c2)) := e1
    have p1 : ∀ z, List.take (i * 2) (cd ++ (I a.var :: x :: c2)) ++ [z] ++ List.drop (i * 2 + 1) (cd ++ (I a.var :: x :: c2)) = cd ++ (z :: x :: c2) := fun z => splice_at (c := [I a.var]) (c' := [z]) (post := x :: c2) hdl.symm rfl rfl
    have rd : ∀ z, (List.take 1 (List.drop (i * 2 + 1) (cd ++ (z :: x :: c2)))).headD AV.any = x := fun z => by
      rw [List.drop_append, hdl, List.drop_of_length_le (by omega)]; simp
    (try simp (maxSteps := 1000000) (disch := first | assumption | (apply Ne.symm; assumption)) only [vz, vu, vv, eqS, eqFieldsV, ↓condV_t, ↓condV_f, tabs, reduceCtorEq, Array.toList, ↓reduceIte, Nat.reduceAdd, Nat.reduceLeDiff, Nat.reduceLT, Nat.reduceMul, Nat.reduceSub, Int.reduceToNat, Int.reduceSub, Int.reduceAdd, Int.reduceNeg, store_at e1', p1, rd])
    refine ⟨by omega, h5, by omega, by omega, h5, by omega, ?_⟩
    rw [i64_id (n := k1 + 1) (by omega) (by omega)]
    refine markNodeS_live a.by_ (by omega) (LRow.local (LPl.local eN) hx (fun y hy b hb => by rw [Heap.set_other (ne_mem hy q2)]; exact hb)) nC (by omega) (by omega) fun k2 t' G2 hx3 hlen hfr hk3 hk4 => ?_
    have g2q : G2 q = some ((cd ++ [I k1, x]) ++ c2) := by rw [hfr q q2, Heap.set_same]; simp
    (try simp (maxSteps := 1000000) (disch := first | assumption | (apply Ne.symm; assumption)) only [vz, vu, vv, eqS, eqFieldsV, ↓condV_t, ↓condV_f, tabs, reduceCtorEq, Array.toList, ↓reduceIte, Nat.reduceAdd, Nat.reduceLeDiff, Nat.reduceLT, Nat.reduceMul, Nat.reduceSub, Int.reduceToNat, Int.reduceSub, Int.reduceAdd, Int.reduceNeg])
    refine ⟨(i + 1, k2, G2, done ++ [⟨k1, t'⟩]), ⟨⟨by simp only; omega, by simp only; omega, by simp only; omega⟩, ⟨⟨cd ++ [I k1, x], c2, Dd ++ Di, D2, g2q, ?_, ?_, by simp⟩, by simp [e5], fun y hy => ?_⟩⟩, by simp only; omega, .refl _, ?_, Heap.le_refl _⟩
    · refine LL.snoc (L := LCh) (a := ⟨k1, t'⟩) ⟨x, rfl, hx3⟩ (LL.local LCh.local e2 fun y hy b hb => ?_)
      show G2 y = _
      rw [hfr y (dA y hy), Heap.set_other (ne_mem hy q1)]; exact hb
    · refine LL.local LCh.local f2 fun y hy b hb => ?_
      show G2 y = _
      rw [hfr y (dE y hy), Heap.set_other (ne_mem hy q3)]; exact hb
    · show G2 y = _
      have hy' := hy
      simp only [List.mem_cons, List.mem_append, not_or] at hy'
      rw [hfr y hy'.2.2.1, Heap.set_other hy'.1]; exact e6 y hy
    · rw [wk_int, i64_id (by omega) (by omega)]; simp
  · have : i = xs.length := by omega
    subst this
    rw [List.drop_length] at e3
    obtain ⟨rfl, rfl⟩ := e3
    refine h _ done G1 ⟨q, cd, D', by rw [e5], by simpa using e1, by rw [e4]; simpa using e2, rfl⟩ e5 e6 hk1 (by omega)

theorem markCommandS_live (xs : List Cm) (hl : totCms xs ≤ 1048576) {x : AV} {G : Heap} {D : List Nat} (hx : LRow LCm 2 xs x G D) (hD : D.Nodup) {k : Int} (h0 : 0 ≤ k) (hk : k ≤ 700000000) {K : AV → Heap → Prop}
    (h : ∀ k' xs' G', LRow LCm 2 xs' x G' D → xs'.length = xs.length → (∀ y, y ∉ D → G' y = G y) → k ≤ k' → k' ≤ k + 2 * totCms xs → K (I k') G') : CallT Try.prog 33 [x, I k] G K := by
  obtain ⟨q, cs, D', rfl, hq, hll, rfl⟩ := hx
  have hlen : xs.length ≤ 1048576 := by unfold totCms at hl; omega
  refine W33_ok ?_; simp (maxSteps := 1000000) (disch := first | assumption | (apply Ne.symm; assumption)) only [W33, vz, vu, vv, eqS, eqFieldsV, ↓condV_t, ↓condV_f, tabs, reduceCtorEq, Array.toList, ↓reduceIte, Nat.reduceAdd, Nat.reduceLeDiff, Nat.reduceLT, Nat.reduceMul, Nat.reduceSub, Int.reduceToNat, Int.reduceSub, Int.reduceAdd, Int.reduceNeg]
  refine L33_0_rule ((0 : Nat), k, G, ([] : List Cm)) (fun s => I s.2.1) (fun s => I s.1) (fun s => s.2.2.1) (fun s => (s.1 ≤ xs.length ∧ k ≤ s.2.1 ∧ s.2.1 ≤ k + 2 * (s.1 + psum totCm xs s.1)) ∧ Half LCm G q D' xs s.1 s.2.2.1 s.2.2.2) (fun s => xs.length - s.1)
    ⟨⟨⟨by simp, by simp, by simp [psum]⟩, ⟨⟨[], cs, [], D', by simpa using hq, ⟨rfl, rfl⟩, by simpa using hll, rfl⟩, rfl, fun _ _ => rfl⟩⟩, .refl _, .refl _, Heap.le_refl _⟩ ?_
  rintro ⟨i, k1, G1, done⟩ ⟨⟨hi, hk1, hk2⟩, ⟨⟨cd, cr, Dd, Dr, e1, e2, e3, e4⟩, e5, e6⟩⟩
  dsimp only at hi hk1 hk2 e1 e2 e3 e4 e5 e6
  have hps := psum_le (f := totCm) (xs := xs) i
  have htd : totCms xs = xs.length + psum totCm xs xs.length := rfl
  (try simp (maxSteps := 1000000) (disch := first | assumption | (apply Ne.symm; assumption)) only [vz, vu, vv, eqS, eqFieldsV, ↓condV_t, ↓condV_f, tabs, reduceCtorEq, Array.toList, ↓reduceIte, Nat.reduceAdd, Nat.reduceLeDiff, Nat.reduceLT, Nat.reduceMul, Nat.reduceSub, Int.reduceToNat, Int.reduceSub, Int.reduceAdd, Int.reduceNeg, B33_0])
  refine ⟨fun h5 => ?_, fun h5 => ?_⟩
  · have hlt : i < xs.length := by omega
    have hsucc := psum_succ (f := totCm) hlt
    have hps2 := psum_le (f := totCm) (xs := xs) (i + 1)
    rw [drop_cons hlt] at e3
    obtain ⟨c, c2, Di, D2, rfl, rfl, ⟨x, y, E1, E2, rfl, rfl, hx, hy⟩, f2⟩ := e3
    have hdl : cd.length = i * 2 := by rw [LL.size LCm.size e2, e5]
    subst e4
    obtain ⟨⟨q1, q2, q3⟩, dA, dE, nA, nC, nE⟩ := nd3 hD
    have htl : totCm (xs.getD i default) = (xs.getD i default).when_.length + totChs (xs.getD i default).chs := rfl
    generalize xs.getD i default = a at e1 hx hy hsucc htl
    rw [List.mem_append, not_or] at q2
    rw [List.nodup_append] at nC
    obtain ⟨qx, rfl⟩ := LRow.sl hx
    obtain ⟨qy, rfl⟩ := LRow.sl hy
    generalize hxx : (AV.sl qx 2 0 a.when_.length) = x at e1 hx
    generalize hyy : (AV.sl qy 2 0 a.chs.length) = y at e1 hy
    have e1' : G1 q = some (cd ++ (x :: y :: c2)) := e1
    have rd0 : (List.take 1 (List.drop (i * 2) (cd ++ (x :: y :: c2)))).headD AV.any = x := by
      rw [List.drop_append, hdl, List.drop_of_length_le (by omega)]; simp
    have rd1 : (List.take 1 (List.drop (i * 2 + 1) (cd ++ (x :: y :: c2)))).headD AV.any = y := by
      rw [List.drop_append, hdl, List.drop_of_length_le (by omega)]; simp
    (try simp (maxSteps := 1000000) (disch := first | assumption | (apply Ne.symm; assumption)) only [vz, vu, vv, eqS, eqFieldsV, ↓condV_t, ↓condV_f, tabs, reduceCtorEq, Array.toList, ↓reduceIte, Nat.reduceAdd, Nat.reduceLeDiff, Nat.reduceLT, Nat.reduceMul, Nat.reduceSub, Int.reduceToNat, Int.reduceSub, Int.reduceAdd, Int.reduceNeg, load_at e1', rd0, rd1])
    refine ⟨by omega, h5, by omega, ?_⟩
    refine markNodeS_live a.when_ (by omega) hx nC.1 (by omega) (by omega) fun k2 t' G2 hx3 hlen2 hfr hk3 hk4 => ?_
    have g2q' : G2 q = some (cd ++ (x :: y :: c2)) := by rw [hfr q q2.1]; exact e1'
    have hy2 : LRow LCh 2 a.chs y G2 E2 := LRow.local LCh.local hy fun z hz b hb => by rw [hfr z (fun hz1 => nC.2.2 z hz1 z hz rfl)]; exact hb
    (try simp (maxSteps := 1000000) (disch := first | assumption | (apply Ne.symm; assumption)) only [vz, vu, vv, eqS, eqFieldsV, ↓condV_t, ↓condV_f, tabs, reduceCtorEq, Array.toList, ↓reduceIte, Nat.reduceAdd, Nat.reduceLeDiff, Nat.reduceLT, Nat.reduceMul, Nat.reduceSub, Int.reduceToNat, Int.reduceSub, Int.reduceAdd, Int.reduceNeg, load_at g2q', rd0, rd1])
    refine ⟨by omega, h5, by omega, ?_⟩
    refine markChangeS_live a.chs (by omega) hy2 nC.2.1 (by omega) (by omega) fun k3 xs' G3 hy3 hlen3 hfr3 hk5 hk6 => ?_
    have g3q : G3 q = some ((cd ++ [x, y]) ++ c2) := by rw [hfr3 q q2.2, g2q']; simp
    have hx4 : LN t' x G3 E1 := LRow.local (LPl.local eN) hx3 fun z hz b hb => by rw [hfr3 z (fun hz1 => nC.2.2 z hz z hz1 rfl)]; exact hb
    (try simp (maxSteps := 1000000) (disch := first | assumption | (apply Ne.symm; assumption)) only [vz, vu, vv, eqS, eqFieldsV, ↓condV_t, ↓condV_f, tabs, reduceCtorEq, Array.toList, ↓reduceIte, Nat.reduceAdd, Nat.reduceLeDiff, Nat.reduceLT, Nat.reduceMul, Nat.reduceSub, Int.reduceToNat, Int.reduceSub, Int.reduceAdd, Int.reduceNeg])
    refine ⟨(i + 1, k3, G3, done ++ [⟨t', xs'⟩]), ⟨⟨by simp only; omega, by simp only; omega, by simp only; omega⟩, ⟨⟨cd ++ [x, y], c2, Dd ++ (E1 ++ E2), D2, g3q, ?_, ?_, by simp⟩, by simp [e5], fun z hz => ?_⟩⟩, by simp only; omega, .refl _, ?_, Heap.le_refl _⟩
    · refine LL.snoc (L := LCm) (a := ⟨t', xs'⟩) ⟨x, y, E1, E2, rfl, rfl, hx4, hy3⟩ (LL.local LCm.local e2 fun z hz b hb => ?_)
      show G3 z = _
      have := dA z hz
      rw [List.mem_append, not_or] at this
      rw [hfr3 z this.2, hfr z this.1]; exact hb
    · refine LL.local LCm.local f2 fun z hz b hb => ?_
      show G3 z = _
      have := dE z hz
      rw [List.mem_append, not_or] at this
      rw [hfr3 z this.2, hfr z this.1]; exact hb
    · show G3 z = _
      have hz' := hz
      simp only [List.mem_cons, List.mem_append, not_or] at hz'
      rw [hfr3 z hz'.2.2.1.2, hfr z hz'.2.2.1.1]; exact e6 z hz
    · rw [wk_int, i64_id (by omega) (by omega)]; simp
  · have : i = xs.length := by omega
    subst this
    rw [List.drop_length] at e3
    obtain ⟨rfl, rfl⟩ := e3
    refine h _ done G1 ⟨q, cd, D', by rw [e5], by simpa using e1, by rw [e4]; simpa using e2, rfl⟩ e5 e6 hk1 (by omega)

theorem markProgram_live (p : Pg) (hl : totPg p ≤ 1048576) {v : AV} {G : Heap} {D : List Nat} (hx : LPg p v G D) (hD : D.Nodup) {k : Int} (h0 : 0 ≤ k) (hk : k ≤ 600000000) {K : AV → Heap → Prop}
    (h : ∀ k' G', (∀ y, y ∉ D → G' y = G y) → k ≤ k' → k' ≤ k + 2 * totPg p → K (I k') G') : CallT Try.prog 13 [v, I k] G K := by
  obtain ⟨x, y, D1, D2, rfl, rfl, h1, h2⟩ := hx
  rw [List.nodup_append] at hD
  have htd : totPg p = p.start.length + totCms p.cmds := rfl
  refine CallT.fin ?_
  refine W13_ok ?_; simp (maxSteps := 1000000) (disch := first | assumption | (apply Ne.symm; assumption)) only [W13, vz, vu, vv, eqS, eqFieldsV, ↓condV_t, ↓condV_f, tabs, reduceCtorEq, Array.toList, ↓reduceIte, Nat.reduceAdd, Nat.reduceLeDiff, Nat.reduceLT, Nat.reduceMul, Nat.reduceSub, Int.reduceToNat, Int.reduceSub, Int.reduceAdd, Int.reduceNeg]
  intro r hr
  have r1 : r ∉ D1 := fun hh => LRow.has (LPl.has eN) h1 r hh hr
  have r2 : r ∉ D2 := fun hh => LRow.has LCm.has h2 r hh hr
  have h1' : LN p.start x (G.set r [I p.wide, I p.vars, x, y]) D1 := LRow.local (LPl.local eN) h1 fun z hz b hb => by rw [Heap.set_other (ne_mem hz r1)]; exact hb
  refine markNodeS_live p.start (by omega) h1' hD.1 h0 (by omega) fun k2 t' G2 hx3 hlen2 hfr hk3 hk4 => ?_
  have g2 : G2 r = some [I p.wide, I p.vars, x, y] := by rw [hfr r r1, Heap.set_same]
  have h2' : LRow LCm 2 p.cmds y G2 D2 := LRow.local LCm.local h2 fun z hz b hb => by rw [hfr z (fun hz1 => hD.2.2 z hz1 z hz rfl), Heap.set_other (ne_mem hz r2)]; exact hb
  (try simp (maxSteps := 1000000) (disch := first | assumption | (apply Ne.symm; assumption)) only [vz, vu, vv, eqS, eqFieldsV, ↓condV_t, ↓condV_f, tabs, reduceCtorEq, Array.toList, ↓reduceIte, Nat.reduceAdd, Nat.reduceLeDiff, Nat.reduceLT, Nat.reduceMul, Nat.reduceSub, Int.reduceToNat, Int.reduceSub, Int.reduceAdd, Int.reduceNeg, load_at g2])
  refine markCommandS_live p.cmds (by omega) h2' hD.2.1 (by omega) (by omega) fun k3 xs' G3 hy3 hlen3 hfr3 hk5 hk6 => ?_
  (try simp (maxSteps := 1000000) (disch := first | assumption | (apply Ne.symm; assumption)) only [vz, vu, vv, eqS, eqFieldsV, ↓condV_t, ↓condV_f, tabs, reduceCtorEq, Array.toList, ↓reduceIte, Nat.reduceAdd, Nat.reduceLeDiff, Nat.reduceLT, Nat.reduceMul, Nat.reduceSub, Int.reduceToNat, Int.reduceSub, Int.reduceAdd, Int.reduceNeg])
  refine fin_le (H := G3.del r) (Heap.del_le _ _) (h k3 (G3.del r) (fun z hz => ?_) (by omega) (by omega))
  rw [List.mem_append, not_or] at hz
  by_cases e : z = r
  · subst e; rw [Heap.del_same, hr]
  · rw [Heap.del_other e, hfr3 z hz.2, hfr z hz.1, Heap.set_other e]

end Go.Proofs.Ytgcklgeifdefhaa
/- Plain facts: terms put in the place of variables. -/
namespace Go.Pt
def subst1 (bs : List (List Nd)) (x : Nd) : List Nd := if x.op = 2 then bs.getD x.n.toNat [] else [x]
def subst (bs : List (List Nd)) (t : List Nd) : List Nd := t.flatMap (subst1 bs)
def gt (w v : Int) (t : List Nd) : Bool := frame w v t && (match run w v [] t with
  | some p => decide (p.length = 1)
  | none => false)
end Go.Pt
/- Rules and specs for rows of nodes. -/
namespace Go.Proofs.Ytgcklgeifdefhaa
open Go Go.Sep Go.Pt
set_option linter.unusedSimpArgs false
set_option linter.unusedVariables false
attribute [local irreducible] CallT

abbrev rowN (q : Nat) (xs : List Nd) : AV := .sl q 2 0 xs.length
abbrev cN (xs : List Nd) : List AV := cells (xs.map eN)
theorem szN (xs : List Nd) : Sized 2 (xs.map eN) := sized_map (f := eN) (fun _ => rfl) xs
theorem frz_rowN {q : Nat} {xs : List Nd} : FrzR q 2 (xs.map eN) (rowN q xs) (Ns xs) := by
  have : FrzR q 2 (xs.map eN) (.sl q 2 0 (xs.map eN).length) (.p (.sl (xs.map eN))) := .here
  rwa [List.length_map] at this

theorem lit_node {x : Nd} {H : Heap} {K : AV → Heap → Prop} (h : K (Ns [x]) H) : buildSliceV tab 29 1 [(0, aN x)] H (wkK K) := by
  simp only [buildSliceV, tab_29, tab_54]
  refine ⟨by omega, ?_⟩
  simp only [fillV, zerosA, List.replicate_succ, List.replicate_zero, List.flatten_cons, List.flatten_nil, List.append_nil, AV.cells, splice]
  simp only [List.length_cons, List.length_nil, Nat.reduceAdd, Nat.zero_mul, Nat.zero_add, Nat.le_refl, and_self, if_true, List.take_zero, List.nil_append, List.drop_succ_cons, List.drop_zero, List.append_nil]
  intro r hr
  refine ⟨_, _, Wk.trans (Wk.frz (r := r) (sz := 2) (es := [eN x]) (v := .sl r 2 0 1) (v' := .p (.sl [eN x])) (by omega) ?_ (by simp) .here) (.forget ?_), h⟩
  · rw [Heap.set_same]; rfl
  · rw [Heap.del_set hr]; exact Heap.le_refl _

theorem app_nodes {q : Nat} {xs ys : List Nd} {G : Heap} {K : AV → Heap → Prop} (hq : G q = some (cN xs)) (hl : xs.length + ys.length ≤ 1000000)
    (h : ∀ q', G q' = none → q' ≠ q → K (rowN q' (xs ++ ys)) ((G.del q).set q' (cN (xs ++ ys)))) : appendV tab 29 29 (rowN q xs) (Ns ys) G (wkK K) := by
  have := app_own (x := Ns ys) (r := q) (es := xs.map eN) (fs := ys.map eN) (H := G) (K := K) tab_29 rfl tab_54 tab_29 rfl (sz := 2) rfl (bz := 16) rfl (.inl rfl) hq (szN xs) (szN ys)
    (by simp only [List.length_map]; omega) (by simp only [List.length_map]; omega) fun r' hr' => by
      have hne : r' ≠ q := by rintro rfl; rw [hq] at hr'; cases hr'
      have := h r' hr' hne
      simpa only [Go.Sep.own, cN, rowN, List.length_map, List.map_append, List.length_append] using this
  simpa only [Go.Sep.own, List.length_map] using this
/-- A row of nodes told by value in a pair. -/
theorem fin_nodes {q : Nat} {xs : List Nd} {G : Heap} (hq : G q = some (cN xs)) {w : AV} : Wk (.tup [rowN q xs, w]) G (.tup [Ns xs, w]) (G.del q) :=
  Wk.frz (r := q) (sz := 2) (es := xs.map eN) (by omega) hq (szN xs) (.tup (.cons frz_rowN (.cons (.same _) .nil)))

theorem GoodTerm_row (w v : Int) (t : List Nd) (hl : t.length ≤ 1048576) (ht : ∀ x ∈ t, okN x) {q : Nat} {G : Heap} (hq : G q = some (cN t)) {K : AV → Heap → Prop} (h : K (B (gtI w v t)) G) : CallT Try.prog 50 [I w, I v, rowN q t] G K :=
  Pu.thaw (GoodTerm_spec w v t hl ht) (.bool _) (Wk.frz (r := q) (sz := 2) (es := t.map eN) (v' := .tup [I w, I v, Ns t]) (by omega) hq (szN t) (.tup (.cons (.same _) (.cons (.same _) (.cons frz_rowN .nil))))) h
theorem eqN_row {q : Nat} {xs : List Nd} {G : Heap} (hq : G q = some (cN xs)) (hl : xs.length ≤ 1048576) {K : AV → Heap → Prop} (h : K (B true) G) : CallT Try.prog 10 [rowN q xs, Ns xs] G K :=
  Pu.thaw (eqNodeS_spec xs hl) (.bool _) (Wk.frz (r := q) (sz := 2) (es := xs.map eN) (v' := .tup [Ns xs, Ns xs]) (by omega) hq (szN xs) (.tup (.cons frz_rowN (.cons (.same _) .nil)))) h
theorem eqN_nil {G : Heap} {K : AV → Heap → Prop} (h : K (B true) G) : CallT Try.prog 10 [.p .nil, Ns []] G K :=
  CallT.args ((eqNodeS_spec [] (by simp)).use h) ⟨.nil, .refl _, trivial⟩

def markN (k : Int) (n : Nat) : List Nd := (List.range n).map fun (i : Nat) => ⟨k + 2 * (i : Int), k + 2 * (i : Int) + 1⟩
theorem markN_len (k : Int) (n : Nat) : (markN k n).length = n := by simp [markN]
theorem markN_succ (k : Int) (n : Nat) : markN k (n + 1) = markN k n ++ [⟨k + 2 * n, k + 2 * n + 1⟩] := by simp [markN, List.range_succ]

theorem markNodeS_row (xs : List Nd) (hl : xs.length ≤ 1048576) {k : Int} (h0 : 0 ≤ k) (h1 : k ≤ 1000000000) {q : Nat} {G : Heap} (hG : G q = some (cN xs)) {K : AV → Heap → Prop}
    (h : K (I (k + 2 * xs.length)) (G.set q (cN (markN k xs.length)))) : CallT Try.prog 15 [rowN q xs, I k] G K := by
  refine W15_ok ?_; simp (maxSteps := 1000000) (disch := first | assumption | (apply Ne.symm; assumption)) only [W15, vz, vu, vv, eqS, eqFieldsV, ↓condV_t, ↓condV_f, tabs, reduceCtorEq, Array.toList, ↓reduceIte, Nat.reduceAdd, Nat.reduceLeDiff, Nat.reduceLT, Nat.reduceMul, Nat.reduceSub, Int.reduceToNat, Int.reduceSub, Int.reduceAdd, Int.reduceNeg]
  refine L15_0_rule (0 : Nat) (fun i => I (k + 2 * i)) (fun i => I i) (fun i => G.set q (cN (markN k i ++ xs.drop i))) (fun i => i ≤ xs.length) (fun i => xs.length - i) ⟨by omega, ?_, .refl _, ?_⟩ ?_
  · rw [wk_int]; simp
  · intro y b hy
    by_cases e : y = q
    · subst e; rw [Heap.set_same] at hy; rw [hG]; simpa [markN] using hy
    · rw [Heap.set_other e] at hy; exact hy
  intro i hi
  (try simp (maxSteps := 1000000) (disch := first | assumption | (apply Ne.symm; assumption)) only [vz, vu, vv, eqS, eqFieldsV, ↓condV_t, ↓condV_f, tabs, reduceCtorEq, Array.toList, ↓reduceIte, Nat.reduceAdd, Nat.reduceLeDiff, Nat.reduceLT, Nat.reduceMul, Nat.reduceSub, Int.reduceToNat, Int.reduceSub, Int.reduceAdd, Int.reduceNeg, B15_0])
  refine ⟨fun h5 => ?_, fun h5 => ?_⟩
  · have hlt : i < xs.length := by omega
    have hdl : (cN (markN k i)).length = i * 2 := by rw [cells_map_len (sz := 2) (fun _ => rfl), markN_len]
    have e3 : cN (markN k i ++ xs.drop i) = cN (markN k i) ++ (I (xs.getD i default).op :: U (xs.getD i default).n :: cN (xs.drop (i + 1))) := by
      rw [drop_cons hlt, cN, List.map_append, cells_app]; rfl
    have e4 : cN (markN k (i + 1) ++ xs.drop (i + 1)) = cN (markN k i) ++ (I (k + 2 * i) :: U (k + 2 * i + 1) :: cN (xs.drop (i + 1))) := by
      rw [markN_succ, List.append_assoc, cN, List.map_append, cells_app]; rfl
    generalize cN (xs.drop (i + 1)) = c2 at e3 e4
    generalize xs.getD i default = a at e3
    rw [e3]
    generalize cN (markN k i) = cd at hdl e4
    have p1 : ∀ z, List.take (i * 2) (cd ++ (I a.op :: U a.n :: c2)) ++ [z] ++ List.drop (i * 2 + 1) (cd ++ (I a.op :: U a.n :: c2)) = cd ++ (z :: U a.n :: c2) := fun z => splice_at (c := [I a.op]) (c' := [z]) (post := U a.n :: c2) hdl.symm rfl rfl
    have p2 : ∀ z w, List.take (i * 2 + 1) (cd ++ (z :: U a.n :: c2)) ++ [w] ++ List.drop (i * 2 + 1 + 1) (cd ++ (z :: U a.n :: c2)) = cd ++ (z :: w :: c2) := fun z w => by
      have := splice_at (pre := cd ++ [z]) (c := [U a.n]) (c' := [w]) (post := c2) (off := i * 2 + 1) (n := 1) (by simp [hdl]) rfl rfl
      simpa using this
    have w1 : IntKind.i64.wrap (k + 2 * ↑i + 1) = k + 2 * i + 1 := i64_id (by omega) (by omega)
    have w2 : IntKind.u64.wrap (k + 2 * ↑i + 1) = k + 2 * i + 1 := by rw [IntKind.wrap_u64]; omega
    (try simp (maxSteps := 1000000) (disch := first | assumption | (apply Ne.symm; assumption)) only [vz, vu, vv, eqS, eqFieldsV, ↓condV_t, ↓condV_f, tabs, reduceCtorEq, Array.toList, ↓reduceIte, Nat.reduceAdd, Nat.reduceLeDiff, Nat.reduceLT, Nat.reduceMul, Nat.reduceSub, Int.reduceToNat, Int.reduceSub, Int.reduceAdd, Int.reduceNeg, p1, p2, w1, w2])
    refine ⟨by omega, h5, by omega, by omega, h5, by simp only [List.length_take, List.length_drop, List.length_append, List.length_cons, hdl]; omega, i + 1, by omega, by omega, ?_, ?_, ?_⟩
    · rw [wk_int, i64_id (by omega) (by omega)]; omega
    · rw [wk_int, i64_id (by omega) (by omega)]; simp
    · rw [e4]; exact Heap.le_refl _
  · have : i = xs.length := by omega
    subst this
    simpa using h

theorem heldNodeS_spec (n : Nat) (hl : n ≤ 1048576) {k : Int} (h0 : 0 ≤ k) (h1 : k ≤ 1000000000) : Pu Try.prog 16 [Ns (markN k n), I k] (I (k + 2 * n)) := by
  refine Pu.of fun H => ?_
  have hml := markN_len k n
  refine W16_ok ?_; simp (maxSteps := 1000000) (disch := first | assumption | (apply Ne.symm; assumption)) only [W16, vz, vu, vv, eqS, eqFieldsV, ↓condV_t, ↓condV_f, tabs, reduceCtorEq, Array.toList, ↓reduceIte, Nat.reduceAdd, Nat.reduceLeDiff, Nat.reduceLT, Nat.reduceMul, Nat.reduceSub, Int.reduceToNat, Int.reduceSub, Int.reduceAdd, Int.reduceNeg]
  refine L16_0_rule (0 : Nat) (fun i => I (k + 2 * i)) (fun i => I i) (fun _ => H) (fun i => i ≤ n) (fun i => n - i) ⟨by omega, ?_, .refl _, Heap.le_refl _⟩ ?_
  · rw [wk_int]; simp
  intro i hi
  (try simp (maxSteps := 1000000) (disch := first | assumption | (apply Ne.symm; assumption)) only [vz, vu, vv, eqS, eqFieldsV, ↓condV_t, ↓condV_f, tabs, reduceCtorEq, Array.toList, ↓reduceIte, Nat.reduceAdd, Nat.reduceLeDiff, Nat.reduceLT, Nat.reduceMul, Nat.reduceSub, Int.reduceToNat, Int.reduceSub, Int.reduceAdd, Int.reduceNeg, B16_0, hml])
  refine ⟨fun h5 => ?_, fun h5 => ?_⟩
  · have hlt : i < n := by omega
    have e : (markN k n).getD i default = ⟨k + 2 * i, k + 2 * i + 1⟩ := by simp [markN, List.getD, hlt]
    have w1 : IntKind.i64.wrap (k + 2 * ↑i + 1) = k + 2 * i + 1 := i64_id (by omega) (by omega)
    have w2 : IntKind.u64.wrap (k + 2 * ↑i + 1) = k + 2 * i + 1 := by rw [IntKind.wrap_u64]; omega
    simp only [e, w1, w2]
    refine ⟨by omega, h5, fun h6 => absurd trivial h6, fun _ => ⟨by omega, h5, fun h6 => absurd trivial h6, fun _ => ⟨i + 1, by omega, by omega, ?_, ?_⟩⟩⟩
    · rw [wk_int, i64_id (by omega) (by omega)]; omega
    · rw [wk_int, i64_id (by omega) (by omega)]; simp
  · have : i = n := by omega
    subst this; rfl
theorem held_rowN {q n : Nat} {G : Heap} (hq : G q = some (cN (markN 1 n))) (hn : n ≤ 1048576) {K : AV → Heap → Prop} (h : K (I (1 + 2 * n)) G) : CallT Try.prog 16 [.sl q 2 0 n, I 1] G K := by
  refine Pu.thaw (heldNodeS_spec n hn (by omega) (by omega)) (.int _ _) (Wk.frz (r := q) (sz := 2) (es := (markN 1 n).map eN) (v' := .tup [Ns (markN 1 n), I 1]) (by omega) hq (szN _) (.tup (.cons ?_ (.cons (.same _) .nil)))) h
  have : FrzR q 2 ((markN 1 n).map eN) (.sl q 2 0 ((markN 1 n).map eN).length) (.p (.sl ((markN 1 n).map eN))) := .here
  rwa [List.length_map, markN_len] at this
theorem held_nilN {G : Heap} {K : AV → Heap → Prop} (h : K (I 1) G) : CallT Try.prog 16 [.p .nil, I 1] G K :=
  CallT.args ((heldNodeS_spec 0 (by omega) (k := 1) (by omega) (by omega)).use (by simpa using h)) ⟨.nil, .refl _, trivial⟩
theorem markN_nil {G : Heap} {K : AV → Heap → Prop} (h : K (I 1) G) : CallT Try.prog 15 [.p .nil, I 1] G K := by
  refine CallT.args (args' := [Ns [], I 1]) ?_ ⟨.nil, .refl _, trivial⟩
  refine W15_ok ?_; simp (maxSteps := 1000000) (disch := first | assumption | (apply Ne.symm; assumption)) only [W15, vz, vu, vv, eqS, eqFieldsV, ↓condV_t, ↓condV_f, tabs, reduceCtorEq, Array.toList, ↓reduceIte, Nat.reduceAdd, Nat.reduceLeDiff, Nat.reduceLT, Nat.reduceMul, Nat.reduceSub, Int.reduceToNat, Int.reduceSub, Int.reduceAdd, Int.reduceNeg]
  refine L15_0_rule () (fun _ => I 1) (fun _ => I 0) (fun _ => G) (fun _ => True) (fun _ => 0) ⟨trivial, .refl _, .refl _, Heap.le_refl _⟩ ?_
  rintro ⟨⟩ _
  (try simp (maxSteps := 1000000) (disch := first | assumption | (apply Ne.symm; assumption)) only [vz, vu, vv, eqS, eqFieldsV, ↓condV_t, ↓condV_f, tabs, reduceCtorEq, Array.toList, ↓reduceIte, Nat.reduceAdd, Nat.reduceLeDiff, Nat.reduceLT, Nat.reduceMul, Nat.reduceSub, Int.reduceToNat, Int.reduceSub, Int.reduceAdd, Int.reduceNeg, B15_0])
  first | exact h | simpa using h
end Go.Proofs.Ytgcklgeifdefhaa
/- Specs: terms put in the place of variables. -/
namespace Go.Proofs.Ytgcklgeifdefhaa
open Go Go.Sep Go.Pt
set_option linter.unusedSimpArgs false
set_option linter.unusedVariables false
attribute [local irreducible] CallT

theorem checkedTerm_row (w v : Int) (t : List Nd) (ht : vT t) {q : Nat} {H : Heap} (hq : H q = some (cN t)) {K : AV → Heap → Prop}
    (hb : gt w v t = false → K (.tup [.p .nil, B false]) H) (hg : gt w v t = true → K (.tup [rowN q t, B true]) H) : CallT Try.prog 30 [I w, I v, rowN q t] H K := by
  refine W30_ok ?_; simp (maxSteps := 1000000) (disch := first | assumption | (apply Ne.symm; assumption)) only [W30, vz, vu, vv, eqS, eqFieldsV, ↓condV_t, ↓condV_f, tabs, reduceCtorEq, Array.toList, ↓reduceIte, Nat.reduceAdd, Nat.reduceLeDiff, Nat.reduceLT, Nat.reduceMul, Nat.reduceSub, Int.reduceToNat, Int.reduceSub, Int.reduceAdd, Int.reduceNeg]
  refine GoodTerm_row w v t ht.1 ht.2 hq ?_
  have e : gtI w v t = gt w v t := rfl
  rw [e]
  cases h : gt w v t
  · (try simp (maxSteps := 1000000) (disch := first | assumption | (apply Ne.symm; assumption)) only [vz, vu, vv, eqS, eqFieldsV, ↓condV_t, ↓condV_f, tabs, reduceCtorEq, Array.toList, ↓reduceIte, Nat.reduceAdd, Nat.reduceLeDiff, Nat.reduceLT, Nat.reduceMul, Nat.reduceSub, Int.reduceToNat, Int.reduceSub, Int.reduceAdd, Int.reduceNeg])
    exact hb h
  · (try simp (maxSteps := 1000000) (disch := first | assumption | (apply Ne.symm; assumption)) only [vz, vu, vv, eqS, eqFieldsV, ↓condV_t, ↓condV_f, tabs, reduceCtorEq, Array.toList, ↓reduceIte, Nat.reduceAdd, Nat.reduceLeDiff, Nat.reduceLT, Nat.reduceMul, Nat.reduceSub, Int.reduceToNat, Int.reduceSub, Int.reduceAdd, Int.reduceNeg])
    exact hg h

theorem kind_pos (w v : Int) (t : List Nd) : decide (0 < kind w v t) = gt w v t := by
  cases hf : frame w v t
  · rw [kind_f hf]; simp [gt, hf]
  · cases hr : run w v [] t with
    | none => rw [kind_none hr]; simp [gt, hf, hr]
    | some p =>
      rw [kind_some hf hr]
      have ht : t ≠ [] := by intro e; subst e; simp [frame] at hf
      obtain ⟨q, e, ho⟩ := run_last ht hr
      simp only [gt, hf, hr, Bool.true_and]
      by_cases hl : p.length = 1
      · rw [if_pos hl]
        subst e
        have hq : q = [] := by
          cases q with
          | nil => rfl
          | cons a q => simp at hl
        subst hq
        have h := own_pos _ ho
        generalize Pt.own (t.getD (t.length - 1) default).op = z at h ⊢
        rcases h with h | h <;> subst h <;> rfl
      · rw [if_neg hl]; simp [hl]
theorem GoodTerm_ref (w v : Int) (t : List Nd) (ht : vT t) : Pu Try.prog 40 [I w, I v, Ns t] (B (gt w v t)) := by
  refine Pu.of fun H => ?_
  refine W40_ok ?_; simp (maxSteps := 1000000) (disch := first | assumption | (apply Ne.symm; assumption)) only [W40, vz, vu, vv, eqS, eqFieldsV, ↓condV_t, ↓condV_f, tabs, reduceCtorEq, Array.toList, ↓reduceIte, Nat.reduceAdd, Nat.reduceLeDiff, Nat.reduceLT, Nat.reduceMul, Nat.reduceSub, Int.reduceToNat, Int.reduceSub, Int.reduceAdd, Int.reduceNeg]
  refine Pu.use (l2Kind_spec w v t ht.1 ht.2) ?_
  (try simp (maxSteps := 1000000) (disch := first | assumption | (apply Ne.symm; assumption)) only [vz, vu, vv, eqS, eqFieldsV, ↓condV_t, ↓condV_f, tabs, reduceCtorEq, Array.toList, ↓reduceIte, Nat.reduceAdd, Nat.reduceLeDiff, Nat.reduceLT, Nat.reduceMul, Nat.reduceSub, Int.reduceToNat, Int.reduceSub, Int.reduceAdd, Int.reduceNeg])
  rw [kind_pos]
theorem l2Made_row (w v : Int) (t : List Nd) (ht : vT t) {q : Nat} {H : Heap} (hq : H q = some (cN t)) {K : AV → Heap → Prop}
    (hb : gt w v t = false → K (.tup [.p .nil, B false]) H) (hg : gt w v t = true → K (.tup [rowN q t, B true]) H) : CallT Try.prog 23 [I w, I v, rowN q t] H K := by
  refine W23_ok ?_; simp (maxSteps := 1000000) (disch := first | assumption | (apply Ne.symm; assumption)) only [W23, vz, vu, vv, eqS, eqFieldsV, ↓condV_t, ↓condV_f, tabs, reduceCtorEq, Array.toList, ↓reduceIte, Nat.reduceAdd, Nat.reduceLeDiff, Nat.reduceLT, Nat.reduceMul, Nat.reduceSub, Int.reduceToNat, Int.reduceSub, Int.reduceAdd, Int.reduceNeg]
  refine Pu.thaw (GoodTerm_ref w v t ht) (.bool _) (Wk.frz (r := q) (sz := 2) (es := t.map eN) (v' := .tup [I w, I v, Ns t]) (by omega) hq (szN t) (.tup (.cons (.same _) (.cons (.same _) (.cons frz_rowN .nil))))) ?_
  cases h : gt w v t
  · (try simp (maxSteps := 1000000) (disch := first | assumption | (apply Ne.symm; assumption)) only [vz, vu, vv, eqS, eqFieldsV, ↓condV_t, ↓condV_f, tabs, reduceCtorEq, Array.toList, ↓reduceIte, Nat.reduceAdd, Nat.reduceLeDiff, Nat.reduceLT, Nat.reduceMul, Nat.reduceSub, Int.reduceToNat, Int.reduceSub, Int.reduceAdd, Int.reduceNeg])
    exact hb h
  · (try simp (maxSteps := 1000000) (disch := first | assumption | (apply Ne.symm; assumption)) only [vz, vu, vv, eqS, eqFieldsV, ↓condV_t, ↓condV_f, tabs, reduceCtorEq, Array.toList, ↓reduceIte, Nat.reduceAdd, Nat.reduceLeDiff, Nat.reduceLT, Nat.reduceMul, Nat.reduceSub, Int.reduceToNat, Int.reduceSub, Int.reduceAdd, Int.reduceNeg])
    exact hg h
end Go.Proofs.Ytgcklgeifdefhaa
/- Things that own blocks: a heap as a list of them. -/
namespace Go.Sep
open Go Go.RowKit Go.Proofs.Ytgcklgeifdefhaa
set_option linter.unusedVariables false

/-- A thing that owns blocks: where, and what holds of them. -/
structure Th where
  D : List Nat
  P : Heap → Prop
  loc : ∀ {G G' : Heap}, P G → (∀ y ∈ D, ∀ b, G y = some b → G' y = some b) → P G'
  has : ∀ {G : Heap}, P G → ∀ y ∈ D, G y ≠ none
def cellT (r : Nat) (b : List AV) : Th := ⟨[r], fun G => G r = some b, fun h f => f r (List.mem_singleton.2 rfl) b h, fun h y hy => by rw [List.mem_singleton.1 hy, h]; simp⟩
/-- A heap over H that holds the things Ts, each by itself. -/
structure St (H : Heap) (Ts : List Th) (G : Heap) : Prop where
  le : Heap.le H G
  nd : (Ts.flatMap Th.D).Nodup
  fr : ∀ t ∈ Ts, ∀ y ∈ t.D, H y = none
  ok : ∀ t ∈ Ts, t.P G
theorem St.nil (H : Heap) : St H [] H := ⟨Heap.le_refl _, List.nodup_nil, fun t ht => (by cases ht), fun t ht => (by cases ht)⟩
theorem St.get {H G : Heap} {Ts : List Th} {t : Th} (s : St H Ts G) (i : Nat) (h : Ts[i]? = some t) : t.P G := s.ok t (List.mem_of_getElem? h)
theorem St.ndT {H G : Heap} {Ts : List Th} {t : Th} (s : St H Ts G) (i : Nat) (h : Ts[i]? = some t) : t.D.Nodup := by
  obtain ⟨pre, post, e⟩ := List.append_of_mem (List.mem_of_getElem? h)
  have := s.nd
  rw [e, List.flatMap_append, List.flatMap_cons, List.nodup_append, List.nodup_append] at this
  exact this.2.1.1
theorem St.push {H G G' : Heap} {Ts : List Th} (s : St H Ts G) (t : Th) (hn : New G G' t.D) (hp : t.P G') : St H (t :: Ts) G' := by
  refine ⟨Heap.le_trans s.le hn.le, ?_, ?_, ?_⟩
  · rw [List.flatMap_cons, List.nodup_append]
    refine ⟨hn.nd, s.nd, fun a ha b hb e => ?_⟩
    obtain ⟨u, hu, hbu⟩ := List.mem_flatMap.1 hb
    exact u.has (s.ok u hu) b hbu (by rw [← e]; exact hn.fr a ha)
  · intro u hu y hy
    rcases List.mem_cons.1 hu with rfl | hu
    · cases hh : H y with
      | none => rfl
      | some b => rw [← hn.fr y hy, s.le y b hh]
    · exact s.fr u hu y hy
  · intro u hu
    rcases List.mem_cons.1 hu with rfl | hu
    · exact hp
    · exact u.loc (s.ok u hu) fun y _ b hb => hn.le y b hb
theorem New.cell {G : Heap} {r : Nat} {b : List AV} (hr : G r = none) : New G (G.set r b) [r] := ⟨by simp, by simpa using hr, Heap.le_set hr⟩
theorem St.cell {H G : Heap} {Ts : List Th} (s : St H Ts G) {r : Nat} (hr : G r = none) (b : List AV) : St H (cellT r b :: Ts) (G.set r b) := s.push (cellT r b) (New.cell hr) (Heap.set_same _ _ _)
theorem St.upd {H G G' : Heap} {Ts : List Th} {t : Th} (s : St H Ts G) (i : Nat) (h : Ts[i]? = some t) (t' : Th) (hD : t'.D = t.D) (hf : ∀ y, y ∉ t.D → G' y = G y) (hp : t'.P G') : St H (Ts.set i t') G' := by
  obtain ⟨hi, hti⟩ := List.getElem?_eq_some_iff.1 h
  have e : Ts = Ts.take i ++ t :: Ts.drop (i + 1) := by rw [← hti, List.getElem_cons_drop, List.take_append_drop]
  have e' : Ts.set i t' = Ts.take i ++ t' :: Ts.drop (i + 1) := by rw [List.set_eq_take_append_cons_drop, if_pos hi]
  generalize Ts.take i = pre at e e'
  generalize Ts.drop (i + 1) = post at e e'
  rw [e']
  subst e
  have hnd := s.nd
  rw [List.flatMap_append, List.flatMap_cons] at hnd
  have hdis : ∀ u ∈ pre ++ post, ∀ y ∈ u.D, y ∉ t.D := by
    intro u hu y hy hyt
    rw [List.nodup_append, List.nodup_append] at hnd
    rcases List.mem_append.1 hu with hu | hu
    · exact hnd.2.2 y (List.mem_flatMap.2 ⟨u, hu, hy⟩) y (List.mem_append_left _ hyt) rfl
    · exact hnd.2.1.2.2 y hyt y (List.mem_flatMap.2 ⟨u, hu, hy⟩) rfl
  refine ⟨fun y b hb => ?_, by rw [List.flatMap_append, List.flatMap_cons, hD]; exact hnd, fun u hu y hy => ?_, fun u hu => ?_⟩
  · rw [hf y (fun hy => by have := s.fr t (by simp) y hy; rw [this] at hb; cases hb)]; exact s.le y b hb
  · rcases List.mem_append.1 hu with hu | hu
    · exact s.fr u (List.mem_append_left _ hu) y hy
    · rcases List.mem_cons.1 hu with rfl | hu
      · exact s.fr t (by simp) y (hD ▸ hy)
      · exact s.fr u (by simp [hu]) y hy
  · have old : ∀ u ∈ pre ++ post, u.P G' := fun u hu => u.loc (s.ok u (by
      rcases List.mem_append.1 hu with hu | hu
      · exact List.mem_append_left _ hu
      · exact List.mem_append_right _ (List.mem_cons_of_mem _ hu))) fun y hy b hb => by rw [hf y (hdis u hu y hy)]; exact hb
    rcases List.mem_append.1 hu with hu | hu
    · exact old u (List.mem_append_left _ hu)
    · rcases List.mem_cons.1 hu with rfl | hu
      · exact hp
      · exact old u (List.mem_append_right _ hu)
theorem St.drop {H G : Heap} {t : Th} {Ts : List Th} (s : St H (t :: Ts) G) : St H Ts G := ⟨s.le, (by have := s.nd; rw [List.flatMap_cons, List.nodup_append] at this; exact this.2.1), fun u hu => s.fr u (List.mem_cons_of_mem _ hu), fun u hu => s.ok u (List.mem_cons_of_mem _ hu)⟩
theorem St.perm {H G : Heap} {Ts Us : List Th} (s : St H Ts G) (h : List.Perm Ts Us) : St H Us G :=
  ⟨s.le, (h.flatMap_right _).nodup s.nd, fun t ht => s.fr t (h.mem_iff.2 ht), fun t ht => s.ok t (h.mem_iff.2 ht)⟩
theorem St.disj {H G : Heap} {t u : Th} {Ts : List Th} (s : St H (t :: u :: Ts) G) : ∀ y ∈ t.D, y ∉ u.D := by
  have := s.nd
  rw [List.flatMap_cons, List.flatMap_cons, List.nodup_append] at this
  exact fun y hy hu => this.2.2 y hy y (List.mem_append_left _ hu) rfl
theorem Th.dis : ∀ {Ts : List Th} {t u : Th} {i j : Nat}, (Ts.flatMap Th.D).Nodup → Ts[i]? = some t → Ts[j]? = some u → i < j → ∀ y ∈ t.D, y ∉ u.D
  | [], _, _, _, _, _, hi, _, _ => by simp at hi
  | a :: Ts, t, u, 0, j + 1, nd, hi, hj, _ => by
    rw [List.flatMap_cons, List.nodup_append] at nd
    simp only [List.getElem?_cons_zero, Option.some.injEq] at hi
    subst hi
    exact fun y hy hu => nd.2.2 y hy y (List.mem_flatMap.2 ⟨u, List.mem_of_getElem? (by simpa using hj), hu⟩) rfl
  | a :: Ts, t, u, i + 1, j + 1, nd, hi, hj, h => by
    rw [List.flatMap_cons, List.nodup_append] at nd
    exact Th.dis nd.2.1 (by simpa using hi) (by simpa using hj) (by omega)
theorem St.disjI {H G : Heap} {t u : Th} {Ts : List Th} (s : St H Ts G) (i j : Nat) (hi : Ts[i]? = some t) (hj : Ts[j]? = some u) (hij : i ≠ j) : ∀ y ∈ t.D, y ∉ u.D := by
  rcases Nat.lt_or_gt_of_ne hij with h | h
  · exact Th.dis s.nd hi hj h
  · exact fun y hy hu => Th.dis s.nd hj hi h y hu hy
theorem St.fresh {H G : Heap} {Ts : List Th} {t : Th} (s : St H Ts G) (i : Nat) (h : Ts[i]? = some t) {q : Nat} (hq : G q = none) : q ∉ t.D := fun hm => t.has (s.get i h) q hm hq
theorem perm_pick {α : Type} : ∀ (Ts : List α) (i : Nat) (hi : i < Ts.length), List.Perm Ts (Ts[i] :: Ts.eraseIdx i)
  | a :: Ts, 0, _ => List.Perm.refl _
  | a :: Ts, i + 1, hi => ((perm_pick Ts i (by simpa using hi)).cons a).trans (List.Perm.swap _ _ _)
theorem perm_set {α : Type} : ∀ (Ts : List α) (i : Nat) (hi : i < Ts.length) (t : α), List.Perm (Ts.set i t) (t :: Ts.eraseIdx i)
  | a :: Ts, 0, _, _ => List.Perm.refl _
  | a :: Ts, i + 1, hi, t => ((perm_set Ts i (by simpa using hi) t).cons a).trans (List.Perm.swap _ _ _)
theorem sub_flat {α β : Type} {f : α → List β} {l m : List α} (h : List.Sublist l m) : List.Sublist (l.flatMap f) (m.flatMap f) := by
  induction h with
  | slnil => exact List.Sublist.refl _
  | cons a _ ih => rw [List.flatMap_cons]; exact ih.trans (List.sublist_append_right _ _)
  | cons_cons a _ ih => rw [List.flatMap_cons, List.flatMap_cons]; exact List.Sublist.append_left ih _
theorem St.pick {H G : Heap} {Ts : List Th} {t : Th} (s : St H Ts G) (i : Nat) (h : Ts[i]? = some t) : St H (t :: Ts.eraseIdx i) G := by
  obtain ⟨hi, rfl⟩ := List.getElem?_eq_some_iff.1 h
  exact s.perm (perm_pick Ts i hi)
/-- Some things turn into others. -/
theorem St.step {H G G' : Heap} {old rest : List Th} (s : St H (old ++ rest) G) (new : List Th) (hnd : (new.flatMap Th.D).Nodup) (hfr : ∀ t ∈ new, ∀ y ∈ t.D, (∃ u ∈ old, y ∈ u.D) ∨ G y = none)
    (hf : ∀ y b, G y = some b → (∀ u ∈ old, y ∉ u.D) → G' y = some b) (hp : ∀ t ∈ new, t.P G') : St H (new ++ rest) G' := by
  have hs := s.nd
  rw [List.flatMap_append, List.nodup_append] at hs
  have hdis : ∀ u ∈ rest, ∀ y ∈ u.D, ∀ t ∈ old, y ∉ t.D := fun u hu y hy t ht hyt => hs.2.2 y (List.mem_flatMap.2 ⟨t, ht, hyt⟩) y (List.mem_flatMap.2 ⟨u, hu, hy⟩) rfl
  refine ⟨fun y b hb => ?_, ?_, fun u hu y hy => ?_, fun u hu => ?_⟩
  · refine hf y b (s.le y b hb) fun u hu hy => ?_
    rw [s.fr u (List.mem_append_left _ hu) y hy] at hb; cases hb
  · rw [List.flatMap_append, List.nodup_append]
    refine ⟨hnd, hs.2.1, fun a ha b hb e => ?_⟩
    subst e
    obtain ⟨t, ht, hat⟩ := List.mem_flatMap.1 ha
    obtain ⟨u, hu, hau⟩ := List.mem_flatMap.1 hb
    rcases hfr t ht a hat with ⟨v, hv, hav⟩ | hn
    · exact hdis u hu a hau v hv hav
    · exact u.has (s.ok u (List.mem_append_right _ hu)) a hau hn
  · rcases List.mem_append.1 hu with hu | hu
    · rcases hfr u hu y hy with ⟨v, hv, hav⟩ | hn
      · exact s.fr v (List.mem_append_left _ hv) y hav
      · cases hh : H y with
        | none => rfl
        | some b => rw [← hn, s.le y b hh]
    · exact s.fr u (List.mem_append_right _ hu) y hy
  · rcases List.mem_append.1 hu with hu | hu
    · exact hp u hu
    · exact u.loc (s.ok u (List.mem_append_right _ hu)) fun y hy b hb => hf y b hb (hdis u hu y hy)
theorem St.repl {H G G' : Heap} {Ts : List Th} {t : Th} (s : St H Ts G) (i : Nat) (h : Ts[i]? = some t) (t' : Th) (hnd : t'.D.Nodup) (hfr : ∀ y ∈ t'.D, y ∈ t.D ∨ G y = none)
    (hf : ∀ y b, G y = some b → y ∉ t.D → G' y = some b) (hp : t'.P G') : St H (Ts.set i t') G' := by
  obtain ⟨hi, -⟩ := List.getElem?_eq_some_iff.1 h
  have := St.step (old := [t]) (s.pick i h) [t'] (by simpa using hnd) (fun u hu y hy => by
    rw [List.mem_singleton] at hu; subst hu
    rcases hfr y hy with h1 | h1
    · exact .inl ⟨t, by simp, h1⟩
    · exact .inr h1) (fun y b hb hy => hf y b hb (hy t (by simp))) (fun u hu => by rw [List.mem_singleton] at hu; subst hu; exact hp)
  exact this.perm (perm_set Ts i hi t').symm
/-- A block moved on with another content: an append. -/
theorem St.moved {H G : Heap} {Ts : List Th} {q q' : Nat} {b c : List AV} (s : St H Ts G) (i : Nat) (h : Ts[i]? = some (cellT q b)) (hq : G q' = none) : St H (Ts.set i (cellT q' c)) ((G.del q).set q' c) := by
  have hg : G q = some b := s.get i h
  refine s.repl i h (cellT q' c) (by simp [cellT]) (fun y hy => ?_) (fun y bb hb hy => ?_) (Heap.set_same _ _ _)
  · simp only [cellT, List.mem_singleton] at hy; subst hy; exact .inr hq
  · simp only [cellT, List.mem_singleton] at hy
    rw [Heap.set_other (fun e => by rw [e, hq] at hb; cases hb), Heap.del_other hy]; exact hb
/-- A block written over. -/
theorem St.put {H G : Heap} {Ts : List Th} {q : Nat} {b : List AV} (s : St H Ts G) (i : Nat) (h : Ts[i]? = some (cellT q b)) (c : List AV) : St H (Ts.set i (cellT q c)) (G.set q c) := by
  refine s.repl i h (cellT q c) (by simp [cellT]) (fun y hy => .inl hy) (fun y bb hb hy => ?_) (Heap.set_same _ _ _)
  simp only [cellT, List.mem_singleton] at hy
  rw [Heap.set_other hy]; exact hb
/-- Things forgotten. -/
theorem St.sub {H G : Heap} {Ts Us : List Th} (s : St H Ts G) (h : List.Sublist Us Ts) : St H Us G :=
  ⟨s.le, List.Nodup.sublist (sub_flat h) s.nd, fun t ht => s.fr t (h.subset ht), fun t ht => s.ok t (h.subset ht)⟩
/-- What is there at last. -/
theorem St.new {H G : Heap} {Ts : List Th} (s : St H Ts G) : New H G (Ts.flatMap Th.D) := ⟨s.nd, fun y hy => by
  obtain ⟨t, ht, hyt⟩ := List.mem_flatMap.1 hy
  exact s.fr t ht y hyt, s.le⟩
/-- Freezing a part: what is given up. -/
theorem St.wkNone {H G : Heap} {Ts : List Th} (s : St H Ts G) : ∀ y b, H y = some b → ∀ t ∈ Ts, y ∉ t.D := fun y b hb t ht hy => by rw [s.fr t ht y hy] at hb; cases hb
end Go.Sep
