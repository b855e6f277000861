/- Forests: rows that own rows. -/
import Derived.Test.YtgcklgeifdefhaaGreatSepB
import Derived.Test.YtgcklgeifdefhaaGreatSepC
namespace Go.Sep
open Go Go.RowKit
set_option linter.unusedVariables false

/-- How a thing of kind α lies in cells, in a heap, with the blocks it owns. -/
abbrev Lay (α : Type) := α → List AV → Heap → List Nat → Prop
/-- Plain cells. -/
def LPl {α : Type} (e : α → List PV) : Lay α := fun a cs _ D => cs = (e a).map .p ∧ D = []
/-- Things one behind the other. -/
def LL {α : Type} (L : Lay α) : List α → List AV → Heap → List Nat → Prop
  | [], cs, _, D => cs = [] ∧ D = []
  | a :: as, cs, G, D => ∃ c1 c2 D1 D2, cs = c1 ++ c2 ∧ D = D1 ++ D2 ∧ L a c1 G D1 ∧ LL L as c2 G D2
/-- A slice that owns its row. -/
def LRow {α : Type} (L : Lay α) (sz : Nat) : List α → AV → Heap → List Nat → Prop := fun xs x G D => ∃ q cs D', x = .sl q sz 0 xs.length ∧ G q = some cs ∧ LL L xs cs G D' ∧ D = q :: D'

/-- The lay looks at its own blocks alone. -/
def Lay.Local {α : Type} (L : Lay α) : Prop := ∀ a cs G G' D, L a cs G D → (∀ y ∈ D, ∀ b, G y = some b → G' y = some b) → L a cs G' D
/-- Of so many cells, by value e. -/
def Lay.Size {α : Type} (L : Lay α) (sz : Nat) : Prop := ∀ a cs G D, L a cs G D → cs.length = sz

theorem LPl.local {α : Type} (e : α → List PV) : Lay.Local (LPl e) := fun a cs G G' D h _ => h
theorem LPl.size {α : Type} {e : α → List PV} {sz : Nat} (h : ∀ a, (e a).length = sz) : Lay.Size (LPl e) sz := fun a cs G D hl => by rw [hl.1, List.length_map, h]
theorem LL.local {α : Type} {L : Lay α} (hL : L.Local) : ∀ {as : List α} {cs : List AV} {G G' : Heap} {D : List Nat}, LL L as cs G D → (∀ y ∈ D, ∀ b, G y = some b → G' y = some b) → LL L as cs G' D
  | [], cs, G, G', D, h, _ => h
  | a :: as, cs, G, G', D, ⟨c1, c2, D1, D2, e1, e2, h1, h2⟩, hf => by
    subst e2
    exact ⟨c1, c2, D1, D2, e1, rfl, hL _ _ _ _ _ h1 (fun y hy => hf y (List.mem_append_left _ hy)), LL.local hL h2 (fun y hy => hf y (List.mem_append_right _ hy))⟩
theorem LL.size {α : Type} {L : Lay α} {sz : Nat} (hL : L.Size sz) : ∀ {as : List α} {cs : List AV} {G : Heap} {D : List Nat}, LL L as cs G D → cs.length = as.length * sz
  | [], cs, G, D, h => by rw [h.1]; simp
  | a :: as, cs, G, D, ⟨c1, c2, D1, D2, e1, e2, h1, h2⟩ => by
    rw [e1, List.length_append, hL _ _ _ _ h1, LL.size hL h2, List.length_cons, Nat.add_mul, Nat.one_mul]; omega
theorem LRow.local {α : Type} {L : Lay α} {sz : Nat} (hL : L.Local) {xs : List α} {x : AV} {G G' : Heap} {D : List Nat} (h : LRow L sz xs x G D) (hf : ∀ y ∈ D, ∀ b, G y = some b → G' y = some b) : LRow L sz xs x G' D := by
  obtain ⟨q, cs, D', e1, e2, e3, e4⟩ := h
  subst e4
  exact ⟨q, cs, D', e1, hf q (by simp) _ e2, LL.local hL e3 (fun y hy => hf y (by simp [hy])), rfl⟩
/-- The lay's blocks are there. -/
def Lay.Has {α : Type} (L : Lay α) : Prop := ∀ a cs G D, L a cs G D → ∀ y ∈ D, G y ≠ none
theorem LPl.has {α : Type} (e : α → List PV) : Lay.Has (LPl e) := fun a cs G D h y hy => by rw [h.2] at hy; cases hy
theorem LL.has {α : Type} {L : Lay α} (hL : L.Has) : ∀ {as : List α} {cs : List AV} {G : Heap} {D : List Nat}, LL L as cs G D → ∀ y ∈ D, G y ≠ none
  | [], cs, G, D, h => fun y hy => by rw [h.2] at hy; cases hy
  | a :: as, cs, G, D, ⟨c1, c2, D1, D2, e1, e2, h1, h2⟩ => fun y hy => by
    rw [e2] at hy
    rcases List.mem_append.1 hy with hy | hy
    · exact hL _ _ _ _ h1 y hy
    · exact LL.has hL h2 y hy
theorem LRow.has {α : Type} {L : Lay α} {sz : Nat} (hL : L.Has) {xs : List α} {x : AV} {G : Heap} {D : List Nat} (h : LRow L sz xs x G D) : ∀ y ∈ D, G y ≠ none := by
  obtain ⟨q, cs, D', e1, e2, e3, e4⟩ := h
  intro y hy
  rw [e4] at hy
  rcases List.mem_cons.1 hy with rfl | hy
  · rw [e2]; simp
  · exact LL.has hL e3 y hy
theorem LL.plain {α : Type} {e : α → List PV} {G : Heap} : ∀ (xs : List α), LL (LPl e) xs (cells (xs.map e)) G []
  | [] => ⟨rfl, rfl⟩
  | x :: xs => ⟨(e x).map .p, cells (xs.map e), [], [], by simp [cells], rfl, ⟨rfl, rfl⟩, LL.plain xs⟩
theorem splice_at {pre c c' post : List AV} {off n : Nat} (ho : off = pre.length) (hn : n = c'.length) (hc : c.length = c'.length) : List.take off (pre ++ (c ++ post)) ++ c' ++ List.drop (off + n) (pre ++ (c ++ post)) = pre ++ (c' ++ post) := by
  subst ho; subst hn
  rw [List.take_left', List.append_assoc]
  · congr 2
    rw [List.drop_append, ← hc]
    simp
  · rfl
theorem LL.snoc {α : Type} {L : Lay α} {a : α} {c2 : List AV} {G : Heap} {D2 : List Nat} (h2 : L a c2 G D2) : ∀ {as : List α} {c1 : List AV} {D1 : List Nat}, LL L as c1 G D1 → LL L (as ++ [a]) (c1 ++ c2) G (D1 ++ D2)
  | [], c1, D1, h => by
    obtain ⟨rfl, rfl⟩ := h
    exact ⟨c2, [], D2, [], by simp, by simp, h2, rfl, rfl⟩
  | b :: as, c1, D1, ⟨d1, d2, E1, E2, e1, e2, h1, h3⟩ => by
    subst e1; subst e2
    exact ⟨d1, d2 ++ c2, E1, E2 ++ D2, by simp, by simp, h1, LL.snoc h2 h3⟩
/-- The thing at a place, and what lies around it. -/
theorem LL.split {α : Type} [Inhabited α] {L : Lay α} {sz : Nat} (hL : L.Size sz) : ∀ {as : List α} {cs : List AV} {G : Heap} {D : List Nat} {i : Nat}, LL L as cs G D → i < as.length →
    ∃ c1 c c2 D1 Di D2, cs = c1 ++ (c ++ c2) ∧ D = D1 ++ (Di ++ D2) ∧ c1.length = i * sz ∧ L (as.getD i default) c G Di ∧ LL L (as.take i) c1 G D1 ∧ LL L (as.drop (i + 1)) c2 G D2
  | a :: as, cs, G, D, 0, ⟨c1, c2, D1, D2, e1, e2, h1, h2⟩, _ => ⟨[], c1, c2, [], D1, D2, by simpa using e1, by simpa using e2, by simp, by simpa using h1, ⟨rfl, rfl⟩, by simpa using h2⟩
  | a :: as, cs, G, D, i + 1, ⟨c1, c2, D1, D2, e1, e2, h1, h2⟩, hi => by
    obtain ⟨d1, d, d2, E1, Ei, E2, f1, f2, f3, f4, f5, f6⟩ := LL.split hL h2 (i := i) (by simpa using hi)
    subst e1; subst e2; subst f1; subst f2
    refine ⟨c1 ++ d1, d, d2, D1 ++ E1, Ei, E2, by simp, by simp, ?_, by simpa using f4, ⟨c1, d1, D1, E1, rfl, rfl, h1, f5⟩, by simpa using f6⟩
    rw [List.length_append, hL _ _ _ _ h1, f3, Nat.add_mul, Nat.one_mul]; omega
theorem LL.join {α : Type} {L : Lay α} : ∀ {as bs : List α} {c1 c2 : List AV} {G : Heap} {D1 D2 : List Nat}, LL L as c1 G D1 → LL L bs c2 G D2 → LL L (as ++ bs) (c1 ++ c2) G (D1 ++ D2)
  | [], bs, c1, c2, G, D1, D2, h1, h2 => by
    obtain ⟨rfl, rfl⟩ := h1
    simpa using h2
  | a :: as, bs, c1, c2, G, D1, D2, ⟨d1, d2, E1, E2, e1, e2, h1, h3⟩, h2 => by
    subst e1; subst e2
    exact ⟨d1, d2 ++ c2, E1, E2 ++ D2, by simp, by simp, h1, LL.join h3 h2⟩

/-! ### Telling forests by value -/
/-- A thing in a block is told by value where it lies. -/
def Lay.Frz {α : Type} (L : Lay α) (e : α → List PV) : Prop := ∀ (a : α) (cs : List AV) (G : Heap) (D : List Nat) (v : AV) (s : Nat) (pre post : List AV), L a cs G D → D.Nodup → s ∉ D → G s = some (pre ++ (cs ++ post)) →
  ∃ G', Wk v G v G' ∧ G' s = some (pre ++ ((e a).map .p ++ post)) ∧ ∀ y, y ≠ s → y ∉ D → G' y = G y

theorem LPl.frz {α : Type} (e : α → List PV) : (LPl e).Frz e := by
  rintro a cs G D v s pre post ⟨rfl, rfl⟩ _ _ hs
  exact ⟨G, .refl _ _, hs, fun _ _ _ => rfl⟩
theorem LL.frz {α : Type} {L : Lay α} {e : α → List PV} (hl : L.Local) (hf : L.Frz e) : ∀ (as : List α) (cs : List AV) (G : Heap) (D : List Nat) (v : AV) (s : Nat) (pre post : List AV), LL L as cs G D → D.Nodup → s ∉ D → G s = some (pre ++ (cs ++ post)) →
    ∃ G', Wk v G v G' ∧ G' s = some (pre ++ ((as.map e).flatten.map .p ++ post)) ∧ ∀ y, y ≠ s → y ∉ D → G' y = G y
  | [], cs, G, D, v, s, pre, post, h, hD, hs, hG => by
    obtain ⟨rfl, rfl⟩ := h
    exact ⟨G, .refl _ _, by simpa using hG, fun _ _ _ => rfl⟩
  | a :: as, cs, G, D, v, s, pre, post, ⟨c1, c2, D1, D2, e1, e2, h1, h2⟩, hD, hs, hG => by
    subst e1; subst e2
    rw [List.nodup_append] at hD
    rw [List.mem_append, not_or] at hs
    obtain ⟨G1, w1, k1, f1⟩ := hf a c1 G D1 v s pre (c2 ++ post) h1 hD.1 hs.1 (by rw [hG]; simp)
    have h2' : LL L as c2 G1 D2 := LL.local hl h2 fun y hy b hb => by rw [f1 y (fun e => hs.2 (e ▸ hy)) (fun hy1 => hD.2.2 y hy1 y hy rfl)]; exact hb
    obtain ⟨G2, w2, k2, f2⟩ := LL.frz hl hf as c2 G1 D2 v s (pre ++ (e a).map .p) post h2' hD.2.1 hs.2 (by rw [k1]; simp)
    refine ⟨G2, .trans w1 w2, by rw [k2]; simp, fun y hy hyD => ?_⟩
    rw [List.mem_append, not_or] at hyD
    rw [f2 y hy hyD.2, f1 y hy hyD.1]
theorem FrzL.refl' {r sz : Nat} {es : List (List PV)} : ∀ vs, FrzL r sz es vs vs
  | [] => .nil
  | v :: vs => .cons (.same v) (FrzL.refl' vs)
theorem FrzL.at {r sz : Nat} {es : List (List PV)} {x x' : AV} (h : FrzR r sz es x x') (post : List AV) : ∀ pre, FrzL r sz es (pre ++ ([x] ++ post)) (pre ++ ([x'] ++ post))
  | [] => .cons h (FrzL.refl' post)
  | v :: pre => .cons (.same v) (FrzL.at h post pre)
/-- A slice that owns its row, in a cell of a block. -/
theorem LRow.frzIn {α : Type} {L : Lay α} {e : α → List PV} {sz : Nat} (hpos : 0 < sz) (he : ∀ a, (e a).length = sz) (hl : L.Local) (hf : L.Frz e) {xs : List α} {x : AV} {G : Heap} {D : List Nat} {v : AV} {s : Nat} {pre post : List AV} (h : LRow L sz xs x G D) (hD : D.Nodup) (hs : s ∉ D) (hG : G s = some (pre ++ ([x] ++ post))) :
    ∃ G', Wk v G v G' ∧ G' s = some (pre ++ ([.p (.sl (xs.map e))] ++ post)) ∧ ∀ y, y ≠ s → y ∉ D → G' y = G y := by
  obtain ⟨q, cs, D', rfl, hq, hll, rfl⟩ := h
  rw [List.nodup_cons] at hD
  rw [List.mem_cons, not_or] at hs
  obtain ⟨G1, w1, k1, f1⟩ := LL.frz hl hf xs cs G D' v q [] [] hll hD.2 hD.1 (by simpa using hq)
  have hG1 : G1 s = some (pre ++ ([.sl q sz 0 xs.length] ++ post)) := by rw [f1 s hs.1 hs.2]; exact hG
  have k1' : G1 q = some ((xs.map e).flatten.map .p) := by simpa using k1
  have hr : FrzR q sz (xs.map e) (.sl q sz 0 xs.length) (.p (.sl (xs.map e))) := by
    have : FrzR q sz (xs.map e) (.sl q sz 0 (xs.map e).length) (.p (.sl (xs.map e))) := .here
    rwa [List.length_map] at this
  refine ⟨(G1.del q).set s (pre ++ ([.p (.sl (xs.map e))] ++ post)), .trans w1 (Wk.frzAt hpos k1' (sized_map he xs) hG1 hs.1 (FrzL.at hr post pre) (.same v) (by simp)), Heap.set_same _ _ _, fun y hy hyD => ?_⟩
  rw [List.mem_cons, not_or] at hyD
  rw [Heap.set_other hy, Heap.del_other hyD.1, f1 y hyD.1 hyD.2]
/-- A slice that owns its row, in a value. -/
theorem LRow.frzV {α : Type} {L : Lay α} {e : α → List PV} {sz : Nat} (hpos : 0 < sz) (he : ∀ a, (e a).length = sz) (hl : L.Local) (hf : L.Frz e) {xs : List α} {x : AV} {G : Heap} {D : List Nat} {v v' : AV} (h : LRow L sz xs x G D) (hD : D.Nodup)
    (hv : ∀ q, x = .sl q sz 0 xs.length → FrzR q sz (xs.map e) x (.p (.sl (xs.map e))) → FrzR q sz (xs.map e) v v') :
    ∃ G', Wk v G v' G' ∧ ∀ y, y ∉ D → G' y = G y := by
  obtain ⟨q, cs, D', rfl, hq, hll, rfl⟩ := h
  rw [List.nodup_cons] at hD
  obtain ⟨G1, w1, k1, f1⟩ := LL.frz hl hf xs cs G D' v q [] [] hll hD.2 hD.1 (by simpa using hq)
  have k1' : G1 q = some ((xs.map e).flatten.map .p) := by simpa using k1
  have hr : FrzR q sz (xs.map e) (.sl q sz 0 xs.length) (.p (.sl (xs.map e))) := by
    have : FrzR q sz (xs.map e) (.sl q sz 0 (xs.map e).length) (.p (.sl (xs.map e))) := .here
    rwa [List.length_map] at this
  refine ⟨G1.del q, .trans w1 (Wk.frz hpos k1' (sized_map he xs) (hv q rfl hr)), fun y hyD => ?_⟩
  rw [List.mem_cons, not_or] at hyD
  rw [Heap.del_other hyD.1, f1 y hyD.1 hyD.2]
theorem or_empty (G : Heap) (n : Nat) : G.or (shH n fun _ => none) = G := by
  funext r
  cases h : G r with
  | none => simp [Heap.or, shH, h]
  | some b => simp [Heap.or, h]
theorem or_one {G : Heap} {n q : Nat} {cs : List AV} (hG : ∀ q, n ≤ q → G q = none) (hc : ∀ c ∈ cs, shC n c = c) : G.or (shH n (Heap.set (fun _ => none) q cs)) = G.set (q + n) cs := by
  funext r
  by_cases e : r = q + n
  · subst e
    rw [Heap.set_same]
    simp only [Heap.or, shH, hG (q + n) (by omega), show n ≤ q + n by omega, if_true, Nat.add_sub_cancel, Heap.set_same, Option.map_some]
    congr 1
    exact (List.map_congr_left hc).trans (List.map_id _)
  · rw [Heap.set_other e]
    simp only [Heap.or]
    cases hg : G r with
    | some b => rfl
    | none =>
      simp only [shH]
      split
      · rw [Heap.set_other (by omega)]; rfl
      · rfl


/-! ### Forests moved on -/
/-- Cells that may be moved. -/
def Lay.Gd {α : Type} (L : Lay α) : Prop := ∀ a cs G D, L a cs G D → (∀ c ∈ cs, GdC c) ∧ ∀ y ∈ D, ∀ bs, G y = some bs → ∀ c ∈ bs, GdC c
def Lay.Sh {α : Type} (L : Lay α) : Prop := ∀ a cs G D n G0, (∀ q, n ≤ q → G0 q = none) → L a cs G D → L a (cs.map (shC n)) (Heap.or G0 (shH n G)) (D.map (· + n))
theorem LPl.gd {α : Type} {e : α → List PV} (h : ∀ a, ∀ x ∈ e a, Plain (.p x)) : Lay.Gd (LPl e) := by
  rintro a cs G D ⟨rfl, rfl⟩
  refine ⟨fun c hc => ?_, fun y hy => by cases hy⟩
  obtain ⟨x, hx, rfl⟩ := List.mem_map.1 hc
  exact .p (h a x hx)
theorem LPl.sh {α : Type} (e : α → List PV) : Lay.Sh (LPl e) := by
  rintro a cs G D n G0 _ ⟨rfl, rfl⟩
  exact ⟨by rw [List.map_map]; rfl, rfl⟩
theorem LL.gd {α : Type} {L : Lay α} (hL : L.Gd) : ∀ {as : List α} {cs : List AV} {G : Heap} {D : List Nat}, LL L as cs G D → (∀ c ∈ cs, GdC c) ∧ ∀ y ∈ D, ∀ bs, G y = some bs → ∀ c ∈ bs, GdC c
  | [], _, _, _, ⟨e1, e2⟩ => by subst e1; subst e2; exact ⟨(fun c hc => by cases hc), (fun y hy => by cases hy)⟩
  | a :: as, _, _, _, ⟨c1, c2, D1, D2, e1, e2, h1, h2⟩ => by
    subst e1; subst e2
    obtain ⟨a1, a2⟩ := hL _ _ _ _ h1
    obtain ⟨b1, b2⟩ := LL.gd hL h2
    refine ⟨fun c hc => ?_, fun y hy => ?_⟩
    · rcases List.mem_append.1 hc with hc | hc
      · exact a1 c hc
      · exact b1 c hc
    · rcases List.mem_append.1 hy with hy | hy
      · exact a2 y hy
      · exact b2 y hy
theorem LL.sh {α : Type} {L : Lay α} (hL : L.Sh) {n : Nat} {G0 : Heap} (h0 : ∀ q, n ≤ q → G0 q = none) : ∀ {as : List α} {cs : List AV} {G : Heap} {D : List Nat}, LL L as cs G D → LL L as (cs.map (shC n)) (Heap.or G0 (shH n G)) (D.map (· + n))
  | [], _, _, _, ⟨e1, e2⟩ => by subst e1; subst e2; exact ⟨rfl, rfl⟩
  | a :: as, _, _, _, ⟨c1, c2, D1, D2, e1, e2, h1, h2⟩ => by
    subst e1; subst e2
    exact ⟨_, _, _, _, List.map_append, List.map_append, hL _ _ _ _ n G0 h0 h1, LL.sh hL h0 h2⟩
theorem or_sh {G0 G : Heap} {n q : Nat} (h0 : ∀ q, n ≤ q → G0 q = none) : (Heap.or G0 (shH n G)) (q + n) = (G q).map (List.map (shC n)) := by
  simp only [Heap.or, shH, h0 (q + n) (by omega), show n ≤ q + n by omega, if_true, Nat.add_sub_cancel]
theorem LRow.gd {α : Type} {L : Lay α} {sz : Nat} (hL : L.Gd) {xs : List α} {x : AV} {G : Heap} {D : List Nat} (h : LRow L sz xs x G D) : GdC x ∧ ∀ y ∈ D, ∀ bs, G y = some bs → ∀ c ∈ bs, GdC c := by
  obtain ⟨q, cs, D', rfl, hq, hll, rfl⟩ := h
  obtain ⟨h1, h2⟩ := LL.gd hL hll
  refine ⟨.inl ⟨_, _, _, _, rfl⟩, fun y hy bs hb => ?_⟩
  rcases List.mem_cons.1 hy with rfl | hy
  · rw [hq] at hb; cases hb; exact h1
  · exact h2 y hy bs hb
theorem LRow.sh {α : Type} {L : Lay α} {sz : Nat} (hL : L.Sh) {n : Nat} {G0 : Heap} (h0 : ∀ q, n ≤ q → G0 q = none) {xs : List α} {x : AV} {G : Heap} {D : List Nat} (h : LRow L sz xs x G D) : LRow L sz xs (shC n x) (Heap.or G0 (shH n G)) (D.map (· + n)) := by
  obtain ⟨q, cs, D', rfl, hq, hll, rfl⟩ := h
  exact ⟨q + n, cs.map (shC n), D'.map (· + n), rfl, by rw [or_sh h0, hq]; rfl, LL.sh hL h0 hll, rfl⟩
/-- A heap's blocks of a list alone. -/
def only (D : List Nat) (G : Heap) : Heap := fun y => if y ∈ D then G y else none
theorem only_le (D : List Nat) (G : Heap) : Heap.le (only D G) G := fun y b hb => by
  unfold only at hb; split at hb
  · exact hb
  · cases hb
theorem only_in {D : List Nat} {G : Heap} {y : Nat} (h : y ∈ D) : only D G y = G y := if_pos h
theorem only_out {D : List Nat} {G : Heap} {y : Nat} (h : y ∉ D) : only D G y = none := if_neg h
end Go.Sep
