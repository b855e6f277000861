/- Texts laid together: Mt0 Lb2 Lt3 Lt4 Ma2 Ma3 Ma4 Mg0 Ss1 Lay. -/
import Derived.Test.YtolffbcnbcjeaaaPkz5
import Derived.Sort.Grow
import Derived.Shelf.SlGeneric
import Derived.Shelf.SlLaysNS
import Derived.Test.YtolffbcnbcjeaaaProg
set_option linter.unusedVariables false
set_option linter.unusedSimpArgs false
open Nat renaming reduceAdd → ν1, reduceLeDiff → ν2, reduceLT → ν3, reduceMul → ν4, reduceSub → ν5
open Int renaming reduceToNat → ι1, reduceSub → ι2, reduceAdd → ι3, reduceNeg → ι4
open Array renaming toList → ι5
open Ne renaming symm → ν6
open List renaming forall_mem_cons → ν7
namespace Go.Sep
open Go Go.RowKit Go.Proofs.Ytolffbcnbcjeaaa
structure Th where
  D : List Nat
  P : Heap → Prop
  loc : ∀ {G G' : Heap}, P G → (∀ y ∈ D, ∀ b, G y = some b → G' y = some b) → P G'
  has : ∀ {G : Heap}, P G → ∀ y ∈ D, G y ≠ none
def cellT (r : Nat) (b : List AV) : Th := ⟨[r], fun G => G r = some b, fun h f => f r (List.mem_singleton.2 rfl) b h, fun h y hy => by rw [List.mem_singleton.1 hy, h]; simp⟩
structure St (H : Heap) (Ts : List Th) (G : Heap) : Prop where
  le : Heap.le H G
  nd : (Ts.flatMap Th.D).Nodup
  fr : ∀ t ∈ Ts, ∀ y ∈ t.D, H y = none
  ok : ∀ t ∈ Ts, t.P G
theorem St.nil (H : Heap) : St H [] H := ⟨Heap.le_refl _, List.nodup_nil, fun t ht => (by cases ht), fun t ht => (by cases ht)⟩
theorem St.get {H G : Heap} {Ts : List Th} {t : Th} (s : St H Ts G) (i : Nat) (h : Ts[i]? = some t) : t.P G := s.ok t (List.mem_of_getElem? h)
theorem St.ndT {H G : Heap} {Ts : List Th} {t : Th} (s : St H Ts G) (i : Nat) (h : Ts[i]? = some t) : t.D.Nodup := by
  obtain ⟨pre, post, e⟩ := List.append_of_mem (List.mem_of_getElem? h)
  have := s.nd
  rw [e, List.flatMap_append, List.flatMap_cons, List.nodup_append, List.nodup_append] at this
  exact this.2.1.1
theorem St.push {H G G' : Heap} {Ts : List Th} (s : St H Ts G) (t : Th) (hn : New G G' t.D) (hp : t.P G') : St H (t :: Ts) G' := by
  refine ⟨Heap.le_trans s.le hn.le, ?_, ?_, ?_⟩
  · rw [List.flatMap_cons, List.nodup_append]
    refine ⟨hn.nd, s.nd, fun a ha b hb e => ?_⟩
    obtain ⟨u, hu, hbu⟩ := List.mem_flatMap.1 hb
    exact u.has (s.ok u hu) b hbu (by rw [← e]; exact hn.fr a ha)
  · intro u hu y hy
    rcases List.mem_cons.1 hu with rfl | hu
    · cases hh : H y with
      | none => rfl
      | some b => rw [← hn.fr y hy, s.le y b hh]
    · exact s.fr u hu y hy
  · intro u hu
    rcases List.mem_cons.1 hu with rfl | hu
    · exact hp
    · exact u.loc (s.ok u hu) fun y _ b hb => hn.le y b hb
theorem New.cell {G : Heap} {r : Nat} {b : List AV} (hr : G r = none) : New G (G.set r b) [r] := ⟨by simp, by simpa using hr, Heap.le_set hr⟩
theorem St.cell {H G : Heap} {Ts : List Th} (s : St H Ts G) {r : Nat} (hr : G r = none) (b : List AV) : St H (cellT r b :: Ts) (G.set r b) := s.push (cellT r b) (New.cell hr) (Heap.set_same _ _ _)
theorem St.upd {H G G' : Heap} {Ts : List Th} {t : Th} (s : St H Ts G) (i : Nat) (h : Ts[i]? = some t) (t' : Th) (hD : t'.D = t.D) (hf : ∀ y, y ∉ t.D → G' y = G y) (hp : t'.P G') : St H (Ts.set i t') G' := by
  obtain ⟨hi, hti⟩ := List.getElem?_eq_some_iff.1 h
  have e : Ts = Ts.take i ++ t :: Ts.drop (i + 1) := by rw [← hti, List.getElem_cons_drop, List.take_append_drop]
  have e' : Ts.set i t' = Ts.take i ++ t' :: Ts.drop (i + 1) := by rw [List.set_eq_take_append_cons_drop, if_pos hi]
  generalize Ts.take i = pre at e e'
  generalize Ts.drop (i + 1) = post at e e'
  rw [e']
  subst e
  have hnd := s.nd
  rw [List.flatMap_append, List.flatMap_cons] at hnd
  have hdis : ∀ u ∈ pre ++ post, ∀ y ∈ u.D, y ∉ t.D := by
    intro u hu y hy hyt
    rw [List.nodup_append, List.nodup_append] at hnd
    rcases List.mem_append.1 hu with hu | hu
    · exact hnd.2.2 y (List.mem_flatMap.2 ⟨u, hu, hy⟩) y (List.mem_append_left _ hyt) rfl
    · exact hnd.2.1.2.2 y hyt y (List.mem_flatMap.2 ⟨u, hu, hy⟩) rfl
  refine ⟨fun y b hb => ?_, by rw [List.flatMap_append, List.flatMap_cons, hD]; exact hnd, fun u hu y hy => ?_, fun u hu => ?_⟩
  · rw [hf y (fun hy => by have := s.fr t (by simp) y hy; rw [this] at hb; cases hb)]; exact s.le y b hb
  · rcases List.mem_append.1 hu with hu | hu
    · exact s.fr u (List.mem_append_left _ hu) y hy
    · rcases List.mem_cons.1 hu with rfl | hu
      · exact s.fr t (by simp) y (hD ▸ hy)
      · exact s.fr u (by simp [hu]) y hy
  · have old : ∀ u ∈ pre ++ post, u.P G' := fun u hu => u.loc (s.ok u (by
      rcases List.mem_append.1 hu with hu | hu
      · exact List.mem_append_left _ hu
      · exact List.mem_append_right _ (List.mem_cons_of_mem _ hu))) fun y hy b hb => by rw [hf y (hdis u hu y hy)]; exact hb
    rcases List.mem_append.1 hu with hu | hu
    · exact old u (List.mem_append_left _ hu)
    · rcases List.mem_cons.1 hu with rfl | hu
      · exact hp
      · exact old u (List.mem_append_right _ hu)
theorem St.drop {H G : Heap} {t : Th} {Ts : List Th} (s : St H (t :: Ts) G) : St H Ts G := ⟨s.le, (by have := s.nd; rw [List.flatMap_cons, List.nodup_append] at this; exact this.2.1), fun u hu => s.fr u (List.mem_cons_of_mem _ hu), fun u hu => s.ok u (List.mem_cons_of_mem _ hu)⟩
theorem St.perm {H G : Heap} {Ts Us : List Th} (s : St H Ts G) (h : List.Perm Ts Us) : St H Us G :=
  ⟨s.le, (h.flatMap_right _).nodup s.nd, fun t ht => s.fr t (h.mem_iff.2 ht), fun t ht => s.ok t (h.mem_iff.2 ht)⟩
theorem St.disj {H G : Heap} {t u : Th} {Ts : List Th} (s : St H (t :: u :: Ts) G) : ∀ y ∈ t.D, y ∉ u.D := by
  have := s.nd
  rw [List.flatMap_cons, List.flatMap_cons, List.nodup_append] at this
  exact fun y hy hu => this.2.2 y hy y (List.mem_append_left _ hu) rfl
theorem Th.dis : ∀ {Ts : List Th} {t u : Th} {i j : Nat}, (Ts.flatMap Th.D).Nodup → Ts[i]? = some t → Ts[j]? = some u → i < j → ∀ y ∈ t.D, y ∉ u.D
  | [], _, _, _, _, _, hi, _, _ => by simp at hi
  | a :: Ts, t, u, 0, j + 1, nd, hi, hj, _ => by
    rw [List.flatMap_cons, List.nodup_append] at nd
    simp only [List.getElem?_cons_zero, Option.some.injEq] at hi
    subst hi
    exact fun y hy hu => nd.2.2 y hy y (List.mem_flatMap.2 ⟨u, List.mem_of_getElem? (by simpa using hj), hu⟩) rfl
  | a :: Ts, t, u, i + 1, j + 1, nd, hi, hj, h => by
    rw [List.flatMap_cons, List.nodup_append] at nd
    exact Th.dis nd.2.1 (by simpa using hi) (by simpa using hj) (by omega)
theorem St.disjI {H G : Heap} {t u : Th} {Ts : List Th} (s : St H Ts G) (i j : Nat) (hi : Ts[i]? = some t) (hj : Ts[j]? = some u) (hij : i ≠ j) : ∀ y ∈ t.D, y ∉ u.D := by
  rcases Nat.lt_or_gt_of_ne hij with h | h
  · exact Th.dis s.nd hi hj h
  · exact fun y hy hu => Th.dis s.nd hj hi h y hu hy
theorem St.fresh {H G : Heap} {Ts : List Th} {t : Th} (s : St H Ts G) (i : Nat) (h : Ts[i]? = some t) {q : Nat} (hq : G q = none) : q ∉ t.D := fun hm => t.has (s.get i h) q hm hq
theorem perm_pick {α : Type} : ∀ (Ts : List α) (i : Nat) (hi : i < Ts.length), List.Perm Ts (Ts[i] :: Ts.eraseIdx i)
  | a :: Ts, 0, _ => List.Perm.refl _
  | a :: Ts, i + 1, hi => ((perm_pick Ts i (by simpa using hi)).cons a).trans (List.Perm.swap _ _ _)
theorem perm_set {α : Type} : ∀ (Ts : List α) (i : Nat) (hi : i < Ts.length) (t : α), List.Perm (Ts.set i t) (t :: Ts.eraseIdx i)
  | a :: Ts, 0, _, _ => List.Perm.refl _
  | a :: Ts, i + 1, hi, t => ((perm_set Ts i (by simpa using hi) t).cons a).trans (List.Perm.swap _ _ _)
theorem sub_flat {α β : Type} {f : α → List β} {l m : List α} (h : List.Sublist l m) : List.Sublist (l.flatMap f) (m.flatMap f) := by
  induction h with
  | slnil => exact List.Sublist.refl _
  | cons a _ ih => rw [List.flatMap_cons]; exact ih.trans (List.sublist_append_right _ _)
  | cons_cons a _ ih => rw [List.flatMap_cons, List.flatMap_cons]; exact List.Sublist.append_left ih _
theorem St.pick {H G : Heap} {Ts : List Th} {t : Th} (s : St H Ts G) (i : Nat) (h : Ts[i]? = some t) : St H (t :: Ts.eraseIdx i) G := by
  obtain ⟨hi, rfl⟩ := List.getElem?_eq_some_iff.1 h
  exact s.perm (perm_pick Ts i hi)
theorem St.step {H G G' : Heap} {old rest : List Th} (s : St H (old ++ rest) G) (new : List Th) (hnd : (new.flatMap Th.D).Nodup) (hfr : ∀ t ∈ new, ∀ y ∈ t.D, (∃ u ∈ old, y ∈ u.D) ∨ G y = none)
    (hf : ∀ y b, G y = some b → (∀ u ∈ old, y ∉ u.D) → G' y = some b) (hp : ∀ t ∈ new, t.P G') : St H (new ++ rest) G' := by
  have hs := s.nd
  rw [List.flatMap_append, List.nodup_append] at hs
  have hdis : ∀ u ∈ rest, ∀ y ∈ u.D, ∀ t ∈ old, y ∉ t.D := fun u hu y hy t ht hyt => hs.2.2 y (List.mem_flatMap.2 ⟨t, ht, hyt⟩) y (List.mem_flatMap.2 ⟨u, hu, hy⟩) rfl
  refine ⟨fun y b hb => ?_, ?_, fun u hu y hy => ?_, fun u hu => ?_⟩
  · refine hf y b (s.le y b hb) fun u hu hy => ?_
    rw [s.fr u (List.mem_append_left _ hu) y hy] at hb; cases hb
  · rw [List.flatMap_append, List.nodup_append]
    refine ⟨hnd, hs.2.1, fun a ha b hb e => ?_⟩
    subst e
    obtain ⟨t, ht, hat⟩ := List.mem_flatMap.1 ha
    obtain ⟨u, hu, hau⟩ := List.mem_flatMap.1 hb
    rcases hfr t ht a hat with ⟨v, hv, hav⟩ | hn
    · exact hdis u hu a hau v hv hav
    · exact u.has (s.ok u (List.mem_append_right _ hu)) a hau hn
  · rcases List.mem_append.1 hu with hu | hu
    · rcases hfr u hu y hy with ⟨v, hv, hav⟩ | hn
      · exact s.fr v (List.mem_append_left _ hv) y hav
      · cases hh : H y with
        | none => rfl
        | some b => rw [← hn, s.le y b hh]
    · exact s.fr u (List.mem_append_right _ hu) y hy
  · rcases List.mem_append.1 hu with hu | hu
    · exact hp u hu
    · exact u.loc (s.ok u (List.mem_append_right _ hu)) fun y hy b hb => hf y b hb (hdis u hu y hy)
theorem St.repl {H G G' : Heap} {Ts : List Th} {t : Th} (s : St H Ts G) (i : Nat) (h : Ts[i]? = some t) (t' : Th) (hnd : t'.D.Nodup) (hfr : ∀ y ∈ t'.D, y ∈ t.D ∨ G y = none)
    (hf : ∀ y b, G y = some b → y ∉ t.D → G' y = some b) (hp : t'.P G') : St H (Ts.set i t') G' := by
  obtain ⟨hi, -⟩ := List.getElem?_eq_some_iff.1 h
  have := St.step (old := [t]) (s.pick i h) [t'] (by simpa using hnd) (fun u hu y hy => by
    rw [List.mem_singleton] at hu; subst hu
    rcases hfr y hy with h1 | h1
    · exact .inl ⟨t, by simp, h1⟩
    · exact .inr h1) (fun y b hb hy => hf y b hb (hy t (by simp))) (fun u hu => by rw [List.mem_singleton] at hu; subst hu; exact hp)
  exact this.perm (perm_set Ts i hi t').symm
theorem St.moved {H G : Heap} {Ts : List Th} {q q' : Nat} {b c : List AV} (s : St H Ts G) (i : Nat) (h : Ts[i]? = some (cellT q b)) (hq : G q' = none) : St H (Ts.set i (cellT q' c)) ((G.del q).set q' c) := by
  have hg : G q = some b := s.get i h
  refine s.repl i h (cellT q' c) (by simp [cellT]) (fun y hy => ?_) (fun y bb hb hy => ?_) (Heap.set_same _ _ _)
  · simp only [cellT, List.mem_singleton] at hy; subst hy; exact .inr hq
  · simp only [cellT, List.mem_singleton] at hy
    rw [Heap.set_other (fun e => by rw [e, hq] at hb; cases hb), Heap.del_other hy]; exact hb
theorem St.put {H G : Heap} {Ts : List Th} {q : Nat} {b : List AV} (s : St H Ts G) (i : Nat) (h : Ts[i]? = some (cellT q b)) (c : List AV) : St H (Ts.set i (cellT q c)) (G.set q c) := by
  refine s.repl i h (cellT q c) (by simp [cellT]) (fun y hy => .inl hy) (fun y bb hb hy => ?_) (Heap.set_same _ _ _)
  simp only [cellT, List.mem_singleton] at hy
  rw [Heap.set_other hy]; exact hb
theorem St.sub {H G : Heap} {Ts Us : List Th} (s : St H Ts G) (h : List.Sublist Us Ts) : St H Us G :=
  ⟨s.le, List.Nodup.sublist (sub_flat h) s.nd, fun t ht => s.fr t (h.subset ht), fun t ht => s.ok t (h.subset ht)⟩
theorem St.erase {H G : Heap} {Ts : List Th} (s : St H Ts G) (i : Nat) : St H (Ts.eraseIdx i) G := s.sub (List.eraseIdx_sublist Ts i)
theorem St.new {H G : Heap} {Ts : List Th} (s : St H Ts G) : New H G (Ts.flatMap Th.D) := ⟨s.nd, fun y hy => by
  obtain ⟨t, ht, hyt⟩ := List.mem_flatMap.1 hy
  exact s.fr t ht y hyt, s.le⟩
theorem St.wkNone {H G : Heap} {Ts : List Th} (s : St H Ts G) : ∀ y b, H y = some b → ∀ t ∈ Ts, y ∉ t.D := fun y b hb t ht hy => by rw [s.fr t ht y hy] at hb; cases hb
end Go.Sep
namespace Go.Proofs.Ytolffbcnbcjeaaa
open Go Go.Sep
attribute [local irreducible] CallT
abbrev fI (n : Int) : PV := .int .i64 n
abbrev rowP {α : Type} (q : Nat) (xs : List α) : AV := .sl q 1 0 xs.length
abbrev cP {α : Type} (f : α → PV) (xs : List α) : List AV := xs.map fun x => AV.p (f x)
abbrev vP {α : Type} (f : α → PV) (xs : List α) : AV := .p (.sl (xs.map fun x => [f x]))
theorem cells_P {α : Type} (f : α → PV) (xs : List α) : cells (xs.map fun x => [f x]) = cP f xs := by
  induction xs with
  | nil => rfl
  | cons x xs ih => simp only [cells, List.map_cons, List.flatten_cons, List.map_append] at ih ⊢; rw [ih]; rfl
theorem flat_P {α : Type} (f : α → PV) (xs : List α) : (xs.map fun x => [f x]).flatten.map AV.p = cP f xs := cells_P f xs
theorem szP {α : Type} (f : α → PV) (xs : List α) : Sized 1 (xs.map fun x => [f x]) := sized_map (f := fun x => [f x]) (fun _ => rfl) xs
def Base {α : Type} (f : α → PV) (x : AV) (xs : List α) (G : Heap) : Prop := (x = .p .nil ∧ xs = []) ∨ ∃ q, x = rowP q xs ∧ G q = some (cP f xs)
theorem app_row {α : Type} {f : α → PV} {tab : Tab} {t e : Nat} {d ed : TD} {q : Nat} {xs ys : List α} {G : Heap} {K : AV → Heap → Prop} (h1 : tab t = some d) (h2 : d.k = .slice e) (h3 : tab e = some ed) (h6 : ed.size = 1) (h7 : ed.bytes ≤ 64)
    (hq : G q = some (cP f xs)) (hl : xs.length + ys.length ≤ 1000000000)
    (h : ∀ q', G q' = none → K (rowP q' (xs ++ ys)) ((G.del q).set q' (cP f (xs ++ ys)))) : appendV tab t t (rowP q xs) (vP f ys) G (wkK K) := by
  have := app_own (x := vP f ys) (r := q) (es := xs.map fun x => [f x]) (fs := ys.map fun x => [f x]) (H := G) (K := K) h1 h2 h3 h1 h2 h6 (bz := ed.bytes) rfl (.inl rfl) (by rw [cells_P]; exact hq) (szP f xs) (szP f ys)
    (by simp only [List.length_map]; exact Nat.le_trans (Nat.mul_le_mul hl h7) (by omega)) (by simp only [List.length_map]; omega) fun r' hr' => by
      have := h r' hr'
      rw [← List.map_append, cells_P]
      simpa only [own, List.length_map] using this
  simpa only [own, List.length_map] using this
theorem app_base {α : Type} {f : α → PV} {tab : Tab} {t e : Nat} {d ed : TD} {x : AV} {xs ys : List α} {G : Heap} {K : AV → Heap → Prop} (h1 : tab t = some d) (h2 : d.k = .slice e) (h3 : tab e = some ed) (h6 : ed.size = 1) (h7 : ed.bytes ≤ 64)
    (hb : Base f x xs G) (hl : xs.length + ys.length ≤ 1000000000)
    (h : ∀ q' G1, G q' = none → G1 q' = some (cP f (xs ++ ys)) → (∀ y, y ≠ q' → (∀ q, x = rowP q xs → y ≠ q) → G1 y = G y) → K (rowP q' (xs ++ ys)) G1) : appendV tab t t x (vP f ys) G (wkK K) := by
  rcases hb with ⟨rfl, rfl⟩ | ⟨q, rfl, hq⟩
  · simp only [appendV, h1, h2, h3, h6, srcV, baseV]
    refine ⟨szP f ys, ?_, ?_, ?_, fun r' hr' => wkK.keep ?_⟩
    · have hl2 : 0 + (ys.map fun x => [f x]).length ≤ 1000000000 := by simpa using hl
      exact Nat.le_trans (Nat.mul_le_mul hl2 h7) (by omega)
    · simp only [List.length_map]; simp at hl; omega
    · exact cells_cell _
    · have := h r' (G.set r' (cP f ys)) hr' (by rw [Heap.set_same]; rfl) (fun y hy _ => Heap.set_other hy)
      rw [flat_P]
      simpa using this
  · refine app_row h1 h2 h3 h6 h7 hq hl fun q' hq' => ?_
    have hne : q' ≠ q := by rintro rfl; rw [hq] at hq'; cases hq'
    refine h q' _ hq' (Heap.set_same _ _ _) fun y hy hy2 => ?_
    rw [Heap.set_other hy, Heap.del_other (hy2 q rfl)]
structure Own1 {α : Type} (f : α → PV) (H0 G : Heap) (r : Nat) (pre : List AV) (x : AV) (xs : List α) : Prop where
  hr : G r = some (pre ++ [x])
  base : (x = .p .nil ∧ xs = []) ∨ ∃ q, x = rowP q xs ∧ G q = some (cP f xs) ∧ H0 q = none ∧ q ≠ r
  le : Heap.le H0 G
  nr : H0 r = none
theorem Own1.alloc {α : Type} {f : α → PV} {H0 G : Heap} {r : Nat} {pre : List AV} {x : AV} {xs : List α} (o : Own1 f H0 G r pre x xs) {q : Nat} (hq : G q = none) (b : List AV) : Own1 f H0 (G.set q b) r pre x xs := by
  have ne : ∀ {y c}, G y = some c → y ≠ q := fun h e => by rw [e, hq] at h; cases h
  refine ⟨by rw [Heap.set_other (ne o.hr)]; exact o.hr, ?_, Heap.le_setN o.le ?_, o.nr⟩
  · rcases o.base with h | ⟨q1, h1, h2, h3, h4⟩
    · exact .inl h
    · exact .inr ⟨q1, h1, by rw [Heap.set_other (ne h2)]; exact h2, h3, h4⟩
  · cases hh : H0 q with
    | none => rfl
    | some c => rw [o.le q c hh] at hq; cases hq
theorem Own1.app {α : Type} {f : α → PV} {H0 G : Heap} {r : Nat} {pre : List AV} {x : AV} {xs : List α} (o : Own1 f H0 G r pre x xs) {tab : Tab} {t e : Nat} {d ed : TD} {ys : List α} {K : AV → Heap → Prop} (h1 : tab t = some d) (h2 : d.k = .slice e) (h3 : tab e = some ed) (h6 : ed.size = 1) (h7 : ed.bytes ≤ 64)
    (hl : xs.length + ys.length ≤ 1000000000)
    (h : ∀ q' m G1, G1 r = some (pre ++ [x]) → Own1 f H0 (G1.set r (pre ++ [.sl q' 1 0 m])) r pre (.sl q' 1 0 m) (xs ++ ys) → (∀ y b, y ≠ r → H0 y = some b → G1 y = some b) → K (.sl q' 1 0 m) G1) : appendV tab t t x (vP f ys) G (wkK K) := by
  refine app_base (f := f) h1 h2 h3 h6 h7 (xs := xs) ?_ hl fun q' G1 hq' hG1 hfr => ?_
  · rcases o.base with h | ⟨q1, h1, h2, h3, h4⟩
    · exact .inl h
    · exact .inr ⟨q1, h1, h2⟩
  · have hrq : r ≠ q' := fun e => by rw [← e, o.hr] at hq'; cases hq'
    have hxr : ∀ q, x = rowP q xs → H0 q = none ∧ q ≠ r := by
      intro q hx
      rcases o.base with ⟨h, _⟩ | ⟨q1, h1, h2, h3, h4⟩
      · rw [h] at hx; cases hx
      · rw [h1] at hx; cases hx; exact ⟨h3, h4⟩
    have hle1 : ∀ y b, H0 y = some b → G1 y = some b := by
      intro y b hy
      rw [hfr y (fun e => by rw [← e, o.le y b hy] at hq'; cases hq') (fun q hx e => by rw [e, (hxr q hx).1] at hy; cases hy)]
      exact o.le y b hy
    have hnq : H0 q' = none := by
      cases hh : H0 q' with
      | none => rfl
      | some c => rw [o.le q' c hh] at hq'; cases hq'
    refine h q' _ G1 ?_ ⟨Heap.set_same _ _ _, .inr ⟨q', rfl, by rw [Heap.set_other hrq.symm]; exact hG1, hnq, hrq.symm⟩, ?_, o.nr⟩ fun y b _ hy => hle1 y b hy
    · rw [hfr r hrq (fun q hx e => (hxr q hx).2 e.symm)]; exact o.hr
    · refine Heap.le_setN (fun y b hy => hle1 y b hy) o.nr
theorem Own1.wk {α : Type} {f : α → PV} {H0 G : Heap} {r : Nat} {pre : List AV} {x : AV} {xs : List α} (o : Own1 f H0 G r pre x xs) {v v' : AV}
    (hn : x = .p .nil → xs = [] → AV.wk v v') (hf : ∀ q, x = rowP q xs → FrzR q 1 (xs.map fun x => [f x]) v v') (hp : ∀ q, q ≠ r → FrzL q 1 (xs.map fun x => [f x]) (pre ++ [rowP q xs]) (pre ++ [vP f xs])) :
    ∃ G', Wk v G v' G' ∧ G' r = some (pre ++ [vP f xs]) ∧ Heap.le H0 G' := by
  rcases o.base with ⟨rfl, rfl⟩ | ⟨q, rfl, hq, hq0, hqr⟩
  · refine ⟨G.set r (pre ++ [vP f []]), .trans (.val (hn rfl rfl)) (.cell o.hr (by simp) fun i a a' ha ha' => ?_), Heap.set_same _ _ _, Heap.le_setN o.le o.nr⟩
    by_cases hi : i < pre.length
    · rw [List.getElem?_append_left hi] at ha ha'
      rw [ha] at ha'; cases ha'; exact .refl _
    · rw [List.getElem?_append_right (by omega)] at ha ha'
      cases hj : i - pre.length with
      | zero =>
        rw [hj] at ha ha'
        simp at ha ha'
        subst ha; subst ha'; exact .nil
      | succ j => rw [hj] at ha; simp at ha
  · refine ⟨(G.del q).set r (pre ++ [vP f xs]), Wk.frzAt (r := q) (s := r) (sz := 1) (es := xs.map fun x => [f x]) (by omega) (by rw [flat_P]; exact hq) (szP f xs) o.hr hqr.symm (hp q hqr) (hf q rfl) (by simp), Heap.set_same _ _ _, ?_⟩
    exact Heap.le_setN (Heap.le_del o.le hq0) o.nr
theorem FrzL.refl {r sz : Nat} {es : List (List PV)} : ∀ vs, FrzL r sz es vs vs
  | [] => .nil
  | v :: vs => .cons (.same v) (FrzL.refl vs)
theorem FrzL.app {r sz : Nat} {es : List (List PV)} : ∀ {vs ws ws' : List AV}, FrzL r sz es ws ws' → FrzL r sz es (vs ++ ws) (vs ++ ws')
  | [], _, _, h => h
  | v :: vs, _, _, h => .cons (.same v) (FrzL.app (vs := vs) h)
theorem frz_row {α : Type} {f : α → PV} {q : Nat} {xs : List α} : FrzR q 1 (xs.map fun x => [f x]) (rowP q xs) (vP f xs) := by
  have : FrzR q 1 (xs.map fun x => [f x]) (.sl q 1 0 (xs.map fun x => [f x]).length) (.p (.sl (xs.map fun x => [f x]))) := .here
  rwa [List.length_map] at this
end Go.Proofs.Ytolffbcnbcjeaaa
namespace Go.Proofs.Ytolffbcnbcjeaaa
open Go Go.Sep Go.Pt
attribute [local irreducible] CallT
def LPg (p : Pg) (v : AV) (G : Heap) (D : List Nat) : Prop := ∃ x y D1 D2, v = .agg [I p.wide, I p.vars, x, y] ∧ D = D1 ++ D2 ∧ LN p.start x G D1 ∧ LRow LCm 2 p.cmds y G D2
theorem LPg.local {p : Pg} {v : AV} {G G' : Heap} {D : List Nat} (h : LPg p v G D) (hf : ∀ y ∈ D, ∀ b, G y = some b → G' y = some b) : LPg p v G' D := by
  obtain ⟨x, y, D1, D2, e, rfl, h1, h2⟩ := h
  exact ⟨x, y, D1, D2, e, rfl, LRow.local (LPl.local eN) h1 (fun z hz => hf z (List.mem_append_left _ hz)), LRow.local LCm.local h2 (fun z hz => hf z (List.mem_append_right _ hz))⟩
theorem LPg.has {p : Pg} {v : AV} {G : Heap} {D : List Nat} (h : LPg p v G D) : ∀ y ∈ D, G y ≠ none := by
  obtain ⟨x, y, D1, D2, e, rfl, h1, h2⟩ := h
  intro z hz
  rcases List.mem_append.1 hz with hz | hz
  · exact LRow.has (LPl.has eN) h1 z hz
  · exact LRow.has LCm.has h2 z hz
theorem LPg.wk {p : Pg} {v : AV} {G : Heap} {D : List Nat} (h : LPg p v G D) (hD : D.Nodup) (C : AV → AV) (hC : ∀ {q sz es a a'}, FrzR q sz es a a' → FrzR q sz es (C a) (C a')) : ∃ G', Wk (C v) G (C (aPg p)) G' ∧ ∀ y, y ∉ D → G' y = G y := by
  obtain ⟨x, y, D1, D2, rfl, rfl, h1, h2⟩ := h
  rw [List.nodup_append] at hD
  obtain ⟨G1, w1, f1⟩ := LRow.frzV (e := eN) (sz := 2) (v := C (.agg [I p.wide, I p.vars, x, y])) (v' := C (.agg [I p.wide, I p.vars, Ns p.start, y])) (by omega) (fun _ => rfl) (LPl.local eN) (LPl.frz eN) h1 hD.1
    (fun q _ hr => hC (.agg (.cons (.same _) (.cons (.same _) (.cons hr (.cons (.same _) .nil))))))
  have h2' := LRow.local LCm.local h2 (G' := G1) fun z hz b hb => by rw [f1 z (fun hz1 => hD.2.2 z hz1 z hz rfl)]; exact hb
  obtain ⟨G2, w2, f2⟩ := LRow.frzV (e := eCm) (sz := 2) (v := C (.agg [I p.wide, I p.vars, Ns p.start, y])) (v' := C (aPg p)) (by omega) (fun _ => rfl) LCm.local LCm.frz h2' hD.2.1
    (fun q _ hr => hC (.agg (.cons (.same _) (.cons (.same _) (.cons (.same _) (.cons hr .nil))))))
  refine ⟨G2, .trans w1 w2, fun z hz => ?_⟩
  rw [List.mem_append, not_or] at hz
  rw [f2 z hz.2, f1 z hz.1]
def LSt (of : List Int) (v : AV) (G : Heap) (D : List Nat) : Prop := ∃ x, v = .agg [x] ∧ LI of x G D
theorem LI_row {xs : List Int} {x : AV} {G : Heap} {D : List Nat} (h : LI xs x G D) : ∃ q, x = rowP q xs ∧ G q = some (cells (xs.map eI)) ∧ D = [q] := by
  obtain ⟨q, cs, D', e1, e2, e3, e4⟩ := h
  have key : ∀ (xs : List Int) cs D', LL (LPl eI) xs cs G D' → cs = cells (xs.map eI) ∧ D' = [] := by
    intro xs
    induction xs with
    | nil => intro cs D' h; exact h
    | cons a bs ih =>
      rintro cs D' ⟨c1, c2, D1, D2, rfl, rfl, ⟨rfl, rfl⟩, h2⟩
      obtain ⟨rfl, rfl⟩ := ih _ _ h2
      exact ⟨by simp [cells], rfl⟩
  obtain ⟨rfl, rfl⟩ := key _ _ _ e3
  exact ⟨q, e1, e2, e4⟩
theorem LI_mk {xs : List Int} {q : Nat} {G : Heap} (h : G q = some (cells (xs.map eI))) : LI xs (rowP q xs) G [q] := ⟨q, _, [], rfl, h, LL.plain xs, rfl⟩
theorem LSt.local {of : List Int} {v : AV} {G G' : Heap} {D : List Nat} (h : LSt of v G D) (hf : ∀ y ∈ D, ∀ b, G y = some b → G' y = some b) : LSt of v G' D := by
  obtain ⟨x, e, h⟩ := h; exact ⟨x, e, LRow.local (LPl.local eI) h hf⟩
theorem LSt.has {of : List Int} {v : AV} {G : Heap} {D : List Nat} (h : LSt of v G D) : ∀ y ∈ D, G y ≠ none := by
  obtain ⟨x, e, h⟩ := h; exact LRow.has (LPl.has eI) h
theorem LSt.wk {of : List Int} {v : AV} {G : Heap} {D : List Nat} (h : LSt of v G D) (hD : D.Nodup) (C : AV → AV) (hC : ∀ {q sz es a a'}, FrzR q sz es a a' → FrzR q sz es (C a) (C a')) : ∃ G', Wk (C v) G (C (aS of)) G' ∧ ∀ y, y ∉ D → G' y = G y := by
  obtain ⟨x, rfl, h⟩ := h
  exact LRow.frzV (e := eI) (sz := 1) (v := C (.agg [x])) (v' := C (aS of)) (by omega) (fun _ => rfl) (LPl.local eI) (LPl.frz eI) h hD (fun q _ hr => hC (.agg (.cons hr .nil)))
def marked (k : Int) (n : Nat) : List Int := (List.range n).map fun (j : Nat) => k + (j : Int)
theorem marked_len (k : Int) (n : Nat) : (marked k n).length = n := by simp [marked]
theorem markIntS_live (xs : List Int) (hl : xs.length ≤ 1048576) {k : Int} (h0 : 0 ≤ k) (h1 : k ≤ 1000000000) {q : Nat} {G : Heap} (hG : G q = some (cells (xs.map eI))) {K : AV → Heap → Prop}
    (h : K (I (k + xs.length)) (G.set q (cells ((marked k xs.length).map eI)))) : CallT Try.prog 49 [rowP q xs, I k] G K := by
  refine W49_ok ?_; simp (maxSteps := 1000000) (disch := first | assumption | (apply ν6; assumption)) only [W49, vz, vu, vv, eqS, eF_, ↓c1_, ↓c2_, tabs, reduceCtorEq, ι5, ↓reduceIte, ν1, ν2, ν3, ν4, ν5, ι1, ι2, ι3, ι4]
  refine L49_0_rule (0 : Nat) (fun i => I (k + i)) (fun i => I i) (fun i => G.set q (cells ((marked k i ++ xs.drop i).map eI))) (fun i => i ≤ xs.length) (fun i => xs.length - i) ⟨by omega, ?_, .refl _, ?_⟩ ?_
  · rw [wk_int]; simp
  · intro y b hy
    by_cases e : y = q
    · subst e; rw [Heap.set_same] at hy; rw [hG]; simpa [marked] using hy
    · rw [Heap.set_other e] at hy; exact hy
  intro i hi
  have hcl : (cells ((marked k i ++ xs.drop i).map eI)).length = xs.length := by
    rw [cells_I, List.length_map, List.length_append, marked_len, List.length_drop]; omega
  (try simp (maxSteps := 1000000) (disch := first | assumption | (apply ν6; assumption)) only [vz, vu, vv, eqS, eF_, ↓c1_, ↓c2_, tabs, reduceCtorEq, ι5, ↓reduceIte, ν1, ν2, ν3, ν4, ν5, ι1, ι2, ι3, ι4, B49_0, hcl])
  refine ⟨fun h5 => ?_, fun h5 => ?_⟩
  · have hlt : i < xs.length := by omega
    refine ⟨by omega, h5, by omega, i + 1, by omega, by omega, ?_, ?_, ?_⟩
    · rw [wk_int, i64_id (by omega) (by omega)]; omega
    · rw [wk_int, i64_id (by omega) (by omega)]; simp
    · have e1 : xs.drop i = xs.getD i 0 :: xs.drop (i + 1) := by rw [List.drop_eq_getElem_cons hlt]; simp [List.getD, hlt]
      have e2 : marked k (i + 1) = marked k i ++ [k + i] := by simp [marked, List.range_succ]
      have e3 : cells ((marked k i ++ xs.drop i).map eI) = cells ((marked k i).map eI) ++ ([I (xs.getD i 0)] ++ cells ((xs.drop (i + 1)).map eI)) := by rw [e1, List.map_append, cells_app]; rfl
      have e4 : cells ((marked k (i + 1) ++ xs.drop (i + 1)).map eI) = cells ((marked k i).map eI) ++ ([I (k + i)] ++ cells ((xs.drop (i + 1)).map eI)) := by rw [e2, List.append_assoc, List.map_append, cells_app]; rfl
      have e5 := splice_at (pre := cells ((marked k i).map eI)) (c := [I (xs.getD i 0)]) (c' := [I (k + i)]) (post := cells ((xs.drop (i + 1)).map eI)) (off := i * 1) (n := 1) (by rw [cells_I, List.length_map, marked_len, Nat.mul_one]) rfl rfl
      rw [← e3, ← e4] at e5
      rw [← e5]; exact Heap.le_refl _
  · have : i = xs.length := by omega
    subst this
    simpa using h
theorem heldIntS_spec (n : Nat) (hl : n ≤ 1048576) {k : Int} (h0 : 0 ≤ k) (h1 : k ≤ 1000000000) : Pu Try.prog 52 [Is (marked k n), I k] (I (k + n)) := by
  refine Pu.of fun H => ?_
  have hml := marked_len k n
  refine W52_ok ?_; simp (maxSteps := 1000000) (disch := first | assumption | (apply ν6; assumption)) only [W52, vz, vu, vv, eqS, eF_, ↓c1_, ↓c2_, tabs, reduceCtorEq, ι5, ↓reduceIte, ν1, ν2, ν3, ν4, ν5, ι1, ι2, ι3, ι4]
  refine L52_0_rule (0 : Nat) (fun i => I (k + i)) (fun i => I i) (fun _ => H) (fun i => i ≤ n) (fun i => n - i) ⟨by omega, ?_, .refl _, Heap.le_refl _⟩ ?_
  · rw [wk_int]; simp
  intro i hi
  (try simp (maxSteps := 1000000) (disch := first | assumption | (apply ν6; assumption)) only [vz, vu, vv, eqS, eF_, ↓c1_, ↓c2_, tabs, reduceCtorEq, ι5, ↓reduceIte, ν1, ν2, ν3, ν4, ν5, ι1, ι2, ι3, ι4, B52_0, hml])
  refine ⟨fun h5 => ?_, fun h5 => ?_⟩
  · have hlt : i < n := by omega
    have e : (marked k n).getD i default = k + i := by simp [marked, List.getD, hlt]
    rw [e]
    refine ⟨by omega, h5, fun h6 => absurd rfl h6, fun _ => ⟨i + 1, by omega, by omega, ?_, ?_⟩⟩
    · rw [wk_int, i64_id (by omega) (by omega)]; omega
    · rw [wk_int, i64_id (by omega) (by omega)]; simp
  · have : i = n := by omega
    subst this; rfl
end Go.Proofs.Ytolffbcnbcjeaaa
namespace Go.Proofs.Ytolffbcnbcjeaaa
open Go Go.Sep Go.Pt
attribute [local irreducible] CallT
theorem drop_cons {α : Type} [Inhabited α] {xs : List α} {i : Nat} (h : i < xs.length) : xs.drop i = xs.getD i default :: xs.drop (i + 1) := by
  rw [List.drop_eq_getElem_cons h]; simp [List.getD, h]
structure Half {α : Type} (L : Lay α) (G0 : Heap) (q : Nat) (D : List Nat) (xs : List α) (i : Nat) (G : Heap) (done : List α) : Prop where
  ex : ∃ cd cr Dd Dr, G q = some (cd ++ cr) ∧ LL L done cd G Dd ∧ LL L (xs.drop i) cr G Dr ∧ D = Dd ++ Dr
  len : done.length = i
  fr : ∀ y, y ∉ q :: D → G y = G0 y
end Go.Proofs.Ytolffbcnbcjeaaa
namespace Go.Proofs.Ytolffbcnbcjeaaa
open Go Go.Sep Go.Pt
attribute [local irreducible] CallT
abbrev LE : List Ed → AV → Heap → List Nat → Prop := LRow (LPl eE) 3
def LIc : Lay (List Int) := fun l cs G D => ∃ x, cs = [x] ∧ LI l x G D
abbrev LII : List (List Int) → AV → Heap → List Nat → Prop := LRow LIc 1
theorem LIc.local : Lay.Local LIc := by
  rintro c cs G G' D ⟨x, e, h⟩ hf
  exact ⟨x, e, LRow.local (LPl.local eI) h hf⟩
theorem LIc.size : Lay.Size LIc 1 := by
  rintro c cs G D ⟨x, rfl, h⟩; rfl
theorem LIc.has : Lay.Has LIc := by
  rintro c cs G D ⟨x, e, h⟩
  exact LRow.has (LPl.has eI) h
theorem LIc.frz : Lay.Frz LIc eL := by
  rintro c cs G D v s pre post ⟨x, rfl, h⟩ hD hs hG
  obtain ⟨G', w, k, f⟩ := LRow.frzIn (e := eI) (sz := 1) (pre := pre) (post := post) (v := v) (by omega) (fun _ => rfl) (LPl.local eI) (LPl.frz eI) h hD hs (by rw [hG])
  exact ⟨G', w, by rw [k]; rfl, f⟩
def LAu (a : Au) (v : AV) (G : Heap) (D : List Nat) : Prop := ∃ x y z D1 D2 D3, v = .agg [I a.states, x, y, z] ∧ D = D1 ++ (D2 ++ D3) ∧ LI a.first x G D1 ∧ LE a.edges y G D2 ∧ LII a.goals z G D3
theorem LAu.local {a : Au} {v : AV} {G G' : Heap} {D : List Nat} (h : LAu a v G D) (hf : ∀ y ∈ D, ∀ b, G y = some b → G' y = some b) : LAu a v G' D := by
  obtain ⟨x, y, z, D1, D2, D3, e, rfl, h1, h2, h3⟩ := h
  exact ⟨x, y, z, D1, D2, D3, e, rfl, LRow.local (LPl.local eI) h1 (fun u hu => hf u (by simp [hu])), LRow.local (LPl.local eE) h2 (fun u hu => hf u (by simp [hu])), LRow.local LIc.local h3 (fun u hu => hf u (by simp [hu]))⟩
theorem LAu.has {a : Au} {v : AV} {G : Heap} {D : List Nat} (h : LAu a v G D) : ∀ y ∈ D, G y ≠ none := by
  obtain ⟨x, y, z, D1, D2, D3, e, rfl, h1, h2, h3⟩ := h
  intro u hu
  simp only [List.mem_append] at hu
  rcases hu with hu | hu | hu
  · exact LRow.has (LPl.has eI) h1 u hu
  · exact LRow.has (LPl.has eE) h2 u hu
  · exact LRow.has LIc.has h3 u hu
theorem nd3' {A B C : List Nat} (h : (A ++ (B ++ C)).Nodup) : A.Nodup ∧ B.Nodup ∧ C.Nodup ∧ (∀ y ∈ A, y ∉ B) ∧ (∀ y ∈ A, y ∉ C) ∧ (∀ y ∈ B, y ∉ C) := by
  rw [List.nodup_append, List.nodup_append] at h
  obtain ⟨h1, ⟨h2, h3, h4⟩, h5⟩ := h
  exact ⟨h1, h2, h3, fun y hy hb => h5 y hy y (List.mem_append_left _ hb) rfl, fun y hy hb => h5 y hy y (List.mem_append_right _ hb) rfl, fun y hy hb => h4 y hy y hb rfl⟩
theorem LAu.wk {a : Au} {v : AV} {G : Heap} {D : List Nat} (h : LAu a v G D) (hD : D.Nodup) (C : AV → AV) (hC : ∀ {q sz es a a'}, FrzR q sz es a a' → FrzR q sz es (C a) (C a')) : ∃ G', Wk (C v) G (C (aAu a)) G' ∧ ∀ y, y ∉ D → G' y = G y := by
  obtain ⟨x, y, z, D1, D2, D3, rfl, rfl, h1, h2, h3⟩ := h
  obtain ⟨n1, n2, n3, d12, d13, d23⟩ := nd3' hD
  obtain ⟨G1, w1, f1⟩ := LRow.frzV (e := eI) (sz := 1) (v := C (.agg [I a.states, x, y, z])) (v' := C (.agg [I a.states, Is a.first, y, z])) (by omega) (fun _ => rfl) (LPl.local eI) (LPl.frz eI) h1 n1
    (fun q _ hr => hC (.agg (.cons (.same _) (.cons hr (.cons (.same _) (.cons (.same _) .nil))))))
  have h2' := LRow.local (LPl.local eE) h2 (G' := G1) fun u hu b hb => by rw [f1 u (fun h => d12 u h hu)]; exact hb
  obtain ⟨G2, w2, f2⟩ := LRow.frzV (e := eE) (sz := 3) (v := C (.agg [I a.states, Is a.first, y, z])) (v' := C (.agg [I a.states, Is a.first, Es a.edges, z])) (by omega) (fun _ => rfl) (LPl.local eE) (LPl.frz eE) h2' n2
    (fun q _ hr => hC (.agg (.cons (.same _) (.cons (.same _) (.cons hr (.cons (.same _) .nil))))))
  have h3' := LRow.local LIc.local h3 (G' := G2) fun u hu b hb => by rw [f2 u (fun h => d23 u h hu), f1 u (fun h => d13 u h hu)]; exact hb
  obtain ⟨G3, w3, f3⟩ := LRow.frzV (e := eL) (sz := 1) (v := C (.agg [I a.states, Is a.first, Es a.edges, z])) (v' := C (aAu a)) (by omega) (fun _ => rfl) LIc.local LIc.frz h3' n3
    (fun q _ hr => hC (.agg (.cons (.same _) (.cons (.same _) (.cons (.same _) (.cons hr .nil))))))
  refine ⟨G3, .trans w1 (.trans w2 w3), fun u hu => ?_⟩
  simp only [List.mem_append, not_or] at hu
  rw [f3 u hu.2.2, f2 u hu.2.1, f1 u hu.1]
theorem toEdgeS_live (xs : List Ed) (hl : xs.length ≤ 1048576) {H : Heap} {K : AV → Heap → Prop} (h : ∀ x G D, LE xs x G D → New H G D → K x G) : CallT Try.prog 27 [Es xs] H K := by
  refine W27_ok ?_; simp (maxSteps := 1000000) (disch := first | assumption | (apply ν6; assumption)) only [W27, vz, vu, vv, eqS, eF_, ↓c1_, ↓c2_, tabs, reduceCtorEq, ι5, ↓reduceIte, ν1, ν2, ν3, ν4, ν5, ι1, ι2, ι3, ι4, makeSliceV]
  refine ⟨by omega, by omega, by omega, by omega, fun q hq => ?_⟩
  have z0 : rowZ eE [I 0, I 0, I 0] xs 0 = zerosA xs.length [I 0, I 0, I 0] := rowZ_zero
  rw [← z0]
  refine L27_0_rule (0 : Nat) (fun i => I i) (fun i => H.set q (rowZ eE [I 0, I 0, I 0] xs i)) (fun i => i ≤ xs.length) (fun i => xs.length - i) ⟨by omega, .refl _, Heap.le_refl _⟩ ?_
  intro i hi
  have hrl := rowZ_len (e := eE) (zero := [I 0, I 0, I 0]) (xs := xs) (i := i) (sz := 3) (fun _ => rfl) rfl hi
  (try simp (maxSteps := 1000000) (disch := first | assumption | (apply ν6; assumption)) only [vz, vu, vv, eqS, eF_, ↓c1_, ↓c2_, tabs, reduceCtorEq, ι5, ↓reduceIte, ν1, ν2, ν3, ν4, ν5, ι1, ι2, ι3, ι4, B27_0])
  refine ⟨fun h => ⟨by omega, h, ?_⟩, fun h5 => ?_⟩
  · have hlt : i < xs.length := by omega
    have hput := rowZ_put (e := eE) (zero := [I 0, I 0, I 0]) (xs := xs) (i := i) (sz := 3) (fun _ => rfl) rfl hlt rfl rfl
    refine Pu.use (toEdge_spec (xs.getD i default)) ?_
    (try simp (maxSteps := 1000000) (disch := first | assumption | (apply ν6; assumption)) only [vz, vu, vv, eqS, eF_, ↓c1_, ↓c2_, tabs, reduceCtorEq, ι5, ↓reduceIte, ν1, ν2, ν3, ν4, ν5, ι1, ι2, ι3, ι4])
    refine ⟨by omega, h, by omega, i + 1, by omega, by omega, ?_, ?_⟩
    · rw [wk_int, i64_id (by omega) (by omega)]; simp
    · rw [← hput]; exact Heap.le_refl _
  · have : i = xs.length := by omega
    subst this
    refine h _ _ [q] ⟨q, _, [], rfl, Heap.set_same _ _ _, ?_, rfl⟩ ⟨by simp, by simpa using hq, Heap.le_set hq⟩
    rw [rowZ_end]; exact LL.plain xs
theorem toIntSS_live (xs : List (List Int)) (hs : smLs xs) {H : Heap} {K : AV → Heap → Prop} (h : ∀ x G D, LII xs x G D → New H G D → K x G) : CallT Try.prog 28 [Ls xs] H K := by
  have hl := hs.1
  refine W28_ok ?_; simp (maxSteps := 1000000) (disch := first | assumption | (apply ν6; assumption)) only [W28, vz, vu, vv, eqS, eF_, ↓c1_, ↓c2_, tabs, reduceCtorEq, ι5, ↓reduceIte, ν1, ν2, ν3, ν4, ν5, ι1, ι2, ι3, ι4, makeSliceV]
  refine ⟨by omega, by omega, by omega, by omega, fun q hq => ?_⟩
  refine L28_0_rule ((0 : Nat), H.set q (zerosA xs.length [.p .nil]), ([] : List Nat)) (fun s => I s.1) (fun s => s.2.1)
    (fun s => s.1 ≤ xs.length ∧ New H s.2.1 (q :: s.2.2) ∧ ∃ done, s.2.1 q = some (done ++ zerosA (xs.length - s.1) [.p .nil]) ∧ LL LIc (xs.take s.1) done s.2.1 s.2.2) (fun s => xs.length - s.1)
    ⟨⟨by simp, ⟨by simp, by simpa using hq, Heap.le_set hq⟩, [], by simp [Heap.set_same], ⟨rfl, rfl⟩⟩, .refl _, Heap.le_refl _⟩ ?_
  rintro ⟨i, G, D⟩ ⟨hi, hn, done, hG, hll⟩
  dsimp only at hi hn hG hll
  (try simp (maxSteps := 1000000) (disch := first | assumption | (apply ν6; assumption)) only [vz, vu, vv, eqS, eF_, ↓c1_, ↓c2_, tabs, reduceCtorEq, ι5, ↓reduceIte, ν1, ν2, ν3, ν4, ν5, ι1, ι2, ι3, ι4, B28_0])
  refine ⟨fun h => ⟨by omega, h, ?_⟩, fun h5 => ?_⟩
  · have hlt : i < xs.length := by omega
    have hm : xs.getD i default ∈ xs := getD_all (p := fun x => x ∈ xs) (fun _ h => h) hlt
    have hdl : done.length = i * 1 := by rw [LL.size LIc.size hll, List.length_take, Nat.min_eq_left hi]
    refine toIntS_live (xs.getD i default) (hs.2 _ hm) fun x G1 D1 hc hn1 => ?_
    have hG1 := hn1.le q _ hG
    have hqD1 : q ∉ D1 := ne_of_new hn1 hG
    obtain ⟨qx, rfl⟩ := LRow.sl hc
    have hz : zerosA (xs.length - i) [.p .nil] = [.p .nil] ++ zerosA (xs.length - (i + 1)) [.p .nil] := by
      obtain ⟨m, hm⟩ : ∃ m, xs.length - i = m + 1 := ⟨xs.length - i - 1, by omega⟩
      rw [hm, zerosA_succ, show xs.length - (i + 1) = m by omega]
    have hput := splice_at (pre := done) (c := [.p .nil]) (c' := [.sl qx 1 0 (xs.getD i default).length]) (post := zerosA (xs.length - (i + 1)) [.p .nil]) (off := i * 1) (n := 1) hdl.symm rfl rfl
    rw [hz] at hG1
    have hzl : (zerosA (xs.length - (i + 1)) [AV.p .nil]).length = (xs.length - (i + 1)) * 1 := zerosA_len _ _
    (try simp (maxSteps := 1000000) (disch := first | assumption | (apply ν6; assumption)) only [vz, vu, vv, eqS, eF_, ↓c1_, ↓c2_, tabs, reduceCtorEq, ι5, ↓reduceIte, ν1, ν2, ν3, ν4, ν5, ι1, ι2, ι3, ι4, store_at hG1])
    generalize hxx : (AV.sl qx 1 0 (xs.getD i default).length) = x at hc hput ⊢
    refine ⟨by omega, h, by simp only [List.length_append, hdl, hzl, List.length_cons, List.length_nil]; omega, (i + 1, G1.set q (done ++ ([x] ++ zerosA (xs.length - (i + 1)) [.p .nil])), D ++ D1), ⟨by simp only; omega, ?_, done ++ [x], ?_, ?_⟩, by simp only; omega, ?_, ?_⟩
    · have ht := hn.trans hn1 (fun y hy => by
        rcases List.mem_cons.1 hy with rfl | hy
        · rw [hG]; simp
        · exact LL.has LIc.has hll y hy)
      exact ht.put hq _
    · show (G1.set q _) q = _
      rw [Heap.set_same, List.append_assoc]
    · show LL LIc (xs.take (i + 1)) (done ++ [x]) (G1.set q (done ++ ([x] ++ zerosA (xs.length - (i + 1)) [.p .nil]))) (D ++ D1)
      rw [take_succ_snoc hlt]
      refine LL.snoc (LIc.local _ _ _ _ _ ⟨x, rfl, hc⟩ fun y hy b hb => by rw [Heap.set_other (ne_mem hy hqD1)]; exact hb) (LL.local LIc.local hll fun y hy b hb => ?_)
      rw [Heap.set_other (fun e => ?_)]
      · exact hn1.le y b hb
      · have := hn.nd; rw [List.nodup_cons] at this; exact this.1 (e ▸ hy)
    · rw [wk_int, i64_id (by omega) (by omega)]; simp
    · have e : List.take (i * 1) (done ++ ([.p .nil] ++ zerosA (xs.length - (i + 1)) [.p .nil])) ++ [x] ++ List.drop (i * 1 + 1) (done ++ ([.p .nil] ++ zerosA (xs.length - (i + 1)) [.p .nil])) = done ++ ([x] ++ zerosA (xs.length - (i + 1)) [.p .nil]) := hput
      simp only
      rw [← e]
      first | exact Heap.le_refl _ | simp only [List.cons_append, List.nil_append, le_refl_true]
  · have : i = xs.length := by omega
    subst this
    rw [List.take_length] at hll
    refine h _ _ (q :: D) ⟨q, done, D, rfl, ?_, hll, rfl⟩ hn
    rw [hG]; simp [zerosA]
end Go.Proofs.Ytolffbcnbcjeaaa
namespace Go.Proofs.Ytolffbcnbcjeaaa
open Go Go.Sep Go.Pt
attribute [local irreducible] CallT
theorem riseAt_iff {l : List Int} {n : Int} {i : Nat} : riseAt l n i = true ↔ 0 ≤ l.getD i default ∧ l.getD i default < n ∧ (i = 0 ∨ l.getD (i - 1) default < l.getD i default) := by
  simp only [riseAt, Bool.and_eq_true, Bool.or_eq_true, decide_eq_true_eq, and_assoc]
theorem rise_not {l : List Int} {n : Int} {i : Nat} (h : ¬ (0 ≤ l.getD i default ∧ l.getD i default < n ∧ (i = 0 ∨ l.getD (i - 1) default < l.getD i default))) : riseAt l n i = false := by
  rw [Bool.eq_false_iff]; exact fun hh => h (riseAt_iff.1 hh)
theorem isIncreasing_spec (l : List Int) (n : Int) (hl : l.length ≤ 1048576) : Pu Try.prog 65 [Is l, I n] (B (rising l n)) := by
  refine Pu.of fun H => ?_
  refine W65_ok ?_; simp (maxSteps := 1000000) (disch := first | assumption | (apply ν6; assumption)) only [W65, vz, vu, vv, eqS, eF_, ↓c1_, ↓c2_, tabs, reduceCtorEq, ι5, ↓reduceIte, ν1, ν2, ν3, ν4, ν5, ι1, ι2, ι3, ι4]
  refine L65_0_rule (0 : Nat) (fun i => I i) (fun _ => H) (fun i => i ≤ l.length ∧ (List.range i).all (riseAt l n) = true) (fun i => l.length - i) ⟨⟨by omega, rfl⟩, .refl _, Heap.le_refl _⟩ ?_
  rintro i ⟨hi, ha⟩
  have ra : ∀ j, j < l.length → riseAt l n j = false → rising l n = false := fun j hj h => range_all_false hj h
  have e1 : 0 < (i : Int) → IntKind.i64.wrap ((i : Int) - 1) = i - 1 := fun _ => i64_id (by omega) (by omega)
  have e2 : ((i : Int) - 1).toNat = i - 1 := by omega
  have nx : riseAt l n i = true → (List.range (i + 1)).all (riseAt l n) = true := fun h => by rw [range_all_succ, ha, h]; rfl
  (try simp (maxSteps := 1000000) (disch := first | assumption | (apply ν6; assumption)) only [vz, vu, vv, eqS, eF_, ↓c1_, ↓c2_, tabs, reduceCtorEq, ι5, ↓reduceIte, ν1, ν2, ν3, ν4, ν5, ι1, ι2, ι3, ι4, B65_0])
  refine ⟨fun h1 => ⟨by omega, h1, fun h2 => ?_, fun h2 => ⟨fun h3 => ?_, fun h3 => ⟨fun h4 => ?_, fun h4 => ?_⟩⟩⟩, fun h1 => ?_⟩
  · rw [ra i (by omega) (rise_not (by omega))]
  · rw [ra i (by omega) (rise_not (by omega))]
  · rw [e1 h4, e2]
    refine ⟨by omega, by omega, fun h5 => ?_, fun h5 => ⟨i + 1, ⟨by omega, nx ?_⟩, by omega, ?_⟩⟩
    · rw [ra i (by omega) (rise_not (by omega))]
    · exact riseAt_iff.2 (by omega)
    · rw [wk_int, i64_id (by omega) (by omega)]; simp
  · refine ⟨i + 1, ⟨by omega, nx ?_⟩, by omega, ?_⟩
    · exact riseAt_iff.2 (by omega)
    · rw [wk_int, i64_id (by omega) (by omega)]; simp
  · have : i = l.length := by omega
    subst this
    rw [rising, ha]
theorem l1Rising_spec (l : List Int) (n : Int) (hl : l.length ≤ 1048576) : Pu Try.prog 81 [Is l, I 0, I (n - 1)] (B (rising l n)) := by
  refine Pu.of fun H => ?_
  refine W81_ok ?_; simp (maxSteps := 1000000) (disch := first | assumption | (apply ν6; assumption)) only [W81, vz, vu, vv, eqS, eF_, ↓c1_, ↓c2_, tabs, reduceCtorEq, ι5, ↓reduceIte, ν1, ν2, ν3, ν4, ν5, ι1, ι2, ι3, ι4]
  refine L81_0_rule (0 : Nat) (fun i => I i) (fun _ => H) (fun i => i ≤ l.length ∧ (List.range i).all (riseAt l n) = true) (fun i => l.length - i) ⟨⟨by omega, rfl⟩, .refl _, Heap.le_refl _⟩ ?_
  rintro i ⟨hi, ha⟩
  have ra : ∀ j, j < l.length → riseAt l n j = false → rising l n = false := fun j hj h => range_all_false hj h
  have e1 : 0 < (i : Int) → IntKind.i64.wrap ((i : Int) - 1) = i - 1 := fun _ => i64_id (by omega) (by omega)
  have e2 : ((i : Int) - 1).toNat = i - 1 := by omega
  have nx : riseAt l n i = true → (List.range (i + 1)).all (riseAt l n) = true := fun h => by rw [range_all_succ, ha, h]; rfl
  (try simp (maxSteps := 1000000) (disch := first | assumption | (apply ν6; assumption)) only [vz, vu, vv, eqS, eF_, ↓c1_, ↓c2_, tabs, reduceCtorEq, ι5, ↓reduceIte, ν1, ν2, ν3, ν4, ν5, ι1, ι2, ι3, ι4, B81_0])
  refine ⟨fun h1 => ⟨by omega, h1, ?_⟩, fun h1 => ?_⟩
  · refine Pu.use (l1In_spec (l.getD i default) 0 (n - 1)) ?_
    cases h2 : (decide (0 ≤ l.getD i default) && decide (l.getD i default ≤ n - 1))
    · (try simp (maxSteps := 1000000) (disch := first | assumption | (apply ν6; assumption)) only [vz, vu, vv, eqS, eF_, ↓c1_, ↓c2_, tabs, reduceCtorEq, ι5, ↓reduceIte, ν1, ν2, ν3, ν4, ν5, ι1, ι2, ι3, ι4])
      simp only [Bool.and_eq_false_iff, decide_eq_false_iff_not] at h2
      rw [ra i (by omega) (rise_not (by omega))]
    simp only [Bool.and_eq_true, decide_eq_true_eq] at h2
    (try simp (maxSteps := 1000000) (disch := first | assumption | (apply ν6; assumption)) only [vz, vu, vv, eqS, eF_, ↓c1_, ↓c2_, tabs, reduceCtorEq, ι5, ↓reduceIte, ν1, ν2, ν3, ν4, ν5, ι1, ι2, ι3, ι4])
    refine ⟨fun h4 => ?_, fun h4 => ?_⟩
    · rw [e1 h4, e2]
      refine ⟨by omega, by omega, fun h5 => ?_, fun h5 => ⟨i + 1, ⟨by omega, nx ?_⟩, by omega, ?_⟩⟩
      · rw [ra i (by omega) (rise_not (by omega))]
      · exact riseAt_iff.2 (by omega)
      · rw [wk_int, i64_id (by omega) (by omega)]; simp
    · refine ⟨i + 1, ⟨by omega, nx ?_⟩, by omega, ?_⟩
      · exact riseAt_iff.2 (by omega)
      · rw [wk_int, i64_id (by omega) (by omega)]; simp
  · have : i = l.length := by omega
    subst this
    rw [rising, ha]
theorem Compare_spec (a b : Int) : Pu Try.prog 87 [I a, I b] (I (if a < b then -1 else if a = b then 0 else 1)) := by
  have nan : ∀ c : Int, Pu Try.prog 97 [I c] (B false) := fun c => by
    refine Pu.of fun H => ?_
    refine W97_ok ?_; simp (maxSteps := 1000000) (disch := first | assumption | (apply ν6; assumption)) only [W97, vz, vu, vv, eqS, eF_, ↓c1_, ↓c2_, tabs, reduceCtorEq, ι5, ↓reduceIte, ν1, ν2, ν3, ν4, ν5, ι1, ι2, ι3, ι4]
  refine Pu.of fun H => ?_
  refine W87_ok ?_; simp (maxSteps := 1000000) (disch := first | assumption | (apply ν6; assumption)) only [W87, vz, vu, vv, eqS, eF_, ↓c1_, ↓c2_, tabs, reduceCtorEq, ι5, ↓reduceIte, ν1, ν2, ν3, ν4, ν5, ι1, ι2, ι3, ι4]
  refine Pu.use (nan a) ?_
  (try simp (maxSteps := 1000000) (disch := first | assumption | (apply ν6; assumption)) only [vz, vu, vv, eqS, eF_, ↓c1_, ↓c2_, tabs, reduceCtorEq, ι5, ↓reduceIte, ν1, ν2, ν3, ν4, ν5, ι1, ι2, ι3, ι4])
  refine Pu.use (nan b) ?_
  (try simp (maxSteps := 1000000) (disch := first | assumption | (apply ν6; assumption)) only [vz, vu, vv, eqS, eF_, ↓c1_, ↓c2_, tabs, reduceCtorEq, ι5, ↓reduceIte, ν1, ν2, ν3, ν4, ν5, ι1, ι2, ι3, ι4])
  refine ⟨fun h => by rw [if_pos h], fun h => ⟨fun h2 => by rw [if_neg h, if_neg (by omega)], fun h2 => by rw [if_neg h, if_pos (by omega)]⟩⟩
theorem Or3_spec (a b c : Int) : Pu Try.prog 86 [Is [a, b, c]] (I (if a ≠ 0 then a else if b ≠ 0 then b else c)) := by
  refine Pu.of fun H => ?_
  refine W86_ok ?_; simp (maxSteps := 1000000) (disch := first | assumption | (apply ν6; assumption)) only [W86, vz, vu, vv, eqS, eF_, ↓c1_, ↓c2_, tabs, reduceCtorEq, ι5, ↓reduceIte, ν1, ν2, ν3, ν4, ν5, ι1, ι2, ι3, ι4]
  refine L86_0_rule (0 : Nat) (fun i => I i) (fun _ => H) (fun i => i ≤ 3 ∧ ∀ j, j < i → [a, b, c].getD j 0 = 0) (fun i => 3 - i) ⟨⟨by omega, by intros; omega⟩, .refl _, Heap.le_refl _⟩ ?_
  rintro i ⟨hi, ha⟩
  (try simp (maxSteps := 1000000) (disch := first | assumption | (apply ν6; assumption)) only [vz, vu, vv, eqS, eF_, ↓c1_, ↓c2_, tabs, reduceCtorEq, ι5, ↓reduceIte, ν1, ν2, ν3, ν4, ν5, ι1, ι2, ι3, ι4, B86_0])
  have e3 : ∀ j, [a, b, c].getD j default = [a, b, c].getD j 0 := fun _ => rfl
  rw [e3]
  refine ⟨fun h1 => ⟨by omega, h1, fun h2 => ?_, fun h2 => ⟨i + 1, ⟨by omega, fun j hj => ?_⟩, by omega, ?_⟩⟩, fun h1 => ?_⟩
  · refine congrArg (fun n : Int => I n) ?_
    have a0 := ha 0
    have a1 := ha 1
    obtain rfl | rfl | rfl : i = 0 ∨ i = 1 ∨ i = 2 := by omega
    · rw [if_pos (by simpa using h2)]; rfl
    · rw [if_neg (by simpa using a0 (by omega)), if_pos (by simpa using h2)]; rfl
    · rw [if_neg (by simpa using a0 (by omega)), if_neg (by simpa using a1 (by omega))]; rfl
  · rcases Nat.lt_succ_iff_lt_or_eq.1 hj with h | rfl
    · exact ha j h
    · exact h2
  · rw [wk_int, i64_id (by omega) (by omega)]; simp
  · have a0 := ha 0 (by omega)
    have a1 := ha 1 (by omega)
    have a2 := ha 2 (by omega)
    rw [if_neg (by simpa using a0), if_neg (by simpa using a1)]
    exact congrArg (fun n : Int => I n) a2.symm
theorem compareEdges_spec (a b : Ed) : Pu Try.prog 67 [aE a, aE b] (I (if edLt a b then -1 else if edLt b a then 1 else 0)) := by
  refine Pu.of fun H => ?_
  refine W67_ok ?_; simp (maxSteps := 1000000) (disch := first | assumption | (apply ν6; assumption)) only [W67, vz, vu, vv, eqS, eF_, ↓c1_, ↓c2_, tabs, reduceCtorEq, ι5, ↓reduceIte, ν1, ν2, ν3, ν4, ν5, ι1, ι2, ι3, ι4]
  intro r hr r2 n2 hr2
  have nn2 : r ≠ r2 := Ne.symm n2
  have hle := Heap.le_setN (b := [I b.src, I b.lt, I b.dst]) (Heap.le_set (b := [I a.src, I a.lt, I a.dst]) hr) hr2
  (try simp (maxSteps := 1000000) (disch := first | assumption | (apply ν6; assumption)) only [vz, vu, vv, eqS, eF_, ↓c1_, ↓c2_, tabs, reduceCtorEq, ι5, ↓reduceIte, ν1, ν2, ν3, ν4, ν5, ι1, ι2, ι3, ι4])
  refine Pu.use (Compare_spec a.src b.src) ?_
  (try simp (maxSteps := 1000000) (disch := first | assumption | (apply ν6; assumption)) only [vz, vu, vv, eqS, eF_, ↓c1_, ↓c2_, tabs, reduceCtorEq, ι5, ↓reduceIte, ν1, ν2, ν3, ν4, ν5, ι1, ι2, ι3, ι4])
  refine Pu.use (Compare_spec a.lt b.lt) ?_
  (try simp (maxSteps := 1000000) (disch := first | assumption | (apply ν6; assumption)) only [vz, vu, vv, eqS, eF_, ↓c1_, ↓c2_, tabs, reduceCtorEq, ι5, ↓reduceIte, ν1, ν2, ν3, ν4, ν5, ι1, ι2, ι3, ι4])
  refine Pu.use (Compare_spec a.dst b.dst) ?_
  refine lit3 tab_22 rfl tab_3 ⟨rfl, rfl⟩ ?_
  refine Pu.use (Or3_spec _ _ _) ?_
  refine ⟨?_, hle⟩
  refine congrArg (fun n : Int => I n) ?_
  have c1 : ∀ x y : Int, (if x < y then (-1 : Int) else if x = y then 0 else 1) ≠ 0 ↔ x ≠ y := fun x y => by
    constructor
    · intro h e; subst e; simp at h
    · intro h; split <;> first | decide | (rw [if_neg h]; decide)
  have key : ∀ x y : Int, (if x < y then (-1 : Int) else if x = y then 0 else 1) = (if decide (x < y) = true then -1 else if decide (y < x) = true then 1 else 0) := fun x y => by
    simp only [decide_eq_true_eq]
    rcases Int.lt_trichotomy x y with h | h | h
    · rw [if_pos h, if_pos h]
    · subst h; simp
    · rw [if_neg (by omega), if_neg (by omega), if_neg (by omega), if_pos h]
  unfold edLt
  by_cases h1 : a.src = b.src
  · rw [if_neg (by rw [c1]; exact not_not_intro h1), if_pos h1, if_pos h1.symm]
    by_cases h2 : a.lt = b.lt
    · rw [if_neg (by rw [c1]; exact not_not_intro h2), if_pos h2, if_pos h2.symm]
      exact key _ _
    · rw [if_pos (by rw [c1]; exact h2)]
      have := key a.lt b.lt
      simpa only [if_neg h2, if_neg (Ne.symm h2)] using this
  · rw [if_pos (by rw [c1]; exact h1)]
    have := key a.src b.src
    simpa only [if_neg h1, if_neg (Ne.symm h1)] using this
theorem l12Less_spec (a b : Ed) : Pu Try.prog 58 [aE a, aE b] (B (edLt a b)) := by
  refine Pu.of fun H => ?_
  refine W58_ok ?_; simp (maxSteps := 1000000) (disch := first | assumption | (apply ν6; assumption)) only [W58, vz, vu, vv, eqS, eF_, ↓c1_, ↓c2_, tabs, reduceCtorEq, ι5, ↓reduceIte, ν1, ν2, ν3, ν4, ν5, ι1, ι2, ι3, ι4]
  intro r hr r2 n2 hr2
  have nn2 : r ≠ r2 := Ne.symm n2
  have hle := Heap.le_setN (b := [I b.src, I b.lt, I b.dst]) (Heap.le_set (b := [I a.src, I a.lt, I a.dst]) hr) hr2
  (try simp (maxSteps := 1000000) (disch := first | assumption | (apply ν6; assumption)) only [vz, vu, vv, eqS, eF_, ↓c1_, ↓c2_, tabs, reduceCtorEq, ι5, ↓reduceIte, ν1, ν2, ν3, ν4, ν5, ι1, ι2, ι3, ι4])
  unfold edLt
  exact ⟨fun h => ⟨by rw [if_neg h], hle⟩, fun h => ⟨fun h2 => ⟨by rw [if_pos h, if_neg h2], hle⟩, fun h2 => ⟨by rw [if_pos h, if_pos h2], hle⟩⟩⟩
theorem areGoals1_at (l : List Int) (n : Int) (r : Nat) {H : Heap} (hr : H r = some [I n]) (hl : l.length ≤ 1048576) : PuAt Try.prog 85 [Is l, .ptr r 0] H (B (!rising l n)) := by
  intro K hK
  refine W85_ok ?_; simp (maxSteps := 1000000) (disch := first | assumption | (apply ν6; assumption)) only [W85, vz, vu, vv, eqS, eF_, ↓c1_, ↓c2_, tabs, reduceCtorEq, ι5, ↓reduceIte, ν1, ν2, ν3, ν4, ν5, ι1, ι2, ι3, ι4, load_at hr]
  refine Pu.use (isIncreasing_spec l n hl) ?_
  (try simp (maxSteps := 1000000) (disch := first | assumption | (apply ν6; assumption)) only [vz, vu, vv, eqS, eF_, ↓c1_, ↓c2_, tabs, reduceCtorEq, ι5, ↓reduceIte, ν1, ν2, ν3, ν4, ν5, ι1, ι2, ι3, ι4])
  simpa using hK
theorem IndexFuncL_at (xs : List (List Int)) (g : Nat) (caps : List AV) (p : List Int → Bool) {H : Heap} (hl : xs.length ≤ 1000000000) (hp : ∀ x ∈ xs, PuAt Try.prog g (Is x :: caps) H (B (p x))) :
    PuAt Try.prog 96 [Ls xs, .fn g caps] H (I (if xs.any p then (xs.findIdx p : Int) else -1)) := by
  intro K hK
  refine CallT.fin ?_
  refine W96_ok ?_; simp (maxSteps := 1000000) (disch := first | assumption | (apply ν6; assumption)) only [W96, vz, vu, vv, eqS, eF_, ↓c1_, ↓c2_, tabs, reduceCtorEq, ι5, ↓reduceIte, ν1, ν2, ν3, ν4, ν5, ι1, ι2, ι3, ι4]
  refine L96_0_rule (0 : Nat) (fun i => I i) (fun _ => H) (fun i => i ≤ xs.length ∧ ∀ j (hj : j < xs.length), j < i → p xs[j] = false) (fun i => xs.length - i) ⟨⟨by omega, by intros; omega⟩, .refl _, Heap.le_refl _⟩ ?_
  rintro i ⟨hi1, ha⟩
  (try simp (maxSteps := 1000000) (disch := first | assumption | (apply ν6; assumption)) only [vz, vu, vv, eqS, eF_, ↓c1_, ↓c2_, tabs, reduceCtorEq, ι5, ↓reduceIte, ν1, ν2, ν3, ν4, ν5, ι1, ι2, ι3, ι4, B96_0])
  refine ⟨fun h => ⟨by omega, h, ?_⟩, fun h => ?_⟩
  · have hlt : i < xs.length := by omega
    rw [getD_lt hlt]
    refine PuAt.use (hp _ (List.getElem_mem hlt)) ?_
    (try simp (maxSteps := 1000000) (disch := first | assumption | (apply ν6; assumption)) only [vz, vu, vv, eqS, eF_, ↓c1_, ↓c2_, tabs, reduceCtorEq, ι5, ↓reduceIte, ν1, ν2, ν3, ν4, ν5, ι1, ι2, ι3, ι4])
    refine ⟨fun h1 => ?_, fun h1 => ⟨i + 1, ⟨by omega, fun j hj hji => ?_⟩, by omega, ?_⟩⟩
    · have h2 : xs.any p = true := List.any_eq_true.2 ⟨xs[i], List.getElem_mem hlt, h1⟩
      have h3 : xs.findIdx p = i := by
        rw [List.findIdx_eq hlt]; exact ⟨h1, fun j hj => ha j (by omega) hj⟩
      rw [h2, h3] at hK; exact wkK.keep (by simpa using hK)
    · rcases Nat.lt_succ_iff_lt_or_eq.1 hji with h2 | rfl
      · exact ha j hj h2
      · exact h1
    · rw [wk_int, i64_id (by omega) (by omega)]; simp
  · have hi : i = xs.length := by omega
    have h2 : xs.any p = false := by
      rw [List.any_eq_false]
      intro x hx
      obtain ⟨j, hj, rfl⟩ := List.mem_iff_getElem.1 hx
      rw [ha j hj (by omega)]; simp
    rw [h2] at hK; exact wkK.keep (by simpa using hK)
theorem ContainsFuncL_at (xs : List (List Int)) (g : Nat) (caps : List AV) (p : List Int → Bool) {H : Heap} (hl : xs.length ≤ 1000000000) (hp : ∀ x ∈ xs, PuAt Try.prog g (Is x :: caps) H (B (p x))) :
    PuAt Try.prog 84 [Ls xs, .fn g caps] H (B (xs.any p)) := by
  intro K hK
  refine W84_ok ?_; simp (maxSteps := 1000000) (disch := first | assumption | (apply ν6; assumption)) only [W84, vz, vu, vv, eqS, eF_, ↓c1_, ↓c2_, tabs, reduceCtorEq, ι5, ↓reduceIte, ν1, ν2, ν3, ν4, ν5, ι1, ι2, ι3, ι4]
  refine PuAt.use (IndexFuncL_at xs g caps p hl hp) ?_
  (try simp (maxSteps := 1000000) (disch := first | assumption | (apply ν6; assumption)) only [vz, vu, vv, eqS, eF_, ↓c1_, ↓c2_, tabs, reduceCtorEq, ι5, ↓reduceIte, ν1, ν2, ν3, ν4, ν5, ι1, ι2, ι3, ι4])
  cases h : xs.any p <;> simp [h] at hK ⊢ <;> exact hK
def goalsOk (n : Int) (gs : List (List Int)) : Bool := decide (gs.length ≤ 6) && gs.all (fun g => rising g n)
theorem not_any_not {α : Type} {p : α → Bool} {l : List α} : (!l.any fun x => !p x) = l.all p := by
  induction l with
  | nil => rfl
  | cons a l ih => simp only [List.any_cons, List.all_cons, Bool.not_or, Bool.not_not, ih]
theorem areGoals_spec (gs : List (List Int)) (n : Int) (hs : smLs gs) : Pu Try.prog 66 [Ls gs, I n] (B (goalsOk n gs)) := by
  refine Pu.of fun H => ?_
  refine W66_ok ?_; simp (maxSteps := 1000000) (disch := first | assumption | (apply ν6; assumption)) only [W66, vz, vu, vv, eqS, eF_, ↓c1_, ↓c2_, tabs, reduceCtorEq, ι5, ↓reduceIte, ν1, ν2, ν3, ν4, ν5, ι1, ι2, ι3, ι4]
  intro r hr
  refine ⟨fun h => ?_, fun h => ⟨by rw [goalsOk, decide_eq_false (by omega)]; rfl, Heap.le_set hr⟩⟩
  refine PuAt.use (ContainsFuncL_at gs _ _ (fun g => !rising g n) (by have := hs.1; omega) fun g hg => areGoals1_at g n r (Heap.set_same _ _ _) (hs.2 g hg)) ?_
  (try simp (maxSteps := 1000000) (disch := first | assumption | (apply ν6; assumption)) only [vz, vu, vv, eqS, eF_, ↓c1_, ↓c2_, tabs, reduceCtorEq, ι5, ↓reduceIte, ν1, ν2, ν3, ν4, ν5, ι1, ι2, ι3, ι4])
  refine ⟨?_, Heap.le_set hr⟩
  rw [goalsOk, decide_eq_true (by omega), Bool.true_and, ← not_any_not]
theorem l11Points_spec (l : List Int) (n : Int) (hl : l.length ≤ 1048576) (hn : 1 ≤ n ∧ n ≤ 96) : Pu Try.prog 56 [Is l, I n] (B (rising l n)) := by
  refine Pu.of fun H => ?_
  have e : IntKind.i64.wrap (n - 1) = n - 1 := i64_id (by omega) (by omega)
  refine W56_ok ?_; simp (maxSteps := 1000000) (disch := first | assumption | (apply ν6; assumption)) only [W56, vz, vu, vv, eqS, eF_, ↓c1_, ↓c2_, tabs, reduceCtorEq, ι5, ↓reduceIte, ν1, ν2, ν3, ν4, ν5, ι1, ι2, ι3, ι4, e]
  exact Pu.use (l1Rising_spec l n hl) ⟨rfl, Heap.le_refl _⟩
theorem l11Goals_spec (gs : List (List Int)) (n : Int) (hs : smLs gs) (hn : 1 ≤ n ∧ n ≤ 96) : Pu Try.prog 57 [Ls gs, I n] (B (goalsOk n gs)) := by
  have hl := hs.1
  refine Pu.of fun H => ?_
  refine W57_ok ?_; simp (maxSteps := 1000000) (disch := first | assumption | (apply ν6; assumption)) only [W57, vz, vu, vv, eqS, eF_, ↓c1_, ↓c2_, tabs, reduceCtorEq, ι5, ↓reduceIte, ν1, ν2, ν3, ν4, ν5, ι1, ι2, ι3, ι4]
  refine ⟨fun h => by rw [goalsOk, decide_eq_false (by omega)]; rfl, fun h => ?_⟩
  have hd : goalsOk n gs = gs.all (fun g => rising g n) := by rw [goalsOk, decide_eq_true (by omega), Bool.true_and]
  refine L57_0_rule (0 : Nat) (fun i => I i) (fun _ => H) (fun i => i ≤ gs.length ∧ (gs.take i).all (fun g => rising g n) = true) (fun i => gs.length - i) ⟨⟨by omega, rfl⟩, .refl _, Heap.le_refl _⟩ ?_
  rintro i ⟨hi, ha⟩
  (try simp (maxSteps := 1000000) (disch := first | assumption | (apply ν6; assumption)) only [vz, vu, vv, eqS, eF_, ↓c1_, ↓c2_, tabs, reduceCtorEq, ι5, ↓reduceIte, ν1, ν2, ν3, ν4, ν5, ι1, ι2, ι3, ι4, B57_0])
  refine ⟨fun h1 => ⟨by omega, h1, ?_⟩, fun h1 => ?_⟩
  · have hlt : i < gs.length := by omega
    have hm : gs.getD i default ∈ gs := getD_all (p := fun x => x ∈ gs) (fun _ h => h) hlt
    refine Pu.use (l11Points_spec (gs.getD i default) n (hs.2 _ hm) hn) ?_
    cases hr : rising (gs.getD i default) n
    · (try simp (maxSteps := 1000000) (disch := first | assumption | (apply ν6; assumption)) only [vz, vu, vv, eqS, eF_, ↓c1_, ↓c2_, tabs, reduceCtorEq, ι5, ↓reduceIte, ν1, ν2, ν3, ν4, ν5, ι1, ι2, ι3, ι4])
      rw [hd]
      exact congrArg (fun b : Bool => B b) (List.all_eq_false.2 ⟨_, hm, by rw [hr]; simp⟩).symm
    · (try simp (maxSteps := 1000000) (disch := first | assumption | (apply ν6; assumption)) only [vz, vu, vv, eqS, eF_, ↓c1_, ↓c2_, tabs, reduceCtorEq, ι5, ↓reduceIte, ν1, ν2, ν3, ν4, ν5, ι1, ι2, ι3, ι4])
      refine ⟨i + 1, ⟨by omega, ?_⟩, by omega, ?_⟩
      · rw [take_all_succ hlt, ha, Bool.true_and, ← getD_lt (d := default) hlt]; exact hr
      · rw [wk_int, i64_id (by omega) (by omega)]; simp
  · have : i = gs.length := by omega
    subst this
    rw [List.take_length] at ha
    rw [hd, ha]
theorem edIn_iff {n : Int} {e : Ed} : edIn n e = true ↔ (0 ≤ e.src ∧ e.src < n) ∧ (0 ≤ e.dst ∧ e.dst < n) ∧ (0 ≤ e.lt ∧ e.lt < 8) := by
  simp only [edIn, Bool.and_eq_true, decide_eq_true_eq]
theorem edAt_iff {n : Int} {es : List Ed} {i : Nat} : edAt n es i = true ↔ edIn n (es.getD i default) = true ∧ (i = 0 ∨ edLt (es.getD (i - 1) default) (es.getD i default) = true) := by
  simp only [edAt, Bool.and_eq_true, Bool.or_eq_true, decide_eq_true_eq]
theorem edAt_not {n : Int} {es : List Ed} {i : Nat} (h : ¬ (edIn n (es.getD i default) = true ∧ (i = 0 ∨ edLt (es.getD (i - 1) default) (es.getD i default) = true))) : edAt n es i = false := by
  rw [Bool.eq_false_iff]; exact fun hh => h (edAt_iff.1 hh)
theorem goodA_def (a : Au) : goodA a = ((decide (1 ≤ a.states) && decide (a.states ≤ 96)) && (rising a.first a.states && (decide (a.edges.length ≤ 2400) && (goalsOk a.states a.goals && edsOk a.states a.edges)))) := rfl
theorem GoodAuto_impl (a : Au) (hs : smAu a) : Pu Try.prog 29 [aAu a] (B (goodA a)) := by
  refine Pu.of fun H => ?_
  have gd := goodA_def a
  refine W29_ok ?_; simp (maxSteps := 1000000) (disch := first | assumption | (apply ν6; assumption)) only [W29, vz, vu, vv, eqS, eF_, ↓c1_, ↓c2_, tabs, reduceCtorEq, ι5, ↓reduceIte, ν1, ν2, ν3, ν4, ν5, ι1, ι2, ι3, ι4]
  intro r hr
  have hle := Heap.le_set (b := [I a.states, Is a.first, Es a.edges, Ls a.goals]) hr
  have bad : goodA a = false → AV.p (.bool false) = B (goodA a) ∧ Heap.le H (H.set r [I a.states, Is a.first, Es a.edges, Ls a.goals]) := fun h => ⟨by rw [h], hle⟩
  refine ⟨fun h1 => bad (by rw [gd, decide_eq_false (by omega)]; rfl), fun h1 => ⟨fun h2 => bad (by rw [gd, decide_eq_false (by omega : ¬ a.states ≤ 96), Bool.and_false]; rfl), fun h2 => ?_⟩⟩
  rw [decide_eq_true (by omega : 1 ≤ a.states), decide_eq_true (by omega : a.states ≤ 96), Bool.true_and, Bool.true_and] at gd
  refine Pu.use (isIncreasing_spec a.first a.states hs.1) ?_
  cases h3 : rising a.first a.states
  · (try simp (maxSteps := 1000000) (disch := first | assumption | (apply ν6; assumption)) only [vz, vu, vv, eqS, eF_, ↓c1_, ↓c2_, tabs, reduceCtorEq, ι5, ↓reduceIte, ν1, ν2, ν3, ν4, ν5, ι1, ι2, ι3, ι4])
    exact bad (by rw [gd, h3]; rfl)
  rw [h3, Bool.true_and] at gd
  (try simp (maxSteps := 1000000) (disch := first | assumption | (apply ν6; assumption)) only [vz, vu, vv, eqS, eF_, ↓c1_, ↓c2_, tabs, reduceCtorEq, ι5, ↓reduceIte, ν1, ν2, ν3, ν4, ν5, ι1, ι2, ι3, ι4])
  refine ⟨fun h4 => bad (by rw [gd, decide_eq_false (by omega)]; rfl), fun h4 => ?_⟩
  rw [decide_eq_true (by omega : a.edges.length ≤ 2400), Bool.true_and] at gd
  refine Pu.use (areGoals_spec a.goals a.states hs.2.2) ?_
  cases h5 : goalsOk a.states a.goals
  · (try simp (maxSteps := 1000000) (disch := first | assumption | (apply ν6; assumption)) only [vz, vu, vv, eqS, eF_, ↓c1_, ↓c2_, tabs, reduceCtorEq, ι5, ↓reduceIte, ν1, ν2, ν3, ν4, ν5, ι1, ι2, ι3, ι4])
    exact bad (by rw [gd, h5]; rfl)
  rw [h5, Bool.true_and] at gd
  (try simp (maxSteps := 1000000) (disch := first | assumption | (apply ν6; assumption)) only [vz, vu, vv, eqS, eF_, ↓c1_, ↓c2_, tabs, reduceCtorEq, ι5, ↓reduceIte, ν1, ν2, ν3, ν4, ν5, ι1, ι2, ι3, ι4])
  have hG : (H.set r [I a.states, Is a.first, Es a.edges, Ls a.goals]) r = some [I a.states, Is a.first, Es a.edges, Ls a.goals] := Heap.set_same _ _ _
  generalize H.set r [I a.states, Is a.first, Es a.edges, Ls a.goals] = G at hle bad hG ⊢
  refine L29_0_rule (0 : Nat) (fun i => I i) (fun _ => G) (fun i => i ≤ a.edges.length ∧ (List.range i).all (edAt a.states a.edges) = true) (fun i => a.edges.length - i) ⟨⟨by omega, rfl⟩, .refl _, Heap.le_refl _⟩ ?_
  rintro i ⟨hi, ha⟩
  (try simp (maxSteps := 1000000) (disch := first | assumption | (apply ν6; assumption)) only [vz, vu, vv, eqS, eF_, ↓c1_, ↓c2_, tabs, reduceCtorEq, ι5, ↓reduceIte, ν1, ν2, ν3, ν4, ν5, ι1, ι2, ι3, ι4, B29_0])
  refine ⟨fun h6 => ⟨by omega, h6, fun r4 hr4 => ?_⟩, fun h6 => ?_⟩
  · have hlt : i < a.edges.length := by omega
    have nr : r ≠ r4 := fun e => by rw [e, hr4] at hG; cases hG
    have nr' : r4 ≠ r := Ne.symm nr
    have ra : edAt a.states a.edges i = false → AV.p (.bool false) = B (goodA a) ∧ Heap.le H (G.set r4 [I (a.edges.getD i default).src, I (a.edges.getD i default).lt, I (a.edges.getD i default).dst]) := fun h => ⟨by rw [gd, edsOk, range_all_false hlt h], Heap.le_trans hle (Heap.le_set hr4)⟩
    have e1 : 0 < (i : Int) → IntKind.i64.wrap ((i : Int) - 1) = i - 1 := fun _ => i64_id (by omega) (by omega)
    have e2 : ((i : Int) - 1).toNat = i - 1 := by omega
    have nx : edAt a.states a.edges i = true → (List.range (i + 1)).all (edAt a.states a.edges) = true := fun h => by rw [range_all_succ, ha, h]; rfl
    have hne : ¬ (edIn a.states (a.edges.getD i default) = true) → edAt a.states a.edges i = false := fun h => edAt_not fun hh => h hh.1
    rw [edIn_iff] at hne
    (try simp (maxSteps := 1000000) (disch := first | assumption | (apply ν6; assumption)) only [vz, vu, vv, eqS, eF_, ↓c1_, ↓c2_, tabs, reduceCtorEq, ι5, ↓reduceIte, ν1, ν2, ν3, ν4, ν5, ι1, ι2, ι3, ι4, load_at hG])
    refine ⟨fun g => ra (hne (by omega)), fun g1 => ⟨fun g => ra (hne (by omega)), fun g2 => ⟨fun g => ra (hne (by omega)), fun g3 => ⟨fun g => ra (hne (by omega)), fun g4 => ⟨fun g => ra (hne (by omega)), fun g5 => ⟨fun g => ra (hne (by omega)), fun g6 => ⟨fun g7 => ?_, fun g7 => ?_⟩⟩⟩⟩⟩⟩⟩
    · rw [e1 g7, e2]
      refine ⟨by omega, by omega, ?_⟩
      refine Pu.use (compareEdges_spec (a.edges.getD (i - 1) default) (a.edges.getD i default)) ?_
      cases h8 : edLt (a.edges.getD (i - 1) default) (a.edges.getD i default)
      · have e3 : (if false = true then (-1 : Int) else if edLt (a.edges.getD i default) (a.edges.getD (i - 1) default) = true then 1 else 0) ≥ 0 := by
          rw [if_neg (by decide)]; split <;> decide
        (try simp (maxSteps := 1000000) (disch := first | assumption | (apply ν6; assumption)) only [vz, vu, vv, eqS, eF_, ↓c1_, ↓c2_, tabs, reduceCtorEq, ι5, ↓reduceIte, ν1, ν2, ν3, ν4, ν5, ι1, ι2, ι3, ι4])
        refine ⟨fun _ => ra (edAt_not fun hh => ?_), fun h9 => absurd e3 (by simpa using h9)⟩
        rcases hh.2 with h | h
        · omega
        · rw [h8] at h; cases h
      · (try simp (maxSteps := 1000000) (disch := first | assumption | (apply ν6; assumption)) only [vz, vu, vv, eqS, eF_, ↓c1_, ↓c2_, tabs, reduceCtorEq, ι5, ↓reduceIte, ν1, ν2, ν3, ν4, ν5, ι1, ι2, ι3, ι4])
        refine ⟨fun h => absurd h (by decide), fun _ => ⟨i + 1, ⟨by omega, nx (edAt_iff.2 ⟨edIn_iff.2 (by omega), .inr h8⟩)⟩, by omega, ?_, Heap.le_set hr4⟩⟩
        rw [wk_int, i64_id (by omega) (by omega)]; simp
    · refine ⟨i + 1, ⟨by omega, nx (edAt_iff.2 ⟨edIn_iff.2 (by omega), .inl (by omega)⟩)⟩, by omega, ?_, Heap.le_set hr4⟩
      rw [wk_int, i64_id (by omega) (by omega)]; simp
  · have : i = a.edges.length := by omega
    subst this
    exact ⟨by rw [gd, edsOk, ha], hle⟩
theorem GoodAuto_spec (a : Au) (hs : smAu a) : Pu Try.prog 23 [aAu a] (B (goodA a)) := by
  refine Pu.of fun H => ?_
  have gd := goodA_def a
  refine W23_ok ?_; simp (maxSteps := 1000000) (disch := first | assumption | (apply ν6; assumption)) only [W23, vz, vu, vv, eqS, eF_, ↓c1_, ↓c2_, tabs, reduceCtorEq, ι5, ↓reduceIte, ν1, ν2, ν3, ν4, ν5, ι1, ι2, ι3, ι4]
  intro r hr
  have hle := Heap.le_set (b := [I a.states, Is a.first, Es a.edges, Ls a.goals]) hr
  have bad : goodA a = false → AV.p (.bool false) = B (goodA a) ∧ Heap.le H (H.set r [I a.states, Is a.first, Es a.edges, Ls a.goals]) := fun h => ⟨by rw [h], hle⟩
  refine Pu.use (l1In_spec a.states 1 96) ?_
  cases h1 : (decide (1 ≤ a.states) && decide (a.states ≤ 96))
  · (try simp (maxSteps := 1000000) (disch := first | assumption | (apply ν6; assumption)) only [vz, vu, vv, eqS, eF_, ↓c1_, ↓c2_, tabs, reduceCtorEq, ι5, ↓reduceIte, ν1, ν2, ν3, ν4, ν5, ι1, ι2, ι3, ι4])
    exact bad (by rw [gd, h1]; rfl)
  rw [h1, Bool.true_and] at gd
  simp only [Bool.and_eq_true, decide_eq_true_eq] at h1
  (try simp (maxSteps := 1000000) (disch := first | assumption | (apply ν6; assumption)) only [vz, vu, vv, eqS, eF_, ↓c1_, ↓c2_, tabs, reduceCtorEq, ι5, ↓reduceIte, ν1, ν2, ν3, ν4, ν5, ι1, ι2, ι3, ι4])
  refine Pu.use (l11Points_spec a.first a.states hs.1 h1) ?_
  cases h3 : rising a.first a.states
  · (try simp (maxSteps := 1000000) (disch := first | assumption | (apply ν6; assumption)) only [vz, vu, vv, eqS, eF_, ↓c1_, ↓c2_, tabs, reduceCtorEq, ι5, ↓reduceIte, ν1, ν2, ν3, ν4, ν5, ι1, ι2, ι3, ι4])
    exact bad (by rw [gd, h3]; rfl)
  rw [h3, Bool.true_and] at gd
  (try simp (maxSteps := 1000000) (disch := first | assumption | (apply ν6; assumption)) only [vz, vu, vv, eqS, eF_, ↓c1_, ↓c2_, tabs, reduceCtorEq, ι5, ↓reduceIte, ν1, ν2, ν3, ν4, ν5, ι1, ι2, ι3, ι4])
  refine ⟨fun h4 => bad (by rw [gd, decide_eq_false (by omega)]; rfl), fun h4 => ?_⟩
  rw [decide_eq_true (by omega : a.edges.length ≤ 2400), Bool.true_and] at gd
  refine Pu.use (l11Goals_spec a.goals a.states hs.2.2 h1) ?_
  cases h5 : goalsOk a.states a.goals
  · (try simp (maxSteps := 1000000) (disch := first | assumption | (apply ν6; assumption)) only [vz, vu, vv, eqS, eF_, ↓c1_, ↓c2_, tabs, reduceCtorEq, ι5, ↓reduceIte, ν1, ν2, ν3, ν4, ν5, ι1, ι2, ι3, ι4])
    exact bad (by rw [gd, h5]; rfl)
  rw [h5, Bool.true_and] at gd
  (try simp (maxSteps := 1000000) (disch := first | assumption | (apply ν6; assumption)) only [vz, vu, vv, eqS, eF_, ↓c1_, ↓c2_, tabs, reduceCtorEq, ι5, ↓reduceIte, ν1, ν2, ν3, ν4, ν5, ι1, ι2, ι3, ι4])
  have hG : (H.set r [I a.states, Is a.first, Es a.edges, Ls a.goals]) r = some [I a.states, Is a.first, Es a.edges, Ls a.goals] := Heap.set_same _ _ _
  generalize H.set r [I a.states, Is a.first, Es a.edges, Ls a.goals] = G at hle bad hG ⊢
  have e0 : IntKind.i64.wrap (a.states - 1) = a.states - 1 := i64_id (by omega) (by omega)
  refine L23_0_rule (0 : Nat) (fun i => I i) (fun _ => G) (fun i => i ≤ a.edges.length ∧ (List.range i).all (edAt a.states a.edges) = true) (fun i => a.edges.length - i) ⟨⟨by omega, rfl⟩, .refl _, Heap.le_refl _⟩ ?_
  rintro i ⟨hi, ha⟩
  (try simp (maxSteps := 1000000) (disch := first | assumption | (apply ν6; assumption)) only [vz, vu, vv, eqS, eF_, ↓c1_, ↓c2_, tabs, reduceCtorEq, ι5, ↓reduceIte, ν1, ν2, ν3, ν4, ν5, ι1, ι2, ι3, ι4, B23_0])
  refine ⟨fun h6 => ⟨by omega, h6, fun r4 hr4 => ?_⟩, fun h6 => ?_⟩
  · have hlt : i < a.edges.length := by omega
    have nr : r ≠ r4 := fun e => by rw [e, hr4] at hG; cases hG
    have nr' : r4 ≠ r := Ne.symm nr
    have ra : edAt a.states a.edges i = false → AV.p (.bool false) = B (goodA a) ∧ Heap.le H (G.set r4 [I (a.edges.getD i default).src, I (a.edges.getD i default).lt, I (a.edges.getD i default).dst]) := fun h => ⟨by rw [gd, edsOk, range_all_false hlt h], Heap.le_trans hle (Heap.le_set hr4)⟩
    have e1 : 0 < (i : Int) → IntKind.i64.wrap ((i : Int) - 1) = i - 1 := fun _ => i64_id (by omega) (by omega)
    have e2 : ((i : Int) - 1).toNat = i - 1 := by omega
    have nx : edAt a.states a.edges i = true → (List.range (i + 1)).all (edAt a.states a.edges) = true := fun h => by rw [range_all_succ, ha, h]; rfl
    have hne : ¬ (edIn a.states (a.edges.getD i default) = true) → edAt a.states a.edges i = false := fun h => edAt_not fun hh => h hh.1
    rw [edIn_iff] at hne
    (try simp (maxSteps := 1000000) (disch := first | assumption | (apply ν6; assumption)) only [vz, vu, vv, eqS, eF_, ↓c1_, ↓c2_, tabs, reduceCtorEq, ι5, ↓reduceIte, ν1, ν2, ν3, ν4, ν5, ι1, ι2, ι3, ι4, load_at hG, e0])
    refine Pu.use (l1In_spec (a.edges.getD i default).src 0 (a.states - 1)) ?_
    cases g1 : (decide (0 ≤ (a.edges.getD i default).src) && decide ((a.edges.getD i default).src ≤ a.states - 1))
    · simp only [Bool.and_eq_false_iff, decide_eq_false_iff_not] at g1
      (try simp (maxSteps := 1000000) (disch := first | assumption | (apply ν6; assumption)) only [vz, vu, vv, eqS, eF_, ↓c1_, ↓c2_, tabs, reduceCtorEq, ι5, ↓reduceIte, ν1, ν2, ν3, ν4, ν5, ι1, ι2, ι3, ι4])
      exact ra (hne (by omega))
    simp only [Bool.and_eq_true, decide_eq_true_eq] at g1
    (try simp (maxSteps := 1000000) (disch := first | assumption | (apply ν6; assumption)) only [vz, vu, vv, eqS, eF_, ↓c1_, ↓c2_, tabs, reduceCtorEq, ι5, ↓reduceIte, ν1, ν2, ν3, ν4, ν5, ι1, ι2, ι3, ι4])
    refine Pu.use (l1In_spec (a.edges.getD i default).lt 0 7) ?_
    cases g2 : (decide (0 ≤ (a.edges.getD i default).lt) && decide ((a.edges.getD i default).lt ≤ 7))
    · simp only [Bool.and_eq_false_iff, decide_eq_false_iff_not] at g2
      (try simp (maxSteps := 1000000) (disch := first | assumption | (apply ν6; assumption)) only [vz, vu, vv, eqS, eF_, ↓c1_, ↓c2_, tabs, reduceCtorEq, ι5, ↓reduceIte, ν1, ν2, ν3, ν4, ν5, ι1, ι2, ι3, ι4])
      exact ra (hne (by omega))
    simp only [Bool.and_eq_true, decide_eq_true_eq] at g2
    (try simp (maxSteps := 1000000) (disch := first | assumption | (apply ν6; assumption)) only [vz, vu, vv, eqS, eF_, ↓c1_, ↓c2_, tabs, reduceCtorEq, ι5, ↓reduceIte, ν1, ν2, ν3, ν4, ν5, ι1, ι2, ι3, ι4, load_at hG, e0])
    refine Pu.use (l1In_spec (a.edges.getD i default).dst 0 (a.states - 1)) ?_
    cases g3 : (decide (0 ≤ (a.edges.getD i default).dst) && decide ((a.edges.getD i default).dst ≤ a.states - 1))
    · simp only [Bool.and_eq_false_iff, decide_eq_false_iff_not] at g3
      (try simp (maxSteps := 1000000) (disch := first | assumption | (apply ν6; assumption)) only [vz, vu, vv, eqS, eF_, ↓c1_, ↓c2_, tabs, reduceCtorEq, ι5, ↓reduceIte, ν1, ν2, ν3, ν4, ν5, ι1, ι2, ι3, ι4])
      exact ra (hne (by omega))
    simp only [Bool.and_eq_true, decide_eq_true_eq] at g3
    (try simp (maxSteps := 1000000) (disch := first | assumption | (apply ν6; assumption)) only [vz, vu, vv, eqS, eF_, ↓c1_, ↓c2_, tabs, reduceCtorEq, ι5, ↓reduceIte, ν1, ν2, ν3, ν4, ν5, ι1, ι2, ι3, ι4, load_at hG])
    refine ⟨fun g7 => ?_, fun g7 => ?_⟩
    · rw [e1 g7, e2]
      refine ⟨by omega, by omega, ?_⟩
      refine Pu.use (l12Less_spec (a.edges.getD (i - 1) default) (a.edges.getD i default)) ?_
      cases h8 : edLt (a.edges.getD (i - 1) default) (a.edges.getD i default)
      · (try simp (maxSteps := 1000000) (disch := first | assumption | (apply ν6; assumption)) only [vz, vu, vv, eqS, eF_, ↓c1_, ↓c2_, tabs, reduceCtorEq, ι5, ↓reduceIte, ν1, ν2, ν3, ν4, ν5, ι1, ι2, ι3, ι4])
        refine ra (edAt_not fun hh => ?_)
        rcases hh.2 with h | h
        · omega
        · rw [h8] at h; cases h
      · (try simp (maxSteps := 1000000) (disch := first | assumption | (apply ν6; assumption)) only [vz, vu, vv, eqS, eF_, ↓c1_, ↓c2_, tabs, reduceCtorEq, ι5, ↓reduceIte, ν1, ν2, ν3, ν4, ν5, ι1, ι2, ι3, ι4])
        refine ⟨i + 1, ⟨by omega, nx (edAt_iff.2 ⟨edIn_iff.2 (by omega), .inr h8⟩)⟩, by omega, ?_, Heap.le_set hr4⟩
        rw [wk_int, i64_id (by omega) (by omega)]; simp
    · refine ⟨i + 1, ⟨by omega, nx (edAt_iff.2 ⟨edIn_iff.2 (by omega), .inl (by omega)⟩)⟩, by omega, ?_, Heap.le_set hr4⟩
      rw [wk_int, i64_id (by omega) (by omega)]; simp
  · have : i = a.edges.length := by omega
    subst this
    exact ⟨by rw [gd, edsOk, ha], hle⟩
end Go.Proofs.Ytolffbcnbcjeaaa
namespace Go.Proofs.Ytolffbcnbcjeaaa
open Go Go.Sep Go.Pt
attribute [local irreducible] CallT
theorem cI_len (xs : List Int) : (cP fI xs).length = xs.length := by simp [cP]
theorem cI_app (xs ys : List Int) : cP fI (xs ++ ys) = cP fI xs ++ cP fI ys := by simp [cP]
theorem app_intsX {q : Nat} {xs ys : List Int} {ex : List AV} {G : Heap} {K : AV → Heap → Prop} (hq : G q = some (cP fI xs ++ ex)) (hl : xs.length + ys.length ≤ 1000000000)
    (h : ∀ q', G q' = none → q' ≠ q → K (rowP q' (xs ++ ys)) ((G.del q).set q' (cP fI (xs ++ ys)))) : appendV tab 22 22 (rowP q xs) (Is ys) G (wkK K) := by
  have hlen := cI_len xs
  simp only [appendV, tab_22, tab_3, srcV, baseV, hq]
  have e2 : List.map AV.p (List.map eI ys).flatten = cP fI ys := flat_P fI ys
  refine ⟨szI ys, trivial, by rw [List.length_append, hlen]; omega, by simp only [List.length_map]; omega, by simp only [List.length_map]; omega, cells_cell _, fun q' hq' => wkK.keep ?_⟩
  have hne : q' ≠ q := fun e => by rw [e, hq] at hq'; cases hq'
  have := h q' hq' hne
  have e : List.take (xs.length * 1) (List.drop 0 (cP fI xs ++ ex)) = cP fI xs := by rw [List.drop_zero, Nat.mul_one, ← hlen, List.take_left]
  rw [e, e2, List.length_map]
  rw [cI_app] at this
  simpa only [rowP, List.length_append] using this
theorem app_topI {q : Nat} {xs ys : List Int} {G : Heap} {K : AV → Heap → Prop} (hq : G q = none) (hl : xs.length + ys.length ≤ 1000000) (h : ∀ q', G q' = none → K (rowP q' (xs ++ ys)) (G.set q' (cP fI (xs ++ ys)))) :
    appendV tab 22 22 (rowP q xs) (Is ys) (G.set q (cP fI xs)) (wkK K) :=
  app_intsX (ex := []) (by rw [Heap.set_same, List.append_nil]) (by omega) fun q' hq' hne => by
    rw [Heap.del_set hq]
    rw [Heap.set_none] at hq'
    exact h q' hq'.2
theorem push_topI {q : Nat} {xs : List Int} {b : Int} {G : Heap} {K : AV → Heap → Prop} (hq : G q = none) (hl : xs.length ≤ 100000) (h : ∀ q', G q' = none → K (rowP q' (xs ++ [b])) (G.set q' (cP fI (xs ++ [b])))) :
    buildSliceV tab 22 1 [(0, I b)] (G.set q (cP fI xs)) (wkK fun v H1 => appendV tab 22 22 (rowP q xs) v H1 (wkK K)) := by
  refine lit1 tab_22 rfl tab_3 ⟨rfl, rfl⟩ ?_
  exact app_topI (ys := [b]) hq (by simp; omega) h
theorem lit0I {G : Heap} {K : AV → Heap → Prop} (h : ∀ q, G q = none → K (rowP q ([] : List Int)) (G.set q (cP fI []))) : buildSliceV tab 22 0 [] G (wkK K) := by
  simp only [buildSliceV, tab_22, tab_3]
  refine ⟨by omega, ?_⟩
  simp only [fillV, zerosA, List.replicate_zero, List.flatten_nil]
  exact fun r hr => wkK.keep (h r hr)
def below (n : Nat) : List Int := (List.range n).map fun (i : Nat) => (i : Int)
def smI (l : List Int) : Prop := l.length ≤ 10000 ∧ ∀ x ∈ l, 0 ≤ x ∧ x ≤ 100000
theorem fin_int {q : Nat} {xs : List Int} {H G : Heap} (hq : H q = none) (hG : Heap.le (H.set q (cP fI xs)) G) : wkK (fun r H' => r = Is xs ∧ H' = H) (rowP q xs) G := by
  have := fin_own (sz := 1) (es := xs.map eI) (q := q) (H := H) (H' := G) (K := fun r H' => r = Is xs ∧ H' = H) (by omega) (szI _) hq (by
    have e : cells (xs.map eI) = cP fI xs := cells_P fI xs
    rw [e]; exact hG) ⟨rfl, rfl⟩
  simpa only [Go.Sep.own, List.length_map] using this
theorem l1Own_row (l : List Int) (hl : l.length ≤ 100000) {H : Heap} {K : AV → Heap → Prop} (h : ∀ q, H q = none → K (rowP q l) (H.set q (cP fI l))) : CallT Try.prog 82 [Is l] H K := by
  refine CallT.fin ?_
  refine W82_ok ?_; simp (maxSteps := 1000000) (disch := first | assumption | (apply ν6; assumption)) only [W82, vz, vu, vv, eqS, eF_, ↓c1_, ↓c2_, tabs, reduceCtorEq, ι5, ↓reduceIte, ν1, ν2, ν3, ν4, ν5, ι1, ι2, ι3, ι4]
  refine lit0I fun q0 hq0 => ?_
  refine app_topI (xs := []) (ys := l) hq0 (by simp; omega) fun q hq => ?_
  rw [List.nil_append]
  exact wkK.keep (h q hq)
theorem LI_mk' {xs : List Int} {q : Nat} {G : Heap} (h : G q = some (cP fI xs)) : LI xs (rowP q xs) G [q] := LI_mk (by
  have e : cells (xs.map eI) = cP fI xs := cells_P fI xs
  rw [e]; exact h)
theorem lit_live1 {G : Heap} {K : AV → Heap → Prop} {q n : Nat} (h : ∀ ql, G ql = none → K (.sl ql 1 0 1) (G.set ql [.sl q 1 0 n])) : buildSliceV tab 24 1 [(0, .sl q 1 0 n)] G (wkK K) := by
  simp only [buildSliceV, tab_24, tab_22]
  refine ⟨by omega, ?_⟩
  simp only [fillV, zerosA, List.replicate_succ, List.replicate_zero, List.flatten_cons, List.flatten_nil, List.append_nil, AV.cells, splice]
  simp only [List.length_cons, List.length_nil, Nat.reduceAdd, Nat.zero_mul, Nat.zero_add, Nat.le_refl, and_self, if_true, List.take_zero, List.nil_append, List.drop_succ_cons, List.drop_zero, List.append_nil]
  exact fun r hr => wkK.keep (h r hr)
theorem CloneI_row (xs : List Int) (hl : xs.length ≤ 100000) {H : Heap} {K : AV → Heap → Prop} (h : ∀ q, H q = none → K (rowP q xs) (H.set q (cP fI xs))) : CallT Try.prog 76 [Is xs] H K := by
  refine CallT.fin ?_
  refine CallT.ghost W76_hb fun q0 hq0 => ?_
  refine W76_ok ?_; simp (maxSteps := 1000000) (disch := first | assumption | (apply ν6; assumption)) only [W76, vz, vu, vv, eqS, eF_, ↓c1_, ↓c2_, tabs, reduceCtorEq, ι5, ↓reduceIte, ν1, ν2, ν3, ν4, ν5, ι1, ι2, ι3, ι4]
  have main : buildSliceV tab 22 0 [] (H.set q0 []) (wkK fun v5 H1 => appendV tab 22 22 v5 (Is xs) H1 (wkK fun v7 H2 => wkK K v7 H2)) := by
    refine lit0I fun q1 hq1 => ?_
    refine app_topI (xs := []) (ys := xs) hq1 (by simp; omega) fun q2 hq2 => ?_
    rw [Heap.set_none] at hq2
    rw [List.nil_append]
    refine fin_le ?_ (h q2 hq2.2)
    generalize cP fI xs = z
    have := hq2.2
    have := hq2.1
    (intro y b hy; simp only [Heap.set, Heap.del] at hy ⊢; (repeat' split at hy) <;> (repeat' split) <;> simp_all [cells])
  refine ⟨fun h0 => ⟨?_, main⟩, fun _ => main⟩
  have hx : xs = [] := List.map_eq_nil_iff.1 h0
  subst hx
  exact ⟨_, _, .val (.nilo q0 1 0), h q0 hq0⟩
theorem IndexI_spec (l : List Int) (x : Int) (hl : l.length ≤ 1048576) : Pu Try.prog 111 [Is l, I x] (I (if x ∈ l then (l.idxOf x : Int) else -1)) := by
  refine Pu.of fun H => ?_
  refine W111_ok ?_; simp (maxSteps := 1000000) (disch := first | assumption | (apply ν6; assumption)) only [W111, vz, vu, vv, eqS, eF_, ↓c1_, ↓c2_, tabs, reduceCtorEq, ι5, ↓reduceIte, ν1, ν2, ν3, ν4, ν5, ι1, ι2, ι3, ι4]
  refine L111_0_rule (0 : Nat) (fun i => I i) (fun _ => H) (fun i => i ≤ l.length ∧ ∀ j, j < i → l.getD j default ≠ x) (fun i => l.length - i) ⟨⟨by omega, by intros; omega⟩, .refl _, Heap.le_refl _⟩ ?_
  rintro i ⟨hi, ha⟩
  (try simp (maxSteps := 1000000) (disch := first | assumption | (apply ν6; assumption)) only [vz, vu, vv, eqS, eF_, ↓c1_, ↓c2_, tabs, reduceCtorEq, ι5, ↓reduceIte, ν1, ν2, ν3, ν4, ν5, ι1, ι2, ι3, ι4, B111_0])
  refine ⟨fun h1 => ⟨by omega, h1, fun h2 => ?_, fun h2 => ⟨i + 1, ⟨by omega, fun j hj => ?_⟩, by omega, ?_⟩⟩, fun h1 => ?_⟩
  · have hlt : i < l.length := by omega
    have hm : x ∈ l := by rw [h2]; exact getD_all (p := fun x => x ∈ l) (fun _ h => h) hlt
    rw [if_pos hm]
    refine congrArg (fun n : Int => I n) ?_
    have : l.idxOf x = i := by
      rw [List.idxOf, List.findIdx_eq hlt]
      refine ⟨by rw [← getD_lt (d := default) hlt, ← h2]; simp, fun j hj => ?_⟩
      have := ha j hj
      rw [getD_lt (by omega : j < l.length)] at this
      simpa using this
    omega
  · rcases Nat.lt_succ_iff_lt_or_eq.1 hj with h | rfl
    · exact ha j h
    · exact fun e => h2 e.symm
  · rw [wk_int, i64_id (by omega) (by omega)]; simp
  · have hm : x ∉ l := by
      intro hm
      obtain ⟨j, hj, e⟩ := List.mem_iff_getElem.1 hm
      exact ha j (by omega) (by rw [getD_lt hj]; exact e)
    rw [if_neg hm]
end Go.Proofs.Ytolffbcnbcjeaaa
namespace Go.Sep
open Go Go.RowKit
inductive FinK (K : AV → Heap → Prop) : AV → Heap → Prop where
  | done {v : AV} {H : Heap} (h : K v H) : FinK K v H
  | wk {v v' : AV} {H H' : Heap} (h : Wk v H v' H') (k : FinK K v' H') : FinK K v H
  | ghost {v : AV} {H : Heap} (k : ∀ z, H z = none → FinK K v (H.set z [])) : FinK K v H
theorem UpV.finish {B0 : Nat} {w0 : World} {F : Heap} {K : AV → Heap → Prop} {v : AV} {H : Heap} (h : FinK K v H) : ∀ {Z : Fro} {φ : Pm} {x : Value} {w : World}, Disj H F → Sim Z φ B0 w0 (H.or F) w → Cv Z φ v x → UpV B0 w0 F Z φ K x w := by
  induction h with
  | done h => exact fun hd hs hc => ⟨_, _, _, _, h, Fro.le_refl _, Pm.le_refl _, hd, hs, hc⟩
  | wk h k ih =>
    intro Z φ x w hd hs hc
    obtain ⟨Z', φ', h1, h2, h3, h4, h5⟩ := UpV.wk h hd hs hc
    obtain ⟨v', H', Z2, φ2, a, b, c, d, e, f⟩ := ih h3 h4 h5
    exact ⟨v', H', Z2, φ2, a, Fro.le_trans h1 b, Pm.le_trans h2 c, d, e, f⟩
  | ghost k ih =>
    intro Z φ x w hd hs hc
    obtain ⟨r, φ', h1, h2, h3, h4⟩ := Rel.ghost hd hs
    obtain ⟨v', H', Z2, φ2, a, b, c, d, e, f⟩ := ih r h1 h3 h4 (hc.mono (Fro.le_refl _) h2)
    exact ⟨v', H', Z2, φ2, a, b, Pm.le_trans h2 c, d, e, f⟩
theorem CallT.finish {P : Program} {f : Nat} {args : List AV} {H : Heap} {K : AV → Heap → Prop} (h : CallT P f args H (FinK K)) : CallT P f args H K := by
  refine ⟨h.1, fun B0 w0 F Z φ w xs hd hs ha => (h.2 B0 w0 F Z φ w xs hd hs ha).mono ?_⟩
  rintro e w' ⟨x, rfl, v, H', Z', φ', hk, b, c, d, e, f⟩
  obtain ⟨v', H2, Z2, φ2, a, b2, c2, d2, e2, f2⟩ := UpV.finish hk d e f
  exact ⟨x, rfl, v', H2, Z2, φ2, a, Fro.le_trans b b2, Pm.le_trans c c2, d2, e2, f2⟩
theorem FinK.ofWkK {K : AV → Heap → Prop} {v : AV} {H : Heap} (h : wkK K v H) : FinK K v H := let ⟨_, _, a, b⟩ := h; .wk a (.done b)
def RN {α : Type} (L : Lay α) (sz : Nat) (x : AV) (xs : List α) (G : Heap) (D : List Nat) : Prop := (x = .p .nil ∧ xs = [] ∧ D = []) ∨ LRow L sz xs x G D
theorem RN.local {α : Type} {L : Lay α} {sz : Nat} (hL : L.Local) {x : AV} {xs : List α} {G G' : Heap} {D : List Nat} (h : RN L sz x xs G D) (hf : ∀ y ∈ D, ∀ b, G y = some b → G' y = some b) : RN L sz x xs G' D := by
  rcases h with h | h
  · exact .inl h
  · exact .inr (h.local hL hf)
theorem RN.has {α : Type} {L : Lay α} {sz : Nat} (hL : L.Has) {x : AV} {xs : List α} {G : Heap} {D : List Nat} (h : RN L sz x xs G D) : ∀ y ∈ D, G y ≠ none := by
  rcases h with ⟨h1, h2, rfl⟩ | h
  · intro y hy; cases hy
  · exact h.has hL
theorem RN.sl {α : Type} {L : Lay α} {sz : Nat} {x : AV} {xs : List α} {G : Heap} {D : List Nat} (h : RN L sz x xs G D) : x = .p .nil ∨ ∃ q, x = .sl q sz 0 xs.length := by
  rcases h with ⟨h1, _⟩ | ⟨q, cs, D', h1, _⟩
  · exact .inl h1
  · exact .inr ⟨q, h1⟩
def rnT {α : Type} {L : Lay α} (hL : L.Local) (hh : L.Has) (sz : Nat) (x : AV) (xs : List α) (D : List Nat) : Th := ⟨D, fun G => RN L sz x xs G D, fun h f => h.local hL f, fun h => h.has hh⟩
theorem LL.plain' {α : Type} {e : α → List PV} {G : Heap} : ∀ {xs : List α} {cs : List AV} {D : List Nat}, LL (LPl e) xs cs G D → cs = cells (xs.map e) ∧ D = []
  | [], _, _, ⟨h1, h2⟩ => ⟨h1, h2⟩
  | a :: xs, _, _, ⟨c1, c2, D1, D2, e1, e2, h1, h2⟩ => by
    obtain ⟨f1, f2⟩ := LL.plain' h2
    rw [e1, e2, h1.1, h1.2, f1, f2]
    exact ⟨by simp [cells], rfl⟩
theorem RN.app {tab : Tab} {t0 t1 e0 e1 sz : Nat} {d d1 ed : TD} {α : Type} {e : α → List PV} (h1 : tab t0 = some d) (h2 : d.k = .slice e0) (h3 : tab e0 = some ed) (h4 : tab t1 = some d1) (h5 : d1.k = .slice e1) (h6 : ed.size = sz) {bz : Nat} (h7 : ed.bytes = bz)
    (hsz : ∀ a, (e a).length = sz) {H G : Heap} {Ts : List Th} {x y : AV} {xs ys : List α} {D : List Nat} {hL : (LPl e).Local} {hh : (LPl e).Has} (s : St H Ts G) (i : Nat) (hi : Ts[i]? = some (rnT hL hh sz x xs D)) (hy : y = .p (.sl (ys.map e)))
    (hl : (xs.length + ys.length) * bz ≤ 140737488355328) (hl2 : xs.length + ys.length ≤ 9223372036854775807) {K : AV → Heap → Prop}
    (h : ∀ q' G', G q' = none → St H (Ts.set i (rnT hL hh sz (.sl q' sz 0 (xs ++ ys).length) (xs ++ ys) [q'])) G' → K (.sl q' sz 0 (xs ++ ys).length) G') : appendV tab t0 t1 x y G (wkK K) := by
  subst hy
  have hrz : RN (LPl e) sz x xs G D := s.get i hi
  rcases hrz with ⟨rfl, rfl, rfl⟩ | ⟨q, cs, D', rfl, hq, hll, rfl⟩
  · refine app_nil h1 h2 h3 h4 h5 h6 h7 (.inl rfl) (.inl rfl) (sized_map hsz ys) (by simpa using hl) (by simpa using hl2) fun q' hq' => ?_
    have := h q' _ hq' (s.repl i hi (rnT hL hh sz (.sl q' sz 0 ([] ++ ys).length) ([] ++ ys) [q']) (by simp [rnT]) (fun y hy => by
      simp only [rnT, List.mem_singleton] at hy; subst hy; exact .inr hq') (G' := G.set q' (cells (ys.map e))) (fun y b hb _ => Heap.le_set hq' y b hb) (.inr ⟨q', _, [], rfl, Heap.set_same _ _ _, LL.plain _, rfl⟩))
    simpa [Go.Sep.own] using this
  · obtain ⟨rfl, rfl⟩ := LL.plain' hll
    have := app_own (x := .p (.sl (ys.map e))) (r := q) (es := xs.map e) (fs := ys.map e) (H := G) (K := K) h1 h2 h3 h4 h5 h6 h7 (.inl rfl) hq (sized_map hsz xs) (sized_map hsz ys)
      (by simpa using hl) (by simpa using hl2) fun q' hq' => by
        have := h q' ((G.del q).set q' (cells ((xs ++ ys).map e))) hq' (s.repl i hi (rnT hL hh sz (.sl q' sz 0 (xs ++ ys).length) (xs ++ ys) [q']) (by simp [rnT]) (fun y hy => by
          simp only [rnT, List.mem_singleton] at hy; subst hy; exact .inr hq') (fun y b hb hy => by
            simp only [rnT, List.mem_singleton] at hy
            rw [Heap.set_other (fun e => by rw [e, hq'] at hb; cases hb), Heap.del_other hy]; exact hb) (.inr ⟨q', _, [], rfl, Heap.set_same _ _ _, LL.plain _, rfl⟩))
        simpa only [Go.Sep.own, List.length_map, List.map_append, List.length_append] using this
    simpa only [Go.Sep.own, List.length_map] using this
end Go.Sep
namespace Go.Proofs.Ytolffbcnbcjeaaa
open Go Go.Sep Go.Pt
attribute [local irreducible] CallT
def LIn : Lay (List Int) := fun l cs G D => ∃ x, cs = [x] ∧ RN (LPl eI) 1 x l G D
theorem LIn.local : Lay.Local LIn := by
  rintro c cs G G' D ⟨x, e, h⟩ hf
  exact ⟨x, e, h.local (LPl.local eI) hf⟩
theorem LIn.has : Lay.Has LIn := by
  rintro c cs G D ⟨x, e, h⟩
  exact h.has (LPl.has eI)
theorem LIn.size : Lay.Size LIn 1 := by
  rintro c cs G D ⟨x, rfl, h⟩; rfl
abbrev rnI (x : AV) (l : List Int) (D : List Nat) : Th := rnT (LPl.local eI) (LPl.has eI) 1 x l D
def tabT (q : Nat) (rows : List (List Int)) (D : List Nat) : Th := ⟨D, fun G => LRow LIn 1 rows (.sl q 1 0 rows.length) G D, fun h f => h.local LIn.local f, fun h => h.has LIn.has⟩
def holeT (q : Nat) (pre : List AV) (c : AV) (post : List AV) (rows : List (List Int)) (i : Nat) (D : List Nat) : Th :=
  ⟨D, fun G => G q = some (pre ++ (c :: post)) ∧ ∃ Dp Dq, D = q :: (Dp ++ Dq) ∧ LL LIn (rows.take i) pre G Dp ∧ LL LIn (rows.drop (i + 1)) post G Dq, by
    rintro G G' ⟨h1, Dp, Dq, rfl, h2, h3⟩ hf
    exact ⟨hf q (by simp) _ h1, Dp, Dq, rfl, LL.local LIn.local h2 fun y hy b hb => hf y (by simp [hy]) b hb, LL.local LIn.local h3 fun y hy b hb => hf y (by simp [hy]) b hb⟩, by
    rintro G ⟨h1, Dp, Dq, rfl, h2, h3⟩ y hy
    simp only [List.mem_cons, List.mem_append] at hy
    rcases hy with rfl | hy | hy
    · rw [h1]; simp
    · exact LL.has LIn.has h2 y hy
    · exact LL.has LIn.has h3 y hy⟩
theorem tab_take {H G : Heap} {Ts : List Th} {q : Nat} {rows : List (List Int)} {D : List Nat} (s : St H Ts G) (k : Nat) (hk : Ts[k]? = some (tabT q rows D)) {i : Nat} (hi : i < rows.length) :
    ∃ pre c post Di Dr, pre.length = i ∧ pre.length + (post.length + 1) = rows.length ∧ St H (rnI c (rows.getD i default) Di :: holeT q pre c post rows i Dr :: Ts.eraseIdx k) G := by
  have s1 := s.pick k hk
  have hr : LRow LIn 1 rows (.sl q 1 0 rows.length) G D := s1.get 0 rfl
  obtain ⟨q', cs, D', e1, e2, e3, rfl⟩ := hr
  injection e1 with e1
  subst e1
  obtain ⟨c1, c, c2, D1, Di, D2, rfl, rfl, h1, ⟨x, rfl, h2⟩, h3, h4⟩ := LL.split LIn.size e3 hi
  have h5 := LL.size LIn.size h4
  rw [List.length_drop] at h5
  refine ⟨c1, x, c2, Di, q :: (D1 ++ D2), by omega, by omega, ?_⟩
  have nd := s1.ndT 0 rfl
  simp only [tabT] at nd
  refine St.step (old := [tabT q rows (q :: (D1 ++ (Di ++ D2)))]) s1 [rnI x _ Di, holeT q c1 x c2 rows i (q :: (D1 ++ D2))] ?_ (fun t ht y hy => ?_) (fun y b hb _ => hb) (fun t ht => ?_)
  · simp only [List.flatMap_cons, List.flatMap_nil, List.append_nil, rnT, holeT]
    rw [List.nodup_append]
    rw [List.nodup_cons, List.nodup_append, List.nodup_append] at nd
    simp only [List.mem_append, not_or] at nd
    obtain ⟨⟨n1, n2, n3⟩, n4, ⟨n5, n6, n7⟩, n8⟩ := nd
    refine ⟨n5, ?_, fun a ha b hb e => ?_⟩
    · rw [List.nodup_cons, List.nodup_append]
      simp only [List.mem_append, not_or]
      exact ⟨⟨n1, n3⟩, n4, n6, fun a ha b hb => n8 a ha b (.inr hb)⟩
    · subst e
      simp only [List.mem_cons, List.mem_append] at hb
      rcases hb with rfl | hb | hb
      · exact n2 ha
      · exact n8 a hb a (.inl ha) rfl
      · exact n7 a ha a hb rfl
  · refine .inl ⟨_, List.mem_singleton.2 rfl, ?_⟩
    simp only [List.mem_cons, List.not_mem_nil, or_false] at ht
    rcases ht with rfl | rfl
    · simp only [rnT] at hy; simp [tabT, hy]
    · simp only [holeT, List.mem_cons, List.mem_append] at hy
      simp only [tabT, List.mem_cons, List.mem_append]
      rcases hy with hy | hy | hy
      · exact .inl hy
      · exact .inr (.inl hy)
      · exact .inr (.inr (.inr hy))
  · simp only [List.mem_cons, List.not_mem_nil, or_false] at ht
    rcases ht with rfl | rfl
    · exact h2
    · exact ⟨e2, D1, D2, rfl, h3, h4⟩
theorem tab_rd {pre post : List AV} {c : AV} {i : Nat} (h : pre.length = i) : (List.take 1 (List.drop (i * 1) (pre ++ (c :: post)))).headD AV.any = c := by
  rw [List.drop_append, List.drop_of_length_le (by omega)]
  simp [h]
theorem tab_sp {pre post : List AV} {c c' : AV} {i : Nat} (h : pre.length = i) : List.take (i * 1) (pre ++ (c :: post)) ++ [c'] ++ List.drop (i * 1 + 1) (pre ++ (c :: post)) = pre ++ (c' :: post) :=
  splice_at (c := [c]) (c' := [c']) (by omega) rfl rfl
theorem tab_put {H G : Heap} {Ts : List Th} {q : Nat} {pre post : List AV} {c c' : AV} {rows : List (List Int)} {l' : List Int} {i : Nat} {Di Dr : List Nat} (s : St H (rnI c' l' Di :: holeT q pre c post rows i Dr :: Ts) G) (hi : i < rows.length) :
    ∃ D, St H (tabT q (rows.set i l') D :: Ts) (G.set q (pre ++ (c' :: post))) := by
  have h2 : RN (LPl eI) 1 c' l' G Di := s.get 0 rfl
  obtain ⟨hq, D1, D2, rfl, h3, h4⟩ := s.get 1 rfl
  have nd0 := s.ndT 0 rfl
  have nd1 := s.ndT 1 rfl
  have dj := s.disjI 0 1 rfl rfl (by decide)
  simp only [rnT] at nd0
  simp only [holeT, List.nodup_cons, List.nodup_append, List.mem_append, not_or] at nd1
  simp only [rnT, holeT, List.mem_cons, List.mem_append, not_or] at dj
  have hf : ∀ y b, G y = some b → y ≠ q → (G.set q (pre ++ (c' :: post))) y = some b := fun y b hb hy => by rw [Heap.set_other hy]; exact hb
  refine ⟨q :: (D1 ++ (Di ++ D2)), ?_⟩
  refine St.step (old := [rnI c' l' Di, holeT q pre c post rows i (q :: (D1 ++ D2))]) s [tabT q (rows.set i l') (q :: (D1 ++ (Di ++ D2)))] ?_ (fun t ht y hy => ?_) (fun y b hb hy => hf y b hb fun e => hy (holeT q pre c post rows i (q :: (D1 ++ D2))) (by simp) (by simp [holeT, e])) (fun t ht => ?_)
  · simp only [List.flatMap_cons, List.flatMap_nil, List.append_nil, tabT]
    rw [List.nodup_cons, List.nodup_append, List.nodup_append]
    simp only [List.mem_append, not_or]
    refine ⟨⟨nd1.1.1, fun h => (dj q h).1 rfl, nd1.1.2⟩, nd1.2.1, ⟨nd0, nd1.2.2.1, fun a ha b hb e => (dj a ha).2.2 (e ▸ hb)⟩, fun a ha b hb e => ?_⟩
    rcases hb with hb | hb
    · exact (dj b hb).2.1 (e ▸ ha)
    · exact nd1.2.2.2 a ha b hb e
  · rw [List.mem_singleton] at ht; subst ht
    simp only [tabT, List.mem_cons, List.mem_append] at hy
    refine .inl ?_
    rcases hy with hy | hy | hy | hy
    · exact ⟨holeT q pre c post rows i (q :: (D1 ++ D2)), by simp, by simp [holeT, hy]⟩
    · exact ⟨holeT q pre c post rows i (q :: (D1 ++ D2)), by simp, by simp [holeT, hy]⟩
    · exact ⟨rnI c' l' Di, by simp, by simp [rnT, hy]⟩
    · exact ⟨holeT q pre c post rows i (q :: (D1 ++ D2)), by simp, by simp [holeT, hy]⟩
  · rw [List.mem_singleton] at ht; subst ht
    have a1 := LL.local LIn.local h3 (G' := G.set q (pre ++ (c' :: post))) fun y hy b hb => hf y b hb fun e => nd1.1.1 (e ▸ hy)
    have a2 := LL.local LIn.local h4 (G' := G.set q (pre ++ (c' :: post))) fun y hy b hb => hf y b hb fun e => nd1.1.2 (e ▸ hy)
    have a3 := h2.local (LPl.local eI) (G' := G.set q (pre ++ (c' :: post))) fun y hy b hb => hf y b hb (dj y hy).1
    have e : rows.set i l' = rows.take i ++ (l' :: rows.drop (i + 1)) := by rw [List.set_eq_take_append_cons_drop, if_pos hi]
    refine ⟨q, pre ++ (c' :: post), D1 ++ (Di ++ D2), rfl, Heap.set_same _ _ _, ?_, rfl⟩
    rw [e]
    exact LL.join a1 ⟨[c'], post, Di, D2, rfl, rfl, ⟨c', rfl, a3⟩, a2⟩
theorem tab_new {H G : Heap} {Ts : List Th} {q n : Nat} (s : St H Ts G) (hq : G q = none) : St H (tabT q (List.replicate n []) [q] :: Ts) (G.set q (zerosA n [.p .nil])) := by
  refine s.push (tabT q (List.replicate n []) [q]) (New.cell hq) ⟨q, zerosA n [.p .nil], [], rfl, Heap.set_same _ _ _, ?_, rfl⟩
  generalize G.set q (zerosA n [.p .nil]) = G1
  induction n with
  | zero => exact ⟨rfl, rfl⟩
  | succ n ih => exact ⟨[.p .nil], zerosA n [.p .nil], [], [], by rw [zerosA_succ], rfl, ⟨_, rfl, .inl ⟨rfl, rfl, rfl⟩⟩, ih⟩
theorem tab_whole {K : AV → Heap → Prop} {v : AV} {H : Heap} {Ts : List Th} {q : Nat} {rows : List (List Int)} (h : ∀ G D, St H (⟨D, fun G => LII rows (.sl q 1 0 rows.length) G D, fun h f => LRow.local LIc.local h f, fun h => LRow.has LIc.has h⟩ :: Ts) G → FinK K v G) :
    ∀ {G : Heap} {D : List Nat}, St H (tabT q rows D :: Ts) G → FinK K v G := by
  have key : ∀ (n : Nat) (i : Nat) (G : Heap) (pre post : List AV) (D1 D2 : List Nat), n + i = rows.length → G q = some (pre ++ post) → LL LIc (rows.take i) pre G D1 → LL LIn (rows.drop i) post G D2 → (q :: (D1 ++ D2)).Nodup → (∀ y ∈ q :: (D1 ++ D2), H y = none) → St H Ts G → (∀ y ∈ q :: (D1 ++ D2), ∀ t ∈ Ts, y ∉ t.D) → FinK K v G := by
    intro n
    induction n with
    | zero =>
      intro i G pre post D1 D2 hi hq h1 h2 hnd hfr s hd
      rw [List.take_of_length_le (by omega)] at h1
      rw [List.drop_of_length_le (by omega)] at h2
      obtain ⟨rfl, rfl⟩ := h2
      simp only [List.append_nil] at hq hnd hfr hd
      refine h G (q :: D1) ⟨s.le, ?_, ?_, ?_⟩
      · rw [List.flatMap_cons, List.nodup_append]
        refine ⟨hnd, s.nd, fun a ha b hb e => ?_⟩
        obtain ⟨t, ht, hbt⟩ := List.mem_flatMap.1 hb
        exact hd a ha t ht (e ▸ hbt)
      · intro t ht
        rcases List.mem_cons.1 ht with rfl | ht
        · exact hfr
        · exact s.fr t ht
      · intro t ht
        rcases List.mem_cons.1 ht with rfl | ht
        · exact ⟨q, pre, D1, rfl, hq, h1, rfl⟩
        · exact s.ok t ht
    | succ n ih =>
      intro i G pre post D1 D2 hi hq h1 h2 hnd hfr s hd
      have hlt : i < rows.length := by omega
      rw [drop_cons hlt] at h2
      obtain ⟨c, c2, Da, Db, rfl, rfl, ⟨x, rfl, hx⟩, h3⟩ := h2
      rcases hx with ⟨rfl, hr, rfl⟩ | hx
      · refine .ghost fun z hz => ?_
        have nz : ∀ y b, G y = some b → y ≠ z := fun y b hb e => by rw [e, hz] at hb; cases hb
        have hqz : q ≠ z := nz q _ hq
        have le1 := Heap.le_set (b := []) hz
        have hq1 := le1 _ _ hq
        refine .wk (.cell (cs' := pre ++ (.sl z 1 0 0 :: c2)) hq1 (by simp) fun j a a' e1 e2 => ?_) ?_
        · rw [List.getElem?_append] at e1 e2
          split at e1
          · rename_i hlt'
            rw [if_pos hlt'] at e2
            rw [e1] at e2; cases e2; exact .refl _
          · rename_i hge
            rw [if_neg hge] at e2
            cases hj : j - pre.length with
            | zero => rw [hj] at e1 e2; simp at e1 e2; subst e1; subst e2; exact .nilo _ _ _
            | succ m => rw [hj] at e1 e2; simp at e1 e2; rw [e1] at e2; cases e2; exact .refl _
        · have old : ∀ y b, G y = some b → y ≠ q → ((G.set z []).set q (pre ++ (.sl z 1 0 0 :: c2))) y = some b := fun y b hb hy => by rw [Heap.set_other hy]; exact le1 y b hb
          have hzq : ((G.set z []).set q (pre ++ (.sl z 1 0 0 :: c2))) z = some [] := by rw [Heap.set_other (Ne.symm hqz), Heap.set_same]
          simp only [List.nil_append] at h3 hnd hfr hd
          have hnd' := hnd
          rw [List.nodup_cons, List.nodup_append] at hnd'
          simp only [List.mem_append, not_or] at hnd'
          have zD1 : z ∉ D1 := fun hm => LL.has LIc.has h1 z hm hz
          have zDb : z ∉ Db := fun hm => LL.has LIn.has h3 z hm hz
          have hHz : H z = none := by
            cases hh : H z with
            | none => rfl
            | some b => rw [s.le z b hh] at hz; cases hz
          refine ih (i + 1) _ (pre ++ [.sl z 1 0 0]) c2 (D1 ++ [z]) Db (by omega) (by rw [Heap.set_same]; simp) ?_ ?_ ?_ ?_ ?_ ?_
          · rw [take_succ_snoc hlt, hr]
            exact LL.snoc ⟨_, rfl, ⟨z, [], [], rfl, hzq, ⟨rfl, rfl⟩, rfl⟩⟩ (LL.local LIc.local h1 fun y hy b hb => old y b hb (fun e => hnd'.1.1 (e ▸ hy)))
          · exact LL.local LIn.local h3 fun y hy b hb => old y b hb (fun e => hnd'.1.2 (e ▸ hy))
          · rw [List.nodup_cons, List.nodup_append, List.nodup_append]
            simp only [List.mem_append, List.mem_singleton, not_or]
            refine ⟨⟨⟨hnd'.1.1, hqz⟩, hnd'.1.2⟩, ⟨hnd'.2.1, by simp, fun a ha b hb e => zD1 (by rw [← hb, ← e]; exact ha)⟩, hnd'.2.2.1, fun a ha b hb e => ?_⟩
            rcases ha with ha | ha
            · exact hnd'.2.2.2 a ha b hb e
            · exact zDb (by rw [← ha, e]; exact hb)
          · intro y hy
            simp only [List.mem_cons, List.mem_append, List.not_mem_nil, or_false] at hy
            rcases hy with rfl | (hy | rfl) | hy
            · exact hfr _ (by simp)
            · exact hfr _ (by simp [hy])
            · exact hHz
            · exact hfr _ (by simp [hy])
          · refine ⟨fun y b hb => old y b (s.le y b hb) fun e => ?_, s.nd, s.fr, fun t ht => t.loc (s.ok t ht) fun y hy b hb => old y b hb fun e => hd q (by simp) t ht (e ▸ hy)⟩
            have := hfr q (by simp)
            rw [← e, hb] at this; cases this
          · intro y hy t ht hyt
            simp only [List.mem_cons, List.mem_append, List.not_mem_nil, or_false] at hy
            rcases hy with rfl | (hy | rfl) | hy
            · exact hd _ (by simp) t ht hyt
            · exact hd _ (by simp [hy]) t ht hyt
            · exact t.has (s.ok t ht) _ hyt hz
            · exact hd _ (by simp [hy]) t ht hyt
      · refine ih (i + 1) G (pre ++ [x]) c2 (D1 ++ Da) Db (by omega) (by rw [hq]; simp) ?_ h3 (by rw [List.append_assoc]; exact hnd) (by rw [List.append_assoc]; exact hfr) s (by rw [List.append_assoc]; exact hd)
        rw [take_succ_snoc hlt]
        exact LL.snoc ⟨x, rfl, hx⟩ h1
  intro G D s
  have hr : LRow LIn 1 rows (.sl q 1 0 rows.length) G D := s.get 0 rfl
  obtain ⟨q', cs, D', e1, e2, e3, rfl⟩ := hr
  injection e1 with e1
  subst e1
  refine key rows.length 0 G [] cs [] D' rfl e2 ⟨by simp, rfl⟩ (by simpa using e3) (by have := s.ndT 0 rfl; simpa [tabT] using this) (by have := s.fr _ (List.mem_cons_self ..); simpa [tabT] using this) s.drop fun y hy t ht => ?_
  obtain ⟨j, hj⟩ := List.mem_iff_getElem?.1 ht
  exact s.disjI 0 (j + 1) rfl (by simpa using hj) (by omega) y (by simpa [tabT] using hy)
theorem st_appI {H G : Heap} {Ts : List Th} {q : Nat} {xs ys : List Int} (s : St H Ts G) (i : Nat) (hi : Ts[i]? = some (cellT q (cP fI xs))) (hl : xs.length + ys.length ≤ 1000000000) {K : AV → Heap → Prop}
    (h : ∀ q' G', G q' = none → St H (Ts.set i (cellT q' (cP fI (xs ++ ys)))) G' → K (rowP q' (xs ++ ys)) G') : appendV tab 22 22 (rowP q xs) (Is ys) G (wkK K) := by
  have hq : G q = some (cP fI xs) := s.get i hi
  exact app_intsX (ex := []) (by rw [hq, List.append_nil]) hl fun q' hq' hne => h q' _ hq' (s.moved i hi hq')
abbrev eBo (b : Bool) : List PV := [.bool b]
abbrev fB (b : Bool) : PV := .bool b
theorem mapB_rd {l : List Bool} {i : Nat} (h : i < l.length) : (List.take 1 (List.drop (i * 1) (cP fB l))).headD AV.any = B (l.getD i default) := by
  rw [Nat.mul_one, cP, ← List.map_drop, drop_cons h]; rfl
abbrev Bls (xs : List Bool) : AV := .p (.sl (xs.map eBo))
theorem frz_rowB {q : Nat} {xs : List Bool} : FrzR q 1 (xs.map eBo) (rowP q xs) (Bls xs) := by
  have : FrzR q 1 (xs.map eBo) (.sl q 1 0 (xs.map eBo).length) (.p (.sl (xs.map eBo))) := .here
  rwa [List.length_map] at this
theorem wkB {q : Nat} {xs : List Bool} {G : Heap} (hq : G q = some (cP fB xs)) (C : AV → AV) (hC : ∀ {q sz es a a'}, FrzR q sz es a a' → FrzR q sz es (C a) (C a')) : Wk (C (rowP q xs)) G (C (Bls xs)) (G.del q) := by
  have e : cells (xs.map eBo) = cP fB xs := cells_P fB xs
  exact Wk.frz (r := q) (sz := 1) (es := xs.map eBo) (by omega) (by have h := hq; rw [← e] at h; exact h) (sized_map (f := eBo) (fun _ => rfl) xs) (hC frz_rowB)
theorem cB_set {l : List Bool} {t : Nat} (h : t < l.length) (b : Bool) : List.take (t * 1) (cP fB l) ++ [B b] ++ List.drop (t * 1 + 1) (cP fB l) = cP fB (l.set t b) := by
  rw [List.set_eq_take_append_cons_drop, if_pos h, Nat.mul_one]
  simp [cP, List.map_take, List.map_drop]
theorem cB_zero (n : Nat) : zerosA n [B false] = cP fB ((List.range n).map fun _ => false) := by
  induction n with
  | zero => rfl
  | succ n ih => rw [zerosA_succ, ih, List.range_succ_eq_map]; simp [cP]
end Go.Proofs.Ytolffbcnbcjeaaa
namespace Go.Sep
open Go Go.RowKit Go.Sort Go.Proofs.Ytolffbcnbcjeaaa
theorem Sim.ahead {Z : Fro} {φ : Pm} {B0 : Nat} {w0 w : World} {H : Heap} (s : Sim Z φ B0 w0 H w) (n : Nat) : Sim Z φ B0 w0 H (Go.Sort.ahead w n) :=
  ⟨s.b0, ⟨⟨s.below.os, s.below.tape, s.below.output, s.below.size, s.below.block⟩, s.below.drawn.trans (.of (Nat.le_add_right _ _))⟩, s.bnd, fun r blk e => let ⟨pl, hp, hl⟩ := s.live r blk e; ⟨pl, hp, hl.world fun _ h => h⟩, s.disj, fun b i v hz => s.froz b i v hz, s.zsep⟩
theorem mapBlock_setRow {w : World} {b : Nat} {cur : Array Value} {e : TypeId} {fr : Nat × Nat} (h : w.heap[b]? = some (.cells cur e fr)) (f : Array Value → Array Value) : mapBlock w b f = w.setRow b (f cur) := by
  unfold mapBlock World.setRow
  congr 1
  apply Array.ext_getElem?
  intro k
  simp only [Array.getElem?_modify]
  by_cases hk : b = k
  · subst hk; simp [h, onCells]
  · simp [hk]
theorem Sim.grow {Z : Fro} {φ : Pm} {B0 : Nat} {w0 w : World} {H : Heap} (s : Sim Z φ B0 w0 H w) (os : Array Obj) : Sim Z φ B0 w0 H (Go.Sort.grow w os) :=
  s.later ⟨⟨rfl, rfl, rfl, by simp, fun k hk => heap_grow_old w os hk⟩, .of (Nat.le_refl _)⟩
theorem Sim.putInts {Z : Fro} {φ : Pm} {B0 : Nat} {w0 w : World} {H : Heap} (s : Sim Z φ B0 w0 H w) {r : Nat} {zs zs' : List Int} (hr : H r = some (zs.map fun n => AV.p (.int .i64 n))) (hl : zs'.length = zs.length) (hpos : 0 < zs.length) {pl : Place} (hp : φ r = some pl) (n : Nat) (os : Array Obj) :
    Sim Z φ B0 w0 (H.set r (zs'.map fun n => AV.p (.int .i64 n))) (Go.Sort.grow (putRow (Value.int .i64) (Go.Sort.ahead w n) pl.b pl.o zs'.toArray) os) := by
  obtain ⟨pl', hp', hlive⟩ := s.live r _ hr
  rw [hp] at hp'; cases hp'
  rcases hlive with ⟨_, h0⟩ | ⟨cur, e, h1, h2, h3, h4, h5⟩
  · cases zs with
    | nil => simp at hpos
    | cons a zs => simp at h0
  rw [List.length_map] at h3
  refine Sim.grow ?_ os
  have s1 := s.ahead n
  have h1' : (Go.Sort.ahead w n).heap[pl.b]? = some (.cells cur e (0, 0)) := h1
  rw [putRow, mapBlock_setRow h1']
  refine s1.setRow hr hp h1' (by omega) _ (by simp [putCells]) ?_ _ (by rw [List.length_map]; omega) ?_
  · intro i hi
    simp only [putCells, Array.getElem?_mapIdx]
    cases cur[i]? with
    | none => rfl
    | some v => simp only [Option.map_some]; rw [if_neg (by simp; omega)]
  · intro i av hi
    rw [List.getElem?_map] at hi
    cases hz : zs'[i]? with
    | none => rw [hz] at hi; cases hi
    | some x =>
      rw [hz] at hi
      cases hi
      have hlt : i < zs'.length := (List.getElem?_eq_some_iff.1 hz).1
      refine ⟨.int .i64 x, ?_, .p (.int _ _)⟩
      have hc : pl.o + i < cur.size := by omega
      simp only [putCells, Array.getElem?_mapIdx, Array.getElem?_eq_getElem hc, Option.map_some]
      rw [if_pos (by simp; omega)]
      have : (List.toArray zs')[pl.o + i - pl.o]! = x := by
        rw [Nat.add_sub_cancel_left]
        have := (List.getElem?_eq_some_iff.1 hz).2
        simp [hlt, this]
      rw [this]
theorem Sim.holdsInts {Z : Fro} {φ : Pm} {B0 : Nat} {w0 w : World} {H : Heap} (s : Sim Z φ B0 w0 H w) {r : Nat} {zs : List Int} (hr : H r = some (zs.map fun n => AV.p (.int .i64 n))) (hpos : 0 < zs.length) {pl : Place} (hp : φ r = some pl) :
    Holds (Value.int .i64) w pl.b pl.o zs.toArray ∧ pl.b < w.heap.size := by
  obtain ⟨pl', hp', hlive⟩ := s.live r _ hr
  rw [hp] at hp'; cases hp'
  rcases hlive with ⟨_, h0⟩ | ⟨cur, e, h1, h2, h3, h4, h5⟩
  · cases zs with
    | nil => simp at hpos
    | cons a zs => simp at h0
  refine ⟨fun j hj => ⟨?_, ?_⟩, (Array.getElem?_eq_some_iff.1 h1).1⟩
  · have hj' : j < zs.length := by simpa using hj
    have hz : zs[j]? = some zs[j] := List.getElem?_eq_getElem hj'
    obtain ⟨x, hx, hc⟩ := h5 j (.p (.int .i64 zs[j])) (by rw [List.getElem?_map, hz]; rfl)
    have ex : x = .int .i64 zs[j] := by
      cases hc with
      | p h => cases h; rfl
    rw [cell_of_row w pl.b _ cur e _ h1, hx, ex]
    simp [hj']
  · unfold World.frozen?
    rw [h1]; simp
theorem CallT.inPlace {P : Program} {f : Nat} (hb : HasBody P f) {H : Heap} {q : Nat} {zs : List Int} (hq : H q = some (zs.map fun n => AV.p (.int .i64 n))) (g : List Int) (hg : g.length = zs.length)
    (hc : ∀ blk off cap w, zs.length ≤ cap → Holds (Value.int .i64) w blk off zs.toArray → blk < w.heap.size → Calls P f #[.slice (some ⟨blk, off, none⟩) zs.length cap] w fun e w' =>
      e = .returned (.tuple #[]) ∧ ∃ n os, w' = Go.Sort.grow (putRow (Value.int .i64) (Go.Sort.ahead w n) blk off g.toArray) os)
    (hn : zs = [] → ∀ p cap w, Calls P f #[.slice p 0 cap] w fun e w' => e = .returned (.tuple #[]) ∧ w' = w)
    {K : AV → Heap → Prop} (h : K (.tup []) (H.set q (g.map fun n => AV.p (.int .i64 n)))) : CallT P f [.sl q 1 0 zs.length] H K := by
  refine ⟨hb, ?_⟩
  intro B0 w0 F Z φ w xs hd hs ha
  obtain ⟨hsz, hrel⟩ := ha
  obtain ⟨x, rfl⟩ : ∃ x, xs = #[x] := by
    have h1 : xs.size = 1 := hsz
    exact ⟨xs[0], by
      apply Array.ext
      · simp [h1]
      · intro i hi1 hi2
        have : i = 0 := by simp at hi2; omega
        subst this; simp⟩
  have hx := hrel 0 (.sl q 1 0 zs.length) x rfl rfl
  have hq' : (H.or F) q = some (zs.map fun n => AV.p (.int .i64 n)) := Heap.or_left hq
  have hFq : F q = none := hd q (by rw [hq]; simp)
  have empty : zs = [] → ∀ a c, x = .slice a 0 c → Calls P f #[x] w (fun e w' => ∃ x, e = .returned x ∧ UpV B0 w0 F Z φ K x w') := by
    rintro rfl a c rfl
    refine (hn rfl a c w).mono ?_
    rintro e w' ⟨rfl, rfl⟩
    have hg0 : g = [] := List.eq_nil_of_length_eq_zero hg
    subst hg0
    have hset : H.set q [] = H := by
      funext y
      by_cases e : y = q
      · subst e; rw [Heap.set_same]; exact hq.symm
      · rw [Heap.set_other e]
    refine ⟨_, rfl, .tup [], H, Z, φ, ?_, Fro.le_refl _, Pm.le_refl _, hd, hs, .tup [] #[] rfl (fun i av x h => by simp at h)⟩
    rw [← hset]; exact h
  generalize hm : zs.length = m at hx
  cases hx with
  | slz _ _ _ a => exact empty (List.eq_nil_of_length_eq_zero hm) a 0 rfl
  | sl hp hl hC =>
    rename_i c pl
    subst hm
    by_cases h0 : zs.length = 0
    · exact empty (List.eq_nil_of_length_eq_zero h0) _ _ (by rw [h0])
    have hh := hs.holdsInts hq' (by omega) hp
    refine (hc pl.b pl.o c w hl hh.1 hh.2).mono ?_
    rintro e w' ⟨rfl, n, os, rfl⟩
    have s2 := hs.putInts (zs' := g) hq' hg (by omega) hp n os
    refine ⟨_, rfl, .tup [], H.set q (g.map fun n => AV.p (.int .i64 n)), Z, φ, h, Fro.le_refl _, Pm.le_refl _, hd.set hFq, ?_, .tup [] #[] rfl (fun i av x h => by simp at h)⟩
    rw [Heap.or_set]; exact s2
theorem CallT.inPlaceC {P : Program} {f : Nat} (hb : HasBody P f) {H : Heap} {q : Nat} {zs : List Int} (hq : H q = some (zs.map fun n => AV.p (.int .i64 n))) (g tl : List Int) (hg : (g ++ tl).length = zs.length)
    (hc : ∀ blk off cap w, zs.length ≤ cap → Holds (Value.int .i64) w blk off zs.toArray → blk < w.heap.size → Calls P f #[.slice (some ⟨blk, off, none⟩) zs.length cap] w fun e w' =>
      e = .returned (.slice (some ⟨blk, off, none⟩) g.length cap) ∧ ∃ n, w' = putRow (Value.int .i64) (Go.Sort.ahead w n) blk off (g ++ tl).toArray)
    (hn : zs = [] → ∀ p cap w, Calls P f #[.slice p 0 cap] w fun e w' => e = .returned (.slice p 0 cap) ∧ w' = w)
    {K : AV → Heap → Prop} (h : K (.sl q 1 0 g.length) (H.set q ((g ++ tl).map fun n => AV.p (.int .i64 n)))) : CallT P f [.sl q 1 0 zs.length] H K := by
  refine ⟨hb, ?_⟩
  intro B0 w0 F Z φ w xs hd hs ha
  obtain ⟨hsz, hrel⟩ := ha
  obtain ⟨x, rfl⟩ : ∃ x, xs = #[x] := by
    have h1 : xs.size = 1 := hsz
    exact ⟨xs[0], by
      apply Array.ext
      · simp [h1]
      · intro i hi1 hi2
        have : i = 0 := by simp at hi2; omega
        subst this; simp⟩
  have hx := hrel 0 (.sl q 1 0 zs.length) x rfl rfl
  have hq' : (H.or F) q = some (zs.map fun n => AV.p (.int .i64 n)) := Heap.or_left hq
  have hFq : F q = none := hd q (by rw [hq]; simp)
  have empty : zs = [] → ∀ a c, x = .slice a 0 c → Cv Z φ (.sl q 1 0 0) x → Calls P f #[x] w (fun e w' => ∃ x, e = .returned x ∧ UpV B0 w0 F Z φ K x w') := by
    rintro rfl a c rfl hcv
    refine (hn rfl a c w).mono ?_
    rintro e w' ⟨rfl, rfl⟩
    have hg0 := List.eq_nil_of_length_eq_zero hg
    rw [List.append_eq_nil_iff] at hg0
    obtain ⟨rfl, rfl⟩ := hg0
    have hset : H.set q [] = H := by
      funext y
      by_cases e : y = q
      · subst e; rw [Heap.set_same]; exact hq.symm
      · rw [Heap.set_other e]
    refine ⟨_, rfl, _, H, Z, φ, ?_, Fro.le_refl _, Pm.le_refl _, hd, hs, hcv⟩
    rw [← hset]; exact h
  have hx0 := hx
  generalize hm : zs.length = m at hx
  cases hx with
  | slz _ _ _ a => exact empty (List.eq_nil_of_length_eq_zero hm) a 0 rfl (.slz _ _ _ _)
  | sl hp hl hC =>
    rename_i c pl
    subst hm
    by_cases h0 : zs.length = 0
    · exact empty (List.eq_nil_of_length_eq_zero h0) _ _ (by rw [h0]) (by rw [h0] at hx0; rw [h0]; exact hx0)
    have hh := hs.holdsInts hq' (by omega) hp
    refine (hc pl.b pl.o c w hl hh.1 hh.2).mono ?_
    rintro e w' ⟨rfl, n, rfl⟩
    have s2 := hs.putInts (zs' := g ++ tl) hq' hg (by omega) hp n #[]
    rw [Go.Sort.grow_empty] at s2
    rw [List.length_append] at hg
    refine ⟨_, rfl, .sl q 1 0 g.length, H.set q ((g ++ tl).map fun n => AV.p (.int .i64 n)), Z, φ, h, Fro.le_refl _, Pm.le_refl _, hd.set hFq, ?_, .sl hp (by omega) hC⟩
    rw [Heap.or_set]; exact s2
theorem CallT.nilArg {P : Program} {f : Nat} (hb : HasBody P f) {v : AV} {r : Value} (hr : ∀ Z φ, Cv Z φ v r) (hn : ∀ w, Calls P f #[.slice none 0 0] w fun e w' => e = .returned r ∧ w' = w) {H : Heap} {K : AV → Heap → Prop} (h : K v H) : CallT P f [.p .nil] H K := by
  refine ⟨hb, ?_⟩
  intro B0 w0 F Z φ w xs hd hs ha
  obtain ⟨hsz, hrel⟩ := ha
  obtain ⟨x, rfl⟩ : ∃ x, xs = #[x] := by
    have h1 : xs.size = 1 := hsz
    exact ⟨xs[0], by
      apply Array.ext
      · simp [h1]
      · intro i hi1 hi2
        have : i = 0 := by simp at hi2; omega
        subst this; simp⟩
  have hx := hrel 0 (.p .nil) x rfl rfl
  have ex : x = .slice none 0 0 := by
    cases hx with
    | p h => cases h; rfl
  subst ex
  refine (hn w).mono ?_
  rintro e w' ⟨rfl, rfl⟩
  exact ⟨_, rfl, v, H, Z, φ, h, Fro.le_refl _, Pm.le_refl _, hd, hs, hr _ _⟩
end Go.Sep
/-
  DERIVED: THE SHELF's CONTRACTS AT THIS DUMP, IN PLAIN WORDS (tools/lay-plain.mjs out of 'YtolffbcnbcjeaaaLay.lean', which tools/lay-shelf.mjs wrote): THE SAME DECLARATIONS UNDER THE SAME NAMES: 'import', 'namespace', 'open', 'def', 'theorem' AND NOTHING ELSE: no command of the shelf's: FOR A HAND-IN. Each laying: the table of numbers ('.._ren') and one theorem, a field a fact of the dump's own or the kernel's comparison; each contract: ONE APPLICATION.
-/
namespace Go.Proofs
open Go.Shelf
def Try.laySort_ren : Go.Shelf.Ren := ⟨fun | 53 => 69 | 64 => 90 | 63 => 89 | 78 => 108 | 79 => 109 | 70 => 99 | 71 => 100 | 72 => 101 | 73 => 102 | 74 => 103 | 75 => 104 | 59 => 105 | 76 => 106 | 77 => 107 | 88 => 113 | 89 => 114 | 90 => 115 | 91 => 116 | 92 => 117 | 68 => 97 | 96 => 118 | n => n, fun | 22 => 22 | 23 => 3 | 3 => 3 | 51 => 90 | 0 => 0 | 67 => 106 | 69 => 109 | 4 => 4 | 61 => 118 | 60 => 117 | 44 => 122 | 5 => 5 | 9 => 9 | 75 => 128 | 79 => 132 | 83 => 134 | 84 => 135 | n => n, fun | n => n⟩
theorem Try.laySort : Go.Proofs.SlLaysN.n53 Try.prog Try.laySort_ren := {
  mixed := by kernel_rfl
  f53 := ⟨Try.f69.name, by decide, Try.func69.trans (congrArg some (by kernel_rfl))⟩
  f59 := ⟨Try.f105.name, by decide, Try.func105.trans (congrArg some (by kernel_rfl))⟩
  f63 := ⟨Try.f89.name, by decide, Try.func89.trans (congrArg some (by kernel_rfl))⟩
  f64 := Try.func90.trans (congrArg some (by kernel_rfl))
  f68 := ⟨Try.f97.name, by decide, Try.func97.trans (congrArg some (by kernel_rfl))⟩
  f70 := ⟨Try.f99.name, by decide, Try.func99.trans (congrArg some (by kernel_rfl))⟩
  f71 := ⟨Try.f100.name, by decide, Try.func100.trans (congrArg some (by kernel_rfl))⟩
  f72 := ⟨Try.f101.name, by decide, Try.func101.trans (congrArg some (by kernel_rfl))⟩
  f73 := ⟨Try.f102.name, by decide, Try.func102.trans (congrArg some (by kernel_rfl))⟩
  f74 := ⟨Try.f103.name, by decide, Try.func103.trans (congrArg some (by kernel_rfl))⟩
  f75 := ⟨Try.f104.name, by decide, Try.func104.trans (congrArg some (by kernel_rfl))⟩
  f76 := ⟨Try.f106.name, by decide, Try.func106.trans (congrArg some (by kernel_rfl))⟩
  f77 := ⟨Try.f107.name, by decide, Try.func107.trans (congrArg some (by kernel_rfl))⟩
  f78 := Try.func108.trans (congrArg some (by kernel_rfl))
  f79 := Try.func109.trans (congrArg some (by kernel_rfl))
  f88 := ⟨Try.f113.name, by decide, Try.func113.trans (congrArg some (by kernel_rfl))⟩
  f89 := Try.func114.trans (congrArg some (by kernel_rfl))
  f90 := Try.func115.trans (congrArg some (by kernel_rfl))
  f91 := ⟨Try.f116.name, by decide, Try.func116.trans (congrArg some (by kernel_rfl))⟩
  f92 := ⟨Try.f117.name, by decide, Try.func117.trans (congrArg some (by kernel_rfl))⟩
  f96 := ⟨Try.f118.name, by decide, Try.func118.trans (congrArg some (by kernel_rfl))⟩
  t0 := Try.underlying0
  a0 := Try.isAgg0
  z0 := Try.sizeOf0
  v0 := Try.zeroValue0
  t3 := Try.underlying3
  a3 := Try.isAgg3
  z3 := Try.sizeOf3
  v3 := Try.zeroValue3
  t4 := Try.underlying4
  a4 := Try.isAgg4
  z4 := Try.sizeOf4
  v4 := Try.zeroValue4
  t5 := Try.underlying5
  a5 := Try.isAgg5
  z5 := Try.sizeOf5
  v5 := Try.zeroValue5
  t9 := Try.underlying9
  a9 := Try.isAgg9
  z9 := Try.sizeOf9
  v9 := Try.zeroValue9
  t22 := Try.underlying22
  a22 := Try.isAgg22
  z22 := Try.sizeOf22
  v22 := Try.zeroValue22
  t23 := Try.underlying3
  a23 := Try.isAgg3
  z23 := Try.sizeOf3
  v23 := Try.zeroValue3
  t44 := Try.underlying122
  a44 := Try.isAgg122
  z44 := Try.sizeOf122
  v44 := Try.zeroValue122
  t51 := Try.underlying90
  a51 := Try.isAgg90
  z51 := Try.sizeOf90
  v51 := Try.zeroValue90
  t60 := Try.underlying117
  a60 := Try.isAgg117
  z60 := Try.sizeOf117
  v60 := Try.zeroValue117
  t61 := Try.underlying118
  a61 := Try.isAgg118
  z61 := Try.sizeOf118
  v61 := Try.zeroValue118
  t67 := Try.underlying106
  a67 := Try.isAgg106
  z67 := Try.sizeOf106
  v67 := Try.zeroValue106
  t69 := Try.underlying109
  a69 := Try.isAgg109
  z69 := Try.sizeOf109
  v69 := Try.zeroValue109
  t75 := Try.underlying128
  a75 := Try.isAgg128
  z75 := Try.sizeOf128
  v75 := Try.zeroValue128
  t79 := Try.underlying132
  a79 := Try.isAgg132
  z79 := Try.sizeOf132
  v79 := Try.zeroValue132
  t83 := Try.underlying134
  a83 := Try.isAgg134
  z83 := Try.sizeOf134
  v83 := Try.zeroValue134
  t84 := Try.underlying135
  a84 := Try.isAgg135
  z84 := Try.sizeOf135
  v84 := Try.zeroValue135 }
def Try.layCompact_ren : Go.Shelf.Ren := ⟨fun | 43 => 70 | n => n, fun | 22 => 22 | 23 => 3 | 3 => 3 | 4 => 4 | 0 => 0 | n => n, fun | n => n⟩
theorem Try.layCompact : Go.Proofs.SlLaysN.n43 Try.prog Try.layCompact_ren := {
  mixed := by kernel_rfl
  f43 := ⟨Try.f70.name, by decide, Try.func70.trans (congrArg some (by kernel_rfl))⟩
  t0 := Try.underlying0
  a0 := Try.isAgg0
  z0 := Try.sizeOf0
  v0 := Try.zeroValue0
  t3 := Try.underlying3
  a3 := Try.isAgg3
  z3 := Try.sizeOf3
  v3 := Try.zeroValue3
  t4 := Try.underlying4
  a4 := Try.isAgg4
  z4 := Try.sizeOf4
  v4 := Try.zeroValue4
  t22 := Try.underlying22
  a22 := Try.isAgg22
  z22 := Try.sizeOf22
  v22 := Try.zeroValue22
  t23 := Try.underlying3
  a23 := Try.isAgg3
  z23 := Try.sizeOf3
  v23 := Try.zeroValue3
  i23 := by kernel_rfl }
end Go.Proofs
