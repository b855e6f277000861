/- Rows of rows, of which some are nil: tables that are written in their rows; what is made whole at a function's end. -/
import Derived.Test.YtgcklgeifdefhaaGreatMt0
import Derived.Test.YtgcklgeifdefhaaGreatMa2
import Derived.Test.YtgcklgeifdefhaaGreatMa4
namespace Go.Sep
open Go Go.RowKit
set_option linter.unusedVariables false

/-- What holds after weakening, and with rows lent. -/
inductive FinK (K : AV → Heap → Prop) : AV → Heap → Prop where
  | done {v : AV} {H : Heap} (h : K v H) : FinK K v H
  | wk {v v' : AV} {H H' : Heap} (h : Wk v H v' H') (k : FinK K v' H') : FinK K v H
  | ghost {v : AV} {H : Heap} (k : ∀ z, H z = none → FinK K v (H.set z [])) : FinK K v H
theorem UpV.finish {B0 : Nat} {w0 : World} {F : Heap} {K : AV → Heap → Prop} {v : AV} {H : Heap} (h : FinK K v H) : ∀ {Z : Fro} {φ : Pm} {x : Value} {w : World}, Disj H F → Sim Z φ B0 w0 (H.or F) w → Cv Z φ v x → UpV B0 w0 F Z φ K x w := by
  induction h with
  | done h => exact fun hd hs hc => ⟨_, _, _, _, h, Fro.le_refl _, Pm.le_refl _, hd, hs, hc⟩
  | wk h k ih =>
    intro Z φ x w hd hs hc
    obtain ⟨Z', φ', h1, h2, h3, h4, h5⟩ := UpV.wk h hd hs hc
    obtain ⟨v', H', Z2, φ2, a, b, c, d, e, f⟩ := ih h3 h4 h5
    exact ⟨v', H', Z2, φ2, a, Fro.le_trans h1 b, Pm.le_trans h2 c, d, e, f⟩
  | ghost k ih =>
    intro Z φ x w hd hs hc
    obtain ⟨r, φ', h1, h2, h3, h4⟩ := Rel.ghost hd hs
    obtain ⟨v', H', Z2, φ2, a, b, c, d, e, f⟩ := ih r h1 h3 h4 (hc.mono (Fro.le_refl _) h2)
    exact ⟨v', H', Z2, φ2, a, b, Pm.le_trans h2 c, d, e, f⟩
theorem CallT.finish {P : Program} {f : Nat} {args : List AV} {H : Heap} {K : AV → Heap → Prop} (h : CallT P f args H (FinK K)) : CallT P f args H K := by
  refine ⟨h.1, fun B0 w0 F Z φ w xs hd hs ha => (h.2 B0 w0 F Z φ w xs hd hs ha).mono ?_⟩
  rintro e w' ⟨x, rfl, v, H', Z', φ', hk, b, c, d, e, f⟩
  obtain ⟨v', H2, Z2, φ2, a, b2, c2, d2, e2, f2⟩ := UpV.finish hk d e f
  exact ⟨x, rfl, v', H2, Z2, φ2, a, Fro.le_trans b b2, Pm.le_trans c c2, d2, e2, f2⟩
theorem FinK.ofWkK {K : AV → Heap → Prop} {v : AV} {H : Heap} (h : wkK K v H) : FinK K v H := let ⟨_, _, a, b⟩ := h; .wk a (.done b)

/-- Nothing yet, or a row of one's own. -/
def RN {α : Type} (L : Lay α) (sz : Nat) (x : AV) (xs : List α) (G : Heap) (D : List Nat) : Prop := (x = .p .nil ∧ xs = [] ∧ D = []) ∨ LRow L sz xs x G D
theorem RN.local {α : Type} {L : Lay α} {sz : Nat} (hL : L.Local) {x : AV} {xs : List α} {G G' : Heap} {D : List Nat} (h : RN L sz x xs G D) (hf : ∀ y ∈ D, ∀ b, G y = some b → G' y = some b) : RN L sz x xs G' D := by
  rcases h with h | h
  · exact .inl h
  · exact .inr (h.local hL hf)
theorem RN.has {α : Type} {L : Lay α} {sz : Nat} (hL : L.Has) {x : AV} {xs : List α} {G : Heap} {D : List Nat} (h : RN L sz x xs G D) : ∀ y ∈ D, G y ≠ none := by
  rcases h with ⟨h1, h2, rfl⟩ | h
  · intro y hy; cases hy
  · exact h.has hL
theorem RN.sl {α : Type} {L : Lay α} {sz : Nat} {x : AV} {xs : List α} {G : Heap} {D : List Nat} (h : RN L sz x xs G D) : x = .p .nil ∨ ∃ q, x = .sl q sz 0 xs.length := by
  rcases h with ⟨h1, _⟩ | ⟨q, cs, D', h1, _⟩
  · exact .inl h1
  · exact .inr ⟨q, h1⟩
def rnT {α : Type} {L : Lay α} (hL : L.Local) (hh : L.Has) (sz : Nat) (x : AV) (xs : List α) (D : List Nat) : Th := ⟨D, fun G => RN L sz x xs G D, fun h f => h.local hL f, fun h => h.has hh⟩
theorem LL.plain' {α : Type} {e : α → List PV} {G : Heap} : ∀ {xs : List α} {cs : List AV} {D : List Nat}, LL (LPl e) xs cs G D → cs = cells (xs.map e) ∧ D = []
  | [], _, _, ⟨h1, h2⟩ => ⟨h1, h2⟩
  | a :: xs, _, _, ⟨c1, c2, D1, D2, e1, e2, h1, h2⟩ => by
    obtain ⟨f1, f2⟩ := LL.plain' h2
    rw [e1, e2, h1.1, h1.2, f1, f2]
    exact ⟨by simp [cells], rfl⟩
/-- What is appended is told by value. -/
theorem RN.app {tab : Tab} {t0 t1 e0 e1 sz : Nat} {d d1 ed : TD} {α : Type} {e : α → List PV} (h1 : tab t0 = some d) (h2 : d.k = .slice e0) (h3 : tab e0 = some ed) (h4 : tab t1 = some d1) (h5 : d1.k = .slice e1) (h6 : ed.size = sz) {bz : Nat} (h7 : ed.bytes = bz)
    (hsz : ∀ a, (e a).length = sz) {H G : Heap} {Ts : List Th} {x y : AV} {xs ys : List α} {D : List Nat} {hL : (LPl e).Local} {hh : (LPl e).Has} (s : St H Ts G) (i : Nat) (hi : Ts[i]? = some (rnT hL hh sz x xs D)) (hy : y = .p (.sl (ys.map e)))
    (hl : (xs.length + ys.length) * bz ≤ 140737488355328) (hl2 : xs.length + ys.length ≤ 9223372036854775807) {K : AV → Heap → Prop}
    (h : ∀ q' G', G q' = none → St H (Ts.set i (rnT hL hh sz (.sl q' sz 0 (xs ++ ys).length) (xs ++ ys) [q'])) G' → K (.sl q' sz 0 (xs ++ ys).length) G') : appendV tab t0 t1 x y G (wkK K) := by
  subst hy
  have hrz : RN (LPl e) sz x xs G D := s.get i hi
  rcases hrz with ⟨rfl, rfl, rfl⟩ | ⟨q, cs, D', rfl, hq, hll, rfl⟩
  · refine app_nil h1 h2 h3 h4 h5 h6 h7 (.inl rfl) (.inl rfl) (sized_map hsz ys) (by simpa using hl) (by simpa using hl2) fun q' hq' => ?_
    have := h q' _ hq' (s.repl i hi (rnT hL hh sz (.sl q' sz 0 ([] ++ ys).length) ([] ++ ys) [q']) (by simp [rnT]) (fun y hy => by
      simp only [rnT, List.mem_singleton] at hy; subst hy; exact .inr hq') (G' := G.set q' (cells (ys.map e))) (fun y b hb _ => Heap.le_set hq' y b hb) (.inr ⟨q', _, [], rfl, Heap.set_same _ _ _, LL.plain _, rfl⟩))
    simpa [Go.Sep.own] using this
  · obtain ⟨rfl, rfl⟩ := LL.plain' hll
    have := app_own (x := .p (.sl (ys.map e))) (r := q) (es := xs.map e) (fs := ys.map e) (H := G) (K := K) h1 h2 h3 h4 h5 h6 h7 (.inl rfl) hq (sized_map hsz xs) (sized_map hsz ys)
      (by simpa using hl) (by simpa using hl2) fun q' hq' => by
        have := h q' ((G.del q).set q' (cells ((xs ++ ys).map e))) hq' (s.repl i hi (rnT hL hh sz (.sl q' sz 0 (xs ++ ys).length) (xs ++ ys) [q']) (by simp [rnT]) (fun y hy => by
          simp only [rnT, List.mem_singleton] at hy; subst hy; exact .inr hq') (fun y b hb hy => by
            simp only [rnT, List.mem_singleton] at hy
            rw [Heap.set_other (fun e => by rw [e, hq'] at hb; cases hb), Heap.del_other hy]; exact hb) (.inr ⟨q', _, [], rfl, Heap.set_same _ _ _, LL.plain _, rfl⟩))
        simpa only [Go.Sep.own, List.length_map, List.map_append, List.length_append] using this
    simpa only [Go.Sep.own, List.length_map] using this
end Go.Sep
namespace Go.Proofs.YtgcklgeifdefhaaGreat
open Go Go.Sep Go.Pt
set_option linter.unusedSimpArgs false
set_option linter.unusedVariables false
attribute [local irreducible] CallT

/-- Numbers in a row, or nil, in one cell. -/
def LIn : Lay (List Int) := fun l cs G D => ∃ x, cs = [x] ∧ RN (LPl eI) 1 x l G D
theorem LIn.local : Lay.Local LIn := by
  rintro c cs G G' D ⟨x, e, h⟩ hf
  exact ⟨x, e, h.local (LPl.local eI) hf⟩
theorem LIn.has : Lay.Has LIn := by
  rintro c cs G D ⟨x, e, h⟩
  exact h.has (LPl.has eI)
theorem LIn.size : Lay.Size LIn 1 := by
  rintro c cs G D ⟨x, rfl, h⟩; rfl
abbrev rnI (x : AV) (l : List Int) (D : List Nat) : Th := rnT (LPl.local eI) (LPl.has eI) 1 x l D
/-- A table: a live row of rows, some of them nil. -/
def tabT (q : Nat) (rows : List (List Int)) (D : List Nat) : Th := ⟨D, fun G => LRow LIn 1 rows (.sl q 1 0 rows.length) G D, fun h f => h.local LIn.local f, fun h => h.has LIn.has⟩
/-- A table without one of its rows, whose cell still tells it. -/
def holeT (q : Nat) (pre : List AV) (c : AV) (post : List AV) (rows : List (List Int)) (i : Nat) (D : List Nat) : Th :=
  ⟨D, fun G => G q = some (pre ++ (c :: post)) ∧ ∃ Dp Dq, D = q :: (Dp ++ Dq) ∧ LL LIn (rows.take i) pre G Dp ∧ LL LIn (rows.drop (i + 1)) post G Dq, by
    rintro G G' ⟨h1, Dp, Dq, rfl, h2, h3⟩ hf
    exact ⟨hf q (by simp) _ h1, Dp, Dq, rfl, LL.local LIn.local h2 fun y hy b hb => hf y (by simp [hy]) b hb, LL.local LIn.local h3 fun y hy b hb => hf y (by simp [hy]) b hb⟩, by
    rintro G ⟨h1, Dp, Dq, rfl, h2, h3⟩ y hy
    simp only [List.mem_cons, List.mem_append] at hy
    rcases hy with rfl | hy | hy
    · rw [h1]; simp
    · exact LL.has LIn.has h2 y hy
    · exact LL.has LIn.has h3 y hy⟩
theorem tab_take {H G : Heap} {Ts : List Th} {q : Nat} {rows : List (List Int)} {D : List Nat} (s : St H Ts G) (k : Nat) (hk : Ts[k]? = some (tabT q rows D)) {i : Nat} (hi : i < rows.length) :
    ∃ pre c post Di Dr, pre.length = i ∧ pre.length + (post.length + 1) = rows.length ∧ St H (rnI c (rows.getD i default) Di :: holeT q pre c post rows i Dr :: Ts.eraseIdx k) G := by
  have s1 := s.pick k hk
  have hr : LRow LIn 1 rows (.sl q 1 0 rows.length) G D := s1.get 0 rfl
  obtain ⟨q', cs, D', e1, e2, e3, rfl⟩ := hr
  injection e1 with e1
  subst e1
  obtain ⟨c1, c, c2, D1, Di, D2, rfl, rfl, h1, ⟨x, rfl, h2⟩, h3, h4⟩ := LL.split LIn.size e3 hi
  have h5 := LL.size LIn.size h4
  rw [List.length_drop] at h5
  refine ⟨c1, x, c2, Di, q :: (D1 ++ D2), by omega, by omega, ?_⟩
  have nd := s1.ndT 0 rfl
  simp only [tabT] at nd
  refine St.step (old := [tabT q rows (q :: (D1 ++ (Di ++ D2)))]) s1 [rnI x _ Di, holeT q c1 x c2 rows i (q :: (D1 ++ D2))] ?_ (fun t ht y hy => ?_) (fun y b hb _ => hb) (fun t ht => ?_)
  · simp only [List.flatMap_cons, List.flatMap_nil, List.append_nil, rnT, holeT]
    rw [List.nodup_append]
    rw [List.nodup_cons, List.nodup_append, List.nodup_append] at nd
    simp only [List.mem_append, not_or] at nd
    obtain ⟨⟨n1, n2, n3⟩, n4, ⟨n5, n6, n7⟩, n8⟩ := nd
    refine ⟨n5, ?_, fun a ha b hb e => ?_⟩
    · rw [List.nodup_cons, List.nodup_append]
      simp only [List.mem_append, not_or]
      exact ⟨⟨n1, n3⟩, n4, n6, fun a ha b hb => n8 a ha b (.inr hb)⟩
    · subst e
      simp only [List.mem_cons, List.mem_append] at hb
      rcases hb with rfl | hb | hb
      · exact n2 ha
      · exact n8 a hb a (.inl ha) rfl
      · exact n7 a ha a hb rfl
  · refine .inl ⟨_, List.mem_singleton.2 rfl, ?_⟩
    simp only [List.mem_cons, List.not_mem_nil, or_false] at ht
    rcases ht with rfl | rfl
    · simp only [rnT] at hy; simp [tabT, hy]
    · simp only [holeT, List.mem_cons, List.mem_append] at hy
      simp only [tabT, List.mem_cons, List.mem_append]
      rcases hy with hy | hy | hy
      · exact .inl hy
      · exact .inr (.inl hy)
      · exact .inr (.inr (.inr hy))
  · simp only [List.mem_cons, List.not_mem_nil, or_false] at ht
    rcases ht with rfl | rfl
    · exact h2
    · exact ⟨e2, D1, D2, rfl, h3, h4⟩
theorem tab_rd {pre post : List AV} {c : AV} {i : Nat} (h : pre.length = i) : (List.take 1 (List.drop (i * 1) (pre ++ (c :: post)))).headD AV.any = c := by
  rw [List.drop_append, List.drop_of_length_le (by omega)]
  simp [h]
theorem tab_sp {pre post : List AV} {c c' : AV} {i : Nat} (h : pre.length = i) : List.take (i * 1) (pre ++ (c :: post)) ++ [c'] ++ List.drop (i * 1 + 1) (pre ++ (c :: post)) = pre ++ (c' :: post) :=
  splice_at (c := [c]) (c' := [c']) (by omega) rfl rfl
theorem tab_put {H G : Heap} {Ts : List Th} {q : Nat} {pre post : List AV} {c c' : AV} {rows : List (List Int)} {l' : List Int} {i : Nat} {Di Dr : List Nat} (s : St H (rnI c' l' Di :: holeT q pre c post rows i Dr :: Ts) G) (hi : i < rows.length) :
    ∃ D, St H (tabT q (rows.set i l') D :: Ts) (G.set q (pre ++ (c' :: post))) := by
  have h2 : RN (LPl eI) 1 c' l' G Di := s.get 0 rfl
  obtain ⟨hq, D1, D2, rfl, h3, h4⟩ := s.get 1 rfl
  have nd0 := s.ndT 0 rfl
  have nd1 := s.ndT 1 rfl
  have dj := s.disjI 0 1 rfl rfl (by decide)
  simp only [rnT] at nd0
  simp only [holeT, List.nodup_cons, List.nodup_append, List.mem_append, not_or] at nd1
  simp only [rnT, holeT, List.mem_cons, List.mem_append, not_or] at dj
  have hf : ∀ y b, G y = some b → y ≠ q → (G.set q (pre ++ (c' :: post))) y = some b := fun y b hb hy => by rw [Heap.set_other hy]; exact hb
  refine ⟨q :: (D1 ++ (Di ++ D2)), ?_⟩
  refine St.step (old := [rnI c' l' Di, holeT q pre c post rows i (q :: (D1 ++ D2))]) s [tabT q (rows.set i l') (q :: (D1 ++ (Di ++ D2)))] ?_ (fun t ht y hy => ?_) (fun y b hb hy => hf y b hb fun e => hy (holeT q pre c post rows i (q :: (D1 ++ D2))) (by simp) (by simp [holeT, e])) (fun t ht => ?_)
  · simp only [List.flatMap_cons, List.flatMap_nil, List.append_nil, tabT]
    rw [List.nodup_cons, List.nodup_append, List.nodup_append]
    simp only [List.mem_append, not_or]
    refine ⟨⟨nd1.1.1, fun h => (dj q h).1 rfl, nd1.1.2⟩, nd1.2.1, ⟨nd0, nd1.2.2.1, fun a ha b hb e => (dj a ha).2.2 (e ▸ hb)⟩, fun a ha b hb e => ?_⟩
    rcases hb with hb | hb
    · exact (dj b hb).2.1 (e ▸ ha)
    · exact nd1.2.2.2 a ha b hb e
  · rw [List.mem_singleton] at ht; subst ht
    simp only [tabT, List.mem_cons, List.mem_append] at hy
    refine .inl ?_
    rcases hy with hy | hy | hy | hy
    · exact ⟨holeT q pre c post rows i (q :: (D1 ++ D2)), by simp, by simp [holeT, hy]⟩
    · exact ⟨holeT q pre c post rows i (q :: (D1 ++ D2)), by simp, by simp [holeT, hy]⟩
    · exact ⟨rnI c' l' Di, by simp, by simp [rnT, hy]⟩
    · exact ⟨holeT q pre c post rows i (q :: (D1 ++ D2)), by simp, by simp [holeT, hy]⟩
  · rw [List.mem_singleton] at ht; subst ht
    have a1 := LL.local LIn.local h3 (G' := G.set q (pre ++ (c' :: post))) fun y hy b hb => hf y b hb fun e => nd1.1.1 (e ▸ hy)
    have a2 := LL.local LIn.local h4 (G' := G.set q (pre ++ (c' :: post))) fun y hy b hb => hf y b hb fun e => nd1.1.2 (e ▸ hy)
    have a3 := h2.local (LPl.local eI) (G' := G.set q (pre ++ (c' :: post))) fun y hy b hb => hf y b hb (dj y hy).1
    have e : rows.set i l' = rows.take i ++ (l' :: rows.drop (i + 1)) := by rw [List.set_eq_take_append_cons_drop, if_pos hi]
    refine ⟨q, pre ++ (c' :: post), D1 ++ (Di ++ D2), rfl, Heap.set_same _ _ _, ?_, rfl⟩
    rw [e]
    exact LL.join a1 ⟨[c'], post, Di, D2, rfl, rfl, ⟨c', rfl, a3⟩, a2⟩
/-- A table of so many nil rows. -/
theorem tab_new {H G : Heap} {Ts : List Th} {q n : Nat} (s : St H Ts G) (hq : G q = none) : St H (tabT q (List.replicate n []) [q] :: Ts) (G.set q (zerosA n [.p .nil])) := by
  refine s.push (tabT q (List.replicate n []) [q]) (New.cell hq) ⟨q, zerosA n [.p .nil], [], rfl, Heap.set_same _ _ _, ?_, rfl⟩
  generalize G.set q (zerosA n [.p .nil]) = G1
  induction n with
  | zero => exact ⟨rfl, rfl⟩
  | succ n ih => exact ⟨[.p .nil], zerosA n [.p .nil], [], [], by rw [zerosA_succ], rfl, ⟨_, rfl, .inl ⟨rfl, rfl, rfl⟩⟩, ih⟩
/-- The nil rows of a table become rows of its own. -/
theorem tab_whole {K : AV → Heap → Prop} {v : AV} {H : Heap} {Ts : List Th} {q : Nat} {rows : List (List Int)} (h : ∀ G D, St H (⟨D, fun G => LII rows (.sl q 1 0 rows.length) G D, fun h f => LRow.local LIc.local h f, fun h => LRow.has LIc.has h⟩ :: Ts) G → FinK K v G) :
    ∀ {G : Heap} {D : List Nat}, St H (tabT q rows D :: Ts) G → FinK K v G := by
  have key : ∀ (n : Nat) (i : Nat) (G : Heap) (pre post : List AV) (D1 D2 : List Nat), n + i = rows.length → G q = some (pre ++ post) → LL LIc (rows.take i) pre G D1 → LL LIn (rows.drop i) post G D2 → (q :: (D1 ++ D2)).Nodup → (∀ y ∈ q :: (D1 ++ D2), H y = none) → St H Ts G → (∀ y ∈ q :: (D1 ++ D2), ∀ t ∈ Ts, y ∉ t.D) → FinK K v G := by
    intro n
    induction n with
    | zero =>
      intro i G pre post D1 D2 hi hq h1 h2 hnd hfr s hd
      rw [List.take_of_length_le (by omega)] at h1
      rw [List.drop_of_length_le (by omega)] at h2
      obtain ⟨rfl, rfl⟩ := h2
      simp only [List.append_nil] at hq hnd hfr hd
      refine h G (q :: D1) ⟨s.le, ?_, ?_, ?_⟩
      · rw [List.flatMap_cons, List.nodup_append]
        refine ⟨hnd, s.nd, fun a ha b hb e => ?_⟩
        obtain ⟨t, ht, hbt⟩ := List.mem_flatMap.1 hb
        exact hd a ha t ht (e ▸ hbt)
      · intro t ht
        rcases List.mem_cons.1 ht with rfl | ht
        · exact hfr
        · exact s.fr t ht
      · intro t ht
        rcases List.mem_cons.1 ht with rfl | ht
        · exact ⟨q, pre, D1, rfl, hq, h1, rfl⟩
        · exact s.ok t ht
    | succ n ih =>
      intro i G pre post D1 D2 hi hq h1 h2 hnd hfr s hd
      have hlt : i < rows.length := by omega
      rw [drop_cons hlt] at h2
      obtain ⟨c, c2, Da, Db, rfl, rfl, ⟨x, rfl, hx⟩, h3⟩ := h2
      rcases hx with ⟨rfl, hr, rfl⟩ | hx
      · refine .ghost fun z hz => ?_
        have nz : ∀ y b, G y = some b → y ≠ z := fun y b hb e => by rw [e, hz] at hb; cases hb
        have hqz : q ≠ z := nz q _ hq
        have le1 := Heap.le_set (b := []) hz
        have hq1 := le1 _ _ hq
        refine .wk (.cell (cs' := pre ++ (.sl z 1 0 0 :: c2)) hq1 (by simp) fun j a a' e1 e2 => ?_) ?_
        · rw [List.getElem?_append] at e1 e2
          split at e1
          · rename_i hlt'
            rw [if_pos hlt'] at e2
            rw [e1] at e2; cases e2; exact .refl _
          · rename_i hge
            rw [if_neg hge] at e2
            cases hj : j - pre.length with
            | zero => rw [hj] at e1 e2; simp at e1 e2; subst e1; subst e2; exact .nilo _ _ _
            | succ m => rw [hj] at e1 e2; simp at e1 e2; rw [e1] at e2; cases e2; exact .refl _
        · have old : ∀ y b, G y = some b → y ≠ q → ((G.set z []).set q (pre ++ (.sl z 1 0 0 :: c2))) y = some b := fun y b hb hy => by rw [Heap.set_other hy]; exact le1 y b hb
          have hzq : ((G.set z []).set q (pre ++ (.sl z 1 0 0 :: c2))) z = some [] := by rw [Heap.set_other (Ne.symm hqz), Heap.set_same]
          simp only [List.nil_append] at h3 hnd hfr hd
          have hnd' := hnd
          rw [List.nodup_cons, List.nodup_append] at hnd'
          simp only [List.mem_append, not_or] at hnd'
          have zD1 : z ∉ D1 := fun hm => LL.has LIc.has h1 z hm hz
          have zDb : z ∉ Db := fun hm => LL.has LIn.has h3 z hm hz
          have hHz : H z = none := by
            cases hh : H z with
            | none => rfl
            | some b => rw [s.le z b hh] at hz; cases hz
          refine ih (i + 1) _ (pre ++ [.sl z 1 0 0]) c2 (D1 ++ [z]) Db (by omega) (by rw [Heap.set_same]; simp) ?_ ?_ ?_ ?_ ?_ ?_
          · rw [take_succ_snoc hlt, hr]
            exact LL.snoc ⟨_, rfl, ⟨z, [], [], rfl, hzq, ⟨rfl, rfl⟩, rfl⟩⟩ (LL.local LIc.local h1 fun y hy b hb => old y b hb (fun e => hnd'.1.1 (e ▸ hy)))
          · exact LL.local LIn.local h3 fun y hy b hb => old y b hb (fun e => hnd'.1.2 (e ▸ hy))
          · rw [List.nodup_cons, List.nodup_append, List.nodup_append]
            simp only [List.mem_append, List.mem_singleton, not_or]
            refine ⟨⟨⟨hnd'.1.1, hqz⟩, hnd'.1.2⟩, ⟨hnd'.2.1, by simp, fun a ha b hb e => zD1 (by rw [← hb, ← e]; exact ha)⟩, hnd'.2.2.1, fun a ha b hb e => ?_⟩
            rcases ha with ha | ha
            · exact hnd'.2.2.2 a ha b hb e
            · exact zDb (by rw [← ha, e]; exact hb)
          · intro y hy
            simp only [List.mem_cons, List.mem_append, List.not_mem_nil, or_false] at hy
            rcases hy with rfl | (hy | rfl) | hy
            · exact hfr _ (by simp)
            · exact hfr _ (by simp [hy])
            · exact hHz
            · exact hfr _ (by simp [hy])
          · refine ⟨fun y b hb => old y b (s.le y b hb) fun e => ?_, s.nd, s.fr, fun t ht => t.loc (s.ok t ht) fun y hy b hb => old y b hb fun e => hd q (by simp) t ht (e ▸ hy)⟩
            have := hfr q (by simp)
            rw [← e, hb] at this; cases this
          · intro y hy t ht hyt
            simp only [List.mem_cons, List.mem_append, List.not_mem_nil, or_false] at hy
            rcases hy with rfl | (hy | rfl) | hy
            · exact hd _ (by simp) t ht hyt
            · exact hd _ (by simp [hy]) t ht hyt
            · exact t.has (s.ok t ht) _ hyt hz
            · exact hd _ (by simp [hy]) t ht hyt
      · refine ih (i + 1) G (pre ++ [x]) c2 (D1 ++ Da) Db (by omega) (by rw [hq]; simp) ?_ h3 (by rw [List.append_assoc]; exact hnd) (by rw [List.append_assoc]; exact hfr) s (by rw [List.append_assoc]; exact hd)
        rw [take_succ_snoc hlt]
        exact LL.snoc ⟨x, rfl, hx⟩ h1
  intro G D s
  have hr : LRow LIn 1 rows (.sl q 1 0 rows.length) G D := s.get 0 rfl
  obtain ⟨q', cs, D', e1, e2, e3, rfl⟩ := hr
  injection e1 with e1
  subst e1
  refine key rows.length 0 G [] cs [] D' rfl e2 ⟨by simp, rfl⟩ (by simpa using e3) (by have := s.ndT 0 rfl; simpa [tabT] using this) (by have := s.fr _ (List.mem_cons_self ..); simpa [tabT] using this) s.drop fun y hy t ht => ?_
  obtain ⟨j, hj⟩ := List.mem_iff_getElem?.1 ht
  exact s.disjI 0 (j + 1) rfl (by simpa using hj) (by omega) y (by simpa [tabT] using hy)
theorem st_appI {H G : Heap} {Ts : List Th} {q : Nat} {xs ys : List Int} (s : St H Ts G) (i : Nat) (hi : Ts[i]? = some (cellT q (cP fI xs))) (hl : xs.length + ys.length ≤ 1000000000) {K : AV → Heap → Prop}
    (h : ∀ q' G', G q' = none → St H (Ts.set i (cellT q' (cP fI (xs ++ ys)))) G' → K (rowP q' (xs ++ ys)) G') : appendV tab 46 46 (rowP q xs) (Is ys) G (wkK K) := by
  have hq : G q = some (cP fI xs) := s.get i hi
  exact app_intsX (ex := []) (by rw [hq, List.append_nil]) hl fun q' hq' hne => h q' _ hq' (s.moved i hi hq')
abbrev eBo (b : Bool) : List PV := [.bool b]
abbrev fB (b : Bool) : PV := .bool b
theorem mapB_rd {l : List Bool} {i : Nat} (h : i < l.length) : (List.take 1 (List.drop (i * 1) (cP fB l))).headD AV.any = B (l.getD i default) := by
  rw [Nat.mul_one, cP, ← List.map_drop, drop_cons h]; rfl
abbrev Bls (xs : List Bool) : AV := .p (.sl (xs.map eBo))
theorem cB_app (xs ys : List Bool) : cP fB (xs ++ ys) = cP fB xs ++ cP fB ys := by simp [cP]
theorem frz_rowB {q : Nat} {xs : List Bool} : FrzR q 1 (xs.map eBo) (rowP q xs) (Bls xs) := by
  have : FrzR q 1 (xs.map eBo) (.sl q 1 0 (xs.map eBo).length) (.p (.sl (xs.map eBo))) := .here
  rwa [List.length_map] at this
theorem wkB {q : Nat} {xs : List Bool} {G : Heap} (hq : G q = some (cP fB xs)) (C : AV → AV) (hC : ∀ {q sz es a a'}, FrzR q sz es a a' → FrzR q sz es (C a) (C a')) : Wk (C (rowP q xs)) G (C (Bls xs)) (G.del q) := by
  have e : cells (xs.map eBo) = cP fB xs := cells_P fB xs
  exact Wk.frz (r := q) (sz := 1) (es := xs.map eBo) (by omega) (by have h := hq; rw [← e] at h; exact h) (sized_map (f := eBo) (fun _ => rfl) xs) (hC frz_rowB)
theorem cB_set {l : List Bool} {t : Nat} (h : t < l.length) (b : Bool) : List.take (t * 1) (cP fB l) ++ [B b] ++ List.drop (t * 1 + 1) (cP fB l) = cP fB (l.set t b) := by
  rw [List.set_eq_take_append_cons_drop, if_pos h, Nat.mul_one]
  simp [cP, List.map_take, List.map_drop]
theorem mapB_set {n : Nat} (p : Nat → Bool) (t : Nat) : ((List.range n).map p).set t true = (List.range n).map fun u => decide (u = t) || p u := by
  apply List.ext_getElem?
  intro k
  rw [List.getElem?_set, List.getElem?_map, List.getElem?_map, List.length_map, List.length_range]
  by_cases hk : k < n
  · rw [List.getElem?_range hk]
    by_cases e : t = k
    · subst e; simp [hk]
    · have : ¬ k = t := fun h => e h.symm
      simp [e, this]
  · rw [List.getElem?_eq_none (by simp; omega)]
    by_cases e : t = k
    · subst e; simp [hk]
    · simp [e]
theorem cB_zero (n : Nat) : zerosA n [B false] = cP fB ((List.range n).map fun _ => false) := by
  induction n with
  | zero => rfl
  | succ n ih => rw [zerosA_succ, ih, List.range_succ_eq_map]; simp [cP]
end Go.Proofs.YtgcklgeifdefhaaGreat
