/- Texts laid together: Lf1 Ql1 Lr7 Lt1 Lt2 Mt0 Lt3 Lt4 Ma2 Ma3 Ma4. -/
import Derived.Test.YtolffbcnbcjeaaaPkt5
set_option linter.unusedVariables false
set_option linter.unusedSimpArgs false
open Nat renaming reduceAdd → ν1, reduceLeDiff → ν2, reduceLT → ν3, reduceMul → ν4, reduceSub → ν5
open Int renaming reduceToNat → ι1, reduceSub → ι2, reduceAdd → ι3, reduceNeg → ι4
open Array renaming toList → ι5
open Ne renaming symm → ν6
open List renaming forall_mem_cons → ν7
namespace Go.Proofs.Ytolffbcnbcjeaaa
open Go Go.Sep
attribute [local irreducible] CallT
theorem IndexFunc_at (xs : List Int) (g : Nat) (caps : List AV) (p : Int → Bool) {H : Heap} (hl : xs.length ≤ 1000000000) (hp : ∀ x ∈ xs, PuAt Try.prog g (I x :: caps) H (B (p x))) :
    PuAt Try.prog 110 [Is xs, .fn g caps] H (I (if xs.any p then (xs.findIdx p : Int) else -1)) := by
  intro K hK
  refine CallT.fin ?_
  refine W110_ok ?_; simp (maxSteps := 1000000) (disch := first | assumption | (apply ν6; assumption)) only [W110, vz, vu, vv, eqS, eF_, ↓c1_, ↓c2_, tabs, reduceCtorEq, ι5, ↓reduceIte, ν1, ν2, ν3, ν4, ν5, ι1, ι2, ι3, ι4]
  refine L110_0_rule (0 : Nat) (fun i => I i) (fun _ => H) (fun i => i ≤ xs.length ∧ ∀ j (hj : j < xs.length), j < i → p xs[j] = false) (fun i => xs.length - i) ⟨⟨by omega, by intros; omega⟩, .refl _, Heap.le_refl _⟩ ?_
  rintro i ⟨hi1, ha⟩
  (try simp (maxSteps := 1000000) (disch := first | assumption | (apply ν6; assumption)) only [vz, vu, vv, eqS, eF_, ↓c1_, ↓c2_, tabs, reduceCtorEq, ι5, ↓reduceIte, ν1, ν2, ν3, ν4, ν5, ι1, ι2, ι3, ι4, B110_0])
  refine ⟨fun h => ⟨by omega, h, ?_⟩, fun h => ?_⟩
  · have hlt : i < xs.length := by omega
    rw [getD_lt hlt]
    refine PuAt.use (hp _ (List.getElem_mem hlt)) ?_
    (try simp (maxSteps := 1000000) (disch := first | assumption | (apply ν6; assumption)) only [vz, vu, vv, eqS, eF_, ↓c1_, ↓c2_, tabs, reduceCtorEq, ι5, ↓reduceIte, ν1, ν2, ν3, ν4, ν5, ι1, ι2, ι3, ι4])
    refine ⟨fun h1 => ?_, fun h1 => ⟨i + 1, ⟨by omega, fun j hj hji => ?_⟩, by omega, ?_⟩⟩
    · have h2 : xs.any p = true := List.any_eq_true.2 ⟨xs[i], List.getElem_mem hlt, h1⟩
      have h3 : xs.findIdx p = i := by
        rw [List.findIdx_eq hlt]; exact ⟨h1, fun j hj => ha j (by omega) hj⟩
      rw [h2, h3] at hK; exact wkK.keep (by simpa using hK)
    · rcases Nat.lt_succ_iff_lt_or_eq.1 hji with h2 | rfl
      · exact ha j hj h2
      · exact h1
    · rw [wk_int, i64_id (by omega) (by omega)]; simp
  · have hi : i = xs.length := by omega
    have h2 : xs.any p = false := by
      rw [List.any_eq_false]
      intro x hx
      obtain ⟨j, hj, rfl⟩ := List.mem_iff_getElem.1 hx
      rw [ha j hj (by omega)]; simp
    rw [h2] at hK; exact wkK.keep (by simpa using hK)
theorem ContainsFunc_at (xs : List Int) (g : Nat) (caps : List AV) (p : Int → Bool) {H : Heap} (hl : xs.length ≤ 1000000000) (hp : ∀ x ∈ xs, PuAt Try.prog g (I x :: caps) H (B (p x))) :
    PuAt Try.prog 92 [Is xs, .fn g caps] H (B (xs.any p)) := by
  intro K hK
  refine W92_ok ?_; simp (maxSteps := 1000000) (disch := first | assumption | (apply ν6; assumption)) only [W92, vz, vu, vv, eqS, eF_, ↓c1_, ↓c2_, tabs, reduceCtorEq, ι5, ↓reduceIte, ν1, ν2, ν3, ν4, ν5, ι1, ι2, ι3, ι4]
  refine PuAt.use (IndexFunc_at xs g caps p hl hp) ?_
  (try simp (maxSteps := 1000000) (disch := first | assumption | (apply ν6; assumption)) only [vz, vu, vv, eqS, eF_, ↓c1_, ↓c2_, tabs, reduceCtorEq, ι5, ↓reduceIte, ν1, ν2, ν3, ν4, ν5, ι1, ι2, ι3, ι4])
  cases h : xs.any p <;> simp [h] at hK ⊢ <;> exact hK
end Go.Proofs.Ytolffbcnbcjeaaa
namespace Go.Proofs.Ytolffbcnbcjeaaa
open Go Go.Sep Go.Pt
attribute [local irreducible] CallT
theorem l1In_BQ (a lo hi : Int) : Pu Try.prog 55 [I a, I lo, I hi] (B (inB a lo hi)) := l1In_spec a lo hi
theorem l1AllQ (xs : List Int) (lo hi : Int) (hl : xs.length ≤ 1000000000) : Pu Try.prog 72 [Is xs, I lo, I hi] (B (xs.all fun a => decide (lo ≤ a) && decide (a ≤ hi))) := by
  refine Pu.of fun H => ?_
  refine W72_ok ?_; simp (maxSteps := 1000000) (disch := first | assumption | (apply ν6; assumption)) only [W72, vz, vu, vv, eqS, eF_, ↓c1_, ↓c2_, tabs, reduceCtorEq, ι5, ↓reduceIte, ν1, ν2, ν3, ν4, ν5, ι1, ι2, ι3, ι4]
  refine L72_0_rule (0 : Nat) (fun i => I i) (fun _ => H) (fun i => i ≤ xs.length ∧ (xs.take i).all (fun a => decide (lo ≤ a) && decide (a ≤ hi)) = true) (fun i => xs.length - i) ⟨⟨by omega, by simp⟩, .refl _, Heap.le_refl _⟩ ?_
  rintro i ⟨hi1, ha⟩
  (try simp (maxSteps := 1000000) (disch := first | assumption | (apply ν6; assumption)) only [vz, vu, vv, eqS, eF_, ↓c1_, ↓c2_, tabs, reduceCtorEq, ι5, ↓reduceIte, ν1, ν2, ν3, ν4, ν5, ι1, ι2, ι3, ι4, B72_0])
  refine ⟨fun h => ⟨by omega, h, ?_⟩, fun h => ?_⟩
  · have hlt : i < xs.length := by omega
    refine Pu.use (l1In_spec ..) ?_
    (try simp (maxSteps := 1000000) (disch := first | assumption | (apply ν6; assumption)) only [vz, vu, vv, eqS, eF_, ↓c1_, ↓c2_, tabs, reduceCtorEq, ι5, ↓reduceIte, ν1, ν2, ν3, ν4, ν5, ι1, ι2, ι3, ι4])
    have e := take_all_succ (p := fun a => decide (lo ≤ a) && decide (a ≤ hi)) hlt
    rw [getD_lt hlt]
    refine ⟨fun h1 => ?_, fun h1 => ?_⟩
    · congr 2
      symm
      rw [List.all_eq_false]
      exact ⟨xs[i], by simp, by simpa using h1⟩
    · refine ⟨i + 1, ⟨by omega, by rw [e, ha]; simpa using h1⟩, by omega, ?_⟩
      rw [wk_int, i64_id (by omega) (by omega)]; simp
  · have : i = xs.length := by omega
    subst this
    rw [List.take_length] at ha; simp [ha]
def letB (n : Int) : Bool := decide (0 ≤ n) && decide (n ≤ 7)
def goodL (s l : List Int) : Bool := (decide (s.length ≤ 24) && (decide (1 ≤ l.length) && decide (l.length ≤ 24))) && (s.all letB && l.all letB)
theorem areLetters1Q (n : Int) {H : Heap} : PuAt Try.prog 93 [I n] H (B (!letB n)) := by
  intro K hK
  refine W93_ok ?_; simp (maxSteps := 1000000) (disch := first | assumption | (apply ν6; assumption)) only [W93, vz, vu, vv, eqS, eF_, ↓c1_, ↓c2_, tabs, reduceCtorEq, ι5, ↓reduceIte, ν1, ν2, ν3, ν4, ν5, ι1, ι2, ι3, ι4]
  refine ⟨fun h => ?_, fun h => ?_⟩
  · have e : letB n = false := by simp [letB]; omega
    rw [e] at hK; exact hK
  · by_cases h2 : 8 ≤ n
    · have e : letB n = false := by simp [letB]; omega
      have e2 : decide (8 ≤ n) = true := by simpa using h2
      rw [e] at hK; simpa [e2] using hK
    · have e : letB n = true := by simp [letB]; omega
      have e2 : decide (8 ≤ n) = false := by simpa using h2
      rw [e] at hK; simpa [e2] using hK
theorem areLettersQ (xs : List Int) (hl : xs.length ≤ 1000000000) : Pu Try.prog 75 [Is xs] (B (xs.all letB)) := by
  refine Pu.of fun H => ?_
  refine W75_ok ?_; simp (maxSteps := 1000000) (disch := first | assumption | (apply ν6; assumption)) only [W75, vz, vu, vv, eqS, eF_, ↓c1_, ↓c2_, tabs, reduceCtorEq, ι5, ↓reduceIte, ν1, ν2, ν3, ν4, ν5, ι1, ι2, ι3, ι4]
  refine PuAt.use (ContainsFunc_at xs _ _ (fun n => !letB n) hl fun x _ => areLetters1Q x) ?_
  (try simp (maxSteps := 1000000) (disch := first | assumption | (apply ν6; assumption)) only [vz, vu, vv, eqS, eF_, ↓c1_, ↓c2_, tabs, reduceCtorEq, ι5, ↓reduceIte, ν1, ν2, ν3, ν4, ν5, ι1, ι2, ι3, ι4])
  rw [List.all_eq_not_any_not]
theorem GoodLassoI (s l : List Int) (h1 : s.length ≤ 1000000000) (h2 : l.length ≤ 1000000000) : Pu Try.prog 37 [.agg [Is s, Is l]] (B (goodL s l)) := by
  refine Pu.of fun H => ?_
  refine W37_ok ?_; simp (maxSteps := 1000000) (disch := first | assumption | (apply ν6; assumption)) only [W37, vz, vu, vv, eqS, eF_, ↓c1_, ↓c2_, tabs, reduceCtorEq, ι5, ↓reduceIte, ν1, ν2, ν3, ν4, ν5, ι1, ι2, ι3, ι4]
  intro r hr
  have hle : ∀ z, Heap.le H (H.set r z) := fun z => Heap.le_set hr
  (try simp (maxSteps := 1000000) (disch := first | assumption | (apply ν6; assumption)) only [vz, vu, vv, eqS, eF_, ↓c1_, ↓c2_, tabs, reduceCtorEq, ι5, ↓reduceIte, ν1, ν2, ν3, ν4, ν5, ι1, ι2, ι3, ι4])
  have fls : (¬ (s.length ≤ 24 ∧ 1 ≤ l.length ∧ l.length ≤ 24)) → goodL s l = false := fun h => by
    rw [Bool.eq_false_iff]; intro hh
    simp only [goodL, Bool.and_eq_true, decide_eq_true_eq] at hh
    exact h ⟨hh.1.1, hh.1.2.1, hh.1.2.2⟩
  refine ⟨fun a1 => ⟨fun a2 => ⟨fun a3 => ?_, fun a3 => ⟨by rw [fls (by omega)], hle _⟩⟩, fun a2 => ⟨by rw [fls (by omega)], hle _⟩⟩, fun a1 => ⟨by rw [fls (by omega)], hle _⟩⟩
  have e : goodL s l = (s.all letB && l.all letB) := by
    have b1 : s.length ≤ 24 := by omega
    have b2 : 1 ≤ l.length := by omega
    have b3 : l.length ≤ 24 := by omega
    simp only [goodL, b1, b2, b3, decide_true, Bool.true_and]
  rw [e]
  refine Pu.use (areLettersQ s h1) ?_
  cases s.all letB
  · (try simp (maxSteps := 1000000) (disch := first | assumption | (apply ν6; assumption)) only [vz, vu, vv, eqS, eF_, ↓c1_, ↓c2_, tabs, reduceCtorEq, ι5, ↓reduceIte, ν1, ν2, ν3, ν4, ν5, ι1, ι2, ι3, ι4])
    exact hle _
  · (try simp (maxSteps := 1000000) (disch := first | assumption | (apply ν6; assumption)) only [vz, vu, vv, eqS, eF_, ↓c1_, ↓c2_, tabs, reduceCtorEq, ι5, ↓reduceIte, ν1, ν2, ν3, ν4, ν5, ι1, ι2, ι3, ι4])
    refine Pu.use (areLettersQ l h2) ?_
    (try simp (maxSteps := 1000000) (disch := first | assumption | (apply ν6; assumption)) only [vz, vu, vv, eqS, eF_, ↓c1_, ↓c2_, tabs, reduceCtorEq, ι5, ↓reduceIte, ν1, ν2, ν3, ν4, ν5, ι1, ι2, ι3, ι4])
    exact hle _
theorem GoodLassoR (s l : List Int) (h1 : s.length ≤ 1000000000) (h2 : l.length ≤ 1000000000) : Pu Try.prog 35 [.agg [Is s, Is l]] (B (goodL s l)) := by
  refine Pu.of fun H => ?_
  refine W35_ok ?_; simp (maxSteps := 1000000) (disch := first | assumption | (apply ν6; assumption)) only [W35, vz, vu, vv, eqS, eF_, ↓c1_, ↓c2_, tabs, reduceCtorEq, ι5, ↓reduceIte, ν1, ν2, ν3, ν4, ν5, ι1, ι2, ι3, ι4]
  intro r hr
  have hle : ∀ z, Heap.le H (H.set r z) := fun z => Heap.le_set hr
  (try simp (maxSteps := 1000000) (disch := first | assumption | (apply ν6; assumption)) only [vz, vu, vv, eqS, eF_, ↓c1_, ↓c2_, tabs, reduceCtorEq, ι5, ↓reduceIte, ν1, ν2, ν3, ν4, ν5, ι1, ι2, ι3, ι4])
  refine ⟨fun a1 => ?_, fun a1 => ?_⟩
  rotate_left
  · refine ⟨?_, hle _⟩
    have : goodL s l = false := by
      rw [Bool.eq_false_iff]; intro hh
      simp only [goodL, Bool.and_eq_true, decide_eq_true_eq] at hh
      have := hh.1.1; omega
    rw [this]
  refine Pu.use (l1In_BQ l.length 1 24) ?_
  cases hin : inB l.length 1 24
  · (try simp (maxSteps := 1000000) (disch := first | assumption | (apply ν6; assumption)) only [vz, vu, vv, eqS, eF_, ↓c1_, ↓c2_, tabs, reduceCtorEq, ι5, ↓reduceIte, ν1, ν2, ν3, ν4, ν5, ι1, ι2, ι3, ι4])
    refine ⟨?_, hle _⟩
    have : goodL s l = false := by
      rw [Bool.eq_false_iff]; intro hh
      simp only [goodL, Bool.and_eq_true, decide_eq_true_eq] at hh
      rw [inB_iff.2 (by have := hh.1.2; omega)] at hin; cases hin
    rw [this]
  rw [inB_iff] at hin
  have e : goodL s l = (s.all letB && l.all letB) := by
    have b1 : s.length ≤ 24 := by omega
    have b2 : 1 ≤ l.length := by omega
    have b3 : l.length ≤ 24 := by omega
    simp only [goodL, b1, b2, b3, decide_true, Bool.true_and]
  rw [e]
  (try simp (maxSteps := 1000000) (disch := first | assumption | (apply ν6; assumption)) only [vz, vu, vv, eqS, eF_, ↓c1_, ↓c2_, tabs, reduceCtorEq, ι5, ↓reduceIte, ν1, ν2, ν3, ν4, ν5, ι1, ι2, ι3, ι4])
  refine Pu.use (l1AllQ s 0 7 h1) ?_
  have e3 : ∀ xs : List Int, (xs.all fun a => decide (0 ≤ a) && decide (a ≤ 7)) = xs.all letB := fun xs => rfl
  rw [e3]
  cases s.all letB
  · (try simp (maxSteps := 1000000) (disch := first | assumption | (apply ν6; assumption)) only [vz, vu, vv, eqS, eF_, ↓c1_, ↓c2_, tabs, reduceCtorEq, ι5, ↓reduceIte, ν1, ν2, ν3, ν4, ν5, ι1, ι2, ι3, ι4])
    exact hle _
  · (try simp (maxSteps := 1000000) (disch := first | assumption | (apply ν6; assumption)) only [vz, vu, vv, eqS, eF_, ↓c1_, ↓c2_, tabs, reduceCtorEq, ι5, ↓reduceIte, ν1, ν2, ν3, ν4, ν5, ι1, ι2, ι3, ι4])
    refine Pu.use (l1AllQ l 0 7 h2) ?_
    rw [e3]
    (try simp (maxSteps := 1000000) (disch := first | assumption | (apply ν6; assumption)) only [vz, vu, vv, eqS, eF_, ↓c1_, ↓c2_, tabs, reduceCtorEq, ι5, ↓reduceIte, ν1, ν2, ν3, ν4, ν5, ι1, ι2, ι3, ι4])
    exact hle _
abbrev aL2 (s l : List Int) : AV := .agg [Is s, Is l]
theorem wkL2 {s l : List Int} {q1 q2 : Nat} {G : Heap} (hq1 : G q1 = some (cP fI s)) (hq2 : G q2 = some (cP fI l)) (hne : q1 ≠ q2) (C : AV → AV) (hC : ∀ {r sz es a a'}, FrzR r sz es a a' → FrzR r sz es (C a) (C a')) : Wk (C (.agg [rowP q1 s, rowP q2 l])) G (C (aL2 s l)) ((G.del q1).del q2) := by
  have w1 := Wk.frz (v := C (.agg [rowP q1 s, rowP q2 l])) (v' := C (.agg [Is s, rowP q2 l])) (H := G) (r := q1) (sz := 1) (es := s.map fun n => [fI n]) (by omega) (by rw [flat_P]; exact hq1) (szP _ _) (hC (.agg (.cons frz_row (.cons (.same _) .nil))))
  have w2 := Wk.frz (v := C (.agg [Is s, rowP q2 l])) (v' := C (aL2 s l)) (H := G.del q1) (r := q2) (sz := 1) (es := l.map fun n => [fI n]) (by omega) (by rw [flat_P, Heap.del_other (Ne.symm hne)]; exact hq2) (szP _ _) (hC (.agg (.cons (.same _) (.cons frz_row .nil))))
  exact .trans w1 w2
def RL (s l : List Int) (v : AV) (G : Heap) (D : List Nat) : Prop := (s = [] ∧ l = [] ∧ v = .agg [.p .nil, .p .nil] ∧ D = []) ∨ ∃ q1 q2, v = .agg [rowP q1 s, rowP q2 l] ∧ G q1 = some (cP fI s) ∧ G q2 = some (cP fI l) ∧ D = [q1, q2] ∧ q1 ≠ q2
end Go.Proofs.Ytolffbcnbcjeaaa
namespace Go.Proofs.Ytolffbcnbcjeaaa
open Go Go.Sep Go.Pt Go.RowKit
theorem arg_lasso {v : AV} (h : ArgT Try.prog 37 v) : ∃ s l : List Int, ok s.length ∧ ok l.length ∧ v = aL2 s l := by
  obtain ⟨pvs, g, rfl⟩ := arg_struct (ts := [22, 22]) (by kernel_rfl) h
  clear h
  have h := g
  obtain ⟨a, b, rfl, h1, h⟩ := typedAll_cons h
  obtain ⟨b, c, rfl, h2, h⟩ := typedAll_cons h
  cases typedAll_nil h
  obtain ⟨s, hs, rfl⟩ := typed_intl h1
  obtain ⟨l, hl, rfl⟩ := typed_intl h2
  exact ⟨s, l, hs, hl, rfl⟩
end Go.Proofs.Ytolffbcnbcjeaaa
namespace Go.Sep
open Go Go.RowKit
abbrev Lay (α : Type) := α → List AV → Heap → List Nat → Prop
def LPl {α : Type} (e : α → List PV) : Lay α := fun a cs _ D => cs = (e a).map .p ∧ D = []
def LL {α : Type} (L : Lay α) : List α → List AV → Heap → List Nat → Prop
  | [], cs, _, D => cs = [] ∧ D = []
  | a :: az, cs, G, D => ∃ c1 c2 D1 D2, cs = c1 ++ c2 ∧ D = D1 ++ D2 ∧ L a c1 G D1 ∧ LL L az c2 G D2
def LRow {α : Type} (L : Lay α) (sz : Nat) : List α → AV → Heap → List Nat → Prop := fun xs x G D => ∃ q cs D', x = .sl q sz 0 xs.length ∧ G q = some cs ∧ LL L xs cs G D' ∧ D = q :: D'
def Lay.Local {α : Type} (L : Lay α) : Prop := ∀ a cs G G' D, L a cs G D → (∀ y ∈ D, ∀ b, G y = some b → G' y = some b) → L a cs G' D
def Lay.Size {α : Type} (L : Lay α) (sz : Nat) : Prop := ∀ a cs G D, L a cs G D → cs.length = sz
theorem LPl.local {α : Type} (e : α → List PV) : Lay.Local (LPl e) := fun a cs G G' D h _ => h
theorem LPl.size {α : Type} {e : α → List PV} {sz : Nat} (h : ∀ a, (e a).length = sz) : Lay.Size (LPl e) sz := fun a cs G D hl => by rw [hl.1, List.length_map, h]
theorem LL.local {α : Type} {L : Lay α} (hL : L.Local) : ∀ {az : List α} {cs : List AV} {G G' : Heap} {D : List Nat}, LL L az cs G D → (∀ y ∈ D, ∀ b, G y = some b → G' y = some b) → LL L az cs G' D
  | [], cs, G, G', D, h, _ => h
  | a :: az, cs, G, G', D, ⟨c1, c2, D1, D2, e1, e2, h1, h2⟩, hf => by
    subst e2
    exact ⟨c1, c2, D1, D2, e1, rfl, hL _ _ _ _ _ h1 (fun y hy => hf y (List.mem_append_left _ hy)), LL.local hL h2 (fun y hy => hf y (List.mem_append_right _ hy))⟩
theorem LL.size {α : Type} {L : Lay α} {sz : Nat} (hL : L.Size sz) : ∀ {az : List α} {cs : List AV} {G : Heap} {D : List Nat}, LL L az cs G D → cs.length = az.length * sz
  | [], cs, G, D, h => by rw [h.1]; simp
  | a :: az, cs, G, D, ⟨c1, c2, D1, D2, e1, e2, h1, h2⟩ => by
    rw [e1, List.length_append, hL _ _ _ _ h1, LL.size hL h2, List.length_cons, Nat.add_mul, Nat.one_mul]; omega
theorem LRow.local {α : Type} {L : Lay α} {sz : Nat} (hL : L.Local) {xs : List α} {x : AV} {G G' : Heap} {D : List Nat} (h : LRow L sz xs x G D) (hf : ∀ y ∈ D, ∀ b, G y = some b → G' y = some b) : LRow L sz xs x G' D := by
  obtain ⟨q, cs, D', e1, e2, e3, e4⟩ := h
  subst e4
  exact ⟨q, cs, D', e1, hf q (by simp) _ e2, LL.local hL e3 (fun y hy => hf y (by simp [hy])), rfl⟩
def Lay.Has {α : Type} (L : Lay α) : Prop := ∀ a cs G D, L a cs G D → ∀ y ∈ D, G y ≠ none
theorem LPl.has {α : Type} (e : α → List PV) : Lay.Has (LPl e) := fun a cs G D h y hy => by rw [h.2] at hy; cases hy
theorem LL.has {α : Type} {L : Lay α} (hL : L.Has) : ∀ {az : List α} {cs : List AV} {G : Heap} {D : List Nat}, LL L az cs G D → ∀ y ∈ D, G y ≠ none
  | [], cs, G, D, h => fun y hy => by rw [h.2] at hy; cases hy
  | a :: az, cs, G, D, ⟨c1, c2, D1, D2, e1, e2, h1, h2⟩ => fun y hy => by
    rw [e2] at hy
    rcases List.mem_append.1 hy with hy | hy
    · exact hL _ _ _ _ h1 y hy
    · exact LL.has hL h2 y hy
theorem LRow.has {α : Type} {L : Lay α} {sz : Nat} (hL : L.Has) {xs : List α} {x : AV} {G : Heap} {D : List Nat} (h : LRow L sz xs x G D) : ∀ y ∈ D, G y ≠ none := by
  obtain ⟨q, cs, D', e1, e2, e3, e4⟩ := h
  intro y hy
  rw [e4] at hy
  rcases List.mem_cons.1 hy with rfl | hy
  · rw [e2]; simp
  · exact LL.has hL e3 y hy
theorem LL.plain {α : Type} {e : α → List PV} {G : Heap} : ∀ (xs : List α), LL (LPl e) xs (cells (xs.map e)) G []
  | [] => ⟨rfl, rfl⟩
  | x :: xs => ⟨(e x).map .p, cells (xs.map e), [], [], by simp [cells], rfl, ⟨rfl, rfl⟩, LL.plain xs⟩
theorem splice_at {pre c c' post : List AV} {off n : Nat} (ho : off = pre.length) (hn : n = c'.length) (hc : c.length = c'.length) : List.take off (pre ++ (c ++ post)) ++ c' ++ List.drop (off + n) (pre ++ (c ++ post)) = pre ++ (c' ++ post) := by
  subst ho; subst hn
  rw [List.take_left', List.append_assoc]
  · congr 2
    rw [List.drop_append, ← hc]
    simp
  · rfl
theorem LL.snoc {α : Type} {L : Lay α} {a : α} {c2 : List AV} {G : Heap} {D2 : List Nat} (h2 : L a c2 G D2) : ∀ {az : List α} {c1 : List AV} {D1 : List Nat}, LL L az c1 G D1 → LL L (az ++ [a]) (c1 ++ c2) G (D1 ++ D2)
  | [], c1, D1, h => by
    obtain ⟨rfl, rfl⟩ := h
    exact ⟨c2, [], D2, [], by simp, by simp, h2, rfl, rfl⟩
  | b :: az, c1, D1, ⟨d1, d2, E1, E2, e1, e2, h1, h3⟩ => by
    subst e1; subst e2
    exact ⟨d1, d2 ++ c2, E1, E2 ++ D2, by simp, by simp, h1, LL.snoc h2 h3⟩
theorem LL.split {α : Type} [Inhabited α] {L : Lay α} {sz : Nat} (hL : L.Size sz) : ∀ {az : List α} {cs : List AV} {G : Heap} {D : List Nat} {i : Nat}, LL L az cs G D → i < az.length →
    ∃ c1 c c2 D1 Di D2, cs = c1 ++ (c ++ c2) ∧ D = D1 ++ (Di ++ D2) ∧ c1.length = i * sz ∧ L (az.getD i default) c G Di ∧ LL L (az.take i) c1 G D1 ∧ LL L (az.drop (i + 1)) c2 G D2
  | a :: az, cs, G, D, 0, ⟨c1, c2, D1, D2, e1, e2, h1, h2⟩, _ => ⟨[], c1, c2, [], D1, D2, by simpa using e1, by simpa using e2, by simp, by simpa using h1, ⟨rfl, rfl⟩, by simpa using h2⟩
  | a :: az, cs, G, D, i + 1, ⟨c1, c2, D1, D2, e1, e2, h1, h2⟩, hi => by
    obtain ⟨d1, d, d2, E1, Ei, E2, f1, f2, f3, f4, f5, f6⟩ := LL.split hL h2 (i := i) (by simpa using hi)
    subst e1; subst e2; subst f1; subst f2
    refine ⟨c1 ++ d1, d, d2, D1 ++ E1, Ei, E2, by simp, by simp, ?_, by simpa using f4, ⟨c1, d1, D1, E1, rfl, rfl, h1, f5⟩, by simpa using f6⟩
    rw [List.length_append, hL _ _ _ _ h1, f3, Nat.add_mul, Nat.one_mul]; omega
theorem LL.join {α : Type} {L : Lay α} : ∀ {az bs : List α} {c1 c2 : List AV} {G : Heap} {D1 D2 : List Nat}, LL L az c1 G D1 → LL L bs c2 G D2 → LL L (az ++ bs) (c1 ++ c2) G (D1 ++ D2)
  | [], bs, c1, c2, G, D1, D2, h1, h2 => by
    obtain ⟨rfl, rfl⟩ := h1
    simpa using h2
  | a :: az, bs, c1, c2, G, D1, D2, ⟨d1, d2, E1, E2, e1, e2, h1, h3⟩, h2 => by
    subst e1; subst e2
    exact ⟨d1, d2 ++ c2, E1, E2 ++ D2, by simp, by simp, h1, LL.join h3 h2⟩
def Lay.Frz {α : Type} (L : Lay α) (e : α → List PV) : Prop := ∀ (a : α) (cs : List AV) (G : Heap) (D : List Nat) (v : AV) (s : Nat) (pre post : List AV), L a cs G D → D.Nodup → s ∉ D → G s = some (pre ++ (cs ++ post)) →
  ∃ G', Wk v G v G' ∧ G' s = some (pre ++ ((e a).map .p ++ post)) ∧ ∀ y, y ≠ s → y ∉ D → G' y = G y
theorem LPl.frz {α : Type} (e : α → List PV) : (LPl e).Frz e := by
  rintro a cs G D v s pre post ⟨rfl, rfl⟩ _ _ hs
  exact ⟨G, .refl _ _, hs, fun _ _ _ => rfl⟩
theorem LL.frz {α : Type} {L : Lay α} {e : α → List PV} (hl : L.Local) (hf : L.Frz e) : ∀ (az : List α) (cs : List AV) (G : Heap) (D : List Nat) (v : AV) (s : Nat) (pre post : List AV), LL L az cs G D → D.Nodup → s ∉ D → G s = some (pre ++ (cs ++ post)) →
    ∃ G', Wk v G v G' ∧ G' s = some (pre ++ ((az.map e).flatten.map .p ++ post)) ∧ ∀ y, y ≠ s → y ∉ D → G' y = G y
  | [], cs, G, D, v, s, pre, post, h, hD, hs, hG => by
    obtain ⟨rfl, rfl⟩ := h
    exact ⟨G, .refl _ _, by simpa using hG, fun _ _ _ => rfl⟩
  | a :: az, cs, G, D, v, s, pre, post, ⟨c1, c2, D1, D2, e1, e2, h1, h2⟩, hD, hs, hG => by
    subst e1; subst e2
    rw [List.nodup_append] at hD
    rw [List.mem_append, not_or] at hs
    obtain ⟨G1, w1, k1, f1⟩ := hf a c1 G D1 v s pre (c2 ++ post) h1 hD.1 hs.1 (by rw [hG]; simp)
    have h2' : LL L az c2 G1 D2 := LL.local hl h2 fun y hy b hb => by rw [f1 y (fun e => hs.2 (e ▸ hy)) (fun hy1 => hD.2.2 y hy1 y hy rfl)]; exact hb
    obtain ⟨G2, w2, k2, f2⟩ := LL.frz hl hf az c2 G1 D2 v s (pre ++ (e a).map .p) post h2' hD.2.1 hs.2 (by rw [k1]; simp)
    refine ⟨G2, .trans w1 w2, by rw [k2]; simp, fun y hy hyD => ?_⟩
    rw [List.mem_append, not_or] at hyD
    rw [f2 y hy hyD.2, f1 y hy hyD.1]
theorem FrzL.refl' {r sz : Nat} {es : List (List PV)} : ∀ vs, FrzL r sz es vs vs
  | [] => .nil
  | v :: vs => .cons (.same v) (FrzL.refl' vs)
theorem FrzL.at {r sz : Nat} {es : List (List PV)} {x x' : AV} (h : FrzR r sz es x x') (post : List AV) : ∀ pre, FrzL r sz es (pre ++ ([x] ++ post)) (pre ++ ([x'] ++ post))
  | [] => .cons h (FrzL.refl' post)
  | v :: pre => .cons (.same v) (FrzL.at h post pre)
theorem LRow.frzIn {α : Type} {L : Lay α} {e : α → List PV} {sz : Nat} (hpos : 0 < sz) (he : ∀ a, (e a).length = sz) (hl : L.Local) (hf : L.Frz e) {xs : List α} {x : AV} {G : Heap} {D : List Nat} {v : AV} {s : Nat} {pre post : List AV} (h : LRow L sz xs x G D) (hD : D.Nodup) (hs : s ∉ D) (hG : G s = some (pre ++ ([x] ++ post))) :
    ∃ G', Wk v G v G' ∧ G' s = some (pre ++ ([.p (.sl (xs.map e))] ++ post)) ∧ ∀ y, y ≠ s → y ∉ D → G' y = G y := by
  obtain ⟨q, cs, D', rfl, hq, hll, rfl⟩ := h
  rw [List.nodup_cons] at hD
  rw [List.mem_cons, not_or] at hs
  obtain ⟨G1, w1, k1, f1⟩ := LL.frz hl hf xs cs G D' v q [] [] hll hD.2 hD.1 (by simpa using hq)
  have hG1 : G1 s = some (pre ++ ([.sl q sz 0 xs.length] ++ post)) := by rw [f1 s hs.1 hs.2]; exact hG
  have k1' : G1 q = some ((xs.map e).flatten.map .p) := by simpa using k1
  have hr : FrzR q sz (xs.map e) (.sl q sz 0 xs.length) (.p (.sl (xs.map e))) := by
    have : FrzR q sz (xs.map e) (.sl q sz 0 (xs.map e).length) (.p (.sl (xs.map e))) := .here
    rwa [List.length_map] at this
  refine ⟨(G1.del q).set s (pre ++ ([.p (.sl (xs.map e))] ++ post)), .trans w1 (Wk.frzAt hpos k1' (sized_map he xs) hG1 hs.1 (FrzL.at hr post pre) (.same v) (by simp)), Heap.set_same _ _ _, fun y hy hyD => ?_⟩
  rw [List.mem_cons, not_or] at hyD
  rw [Heap.set_other hy, Heap.del_other hyD.1, f1 y hyD.1 hyD.2]
theorem LRow.frzV {α : Type} {L : Lay α} {e : α → List PV} {sz : Nat} (hpos : 0 < sz) (he : ∀ a, (e a).length = sz) (hl : L.Local) (hf : L.Frz e) {xs : List α} {x : AV} {G : Heap} {D : List Nat} {v v' : AV} (h : LRow L sz xs x G D) (hD : D.Nodup)
    (hv : ∀ q, x = .sl q sz 0 xs.length → FrzR q sz (xs.map e) x (.p (.sl (xs.map e))) → FrzR q sz (xs.map e) v v') :
    ∃ G', Wk v G v' G' ∧ ∀ y, y ∉ D → G' y = G y := by
  obtain ⟨q, cs, D', rfl, hq, hll, rfl⟩ := h
  rw [List.nodup_cons] at hD
  obtain ⟨G1, w1, k1, f1⟩ := LL.frz hl hf xs cs G D' v q [] [] hll hD.2 hD.1 (by simpa using hq)
  have k1' : G1 q = some ((xs.map e).flatten.map .p) := by simpa using k1
  have hr : FrzR q sz (xs.map e) (.sl q sz 0 xs.length) (.p (.sl (xs.map e))) := by
    have : FrzR q sz (xs.map e) (.sl q sz 0 (xs.map e).length) (.p (.sl (xs.map e))) := .here
    rwa [List.length_map] at this
  refine ⟨G1.del q, .trans w1 (Wk.frz hpos k1' (sized_map he xs) (hv q rfl hr)), fun y hyD => ?_⟩
  rw [List.mem_cons, not_or] at hyD
  rw [Heap.del_other hyD.1, f1 y hyD.1 hyD.2]
def Lay.Gd {α : Type} (L : Lay α) : Prop := ∀ a cs G D, L a cs G D → (∀ c ∈ cs, GdC c) ∧ ∀ y ∈ D, ∀ bs, G y = some bs → ∀ c ∈ bs, GdC c
def Lay.Sh {α : Type} (L : Lay α) : Prop := ∀ a cs G D n G0, (∀ q, n ≤ q → G0 q = none) → L a cs G D → L a (cs.map (shC n)) (Heap.or G0 (shH n G)) (D.map (· + n))
theorem LPl.gd {α : Type} {e : α → List PV} (h : ∀ a, ∀ x ∈ e a, Plain (.p x)) : Lay.Gd (LPl e) := by
  rintro a cs G D ⟨rfl, rfl⟩
  refine ⟨fun c hc => ?_, fun y hy => by cases hy⟩
  obtain ⟨x, hx, rfl⟩ := List.mem_map.1 hc
  exact .p (h a x hx)
theorem LPl.sh {α : Type} (e : α → List PV) : Lay.Sh (LPl e) := by
  rintro a cs G D n G0 _ ⟨rfl, rfl⟩
  exact ⟨by rw [List.map_map]; rfl, rfl⟩
theorem LL.gd {α : Type} {L : Lay α} (hL : L.Gd) : ∀ {az : List α} {cs : List AV} {G : Heap} {D : List Nat}, LL L az cs G D → (∀ c ∈ cs, GdC c) ∧ ∀ y ∈ D, ∀ bs, G y = some bs → ∀ c ∈ bs, GdC c
  | [], _, _, _, ⟨e1, e2⟩ => by subst e1; subst e2; exact ⟨(fun c hc => by cases hc), (fun y hy => by cases hy)⟩
  | a :: az, _, _, _, ⟨c1, c2, D1, D2, e1, e2, h1, h2⟩ => by
    subst e1; subst e2
    obtain ⟨a1, a2⟩ := hL _ _ _ _ h1
    obtain ⟨b1, b2⟩ := LL.gd hL h2
    refine ⟨fun c hc => ?_, fun y hy => ?_⟩
    · rcases List.mem_append.1 hc with hc | hc
      · exact a1 c hc
      · exact b1 c hc
    · rcases List.mem_append.1 hy with hy | hy
      · exact a2 y hy
      · exact b2 y hy
theorem LL.sh {α : Type} {L : Lay α} (hL : L.Sh) {n : Nat} {G0 : Heap} (h0 : ∀ q, n ≤ q → G0 q = none) : ∀ {az : List α} {cs : List AV} {G : Heap} {D : List Nat}, LL L az cs G D → LL L az (cs.map (shC n)) (Heap.or G0 (shH n G)) (D.map (· + n))
  | [], _, _, _, ⟨e1, e2⟩ => by subst e1; subst e2; exact ⟨rfl, rfl⟩
  | a :: az, _, _, _, ⟨c1, c2, D1, D2, e1, e2, h1, h2⟩ => by
    subst e1; subst e2
    exact ⟨_, _, _, _, List.map_append, List.map_append, hL _ _ _ _ n G0 h0 h1, LL.sh hL h0 h2⟩
theorem or_sh {G0 G : Heap} {n q : Nat} (h0 : ∀ q, n ≤ q → G0 q = none) : (Heap.or G0 (shH n G)) (q + n) = (G q).map (List.map (shC n)) := by
  simp only [Heap.or, shH, h0 (q + n) (by omega), show n ≤ q + n by omega, if_true, Nat.add_sub_cancel]
theorem LRow.gd {α : Type} {L : Lay α} {sz : Nat} (hL : L.Gd) {xs : List α} {x : AV} {G : Heap} {D : List Nat} (h : LRow L sz xs x G D) : GdC x ∧ ∀ y ∈ D, ∀ bs, G y = some bs → ∀ c ∈ bs, GdC c := by
  obtain ⟨q, cs, D', rfl, hq, hll, rfl⟩ := h
  obtain ⟨h1, h2⟩ := LL.gd hL hll
  refine ⟨.inl ⟨_, _, _, _, rfl⟩, fun y hy bs hb => ?_⟩
  rcases List.mem_cons.1 hy with rfl | hy
  · rw [hq] at hb; cases hb; exact h1
  · exact h2 y hy bs hb
theorem LRow.sh {α : Type} {L : Lay α} {sz : Nat} (hL : L.Sh) {n : Nat} {G0 : Heap} (h0 : ∀ q, n ≤ q → G0 q = none) {xs : List α} {x : AV} {G : Heap} {D : List Nat} (h : LRow L sz xs x G D) : LRow L sz xs (shC n x) (Heap.or G0 (shH n G)) (D.map (· + n)) := by
  obtain ⟨q, cs, D', rfl, hq, hll, rfl⟩ := h
  exact ⟨q + n, cs.map (shC n), D'.map (· + n), rfl, by rw [or_sh h0, hq]; rfl, LL.sh hL h0 hll, rfl⟩
def only (D : List Nat) (G : Heap) : Heap := fun y => if y ∈ D then G y else none
end Go.Sep
namespace Go.Proofs.Ytolffbcnbcjeaaa
open Go Go.Sep Go.Pt
attribute [local irreducible] CallT
abbrev LN : List Nd → AV → Heap → List Nat → Prop := LRow (LPl eN) 2
abbrev LI : List Int → AV → Heap → List Nat → Prop := LRow (LPl eI) 1
def LCh : Lay Ch := fun c cs G D => ∃ x, cs = [I c.var, x] ∧ LN c.by_ x G D
def LCm : Lay Cm := fun c cs G D => ∃ x y D1 D2, cs = [x, y] ∧ D = D1 ++ D2 ∧ LN c.when_ x G D1 ∧ LRow LCh 2 c.chs y G D2
theorem LCh.local : Lay.Local LCh := by
  rintro c cs G G' D ⟨x, e, h⟩ hf
  exact ⟨x, e, LRow.local (LPl.local eN) h hf⟩
theorem LCh.size : Lay.Size LCh 2 := by
  rintro c cs G D ⟨x, rfl, h⟩; rfl
theorem LCh.has : Lay.Has LCh := by
  rintro c cs G D ⟨x, e, h⟩
  exact LRow.has (LPl.has eN) h
theorem LCh.frz : Lay.Frz LCh eCh := by
  rintro c cs G D v s pre post ⟨x, rfl, h⟩ hD hs hG
  obtain ⟨G', w, k, f⟩ := LRow.frzIn (e := eN) (sz := 2) (pre := pre ++ [I c.var]) (post := post) (v := v) (by omega) (fun _ => rfl) (LPl.local eN) (LPl.frz eN) h hD hs (by rw [hG]; simp)
  exact ⟨G', w, by rw [k]; simp, f⟩
theorem LCm.local : Lay.Local LCm := by
  rintro c cs G G' D ⟨x, y, D1, D2, e, rfl, h1, h2⟩ hf
  exact ⟨x, y, D1, D2, e, rfl, LRow.local (LPl.local eN) h1 (fun z hz => hf z (List.mem_append_left _ hz)), LRow.local LCh.local h2 (fun z hz => hf z (List.mem_append_right _ hz))⟩
theorem LCm.size : Lay.Size LCm 2 := by
  rintro c cs G D ⟨x, y, D1, D2, rfl, e, h1, h2⟩; rfl
theorem LCm.has : Lay.Has LCm := by
  rintro c cs G D ⟨x, y, D1, D2, e, rfl, h1, h2⟩ z hz
  rcases List.mem_append.1 hz with hz | hz
  · exact LRow.has (LPl.has eN) h1 z hz
  · exact LRow.has LCh.has h2 z hz
theorem LCm.frz : Lay.Frz LCm eCm := by
  rintro c cs G D v s pre post ⟨x, y, D1, D2, rfl, rfl, h1, h2⟩ hD hs hG
  rw [List.nodup_append] at hD
  rw [List.mem_append, not_or] at hs
  obtain ⟨G1, w1, k1, f1⟩ := LRow.frzIn (e := eN) (sz := 2) (pre := pre) (post := y :: post) (v := v) (by omega) (fun _ => rfl) (LPl.local eN) (LPl.frz eN) h1 hD.1 hs.1 (by rw [hG]; simp)
  have h2' : LRow LCh 2 c.chs y G1 D2 := LRow.local LCh.local h2 fun z hz b hb => by rw [f1 z (fun e => hs.2 (e ▸ hz)) (fun hz1 => hD.2.2 z hz1 z hz rfl)]; exact hb
  obtain ⟨G2, w2, k2, f2⟩ := LRow.frzIn (e := eCh) (sz := 2) (pre := pre ++ [Ns c.when_]) (post := post) (v := v) (by omega) (fun _ => rfl) LCh.local LCh.frz h2' hD.2.1 hs.2 (by rw [k1]; simp)
  refine ⟨G2, .trans w1 w2, by rw [k2]; simp, fun z hz hzD => ?_⟩
  rw [List.mem_append, not_or] at hzD
  rw [f2 z hz hzD.2, f1 z hz hzD.1]
structure New (H G : Heap) (D : List Nat) : Prop where
  nd : D.Nodup
  fr : ∀ y ∈ D, H y = none
  le : Heap.le H G
theorem New.trans {H G G' : Heap} {D D' : List Nat} (n : New H G D) (m : New G G' D') (hh : ∀ y ∈ D, G y ≠ none) : New H G' (D ++ D') := by
  refine ⟨List.nodup_append.2 ⟨n.nd, m.nd, fun a ha b hb e => hh a ha (by rw [e]; exact m.fr b hb)⟩, fun y hy => ?_, Heap.le_trans n.le m.le⟩
  rcases List.mem_append.1 hy with hy | hy
  · exact n.fr y hy
  · cases hh : H y with
    | none => rfl
    | some b => rw [← m.fr y hy, n.le y b hh]
theorem New.base {H H' G : Heap} {D : List Nat} (n : New H' G D) (hle : Heap.le H H') : New H G D :=
  ⟨n.nd, fun y hy => by
    cases hh : H y with
    | none => rfl
    | some b => rw [← n.fr y hy, hle y b hh], Heap.le_trans hle n.le⟩
theorem New.put {H G : Heap} {D : List Nat} (n : New H G D) {q : Nat} (hq : H q = none) (b : List AV) : New H (G.set q b) D := ⟨n.nd, n.fr, Heap.le_setN n.le hq⟩
theorem toIntS_live (xs : List Int) (hl : xs.length ≤ 1048576) {H : Heap} {K : AV → Heap → Prop} (h : ∀ x G D, LI xs x G D → New H G D → K x G) : CallT Try.prog 26 [Is xs] H K := by
  refine W26_ok ?_; simp (maxSteps := 1000000) (disch := first | assumption | (apply ν6; assumption)) only [W26, vz, vu, vv, eqS, eF_, ↓c1_, ↓c2_, tabs, reduceCtorEq, ι5, ↓reduceIte, ν1, ν2, ν3, ν4, ν5, ι1, ι2, ι3, ι4, makeSliceV]
  refine ⟨by omega, by omega, by omega, by omega, fun q hq => ?_⟩
  have z0 : rowZ eI [I 0] xs 0 = zerosA xs.length [I 0] := rowZ_zero
  rw [← z0]
  refine L26_0_rule (0 : Nat) (fun i => I i) (fun i => H.set q (rowZ eI [I 0] xs i)) (fun i => i ≤ xs.length) (fun i => xs.length - i) ⟨by omega, .refl _, Heap.le_refl _⟩ ?_
  intro i hi
  have hrl := rowZ_len (e := eI) (zero := [I 0]) (xs := xs) (i := i) (sz := 1) (fun _ => rfl) rfl hi
  (try simp (maxSteps := 1000000) (disch := first | assumption | (apply ν6; assumption)) only [vz, vu, vv, eqS, eF_, ↓c1_, ↓c2_, tabs, reduceCtorEq, ι5, ↓reduceIte, ν1, ν2, ν3, ν4, ν5, ι1, ι2, ι3, ι4, B26_0])
  refine ⟨fun h => ⟨by omega, h, ?_⟩, fun h5 => ?_⟩
  · have hlt : i < xs.length := by omega
    have hput := rowZ_put (e := eI) (zero := [I 0]) (xs := xs) (i := i) (sz := 1) (fun _ => rfl) rfl hlt rfl rfl
    (try simp (maxSteps := 1000000) (disch := first | assumption | (apply ν6; assumption)) only [vz, vu, vv, eqS, eF_, ↓c1_, ↓c2_, tabs, reduceCtorEq, ι5, ↓reduceIte, ν1, ν2, ν3, ν4, ν5, ι1, ι2, ι3, ι4])
    refine ⟨by omega, h, by omega, i + 1, by omega, by omega, ?_, ?_⟩
    · rw [wk_int, i64_id (by omega) (by omega)]; simp
    · rw [← hput]; exact Heap.le_refl _
  · have : i = xs.length := by omega
    subst this
    refine h _ _ [q] ⟨q, _, [], rfl, Heap.set_same _ _ _, ?_, rfl⟩ ⟨by simp, by simpa using hq, Heap.le_set hq⟩
    rw [rowZ_end]; exact LL.plain xs
theorem LRow.sl {α : Type} {L : Lay α} {sz : Nat} {xs : List α} {x : AV} {G : Heap} {D : List Nat} (h : LRow L sz xs x G D) : ∃ q, x = .sl q sz 0 xs.length := by
  obtain ⟨q, cs, D', e1, e2, e3, e4⟩ := h; exact ⟨q, e1⟩
theorem ne_mem {D : List Nat} {y z : Nat} (hy : y ∈ D) (hz : z ∉ D) : y ≠ z := fun e => hz (e ▸ hy)
theorem ne_of_new {H G : Heap} {D : List Nat} (n : New H G D) {y : Nat} {b : List AV} (h : H y = some b) : y ∉ D := fun hy => by rw [n.fr y hy] at h; cases h
end Go.Proofs.Ytolffbcnbcjeaaa
namespace Go.Sep
open Go Go.RowKit Go.Proofs.Ytolffbcnbcjeaaa
structure Th where
  D : List Nat
  P : Heap → Prop
  loc : ∀ {G G' : Heap}, P G → (∀ y ∈ D, ∀ b, G y = some b → G' y = some b) → P G'
  has : ∀ {G : Heap}, P G → ∀ y ∈ D, G y ≠ none
def cellT (r : Nat) (b : List AV) : Th := ⟨[r], fun G => G r = some b, fun h f => f r (List.mem_singleton.2 rfl) b h, fun h y hy => by rw [List.mem_singleton.1 hy, h]; simp⟩
structure St (H : Heap) (Ts : List Th) (G : Heap) : Prop where
  le : Heap.le H G
  nd : (Ts.flatMap Th.D).Nodup
  fr : ∀ t ∈ Ts, ∀ y ∈ t.D, H y = none
  ok : ∀ t ∈ Ts, t.P G
theorem St.nil (H : Heap) : St H [] H := ⟨Heap.le_refl _, List.nodup_nil, fun t ht => (by cases ht), fun t ht => (by cases ht)⟩
theorem St.get {H G : Heap} {Ts : List Th} {t : Th} (s : St H Ts G) (i : Nat) (h : Ts[i]? = some t) : t.P G := s.ok t (List.mem_of_getElem? h)
theorem St.ndT {H G : Heap} {Ts : List Th} {t : Th} (s : St H Ts G) (i : Nat) (h : Ts[i]? = some t) : t.D.Nodup := by
  obtain ⟨pre, post, e⟩ := List.append_of_mem (List.mem_of_getElem? h)
  have := s.nd
  rw [e, List.flatMap_append, List.flatMap_cons, List.nodup_append, List.nodup_append] at this
  exact this.2.1.1
theorem St.push {H G G' : Heap} {Ts : List Th} (s : St H Ts G) (t : Th) (hn : New G G' t.D) (hp : t.P G') : St H (t :: Ts) G' := by
  refine ⟨Heap.le_trans s.le hn.le, ?_, ?_, ?_⟩
  · rw [List.flatMap_cons, List.nodup_append]
    refine ⟨hn.nd, s.nd, fun a ha b hb e => ?_⟩
    obtain ⟨u, hu, hbu⟩ := List.mem_flatMap.1 hb
    exact u.has (s.ok u hu) b hbu (by rw [← e]; exact hn.fr a ha)
  · intro u hu y hy
    rcases List.mem_cons.1 hu with rfl | hu
    · cases hh : H y with
      | none => rfl
      | some b => rw [← hn.fr y hy, s.le y b hh]
    · exact s.fr u hu y hy
  · intro u hu
    rcases List.mem_cons.1 hu with rfl | hu
    · exact hp
    · exact u.loc (s.ok u hu) fun y _ b hb => hn.le y b hb
theorem New.cell {G : Heap} {r : Nat} {b : List AV} (hr : G r = none) : New G (G.set r b) [r] := ⟨by simp, by simpa using hr, Heap.le_set hr⟩
theorem St.cell {H G : Heap} {Ts : List Th} (s : St H Ts G) {r : Nat} (hr : G r = none) (b : List AV) : St H (cellT r b :: Ts) (G.set r b) := s.push (cellT r b) (New.cell hr) (Heap.set_same _ _ _)
theorem St.upd {H G G' : Heap} {Ts : List Th} {t : Th} (s : St H Ts G) (i : Nat) (h : Ts[i]? = some t) (t' : Th) (hD : t'.D = t.D) (hf : ∀ y, y ∉ t.D → G' y = G y) (hp : t'.P G') : St H (Ts.set i t') G' := by
  obtain ⟨hi, hti⟩ := List.getElem?_eq_some_iff.1 h
  have e : Ts = Ts.take i ++ t :: Ts.drop (i + 1) := by rw [← hti, List.getElem_cons_drop, List.take_append_drop]
  have e' : Ts.set i t' = Ts.take i ++ t' :: Ts.drop (i + 1) := by rw [List.set_eq_take_append_cons_drop, if_pos hi]
  generalize Ts.take i = pre at e e'
  generalize Ts.drop (i + 1) = post at e e'
  rw [e']
  subst e
  have hnd := s.nd
  rw [List.flatMap_append, List.flatMap_cons] at hnd
  have hdis : ∀ u ∈ pre ++ post, ∀ y ∈ u.D, y ∉ t.D := by
    intro u hu y hy hyt
    rw [List.nodup_append, List.nodup_append] at hnd
    rcases List.mem_append.1 hu with hu | hu
    · exact hnd.2.2 y (List.mem_flatMap.2 ⟨u, hu, hy⟩) y (List.mem_append_left _ hyt) rfl
    · exact hnd.2.1.2.2 y hyt y (List.mem_flatMap.2 ⟨u, hu, hy⟩) rfl
  refine ⟨fun y b hb => ?_, by rw [List.flatMap_append, List.flatMap_cons, hD]; exact hnd, fun u hu y hy => ?_, fun u hu => ?_⟩
  · rw [hf y (fun hy => by have := s.fr t (by simp) y hy; rw [this] at hb; cases hb)]; exact s.le y b hb
  · rcases List.mem_append.1 hu with hu | hu
    · exact s.fr u (List.mem_append_left _ hu) y hy
    · rcases List.mem_cons.1 hu with rfl | hu
      · exact s.fr t (by simp) y (hD ▸ hy)
      · exact s.fr u (by simp [hu]) y hy
  · have old : ∀ u ∈ pre ++ post, u.P G' := fun u hu => u.loc (s.ok u (by
      rcases List.mem_append.1 hu with hu | hu
      · exact List.mem_append_left _ hu
      · exact List.mem_append_right _ (List.mem_cons_of_mem _ hu))) fun y hy b hb => by rw [hf y (hdis u hu y hy)]; exact hb
    rcases List.mem_append.1 hu with hu | hu
    · exact old u (List.mem_append_left _ hu)
    · rcases List.mem_cons.1 hu with rfl | hu
      · exact hp
      · exact old u (List.mem_append_right _ hu)
theorem St.drop {H G : Heap} {t : Th} {Ts : List Th} (s : St H (t :: Ts) G) : St H Ts G := ⟨s.le, (by have := s.nd; rw [List.flatMap_cons, List.nodup_append] at this; exact this.2.1), fun u hu => s.fr u (List.mem_cons_of_mem _ hu), fun u hu => s.ok u (List.mem_cons_of_mem _ hu)⟩
theorem St.perm {H G : Heap} {Ts Us : List Th} (s : St H Ts G) (h : List.Perm Ts Us) : St H Us G :=
  ⟨s.le, (h.flatMap_right _).nodup s.nd, fun t ht => s.fr t (h.mem_iff.2 ht), fun t ht => s.ok t (h.mem_iff.2 ht)⟩
theorem St.disj {H G : Heap} {t u : Th} {Ts : List Th} (s : St H (t :: u :: Ts) G) : ∀ y ∈ t.D, y ∉ u.D := by
  have := s.nd
  rw [List.flatMap_cons, List.flatMap_cons, List.nodup_append] at this
  exact fun y hy hu => this.2.2 y hy y (List.mem_append_left _ hu) rfl
theorem Th.dis : ∀ {Ts : List Th} {t u : Th} {i j : Nat}, (Ts.flatMap Th.D).Nodup → Ts[i]? = some t → Ts[j]? = some u → i < j → ∀ y ∈ t.D, y ∉ u.D
  | [], _, _, _, _, _, hi, _, _ => by simp at hi
  | a :: Ts, t, u, 0, j + 1, nd, hi, hj, _ => by
    rw [List.flatMap_cons, List.nodup_append] at nd
    simp only [List.getElem?_cons_zero, Option.some.injEq] at hi
    subst hi
    exact fun y hy hu => nd.2.2 y hy y (List.mem_flatMap.2 ⟨u, List.mem_of_getElem? (by simpa using hj), hu⟩) rfl
  | a :: Ts, t, u, i + 1, j + 1, nd, hi, hj, h => by
    rw [List.flatMap_cons, List.nodup_append] at nd
    exact Th.dis nd.2.1 (by simpa using hi) (by simpa using hj) (by omega)
theorem St.disjI {H G : Heap} {t u : Th} {Ts : List Th} (s : St H Ts G) (i j : Nat) (hi : Ts[i]? = some t) (hj : Ts[j]? = some u) (hij : i ≠ j) : ∀ y ∈ t.D, y ∉ u.D := by
  rcases Nat.lt_or_gt_of_ne hij with h | h
  · exact Th.dis s.nd hi hj h
  · exact fun y hy hu => Th.dis s.nd hj hi h y hu hy
theorem St.fresh {H G : Heap} {Ts : List Th} {t : Th} (s : St H Ts G) (i : Nat) (h : Ts[i]? = some t) {q : Nat} (hq : G q = none) : q ∉ t.D := fun hm => t.has (s.get i h) q hm hq
theorem perm_pick {α : Type} : ∀ (Ts : List α) (i : Nat) (hi : i < Ts.length), List.Perm Ts (Ts[i] :: Ts.eraseIdx i)
  | a :: Ts, 0, _ => List.Perm.refl _
  | a :: Ts, i + 1, hi => ((perm_pick Ts i (by simpa using hi)).cons a).trans (List.Perm.swap _ _ _)
theorem perm_set {α : Type} : ∀ (Ts : List α) (i : Nat) (hi : i < Ts.length) (t : α), List.Perm (Ts.set i t) (t :: Ts.eraseIdx i)
  | a :: Ts, 0, _, _ => List.Perm.refl _
  | a :: Ts, i + 1, hi, t => ((perm_set Ts i (by simpa using hi) t).cons a).trans (List.Perm.swap _ _ _)
theorem sub_flat {α β : Type} {f : α → List β} {l m : List α} (h : List.Sublist l m) : List.Sublist (l.flatMap f) (m.flatMap f) := by
  induction h with
  | slnil => exact List.Sublist.refl _
  | cons a _ ih => rw [List.flatMap_cons]; exact ih.trans (List.sublist_append_right _ _)
  | cons_cons a _ ih => rw [List.flatMap_cons, List.flatMap_cons]; exact List.Sublist.append_left ih _
theorem St.pick {H G : Heap} {Ts : List Th} {t : Th} (s : St H Ts G) (i : Nat) (h : Ts[i]? = some t) : St H (t :: Ts.eraseIdx i) G := by
  obtain ⟨hi, rfl⟩ := List.getElem?_eq_some_iff.1 h
  exact s.perm (perm_pick Ts i hi)
theorem St.step {H G G' : Heap} {old rest : List Th} (s : St H (old ++ rest) G) (new : List Th) (hnd : (new.flatMap Th.D).Nodup) (hfr : ∀ t ∈ new, ∀ y ∈ t.D, (∃ u ∈ old, y ∈ u.D) ∨ G y = none)
    (hf : ∀ y b, G y = some b → (∀ u ∈ old, y ∉ u.D) → G' y = some b) (hp : ∀ t ∈ new, t.P G') : St H (new ++ rest) G' := by
  have hs := s.nd
  rw [List.flatMap_append, List.nodup_append] at hs
  have hdis : ∀ u ∈ rest, ∀ y ∈ u.D, ∀ t ∈ old, y ∉ t.D := fun u hu y hy t ht hyt => hs.2.2 y (List.mem_flatMap.2 ⟨t, ht, hyt⟩) y (List.mem_flatMap.2 ⟨u, hu, hy⟩) rfl
  refine ⟨fun y b hb => ?_, ?_, fun u hu y hy => ?_, fun u hu => ?_⟩
  · refine hf y b (s.le y b hb) fun u hu hy => ?_
    rw [s.fr u (List.mem_append_left _ hu) y hy] at hb; cases hb
  · rw [List.flatMap_append, List.nodup_append]
    refine ⟨hnd, hs.2.1, fun a ha b hb e => ?_⟩
    subst e
    obtain ⟨t, ht, hat⟩ := List.mem_flatMap.1 ha
    obtain ⟨u, hu, hau⟩ := List.mem_flatMap.1 hb
    rcases hfr t ht a hat with ⟨v, hv, hav⟩ | hn
    · exact hdis u hu a hau v hv hav
    · exact u.has (s.ok u (List.mem_append_right _ hu)) a hau hn
  · rcases List.mem_append.1 hu with hu | hu
    · rcases hfr u hu y hy with ⟨v, hv, hav⟩ | hn
      · exact s.fr v (List.mem_append_left _ hv) y hav
      · cases hh : H y with
        | none => rfl
        | some b => rw [← hn, s.le y b hh]
    · exact s.fr u (List.mem_append_right _ hu) y hy
  · rcases List.mem_append.1 hu with hu | hu
    · exact hp u hu
    · exact u.loc (s.ok u (List.mem_append_right _ hu)) fun y hy b hb => hf y b hb (hdis u hu y hy)
theorem St.repl {H G G' : Heap} {Ts : List Th} {t : Th} (s : St H Ts G) (i : Nat) (h : Ts[i]? = some t) (t' : Th) (hnd : t'.D.Nodup) (hfr : ∀ y ∈ t'.D, y ∈ t.D ∨ G y = none)
    (hf : ∀ y b, G y = some b → y ∉ t.D → G' y = some b) (hp : t'.P G') : St H (Ts.set i t') G' := by
  obtain ⟨hi, -⟩ := List.getElem?_eq_some_iff.1 h
  have := St.step (old := [t]) (s.pick i h) [t'] (by simpa using hnd) (fun u hu y hy => by
    rw [List.mem_singleton] at hu; subst hu
    rcases hfr y hy with h1 | h1
    · exact .inl ⟨t, by simp, h1⟩
    · exact .inr h1) (fun y b hb hy => hf y b hb (hy t (by simp))) (fun u hu => by rw [List.mem_singleton] at hu; subst hu; exact hp)
  exact this.perm (perm_set Ts i hi t').symm
theorem St.moved {H G : Heap} {Ts : List Th} {q q' : Nat} {b c : List AV} (s : St H Ts G) (i : Nat) (h : Ts[i]? = some (cellT q b)) (hq : G q' = none) : St H (Ts.set i (cellT q' c)) ((G.del q).set q' c) := by
  have hg : G q = some b := s.get i h
  refine s.repl i h (cellT q' c) (by simp [cellT]) (fun y hy => ?_) (fun y bb hb hy => ?_) (Heap.set_same _ _ _)
  · simp only [cellT, List.mem_singleton] at hy; subst hy; exact .inr hq
  · simp only [cellT, List.mem_singleton] at hy
    rw [Heap.set_other (fun e => by rw [e, hq] at hb; cases hb), Heap.del_other hy]; exact hb
theorem St.put {H G : Heap} {Ts : List Th} {q : Nat} {b : List AV} (s : St H Ts G) (i : Nat) (h : Ts[i]? = some (cellT q b)) (c : List AV) : St H (Ts.set i (cellT q c)) (G.set q c) := by
  refine s.repl i h (cellT q c) (by simp [cellT]) (fun y hy => .inl hy) (fun y bb hb hy => ?_) (Heap.set_same _ _ _)
  simp only [cellT, List.mem_singleton] at hy
  rw [Heap.set_other hy]; exact hb
theorem St.sub {H G : Heap} {Ts Us : List Th} (s : St H Ts G) (h : List.Sublist Us Ts) : St H Us G :=
  ⟨s.le, List.Nodup.sublist (sub_flat h) s.nd, fun t ht => s.fr t (h.subset ht), fun t ht => s.ok t (h.subset ht)⟩
theorem St.erase {H G : Heap} {Ts : List Th} (s : St H Ts G) (i : Nat) : St H (Ts.eraseIdx i) G := s.sub (List.eraseIdx_sublist Ts i)
theorem St.new {H G : Heap} {Ts : List Th} (s : St H Ts G) : New H G (Ts.flatMap Th.D) := ⟨s.nd, fun y hy => by
  obtain ⟨t, ht, hyt⟩ := List.mem_flatMap.1 hy
  exact s.fr t ht y hyt, s.le⟩
theorem St.wkNone {H G : Heap} {Ts : List Th} (s : St H Ts G) : ∀ y b, H y = some b → ∀ t ∈ Ts, y ∉ t.D := fun y b hb t ht hy => by rw [s.fr t ht y hy] at hb; cases hb
end Go.Sep
namespace Go.Proofs.Ytolffbcnbcjeaaa
open Go Go.Sep Go.Pt
attribute [local irreducible] CallT
def LPg (p : Pg) (v : AV) (G : Heap) (D : List Nat) : Prop := ∃ x y D1 D2, v = .agg [I p.wide, I p.vars, x, y] ∧ D = D1 ++ D2 ∧ LN p.start x G D1 ∧ LRow LCm 2 p.cmds y G D2
theorem LPg.local {p : Pg} {v : AV} {G G' : Heap} {D : List Nat} (h : LPg p v G D) (hf : ∀ y ∈ D, ∀ b, G y = some b → G' y = some b) : LPg p v G' D := by
  obtain ⟨x, y, D1, D2, e, rfl, h1, h2⟩ := h
  exact ⟨x, y, D1, D2, e, rfl, LRow.local (LPl.local eN) h1 (fun z hz => hf z (List.mem_append_left _ hz)), LRow.local LCm.local h2 (fun z hz => hf z (List.mem_append_right _ hz))⟩
theorem LPg.has {p : Pg} {v : AV} {G : Heap} {D : List Nat} (h : LPg p v G D) : ∀ y ∈ D, G y ≠ none := by
  obtain ⟨x, y, D1, D2, e, rfl, h1, h2⟩ := h
  intro z hz
  rcases List.mem_append.1 hz with hz | hz
  · exact LRow.has (LPl.has eN) h1 z hz
  · exact LRow.has LCm.has h2 z hz
theorem LPg.wk {p : Pg} {v : AV} {G : Heap} {D : List Nat} (h : LPg p v G D) (hD : D.Nodup) (C : AV → AV) (hC : ∀ {q sz es a a'}, FrzR q sz es a a' → FrzR q sz es (C a) (C a')) : ∃ G', Wk (C v) G (C (aPg p)) G' ∧ ∀ y, y ∉ D → G' y = G y := by
  obtain ⟨x, y, D1, D2, rfl, rfl, h1, h2⟩ := h
  rw [List.nodup_append] at hD
  obtain ⟨G1, w1, f1⟩ := LRow.frzV (e := eN) (sz := 2) (v := C (.agg [I p.wide, I p.vars, x, y])) (v' := C (.agg [I p.wide, I p.vars, Ns p.start, y])) (by omega) (fun _ => rfl) (LPl.local eN) (LPl.frz eN) h1 hD.1
    (fun q _ hr => hC (.agg (.cons (.same _) (.cons (.same _) (.cons hr (.cons (.same _) .nil))))))
  have h2' := LRow.local LCm.local h2 (G' := G1) fun z hz b hb => by rw [f1 z (fun hz1 => hD.2.2 z hz1 z hz rfl)]; exact hb
  obtain ⟨G2, w2, f2⟩ := LRow.frzV (e := eCm) (sz := 2) (v := C (.agg [I p.wide, I p.vars, Ns p.start, y])) (v' := C (aPg p)) (by omega) (fun _ => rfl) LCm.local LCm.frz h2' hD.2.1
    (fun q _ hr => hC (.agg (.cons (.same _) (.cons (.same _) (.cons (.same _) (.cons hr .nil))))))
  refine ⟨G2, .trans w1 w2, fun z hz => ?_⟩
  rw [List.mem_append, not_or] at hz
  rw [f2 z hz.2, f1 z hz.1]
def LSt (of : List Int) (v : AV) (G : Heap) (D : List Nat) : Prop := ∃ x, v = .agg [x] ∧ LI of x G D
theorem LI_row {xs : List Int} {x : AV} {G : Heap} {D : List Nat} (h : LI xs x G D) : ∃ q, x = rowP q xs ∧ G q = some (cells (xs.map eI)) ∧ D = [q] := by
  obtain ⟨q, cs, D', e1, e2, e3, e4⟩ := h
  have key : ∀ (xs : List Int) cs D', LL (LPl eI) xs cs G D' → cs = cells (xs.map eI) ∧ D' = [] := by
    intro xs
    induction xs with
    | nil => intro cs D' h; exact h
    | cons a bs ih =>
      rintro cs D' ⟨c1, c2, D1, D2, rfl, rfl, ⟨rfl, rfl⟩, h2⟩
      obtain ⟨rfl, rfl⟩ := ih _ _ h2
      exact ⟨by simp [cells], rfl⟩
  obtain ⟨rfl, rfl⟩ := key _ _ _ e3
  exact ⟨q, e1, e2, e4⟩
theorem LI_mk {xs : List Int} {q : Nat} {G : Heap} (h : G q = some (cells (xs.map eI))) : LI xs (rowP q xs) G [q] := ⟨q, _, [], rfl, h, LL.plain xs, rfl⟩
theorem LSt.local {of : List Int} {v : AV} {G G' : Heap} {D : List Nat} (h : LSt of v G D) (hf : ∀ y ∈ D, ∀ b, G y = some b → G' y = some b) : LSt of v G' D := by
  obtain ⟨x, e, h⟩ := h; exact ⟨x, e, LRow.local (LPl.local eI) h hf⟩
theorem LSt.has {of : List Int} {v : AV} {G : Heap} {D : List Nat} (h : LSt of v G D) : ∀ y ∈ D, G y ≠ none := by
  obtain ⟨x, e, h⟩ := h; exact LRow.has (LPl.has eI) h
theorem LSt.wk {of : List Int} {v : AV} {G : Heap} {D : List Nat} (h : LSt of v G D) (hD : D.Nodup) (C : AV → AV) (hC : ∀ {q sz es a a'}, FrzR q sz es a a' → FrzR q sz es (C a) (C a')) : ∃ G', Wk (C v) G (C (aS of)) G' ∧ ∀ y, y ∉ D → G' y = G y := by
  obtain ⟨x, rfl, h⟩ := h
  exact LRow.frzV (e := eI) (sz := 1) (v := C (.agg [x])) (v' := C (aS of)) (by omega) (fun _ => rfl) (LPl.local eI) (LPl.frz eI) h hD (fun q _ hr => hC (.agg (.cons hr .nil)))
def marked (k : Int) (n : Nat) : List Int := (List.range n).map fun (j : Nat) => k + (j : Int)
theorem marked_len (k : Int) (n : Nat) : (marked k n).length = n := by simp [marked]
theorem heldIntS_spec (n : Nat) (hl : n ≤ 1048576) {k : Int} (h0 : 0 ≤ k) (h1 : k ≤ 1000000000) : Pu Try.prog 52 [Is (marked k n), I k] (I (k + n)) := by
  refine Pu.of fun H => ?_
  have hml := marked_len k n
  refine W52_ok ?_; simp (maxSteps := 1000000) (disch := first | assumption | (apply ν6; assumption)) only [W52, vz, vu, vv, eqS, eF_, ↓c1_, ↓c2_, tabs, reduceCtorEq, ι5, ↓reduceIte, ν1, ν2, ν3, ν4, ν5, ι1, ι2, ι3, ι4]
  refine L52_0_rule (0 : Nat) (fun i => I (k + i)) (fun i => I i) (fun _ => H) (fun i => i ≤ n) (fun i => n - i) ⟨by omega, ?_, .refl _, Heap.le_refl _⟩ ?_
  · rw [wk_int]; simp
  intro i hi
  (try simp (maxSteps := 1000000) (disch := first | assumption | (apply ν6; assumption)) only [vz, vu, vv, eqS, eF_, ↓c1_, ↓c2_, tabs, reduceCtorEq, ι5, ↓reduceIte, ν1, ν2, ν3, ν4, ν5, ι1, ι2, ι3, ι4, B52_0, hml])
  refine ⟨fun h5 => ?_, fun h5 => ?_⟩
  · have hlt : i < n := by omega
    have e : (marked k n).getD i default = k + i := by simp [marked, List.getD, hlt]
    rw [e]
    refine ⟨by omega, h5, fun h6 => absurd rfl h6, fun _ => ⟨i + 1, by omega, by omega, ?_, ?_⟩⟩
    · rw [wk_int, i64_id (by omega) (by omega)]; omega
    · rw [wk_int, i64_id (by omega) (by omega)]; simp
  · have : i = n := by omega
    subst this; rfl
end Go.Proofs.Ytolffbcnbcjeaaa
namespace Go.Proofs.Ytolffbcnbcjeaaa
open Go Go.Sep Go.Pt
attribute [local irreducible] CallT
theorem drop_cons {α : Type} [Inhabited α] {xs : List α} {i : Nat} (h : i < xs.length) : xs.drop i = xs.getD i default :: xs.drop (i + 1) := by
  rw [List.drop_eq_getElem_cons h]; simp [List.getD, h]
structure Half {α : Type} (L : Lay α) (G0 : Heap) (q : Nat) (D : List Nat) (xs : List α) (i : Nat) (G : Heap) (done : List α) : Prop where
  ex : ∃ cd cr Dd Dr, G q = some (cd ++ cr) ∧ LL L done cd G Dd ∧ LL L (xs.drop i) cr G Dr ∧ D = Dd ++ Dr
  len : done.length = i
  fr : ∀ y, y ∉ q :: D → G y = G0 y
end Go.Proofs.Ytolffbcnbcjeaaa
namespace Go.Proofs.Ytolffbcnbcjeaaa
open Go Go.Sep Go.Pt
attribute [local irreducible] CallT
abbrev LE : List Ed → AV → Heap → List Nat → Prop := LRow (LPl eE) 3
def LIc : Lay (List Int) := fun l cs G D => ∃ x, cs = [x] ∧ LI l x G D
abbrev LII : List (List Int) → AV → Heap → List Nat → Prop := LRow LIc 1
theorem LIc.local : Lay.Local LIc := by
  rintro c cs G G' D ⟨x, e, h⟩ hf
  exact ⟨x, e, LRow.local (LPl.local eI) h hf⟩
theorem LIc.size : Lay.Size LIc 1 := by
  rintro c cs G D ⟨x, rfl, h⟩; rfl
theorem LIc.has : Lay.Has LIc := by
  rintro c cs G D ⟨x, e, h⟩
  exact LRow.has (LPl.has eI) h
theorem LIc.frz : Lay.Frz LIc eL := by
  rintro c cs G D v s pre post ⟨x, rfl, h⟩ hD hs hG
  obtain ⟨G', w, k, f⟩ := LRow.frzIn (e := eI) (sz := 1) (pre := pre) (post := post) (v := v) (by omega) (fun _ => rfl) (LPl.local eI) (LPl.frz eI) h hD hs (by rw [hG])
  exact ⟨G', w, by rw [k]; rfl, f⟩
def LAu (a : Au) (v : AV) (G : Heap) (D : List Nat) : Prop := ∃ x y z D1 D2 D3, v = .agg [I a.states, x, y, z] ∧ D = D1 ++ (D2 ++ D3) ∧ LI a.first x G D1 ∧ LE a.edges y G D2 ∧ LII a.goals z G D3
theorem LAu.local {a : Au} {v : AV} {G G' : Heap} {D : List Nat} (h : LAu a v G D) (hf : ∀ y ∈ D, ∀ b, G y = some b → G' y = some b) : LAu a v G' D := by
  obtain ⟨x, y, z, D1, D2, D3, e, rfl, h1, h2, h3⟩ := h
  exact ⟨x, y, z, D1, D2, D3, e, rfl, LRow.local (LPl.local eI) h1 (fun u hu => hf u (by simp [hu])), LRow.local (LPl.local eE) h2 (fun u hu => hf u (by simp [hu])), LRow.local LIc.local h3 (fun u hu => hf u (by simp [hu]))⟩
theorem LAu.has {a : Au} {v : AV} {G : Heap} {D : List Nat} (h : LAu a v G D) : ∀ y ∈ D, G y ≠ none := by
  obtain ⟨x, y, z, D1, D2, D3, e, rfl, h1, h2, h3⟩ := h
  intro u hu
  simp only [List.mem_append] at hu
  rcases hu with hu | hu | hu
  · exact LRow.has (LPl.has eI) h1 u hu
  · exact LRow.has (LPl.has eE) h2 u hu
  · exact LRow.has LIc.has h3 u hu
theorem nd3' {A B C : List Nat} (h : (A ++ (B ++ C)).Nodup) : A.Nodup ∧ B.Nodup ∧ C.Nodup ∧ (∀ y ∈ A, y ∉ B) ∧ (∀ y ∈ A, y ∉ C) ∧ (∀ y ∈ B, y ∉ C) := by
  rw [List.nodup_append, List.nodup_append] at h
  obtain ⟨h1, ⟨h2, h3, h4⟩, h5⟩ := h
  exact ⟨h1, h2, h3, fun y hy hb => h5 y hy y (List.mem_append_left _ hb) rfl, fun y hy hb => h5 y hy y (List.mem_append_right _ hb) rfl, fun y hy hb => h4 y hy y hb rfl⟩
theorem LAu.wk {a : Au} {v : AV} {G : Heap} {D : List Nat} (h : LAu a v G D) (hD : D.Nodup) (C : AV → AV) (hC : ∀ {q sz es a a'}, FrzR q sz es a a' → FrzR q sz es (C a) (C a')) : ∃ G', Wk (C v) G (C (aAu a)) G' ∧ ∀ y, y ∉ D → G' y = G y := by
  obtain ⟨x, y, z, D1, D2, D3, rfl, rfl, h1, h2, h3⟩ := h
  obtain ⟨n1, n2, n3, d12, d13, d23⟩ := nd3' hD
  obtain ⟨G1, w1, f1⟩ := LRow.frzV (e := eI) (sz := 1) (v := C (.agg [I a.states, x, y, z])) (v' := C (.agg [I a.states, Is a.first, y, z])) (by omega) (fun _ => rfl) (LPl.local eI) (LPl.frz eI) h1 n1
    (fun q _ hr => hC (.agg (.cons (.same _) (.cons hr (.cons (.same _) (.cons (.same _) .nil))))))
  have h2' := LRow.local (LPl.local eE) h2 (G' := G1) fun u hu b hb => by rw [f1 u (fun h => d12 u h hu)]; exact hb
  obtain ⟨G2, w2, f2⟩ := LRow.frzV (e := eE) (sz := 3) (v := C (.agg [I a.states, Is a.first, y, z])) (v' := C (.agg [I a.states, Is a.first, Es a.edges, z])) (by omega) (fun _ => rfl) (LPl.local eE) (LPl.frz eE) h2' n2
    (fun q _ hr => hC (.agg (.cons (.same _) (.cons (.same _) (.cons hr (.cons (.same _) .nil))))))
  have h3' := LRow.local LIc.local h3 (G' := G2) fun u hu b hb => by rw [f2 u (fun h => d23 u h hu), f1 u (fun h => d13 u h hu)]; exact hb
  obtain ⟨G3, w3, f3⟩ := LRow.frzV (e := eL) (sz := 1) (v := C (.agg [I a.states, Is a.first, Es a.edges, z])) (v' := C (aAu a)) (by omega) (fun _ => rfl) LIc.local LIc.frz h3' n3
    (fun q _ hr => hC (.agg (.cons (.same _) (.cons (.same _) (.cons (.same _) (.cons hr .nil))))))
  refine ⟨G3, .trans w1 (.trans w2 w3), fun u hu => ?_⟩
  simp only [List.mem_append, not_or] at hu
  rw [f3 u hu.2.2, f2 u hu.2.1, f1 u hu.1]
theorem toEdgeS_live (xs : List Ed) (hl : xs.length ≤ 1048576) {H : Heap} {K : AV → Heap → Prop} (h : ∀ x G D, LE xs x G D → New H G D → K x G) : CallT Try.prog 27 [Es xs] H K := by
  refine W27_ok ?_; simp (maxSteps := 1000000) (disch := first | assumption | (apply ν6; assumption)) only [W27, vz, vu, vv, eqS, eF_, ↓c1_, ↓c2_, tabs, reduceCtorEq, ι5, ↓reduceIte, ν1, ν2, ν3, ν4, ν5, ι1, ι2, ι3, ι4, makeSliceV]
  refine ⟨by omega, by omega, by omega, by omega, fun q hq => ?_⟩
  have z0 : rowZ eE [I 0, I 0, I 0] xs 0 = zerosA xs.length [I 0, I 0, I 0] := rowZ_zero
  rw [← z0]
  refine L27_0_rule (0 : Nat) (fun i => I i) (fun i => H.set q (rowZ eE [I 0, I 0, I 0] xs i)) (fun i => i ≤ xs.length) (fun i => xs.length - i) ⟨by omega, .refl _, Heap.le_refl _⟩ ?_
  intro i hi
  have hrl := rowZ_len (e := eE) (zero := [I 0, I 0, I 0]) (xs := xs) (i := i) (sz := 3) (fun _ => rfl) rfl hi
  (try simp (maxSteps := 1000000) (disch := first | assumption | (apply ν6; assumption)) only [vz, vu, vv, eqS, eF_, ↓c1_, ↓c2_, tabs, reduceCtorEq, ι5, ↓reduceIte, ν1, ν2, ν3, ν4, ν5, ι1, ι2, ι3, ι4, B27_0])
  refine ⟨fun h => ⟨by omega, h, ?_⟩, fun h5 => ?_⟩
  · have hlt : i < xs.length := by omega
    have hput := rowZ_put (e := eE) (zero := [I 0, I 0, I 0]) (xs := xs) (i := i) (sz := 3) (fun _ => rfl) rfl hlt rfl rfl
    refine Pu.use (toEdge_spec (xs.getD i default)) ?_
    (try simp (maxSteps := 1000000) (disch := first | assumption | (apply ν6; assumption)) only [vz, vu, vv, eqS, eF_, ↓c1_, ↓c2_, tabs, reduceCtorEq, ι5, ↓reduceIte, ν1, ν2, ν3, ν4, ν5, ι1, ι2, ι3, ι4])
    refine ⟨by omega, h, by omega, i + 1, by omega, by omega, ?_, ?_⟩
    · rw [wk_int, i64_id (by omega) (by omega)]; simp
    · rw [← hput]; exact Heap.le_refl _
  · have : i = xs.length := by omega
    subst this
    refine h _ _ [q] ⟨q, _, [], rfl, Heap.set_same _ _ _, ?_, rfl⟩ ⟨by simp, by simpa using hq, Heap.le_set hq⟩
    rw [rowZ_end]; exact LL.plain xs
theorem toIntSS_live (xs : List (List Int)) (hs : smLs xs) {H : Heap} {K : AV → Heap → Prop} (h : ∀ x G D, LII xs x G D → New H G D → K x G) : CallT Try.prog 28 [Ls xs] H K := by
  have hl := hs.1
  refine W28_ok ?_; simp (maxSteps := 1000000) (disch := first | assumption | (apply ν6; assumption)) only [W28, vz, vu, vv, eqS, eF_, ↓c1_, ↓c2_, tabs, reduceCtorEq, ι5, ↓reduceIte, ν1, ν2, ν3, ν4, ν5, ι1, ι2, ι3, ι4, makeSliceV]
  refine ⟨by omega, by omega, by omega, by omega, fun q hq => ?_⟩
  refine L28_0_rule ((0 : Nat), H.set q (zerosA xs.length [.p .nil]), ([] : List Nat)) (fun s => I s.1) (fun s => s.2.1)
    (fun s => s.1 ≤ xs.length ∧ New H s.2.1 (q :: s.2.2) ∧ ∃ done, s.2.1 q = some (done ++ zerosA (xs.length - s.1) [.p .nil]) ∧ LL LIc (xs.take s.1) done s.2.1 s.2.2) (fun s => xs.length - s.1)
    ⟨⟨by simp, ⟨by simp, by simpa using hq, Heap.le_set hq⟩, [], by simp [Heap.set_same], ⟨rfl, rfl⟩⟩, .refl _, Heap.le_refl _⟩ ?_
  rintro ⟨i, G, D⟩ ⟨hi, hn, done, hG, hll⟩
  dsimp only at hi hn hG hll
  (try simp (maxSteps := 1000000) (disch := first | assumption | (apply ν6; assumption)) only [vz, vu, vv, eqS, eF_, ↓c1_, ↓c2_, tabs, reduceCtorEq, ι5, ↓reduceIte, ν1, ν2, ν3, ν4, ν5, ι1, ι2, ι3, ι4, B28_0])
  refine ⟨fun h => ⟨by omega, h, ?_⟩, fun h5 => ?_⟩
  · have hlt : i < xs.length := by omega
    have hm : xs.getD i default ∈ xs := getD_all (p := fun x => x ∈ xs) (fun _ h => h) hlt
    have hdl : done.length = i * 1 := by rw [LL.size LIc.size hll, List.length_take, Nat.min_eq_left hi]
    refine toIntS_live (xs.getD i default) (hs.2 _ hm) fun x G1 D1 hc hn1 => ?_
    have hG1 := hn1.le q _ hG
    have hqD1 : q ∉ D1 := ne_of_new hn1 hG
    obtain ⟨qx, rfl⟩ := LRow.sl hc
    have hz : zerosA (xs.length - i) [.p .nil] = [.p .nil] ++ zerosA (xs.length - (i + 1)) [.p .nil] := by
      obtain ⟨m, hm⟩ : ∃ m, xs.length - i = m + 1 := ⟨xs.length - i - 1, by omega⟩
      rw [hm, zerosA_succ, show xs.length - (i + 1) = m by omega]
    have hput := splice_at (pre := done) (c := [.p .nil]) (c' := [.sl qx 1 0 (xs.getD i default).length]) (post := zerosA (xs.length - (i + 1)) [.p .nil]) (off := i * 1) (n := 1) hdl.symm rfl rfl
    rw [hz] at hG1
    have hzl : (zerosA (xs.length - (i + 1)) [AV.p .nil]).length = (xs.length - (i + 1)) * 1 := zerosA_len _ _
    (try simp (maxSteps := 1000000) (disch := first | assumption | (apply ν6; assumption)) only [vz, vu, vv, eqS, eF_, ↓c1_, ↓c2_, tabs, reduceCtorEq, ι5, ↓reduceIte, ν1, ν2, ν3, ν4, ν5, ι1, ι2, ι3, ι4, store_at hG1])
    generalize hxx : (AV.sl qx 1 0 (xs.getD i default).length) = x at hc hput ⊢
    refine ⟨by omega, h, by simp only [List.length_append, hdl, hzl, List.length_cons, List.length_nil]; omega, (i + 1, G1.set q (done ++ ([x] ++ zerosA (xs.length - (i + 1)) [.p .nil])), D ++ D1), ⟨by simp only; omega, ?_, done ++ [x], ?_, ?_⟩, by simp only; omega, ?_, ?_⟩
    · have ht := hn.trans hn1 (fun y hy => by
        rcases List.mem_cons.1 hy with rfl | hy
        · rw [hG]; simp
        · exact LL.has LIc.has hll y hy)
      exact ht.put hq _
    · show (G1.set q _) q = _
      rw [Heap.set_same, List.append_assoc]
    · show LL LIc (xs.take (i + 1)) (done ++ [x]) (G1.set q (done ++ ([x] ++ zerosA (xs.length - (i + 1)) [.p .nil]))) (D ++ D1)
      rw [take_succ_snoc hlt]
      refine LL.snoc (LIc.local _ _ _ _ _ ⟨x, rfl, hc⟩ fun y hy b hb => by rw [Heap.set_other (ne_mem hy hqD1)]; exact hb) (LL.local LIc.local hll fun y hy b hb => ?_)
      rw [Heap.set_other (fun e => ?_)]
      · exact hn1.le y b hb
      · have := hn.nd; rw [List.nodup_cons] at this; exact this.1 (e ▸ hy)
    · rw [wk_int, i64_id (by omega) (by omega)]; simp
    · have e : List.take (i * 1) (done ++ ([.p .nil] ++ zerosA (xs.length - (i + 1)) [.p .nil])) ++ [x] ++ List.drop (i * 1 + 1) (done ++ ([.p .nil] ++ zerosA (xs.length - (i + 1)) [.p .nil])) = done ++ ([x] ++ zerosA (xs.length - (i + 1)) [.p .nil]) := hput
      simp only
      rw [← e]
      first | exact Heap.le_refl _ | simp only [List.cons_append, List.nil_append, le_refl_true]
  · have : i = xs.length := by omega
    subst this
    rw [List.take_length] at hll
    refine h _ _ (q :: D) ⟨q, done, D, rfl, ?_, hll, rfl⟩ hn
    rw [hG]; simp [zerosA]
end Go.Proofs.Ytolffbcnbcjeaaa
namespace Go.Proofs.Ytolffbcnbcjeaaa
open Go Go.Sep Go.Pt
attribute [local irreducible] CallT
theorem riseAt_iff {l : List Int} {n : Int} {i : Nat} : riseAt l n i = true ↔ 0 ≤ l.getD i default ∧ l.getD i default < n ∧ (i = 0 ∨ l.getD (i - 1) default < l.getD i default) := by
  simp only [riseAt, Bool.and_eq_true, Bool.or_eq_true, decide_eq_true_eq, and_assoc]
theorem rise_not {l : List Int} {n : Int} {i : Nat} (h : ¬ (0 ≤ l.getD i default ∧ l.getD i default < n ∧ (i = 0 ∨ l.getD (i - 1) default < l.getD i default))) : riseAt l n i = false := by
  rw [Bool.eq_false_iff]; exact fun hh => h (riseAt_iff.1 hh)
theorem isIncreasing_spec (l : List Int) (n : Int) (hl : l.length ≤ 1048576) : Pu Try.prog 65 [Is l, I n] (B (rising l n)) := by
  refine Pu.of fun H => ?_
  refine W65_ok ?_; simp (maxSteps := 1000000) (disch := first | assumption | (apply ν6; assumption)) only [W65, vz, vu, vv, eqS, eF_, ↓c1_, ↓c2_, tabs, reduceCtorEq, ι5, ↓reduceIte, ν1, ν2, ν3, ν4, ν5, ι1, ι2, ι3, ι4]
  refine L65_0_rule (0 : Nat) (fun i => I i) (fun _ => H) (fun i => i ≤ l.length ∧ (List.range i).all (riseAt l n) = true) (fun i => l.length - i) ⟨⟨by omega, rfl⟩, .refl _, Heap.le_refl _⟩ ?_
  rintro i ⟨hi, ha⟩
  have ra : ∀ j, j < l.length → riseAt l n j = false → rising l n = false := fun j hj h => range_all_false hj h
  have e1 : 0 < (i : Int) → IntKind.i64.wrap ((i : Int) - 1) = i - 1 := fun _ => i64_id (by omega) (by omega)
  have e2 : ((i : Int) - 1).toNat = i - 1 := by omega
  have nx : riseAt l n i = true → (List.range (i + 1)).all (riseAt l n) = true := fun h => by rw [range_all_succ, ha, h]; rfl
  (try simp (maxSteps := 1000000) (disch := first | assumption | (apply ν6; assumption)) only [vz, vu, vv, eqS, eF_, ↓c1_, ↓c2_, tabs, reduceCtorEq, ι5, ↓reduceIte, ν1, ν2, ν3, ν4, ν5, ι1, ι2, ι3, ι4, B65_0])
  refine ⟨fun h1 => ⟨by omega, h1, fun h2 => ?_, fun h2 => ⟨fun h3 => ?_, fun h3 => ⟨fun h4 => ?_, fun h4 => ?_⟩⟩⟩, fun h1 => ?_⟩
  · rw [ra i (by omega) (rise_not (by omega))]
  · rw [ra i (by omega) (rise_not (by omega))]
  · rw [e1 h4, e2]
    refine ⟨by omega, by omega, fun h5 => ?_, fun h5 => ⟨i + 1, ⟨by omega, nx ?_⟩, by omega, ?_⟩⟩
    · rw [ra i (by omega) (rise_not (by omega))]
    · exact riseAt_iff.2 (by omega)
    · rw [wk_int, i64_id (by omega) (by omega)]; simp
  · refine ⟨i + 1, ⟨by omega, nx ?_⟩, by omega, ?_⟩
    · exact riseAt_iff.2 (by omega)
    · rw [wk_int, i64_id (by omega) (by omega)]; simp
  · have : i = l.length := by omega
    subst this
    rw [rising, ha]
theorem l1Rising_spec (l : List Int) (n : Int) (hl : l.length ≤ 1048576) : Pu Try.prog 81 [Is l, I 0, I (n - 1)] (B (rising l n)) := by
  refine Pu.of fun H => ?_
  refine W81_ok ?_; simp (maxSteps := 1000000) (disch := first | assumption | (apply ν6; assumption)) only [W81, vz, vu, vv, eqS, eF_, ↓c1_, ↓c2_, tabs, reduceCtorEq, ι5, ↓reduceIte, ν1, ν2, ν3, ν4, ν5, ι1, ι2, ι3, ι4]
  refine L81_0_rule (0 : Nat) (fun i => I i) (fun _ => H) (fun i => i ≤ l.length ∧ (List.range i).all (riseAt l n) = true) (fun i => l.length - i) ⟨⟨by omega, rfl⟩, .refl _, Heap.le_refl _⟩ ?_
  rintro i ⟨hi, ha⟩
  have ra : ∀ j, j < l.length → riseAt l n j = false → rising l n = false := fun j hj h => range_all_false hj h
  have e1 : 0 < (i : Int) → IntKind.i64.wrap ((i : Int) - 1) = i - 1 := fun _ => i64_id (by omega) (by omega)
  have e2 : ((i : Int) - 1).toNat = i - 1 := by omega
  have nx : riseAt l n i = true → (List.range (i + 1)).all (riseAt l n) = true := fun h => by rw [range_all_succ, ha, h]; rfl
  (try simp (maxSteps := 1000000) (disch := first | assumption | (apply ν6; assumption)) only [vz, vu, vv, eqS, eF_, ↓c1_, ↓c2_, tabs, reduceCtorEq, ι5, ↓reduceIte, ν1, ν2, ν3, ν4, ν5, ι1, ι2, ι3, ι4, B81_0])
  refine ⟨fun h1 => ⟨by omega, h1, ?_⟩, fun h1 => ?_⟩
  · refine Pu.use (l1In_spec (l.getD i default) 0 (n - 1)) ?_
    cases h2 : (decide (0 ≤ l.getD i default) && decide (l.getD i default ≤ n - 1))
    · (try simp (maxSteps := 1000000) (disch := first | assumption | (apply ν6; assumption)) only [vz, vu, vv, eqS, eF_, ↓c1_, ↓c2_, tabs, reduceCtorEq, ι5, ↓reduceIte, ν1, ν2, ν3, ν4, ν5, ι1, ι2, ι3, ι4])
      simp only [Bool.and_eq_false_iff, decide_eq_false_iff_not] at h2
      rw [ra i (by omega) (rise_not (by omega))]
    simp only [Bool.and_eq_true, decide_eq_true_eq] at h2
    (try simp (maxSteps := 1000000) (disch := first | assumption | (apply ν6; assumption)) only [vz, vu, vv, eqS, eF_, ↓c1_, ↓c2_, tabs, reduceCtorEq, ι5, ↓reduceIte, ν1, ν2, ν3, ν4, ν5, ι1, ι2, ι3, ι4])
    refine ⟨fun h4 => ?_, fun h4 => ?_⟩
    · rw [e1 h4, e2]
      refine ⟨by omega, by omega, fun h5 => ?_, fun h5 => ⟨i + 1, ⟨by omega, nx ?_⟩, by omega, ?_⟩⟩
      · rw [ra i (by omega) (rise_not (by omega))]
      · exact riseAt_iff.2 (by omega)
      · rw [wk_int, i64_id (by omega) (by omega)]; simp
    · refine ⟨i + 1, ⟨by omega, nx ?_⟩, by omega, ?_⟩
      · exact riseAt_iff.2 (by omega)
      · rw [wk_int, i64_id (by omega) (by omega)]; simp
  · have : i = l.length := by omega
    subst this
    rw [rising, ha]
theorem Compare_spec (a b : Int) : Pu Try.prog 87 [I a, I b] (I (if a < b then -1 else if a = b then 0 else 1)) := by
  have nan : ∀ c : Int, Pu Try.prog 97 [I c] (B false) := fun c => by
    refine Pu.of fun H => ?_
    refine W97_ok ?_; simp (maxSteps := 1000000) (disch := first | assumption | (apply ν6; assumption)) only [W97, vz, vu, vv, eqS, eF_, ↓c1_, ↓c2_, tabs, reduceCtorEq, ι5, ↓reduceIte, ν1, ν2, ν3, ν4, ν5, ι1, ι2, ι3, ι4]
  refine Pu.of fun H => ?_
  refine W87_ok ?_; simp (maxSteps := 1000000) (disch := first | assumption | (apply ν6; assumption)) only [W87, vz, vu, vv, eqS, eF_, ↓c1_, ↓c2_, tabs, reduceCtorEq, ι5, ↓reduceIte, ν1, ν2, ν3, ν4, ν5, ι1, ι2, ι3, ι4]
  refine Pu.use (nan a) ?_
  (try simp (maxSteps := 1000000) (disch := first | assumption | (apply ν6; assumption)) only [vz, vu, vv, eqS, eF_, ↓c1_, ↓c2_, tabs, reduceCtorEq, ι5, ↓reduceIte, ν1, ν2, ν3, ν4, ν5, ι1, ι2, ι3, ι4])
  refine Pu.use (nan b) ?_
  (try simp (maxSteps := 1000000) (disch := first | assumption | (apply ν6; assumption)) only [vz, vu, vv, eqS, eF_, ↓c1_, ↓c2_, tabs, reduceCtorEq, ι5, ↓reduceIte, ν1, ν2, ν3, ν4, ν5, ι1, ι2, ι3, ι4])
  refine ⟨fun h => by rw [if_pos h], fun h => ⟨fun h2 => by rw [if_neg h, if_neg (by omega)], fun h2 => by rw [if_neg h, if_pos (by omega)]⟩⟩
theorem Or3_spec (a b c : Int) : Pu Try.prog 86 [Is [a, b, c]] (I (if a ≠ 0 then a else if b ≠ 0 then b else c)) := by
  refine Pu.of fun H => ?_
  refine W86_ok ?_; simp (maxSteps := 1000000) (disch := first | assumption | (apply ν6; assumption)) only [W86, vz, vu, vv, eqS, eF_, ↓c1_, ↓c2_, tabs, reduceCtorEq, ι5, ↓reduceIte, ν1, ν2, ν3, ν4, ν5, ι1, ι2, ι3, ι4]
  refine L86_0_rule (0 : Nat) (fun i => I i) (fun _ => H) (fun i => i ≤ 3 ∧ ∀ j, j < i → [a, b, c].getD j 0 = 0) (fun i => 3 - i) ⟨⟨by omega, by intros; omega⟩, .refl _, Heap.le_refl _⟩ ?_
  rintro i ⟨hi, ha⟩
  (try simp (maxSteps := 1000000) (disch := first | assumption | (apply ν6; assumption)) only [vz, vu, vv, eqS, eF_, ↓c1_, ↓c2_, tabs, reduceCtorEq, ι5, ↓reduceIte, ν1, ν2, ν3, ν4, ν5, ι1, ι2, ι3, ι4, B86_0])
  have e3 : ∀ j, [a, b, c].getD j default = [a, b, c].getD j 0 := fun _ => rfl
  rw [e3]
  refine ⟨fun h1 => ⟨by omega, h1, fun h2 => ?_, fun h2 => ⟨i + 1, ⟨by omega, fun j hj => ?_⟩, by omega, ?_⟩⟩, fun h1 => ?_⟩
  · refine congrArg (fun n : Int => I n) ?_
    have a0 := ha 0
    have a1 := ha 1
    obtain rfl | rfl | rfl : i = 0 ∨ i = 1 ∨ i = 2 := by omega
    · rw [if_pos (by simpa using h2)]; rfl
    · rw [if_neg (by simpa using a0 (by omega)), if_pos (by simpa using h2)]; rfl
    · rw [if_neg (by simpa using a0 (by omega)), if_neg (by simpa using a1 (by omega))]; rfl
  · rcases Nat.lt_succ_iff_lt_or_eq.1 hj with h | rfl
    · exact ha j h
    · exact h2
  · rw [wk_int, i64_id (by omega) (by omega)]; simp
  · have a0 := ha 0 (by omega)
    have a1 := ha 1 (by omega)
    have a2 := ha 2 (by omega)
    rw [if_neg (by simpa using a0), if_neg (by simpa using a1)]
    exact congrArg (fun n : Int => I n) a2.symm
theorem compareEdges_spec (a b : Ed) : Pu Try.prog 67 [aE a, aE b] (I (if edLt a b then -1 else if edLt b a then 1 else 0)) := by
  refine Pu.of fun H => ?_
  refine W67_ok ?_; simp (maxSteps := 1000000) (disch := first | assumption | (apply ν6; assumption)) only [W67, vz, vu, vv, eqS, eF_, ↓c1_, ↓c2_, tabs, reduceCtorEq, ι5, ↓reduceIte, ν1, ν2, ν3, ν4, ν5, ι1, ι2, ι3, ι4]
  intro r hr r2 n2 hr2
  have nn2 : r ≠ r2 := Ne.symm n2
  have hle := Heap.le_setN (b := [I b.src, I b.lt, I b.dst]) (Heap.le_set (b := [I a.src, I a.lt, I a.dst]) hr) hr2
  (try simp (maxSteps := 1000000) (disch := first | assumption | (apply ν6; assumption)) only [vz, vu, vv, eqS, eF_, ↓c1_, ↓c2_, tabs, reduceCtorEq, ι5, ↓reduceIte, ν1, ν2, ν3, ν4, ν5, ι1, ι2, ι3, ι4])
  refine Pu.use (Compare_spec a.src b.src) ?_
  (try simp (maxSteps := 1000000) (disch := first | assumption | (apply ν6; assumption)) only [vz, vu, vv, eqS, eF_, ↓c1_, ↓c2_, tabs, reduceCtorEq, ι5, ↓reduceIte, ν1, ν2, ν3, ν4, ν5, ι1, ι2, ι3, ι4])
  refine Pu.use (Compare_spec a.lt b.lt) ?_
  (try simp (maxSteps := 1000000) (disch := first | assumption | (apply ν6; assumption)) only [vz, vu, vv, eqS, eF_, ↓c1_, ↓c2_, tabs, reduceCtorEq, ι5, ↓reduceIte, ν1, ν2, ν3, ν4, ν5, ι1, ι2, ι3, ι4])
  refine Pu.use (Compare_spec a.dst b.dst) ?_
  refine lit3 tab_22 rfl tab_3 ⟨rfl, rfl⟩ ?_
  refine Pu.use (Or3_spec _ _ _) ?_
  refine ⟨?_, hle⟩
  refine congrArg (fun n : Int => I n) ?_
  have c1 : ∀ x y : Int, (if x < y then (-1 : Int) else if x = y then 0 else 1) ≠ 0 ↔ x ≠ y := fun x y => by
    constructor
    · intro h e; subst e; simp at h
    · intro h; split <;> first | decide | (rw [if_neg h]; decide)
  have key : ∀ x y : Int, (if x < y then (-1 : Int) else if x = y then 0 else 1) = (if decide (x < y) = true then -1 else if decide (y < x) = true then 1 else 0) := fun x y => by
    simp only [decide_eq_true_eq]
    rcases Int.lt_trichotomy x y with h | h | h
    · rw [if_pos h, if_pos h]
    · subst h; simp
    · rw [if_neg (by omega), if_neg (by omega), if_neg (by omega), if_pos h]
  unfold edLt
  by_cases h1 : a.src = b.src
  · rw [if_neg (by rw [c1]; exact not_not_intro h1), if_pos h1, if_pos h1.symm]
    by_cases h2 : a.lt = b.lt
    · rw [if_neg (by rw [c1]; exact not_not_intro h2), if_pos h2, if_pos h2.symm]
      exact key _ _
    · rw [if_pos (by rw [c1]; exact h2)]
      have := key a.lt b.lt
      simpa only [if_neg h2, if_neg (Ne.symm h2)] using this
  · rw [if_pos (by rw [c1]; exact h1)]
    have := key a.src b.src
    simpa only [if_neg h1, if_neg (Ne.symm h1)] using this
theorem l12Less_spec (a b : Ed) : Pu Try.prog 58 [aE a, aE b] (B (edLt a b)) := by
  refine Pu.of fun H => ?_
  refine W58_ok ?_; simp (maxSteps := 1000000) (disch := first | assumption | (apply ν6; assumption)) only [W58, vz, vu, vv, eqS, eF_, ↓c1_, ↓c2_, tabs, reduceCtorEq, ι5, ↓reduceIte, ν1, ν2, ν3, ν4, ν5, ι1, ι2, ι3, ι4]
  intro r hr r2 n2 hr2
  have nn2 : r ≠ r2 := Ne.symm n2
  have hle := Heap.le_setN (b := [I b.src, I b.lt, I b.dst]) (Heap.le_set (b := [I a.src, I a.lt, I a.dst]) hr) hr2
  (try simp (maxSteps := 1000000) (disch := first | assumption | (apply ν6; assumption)) only [vz, vu, vv, eqS, eF_, ↓c1_, ↓c2_, tabs, reduceCtorEq, ι5, ↓reduceIte, ν1, ν2, ν3, ν4, ν5, ι1, ι2, ι3, ι4])
  unfold edLt
  exact ⟨fun h => ⟨by rw [if_neg h], hle⟩, fun h => ⟨fun h2 => ⟨by rw [if_pos h, if_neg h2], hle⟩, fun h2 => ⟨by rw [if_pos h, if_pos h2], hle⟩⟩⟩
theorem areGoals1_at (l : List Int) (n : Int) (r : Nat) {H : Heap} (hr : H r = some [I n]) (hl : l.length ≤ 1048576) : PuAt Try.prog 85 [Is l, .ptr r 0] H (B (!rising l n)) := by
  intro K hK
  refine W85_ok ?_; simp (maxSteps := 1000000) (disch := first | assumption | (apply ν6; assumption)) only [W85, vz, vu, vv, eqS, eF_, ↓c1_, ↓c2_, tabs, reduceCtorEq, ι5, ↓reduceIte, ν1, ν2, ν3, ν4, ν5, ι1, ι2, ι3, ι4, load_at hr]
  refine Pu.use (isIncreasing_spec l n hl) ?_
  (try simp (maxSteps := 1000000) (disch := first | assumption | (apply ν6; assumption)) only [vz, vu, vv, eqS, eF_, ↓c1_, ↓c2_, tabs, reduceCtorEq, ι5, ↓reduceIte, ν1, ν2, ν3, ν4, ν5, ι1, ι2, ι3, ι4])
  simpa using hK
theorem IndexFuncL_at (xs : List (List Int)) (g : Nat) (caps : List AV) (p : List Int → Bool) {H : Heap} (hl : xs.length ≤ 1000000000) (hp : ∀ x ∈ xs, PuAt Try.prog g (Is x :: caps) H (B (p x))) :
    PuAt Try.prog 96 [Ls xs, .fn g caps] H (I (if xs.any p then (xs.findIdx p : Int) else -1)) := by
  intro K hK
  refine CallT.fin ?_
  refine W96_ok ?_; simp (maxSteps := 1000000) (disch := first | assumption | (apply ν6; assumption)) only [W96, vz, vu, vv, eqS, eF_, ↓c1_, ↓c2_, tabs, reduceCtorEq, ι5, ↓reduceIte, ν1, ν2, ν3, ν4, ν5, ι1, ι2, ι3, ι4]
  refine L96_0_rule (0 : Nat) (fun i => I i) (fun _ => H) (fun i => i ≤ xs.length ∧ ∀ j (hj : j < xs.length), j < i → p xs[j] = false) (fun i => xs.length - i) ⟨⟨by omega, by intros; omega⟩, .refl _, Heap.le_refl _⟩ ?_
  rintro i ⟨hi1, ha⟩
  (try simp (maxSteps := 1000000) (disch := first | assumption | (apply ν6; assumption)) only [vz, vu, vv, eqS, eF_, ↓c1_, ↓c2_, tabs, reduceCtorEq, ι5, ↓reduceIte, ν1, ν2, ν3, ν4, ν5, ι1, ι2, ι3, ι4, B96_0])
  refine ⟨fun h => ⟨by omega, h, ?_⟩, fun h => ?_⟩
  · have hlt : i < xs.length := by omega
    rw [getD_lt hlt]
    refine PuAt.use (hp _ (List.getElem_mem hlt)) ?_
    (try simp (maxSteps := 1000000) (disch := first | assumption | (apply ν6; assumption)) only [vz, vu, vv, eqS, eF_, ↓c1_, ↓c2_, tabs, reduceCtorEq, ι5, ↓reduceIte, ν1, ν2, ν3, ν4, ν5, ι1, ι2, ι3, ι4])
    refine ⟨fun h1 => ?_, fun h1 => ⟨i + 1, ⟨by omega, fun j hj hji => ?_⟩, by omega, ?_⟩⟩
    · have h2 : xs.any p = true := List.any_eq_true.2 ⟨xs[i], List.getElem_mem hlt, h1⟩
      have h3 : xs.findIdx p = i := by
        rw [List.findIdx_eq hlt]; exact ⟨h1, fun j hj => ha j (by omega) hj⟩
      rw [h2, h3] at hK; exact wkK.keep (by simpa using hK)
    · rcases Nat.lt_succ_iff_lt_or_eq.1 hji with h2 | rfl
      · exact ha j hj h2
      · exact h1
    · rw [wk_int, i64_id (by omega) (by omega)]; simp
  · have hi : i = xs.length := by omega
    have h2 : xs.any p = false := by
      rw [List.any_eq_false]
      intro x hx
      obtain ⟨j, hj, rfl⟩ := List.mem_iff_getElem.1 hx
      rw [ha j hj (by omega)]; simp
    rw [h2] at hK; exact wkK.keep (by simpa using hK)
theorem ContainsFuncL_at (xs : List (List Int)) (g : Nat) (caps : List AV) (p : List Int → Bool) {H : Heap} (hl : xs.length ≤ 1000000000) (hp : ∀ x ∈ xs, PuAt Try.prog g (Is x :: caps) H (B (p x))) :
    PuAt Try.prog 84 [Ls xs, .fn g caps] H (B (xs.any p)) := by
  intro K hK
  refine W84_ok ?_; simp (maxSteps := 1000000) (disch := first | assumption | (apply ν6; assumption)) only [W84, vz, vu, vv, eqS, eF_, ↓c1_, ↓c2_, tabs, reduceCtorEq, ι5, ↓reduceIte, ν1, ν2, ν3, ν4, ν5, ι1, ι2, ι3, ι4]
  refine PuAt.use (IndexFuncL_at xs g caps p hl hp) ?_
  (try simp (maxSteps := 1000000) (disch := first | assumption | (apply ν6; assumption)) only [vz, vu, vv, eqS, eF_, ↓c1_, ↓c2_, tabs, reduceCtorEq, ι5, ↓reduceIte, ν1, ν2, ν3, ν4, ν5, ι1, ι2, ι3, ι4])
  cases h : xs.any p <;> simp [h] at hK ⊢ <;> exact hK
def goalsOk (n : Int) (gs : List (List Int)) : Bool := decide (gs.length ≤ 6) && gs.all (fun g => rising g n)
theorem not_any_not {α : Type} {p : α → Bool} {l : List α} : (!l.any fun x => !p x) = l.all p := by
  induction l with
  | nil => rfl
  | cons a l ih => simp only [List.any_cons, List.all_cons, Bool.not_or, Bool.not_not, ih]
theorem areGoals_spec (gs : List (List Int)) (n : Int) (hs : smLs gs) : Pu Try.prog 66 [Ls gs, I n] (B (goalsOk n gs)) := by
  refine Pu.of fun H => ?_
  refine W66_ok ?_; simp (maxSteps := 1000000) (disch := first | assumption | (apply ν6; assumption)) only [W66, vz, vu, vv, eqS, eF_, ↓c1_, ↓c2_, tabs, reduceCtorEq, ι5, ↓reduceIte, ν1, ν2, ν3, ν4, ν5, ι1, ι2, ι3, ι4]
  intro r hr
  refine ⟨fun h => ?_, fun h => ⟨by rw [goalsOk, decide_eq_false (by omega)]; rfl, Heap.le_set hr⟩⟩
  refine PuAt.use (ContainsFuncL_at gs _ _ (fun g => !rising g n) (by have := hs.1; omega) fun g hg => areGoals1_at g n r (Heap.set_same _ _ _) (hs.2 g hg)) ?_
  (try simp (maxSteps := 1000000) (disch := first | assumption | (apply ν6; assumption)) only [vz, vu, vv, eqS, eF_, ↓c1_, ↓c2_, tabs, reduceCtorEq, ι5, ↓reduceIte, ν1, ν2, ν3, ν4, ν5, ι1, ι2, ι3, ι4])
  refine ⟨?_, Heap.le_set hr⟩
  rw [goalsOk, decide_eq_true (by omega), Bool.true_and, ← not_any_not]
theorem l11Points_spec (l : List Int) (n : Int) (hl : l.length ≤ 1048576) (hn : 1 ≤ n ∧ n ≤ 96) : Pu Try.prog 56 [Is l, I n] (B (rising l n)) := by
  refine Pu.of fun H => ?_
  have e : IntKind.i64.wrap (n - 1) = n - 1 := i64_id (by omega) (by omega)
  refine W56_ok ?_; simp (maxSteps := 1000000) (disch := first | assumption | (apply ν6; assumption)) only [W56, vz, vu, vv, eqS, eF_, ↓c1_, ↓c2_, tabs, reduceCtorEq, ι5, ↓reduceIte, ν1, ν2, ν3, ν4, ν5, ι1, ι2, ι3, ι4, e]
  exact Pu.use (l1Rising_spec l n hl) ⟨rfl, Heap.le_refl _⟩
theorem l11Goals_spec (gs : List (List Int)) (n : Int) (hs : smLs gs) (hn : 1 ≤ n ∧ n ≤ 96) : Pu Try.prog 57 [Ls gs, I n] (B (goalsOk n gs)) := by
  have hl := hs.1
  refine Pu.of fun H => ?_
  refine W57_ok ?_; simp (maxSteps := 1000000) (disch := first | assumption | (apply ν6; assumption)) only [W57, vz, vu, vv, eqS, eF_, ↓c1_, ↓c2_, tabs, reduceCtorEq, ι5, ↓reduceIte, ν1, ν2, ν3, ν4, ν5, ι1, ι2, ι3, ι4]
  refine ⟨fun h => by rw [goalsOk, decide_eq_false (by omega)]; rfl, fun h => ?_⟩
  have hd : goalsOk n gs = gs.all (fun g => rising g n) := by rw [goalsOk, decide_eq_true (by omega), Bool.true_and]
  refine L57_0_rule (0 : Nat) (fun i => I i) (fun _ => H) (fun i => i ≤ gs.length ∧ (gs.take i).all (fun g => rising g n) = true) (fun i => gs.length - i) ⟨⟨by omega, rfl⟩, .refl _, Heap.le_refl _⟩ ?_
  rintro i ⟨hi, ha⟩
  (try simp (maxSteps := 1000000) (disch := first | assumption | (apply ν6; assumption)) only [vz, vu, vv, eqS, eF_, ↓c1_, ↓c2_, tabs, reduceCtorEq, ι5, ↓reduceIte, ν1, ν2, ν3, ν4, ν5, ι1, ι2, ι3, ι4, B57_0])
  refine ⟨fun h1 => ⟨by omega, h1, ?_⟩, fun h1 => ?_⟩
  · have hlt : i < gs.length := by omega
    have hm : gs.getD i default ∈ gs := getD_all (p := fun x => x ∈ gs) (fun _ h => h) hlt
    refine Pu.use (l11Points_spec (gs.getD i default) n (hs.2 _ hm) hn) ?_
    cases hr : rising (gs.getD i default) n
    · (try simp (maxSteps := 1000000) (disch := first | assumption | (apply ν6; assumption)) only [vz, vu, vv, eqS, eF_, ↓c1_, ↓c2_, tabs, reduceCtorEq, ι5, ↓reduceIte, ν1, ν2, ν3, ν4, ν5, ι1, ι2, ι3, ι4])
      rw [hd]
      exact congrArg (fun b : Bool => B b) (List.all_eq_false.2 ⟨_, hm, by rw [hr]; simp⟩).symm
    · (try simp (maxSteps := 1000000) (disch := first | assumption | (apply ν6; assumption)) only [vz, vu, vv, eqS, eF_, ↓c1_, ↓c2_, tabs, reduceCtorEq, ι5, ↓reduceIte, ν1, ν2, ν3, ν4, ν5, ι1, ι2, ι3, ι4])
      refine ⟨i + 1, ⟨by omega, ?_⟩, by omega, ?_⟩
      · rw [take_all_succ hlt, ha, Bool.true_and, ← getD_lt (d := default) hlt]; exact hr
      · rw [wk_int, i64_id (by omega) (by omega)]; simp
  · have : i = gs.length := by omega
    subst this
    rw [List.take_length] at ha
    rw [hd, ha]
theorem edIn_iff {n : Int} {e : Ed} : edIn n e = true ↔ (0 ≤ e.src ∧ e.src < n) ∧ (0 ≤ e.dst ∧ e.dst < n) ∧ (0 ≤ e.lt ∧ e.lt < 8) := by
  simp only [edIn, Bool.and_eq_true, decide_eq_true_eq]
theorem edAt_iff {n : Int} {es : List Ed} {i : Nat} : edAt n es i = true ↔ edIn n (es.getD i default) = true ∧ (i = 0 ∨ edLt (es.getD (i - 1) default) (es.getD i default) = true) := by
  simp only [edAt, Bool.and_eq_true, Bool.or_eq_true, decide_eq_true_eq]
theorem edAt_not {n : Int} {es : List Ed} {i : Nat} (h : ¬ (edIn n (es.getD i default) = true ∧ (i = 0 ∨ edLt (es.getD (i - 1) default) (es.getD i default) = true))) : edAt n es i = false := by
  rw [Bool.eq_false_iff]; exact fun hh => h (edAt_iff.1 hh)
theorem goodA_def (a : Au) : goodA a = ((decide (1 ≤ a.states) && decide (a.states ≤ 96)) && (rising a.first a.states && (decide (a.edges.length ≤ 2400) && (goalsOk a.states a.goals && edsOk a.states a.edges)))) := rfl
theorem GoodAuto_impl (a : Au) (hs : smAu a) : Pu Try.prog 29 [aAu a] (B (goodA a)) := by
  refine Pu.of fun H => ?_
  have gd := goodA_def a
  refine W29_ok ?_; simp (maxSteps := 1000000) (disch := first | assumption | (apply ν6; assumption)) only [W29, vz, vu, vv, eqS, eF_, ↓c1_, ↓c2_, tabs, reduceCtorEq, ι5, ↓reduceIte, ν1, ν2, ν3, ν4, ν5, ι1, ι2, ι3, ι4]
  intro r hr
  have hle := Heap.le_set (b := [I a.states, Is a.first, Es a.edges, Ls a.goals]) hr
  have bad : goodA a = false → AV.p (.bool false) = B (goodA a) ∧ Heap.le H (H.set r [I a.states, Is a.first, Es a.edges, Ls a.goals]) := fun h => ⟨by rw [h], hle⟩
  refine ⟨fun h1 => bad (by rw [gd, decide_eq_false (by omega)]; rfl), fun h1 => ⟨fun h2 => bad (by rw [gd, decide_eq_false (by omega : ¬ a.states ≤ 96), Bool.and_false]; rfl), fun h2 => ?_⟩⟩
  rw [decide_eq_true (by omega : 1 ≤ a.states), decide_eq_true (by omega : a.states ≤ 96), Bool.true_and, Bool.true_and] at gd
  refine Pu.use (isIncreasing_spec a.first a.states hs.1) ?_
  cases h3 : rising a.first a.states
  · (try simp (maxSteps := 1000000) (disch := first | assumption | (apply ν6; assumption)) only [vz, vu, vv, eqS, eF_, ↓c1_, ↓c2_, tabs, reduceCtorEq, ι5, ↓reduceIte, ν1, ν2, ν3, ν4, ν5, ι1, ι2, ι3, ι4])
    exact bad (by rw [gd, h3]; rfl)
  rw [h3, Bool.true_and] at gd
  (try simp (maxSteps := 1000000) (disch := first | assumption | (apply ν6; assumption)) only [vz, vu, vv, eqS, eF_, ↓c1_, ↓c2_, tabs, reduceCtorEq, ι5, ↓reduceIte, ν1, ν2, ν3, ν4, ν5, ι1, ι2, ι3, ι4])
  refine ⟨fun h4 => bad (by rw [gd, decide_eq_false (by omega)]; rfl), fun h4 => ?_⟩
  rw [decide_eq_true (by omega : a.edges.length ≤ 2400), Bool.true_and] at gd
  refine Pu.use (areGoals_spec a.goals a.states hs.2.2) ?_
  cases h5 : goalsOk a.states a.goals
  · (try simp (maxSteps := 1000000) (disch := first | assumption | (apply ν6; assumption)) only [vz, vu, vv, eqS, eF_, ↓c1_, ↓c2_, tabs, reduceCtorEq, ι5, ↓reduceIte, ν1, ν2, ν3, ν4, ν5, ι1, ι2, ι3, ι4])
    exact bad (by rw [gd, h5]; rfl)
  rw [h5, Bool.true_and] at gd
  (try simp (maxSteps := 1000000) (disch := first | assumption | (apply ν6; assumption)) only [vz, vu, vv, eqS, eF_, ↓c1_, ↓c2_, tabs, reduceCtorEq, ι5, ↓reduceIte, ν1, ν2, ν3, ν4, ν5, ι1, ι2, ι3, ι4])
  have hG : (H.set r [I a.states, Is a.first, Es a.edges, Ls a.goals]) r = some [I a.states, Is a.first, Es a.edges, Ls a.goals] := Heap.set_same _ _ _
  generalize H.set r [I a.states, Is a.first, Es a.edges, Ls a.goals] = G at hle bad hG ⊢
  refine L29_0_rule (0 : Nat) (fun i => I i) (fun _ => G) (fun i => i ≤ a.edges.length ∧ (List.range i).all (edAt a.states a.edges) = true) (fun i => a.edges.length - i) ⟨⟨by omega, rfl⟩, .refl _, Heap.le_refl _⟩ ?_
  rintro i ⟨hi, ha⟩
  (try simp (maxSteps := 1000000) (disch := first | assumption | (apply ν6; assumption)) only [vz, vu, vv, eqS, eF_, ↓c1_, ↓c2_, tabs, reduceCtorEq, ι5, ↓reduceIte, ν1, ν2, ν3, ν4, ν5, ι1, ι2, ι3, ι4, B29_0])
  refine ⟨fun h6 => ⟨by omega, h6, fun r4 hr4 => ?_⟩, fun h6 => ?_⟩
  · have hlt : i < a.edges.length := by omega
    have nr : r ≠ r4 := fun e => by rw [e, hr4] at hG; cases hG
    have nr' : r4 ≠ r := Ne.symm nr
    have ra : edAt a.states a.edges i = false → AV.p (.bool false) = B (goodA a) ∧ Heap.le H (G.set r4 [I (a.edges.getD i default).src, I (a.edges.getD i default).lt, I (a.edges.getD i default).dst]) := fun h => ⟨by rw [gd, edsOk, range_all_false hlt h], Heap.le_trans hle (Heap.le_set hr4)⟩
    have e1 : 0 < (i : Int) → IntKind.i64.wrap ((i : Int) - 1) = i - 1 := fun _ => i64_id (by omega) (by omega)
    have e2 : ((i : Int) - 1).toNat = i - 1 := by omega
    have nx : edAt a.states a.edges i = true → (List.range (i + 1)).all (edAt a.states a.edges) = true := fun h => by rw [range_all_succ, ha, h]; rfl
    have hne : ¬ (edIn a.states (a.edges.getD i default) = true) → edAt a.states a.edges i = false := fun h => edAt_not fun hh => h hh.1
    rw [edIn_iff] at hne
    (try simp (maxSteps := 1000000) (disch := first | assumption | (apply ν6; assumption)) only [vz, vu, vv, eqS, eF_, ↓c1_, ↓c2_, tabs, reduceCtorEq, ι5, ↓reduceIte, ν1, ν2, ν3, ν4, ν5, ι1, ι2, ι3, ι4, load_at hG])
    refine ⟨fun g => ra (hne (by omega)), fun g1 => ⟨fun g => ra (hne (by omega)), fun g2 => ⟨fun g => ra (hne (by omega)), fun g3 => ⟨fun g => ra (hne (by omega)), fun g4 => ⟨fun g => ra (hne (by omega)), fun g5 => ⟨fun g => ra (hne (by omega)), fun g6 => ⟨fun g7 => ?_, fun g7 => ?_⟩⟩⟩⟩⟩⟩⟩
    · rw [e1 g7, e2]
      refine ⟨by omega, by omega, ?_⟩
      refine Pu.use (compareEdges_spec (a.edges.getD (i - 1) default) (a.edges.getD i default)) ?_
      cases h8 : edLt (a.edges.getD (i - 1) default) (a.edges.getD i default)
      · have e3 : (if false = true then (-1 : Int) else if edLt (a.edges.getD i default) (a.edges.getD (i - 1) default) = true then 1 else 0) ≥ 0 := by
          rw [if_neg (by decide)]; split <;> decide
        (try simp (maxSteps := 1000000) (disch := first | assumption | (apply ν6; assumption)) only [vz, vu, vv, eqS, eF_, ↓c1_, ↓c2_, tabs, reduceCtorEq, ι5, ↓reduceIte, ν1, ν2, ν3, ν4, ν5, ι1, ι2, ι3, ι4])
        refine ⟨fun _ => ra (edAt_not fun hh => ?_), fun h9 => absurd e3 (by simpa using h9)⟩
        rcases hh.2 with h | h
        · omega
        · rw [h8] at h; cases h
      · (try simp (maxSteps := 1000000) (disch := first | assumption | (apply ν6; assumption)) only [vz, vu, vv, eqS, eF_, ↓c1_, ↓c2_, tabs, reduceCtorEq, ι5, ↓reduceIte, ν1, ν2, ν3, ν4, ν5, ι1, ι2, ι3, ι4])
        refine ⟨fun h => absurd h (by decide), fun _ => ⟨i + 1, ⟨by omega, nx (edAt_iff.2 ⟨edIn_iff.2 (by omega), .inr h8⟩)⟩, by omega, ?_, Heap.le_set hr4⟩⟩
        rw [wk_int, i64_id (by omega) (by omega)]; simp
    · refine ⟨i + 1, ⟨by omega, nx (edAt_iff.2 ⟨edIn_iff.2 (by omega), .inl (by omega)⟩)⟩, by omega, ?_, Heap.le_set hr4⟩
      rw [wk_int, i64_id (by omega) (by omega)]; simp
  · have : i = a.edges.length := by omega
    subst this
    exact ⟨by rw [gd, edsOk, ha], hle⟩
theorem GoodAuto_spec (a : Au) (hs : smAu a) : Pu Try.prog 23 [aAu a] (B (goodA a)) := by
  refine Pu.of fun H => ?_
  have gd := goodA_def a
  refine W23_ok ?_; simp (maxSteps := 1000000) (disch := first | assumption | (apply ν6; assumption)) only [W23, vz, vu, vv, eqS, eF_, ↓c1_, ↓c2_, tabs, reduceCtorEq, ι5, ↓reduceIte, ν1, ν2, ν3, ν4, ν5, ι1, ι2, ι3, ι4]
  intro r hr
  have hle := Heap.le_set (b := [I a.states, Is a.first, Es a.edges, Ls a.goals]) hr
  have bad : goodA a = false → AV.p (.bool false) = B (goodA a) ∧ Heap.le H (H.set r [I a.states, Is a.first, Es a.edges, Ls a.goals]) := fun h => ⟨by rw [h], hle⟩
  refine Pu.use (l1In_spec a.states 1 96) ?_
  cases h1 : (decide (1 ≤ a.states) && decide (a.states ≤ 96))
  · (try simp (maxSteps := 1000000) (disch := first | assumption | (apply ν6; assumption)) only [vz, vu, vv, eqS, eF_, ↓c1_, ↓c2_, tabs, reduceCtorEq, ι5, ↓reduceIte, ν1, ν2, ν3, ν4, ν5, ι1, ι2, ι3, ι4])
    exact bad (by rw [gd, h1]; rfl)
  rw [h1, Bool.true_and] at gd
  simp only [Bool.and_eq_true, decide_eq_true_eq] at h1
  (try simp (maxSteps := 1000000) (disch := first | assumption | (apply ν6; assumption)) only [vz, vu, vv, eqS, eF_, ↓c1_, ↓c2_, tabs, reduceCtorEq, ι5, ↓reduceIte, ν1, ν2, ν3, ν4, ν5, ι1, ι2, ι3, ι4])
  refine Pu.use (l11Points_spec a.first a.states hs.1 h1) ?_
  cases h3 : rising a.first a.states
  · (try simp (maxSteps := 1000000) (disch := first | assumption | (apply ν6; assumption)) only [vz, vu, vv, eqS, eF_, ↓c1_, ↓c2_, tabs, reduceCtorEq, ι5, ↓reduceIte, ν1, ν2, ν3, ν4, ν5, ι1, ι2, ι3, ι4])
    exact bad (by rw [gd, h3]; rfl)
  rw [h3, Bool.true_and] at gd
  (try simp (maxSteps := 1000000) (disch := first | assumption | (apply ν6; assumption)) only [vz, vu, vv, eqS, eF_, ↓c1_, ↓c2_, tabs, reduceCtorEq, ι5, ↓reduceIte, ν1, ν2, ν3, ν4, ν5, ι1, ι2, ι3, ι4])
  refine ⟨fun h4 => bad (by rw [gd, decide_eq_false (by omega)]; rfl), fun h4 => ?_⟩
  rw [decide_eq_true (by omega : a.edges.length ≤ 2400), Bool.true_and] at gd
  refine Pu.use (l11Goals_spec a.goals a.states hs.2.2 h1) ?_
  cases h5 : goalsOk a.states a.goals
  · (try simp (maxSteps := 1000000) (disch := first | assumption | (apply ν6; assumption)) only [vz, vu, vv, eqS, eF_, ↓c1_, ↓c2_, tabs, reduceCtorEq, ι5, ↓reduceIte, ν1, ν2, ν3, ν4, ν5, ι1, ι2, ι3, ι4])
    exact bad (by rw [gd, h5]; rfl)
  rw [h5, Bool.true_and] at gd
  (try simp (maxSteps := 1000000) (disch := first | assumption | (apply ν6; assumption)) only [vz, vu, vv, eqS, eF_, ↓c1_, ↓c2_, tabs, reduceCtorEq, ι5, ↓reduceIte, ν1, ν2, ν3, ν4, ν5, ι1, ι2, ι3, ι4])
  have hG : (H.set r [I a.states, Is a.first, Es a.edges, Ls a.goals]) r = some [I a.states, Is a.first, Es a.edges, Ls a.goals] := Heap.set_same _ _ _
  generalize H.set r [I a.states, Is a.first, Es a.edges, Ls a.goals] = G at hle bad hG ⊢
  have e0 : IntKind.i64.wrap (a.states - 1) = a.states - 1 := i64_id (by omega) (by omega)
  refine L23_0_rule (0 : Nat) (fun i => I i) (fun _ => G) (fun i => i ≤ a.edges.length ∧ (List.range i).all (edAt a.states a.edges) = true) (fun i => a.edges.length - i) ⟨⟨by omega, rfl⟩, .refl _, Heap.le_refl _⟩ ?_
  rintro i ⟨hi, ha⟩
  (try simp (maxSteps := 1000000) (disch := first | assumption | (apply ν6; assumption)) only [vz, vu, vv, eqS, eF_, ↓c1_, ↓c2_, tabs, reduceCtorEq, ι5, ↓reduceIte, ν1, ν2, ν3, ν4, ν5, ι1, ι2, ι3, ι4, B23_0])
  refine ⟨fun h6 => ⟨by omega, h6, fun r4 hr4 => ?_⟩, fun h6 => ?_⟩
  · have hlt : i < a.edges.length := by omega
    have nr : r ≠ r4 := fun e => by rw [e, hr4] at hG; cases hG
    have nr' : r4 ≠ r := Ne.symm nr
    have ra : edAt a.states a.edges i = false → AV.p (.bool false) = B (goodA a) ∧ Heap.le H (G.set r4 [I (a.edges.getD i default).src, I (a.edges.getD i default).lt, I (a.edges.getD i default).dst]) := fun h => ⟨by rw [gd, edsOk, range_all_false hlt h], Heap.le_trans hle (Heap.le_set hr4)⟩
    have e1 : 0 < (i : Int) → IntKind.i64.wrap ((i : Int) - 1) = i - 1 := fun _ => i64_id (by omega) (by omega)
    have e2 : ((i : Int) - 1).toNat = i - 1 := by omega
    have nx : edAt a.states a.edges i = true → (List.range (i + 1)).all (edAt a.states a.edges) = true := fun h => by rw [range_all_succ, ha, h]; rfl
    have hne : ¬ (edIn a.states (a.edges.getD i default) = true) → edAt a.states a.edges i = false := fun h => edAt_not fun hh => h hh.1
    rw [edIn_iff] at hne
    (try simp (maxSteps := 1000000) (disch := first | assumption | (apply ν6; assumption)) only [vz, vu, vv, eqS, eF_, ↓c1_, ↓c2_, tabs, reduceCtorEq, ι5, ↓reduceIte, ν1, ν2, ν3, ν4, ν5, ι1, ι2, ι3, ι4, load_at hG, e0])
    refine Pu.use (l1In_spec (a.edges.getD i default).src 0 (a.states - 1)) ?_
    cases g1 : (decide (0 ≤ (a.edges.getD i default).src) && decide ((a.edges.getD i default).src ≤ a.states - 1))
    · simp only [Bool.and_eq_false_iff, decide_eq_false_iff_not] at g1
      (try simp (maxSteps := 1000000) (disch := first | assumption | (apply ν6; assumption)) only [vz, vu, vv, eqS, eF_, ↓c1_, ↓c2_, tabs, reduceCtorEq, ι5, ↓reduceIte, ν1, ν2, ν3, ν4, ν5, ι1, ι2, ι3, ι4])
      exact ra (hne (by omega))
    simp only [Bool.and_eq_true, decide_eq_true_eq] at g1
    (try simp (maxSteps := 1000000) (disch := first | assumption | (apply ν6; assumption)) only [vz, vu, vv, eqS, eF_, ↓c1_, ↓c2_, tabs, reduceCtorEq, ι5, ↓reduceIte, ν1, ν2, ν3, ν4, ν5, ι1, ι2, ι3, ι4])
    refine Pu.use (l1In_spec (a.edges.getD i default).lt 0 7) ?_
    cases g2 : (decide (0 ≤ (a.edges.getD i default).lt) && decide ((a.edges.getD i default).lt ≤ 7))
    · simp only [Bool.and_eq_false_iff, decide_eq_false_iff_not] at g2
      (try simp (maxSteps := 1000000) (disch := first | assumption | (apply ν6; assumption)) only [vz, vu, vv, eqS, eF_, ↓c1_, ↓c2_, tabs, reduceCtorEq, ι5, ↓reduceIte, ν1, ν2, ν3, ν4, ν5, ι1, ι2, ι3, ι4])
      exact ra (hne (by omega))
    simp only [Bool.and_eq_true, decide_eq_true_eq] at g2
    (try simp (maxSteps := 1000000) (disch := first | assumption | (apply ν6; assumption)) only [vz, vu, vv, eqS, eF_, ↓c1_, ↓c2_, tabs, reduceCtorEq, ι5, ↓reduceIte, ν1, ν2, ν3, ν4, ν5, ι1, ι2, ι3, ι4, load_at hG, e0])
    refine Pu.use (l1In_spec (a.edges.getD i default).dst 0 (a.states - 1)) ?_
    cases g3 : (decide (0 ≤ (a.edges.getD i default).dst) && decide ((a.edges.getD i default).dst ≤ a.states - 1))
    · simp only [Bool.and_eq_false_iff, decide_eq_false_iff_not] at g3
      (try simp (maxSteps := 1000000) (disch := first | assumption | (apply ν6; assumption)) only [vz, vu, vv, eqS, eF_, ↓c1_, ↓c2_, tabs, reduceCtorEq, ι5, ↓reduceIte, ν1, ν2, ν3, ν4, ν5, ι1, ι2, ι3, ι4])
      exact ra (hne (by omega))
    simp only [Bool.and_eq_true, decide_eq_true_eq] at g3
    (try simp (maxSteps := 1000000) (disch := first | assumption | (apply ν6; assumption)) only [vz, vu, vv, eqS, eF_, ↓c1_, ↓c2_, tabs, reduceCtorEq, ι5, ↓reduceIte, ν1, ν2, ν3, ν4, ν5, ι1, ι2, ι3, ι4, load_at hG])
    refine ⟨fun g7 => ?_, fun g7 => ?_⟩
    · rw [e1 g7, e2]
      refine ⟨by omega, by omega, ?_⟩
      refine Pu.use (l12Less_spec (a.edges.getD (i - 1) default) (a.edges.getD i default)) ?_
      cases h8 : edLt (a.edges.getD (i - 1) default) (a.edges.getD i default)
      · (try simp (maxSteps := 1000000) (disch := first | assumption | (apply ν6; assumption)) only [vz, vu, vv, eqS, eF_, ↓c1_, ↓c2_, tabs, reduceCtorEq, ι5, ↓reduceIte, ν1, ν2, ν3, ν4, ν5, ι1, ι2, ι3, ι4])
        refine ra (edAt_not fun hh => ?_)
        rcases hh.2 with h | h
        · omega
        · rw [h8] at h; cases h
      · (try simp (maxSteps := 1000000) (disch := first | assumption | (apply ν6; assumption)) only [vz, vu, vv, eqS, eF_, ↓c1_, ↓c2_, tabs, reduceCtorEq, ι5, ↓reduceIte, ν1, ν2, ν3, ν4, ν5, ι1, ι2, ι3, ι4])
        refine ⟨i + 1, ⟨by omega, nx (edAt_iff.2 ⟨edIn_iff.2 (by omega), .inr h8⟩)⟩, by omega, ?_, Heap.le_set hr4⟩
        rw [wk_int, i64_id (by omega) (by omega)]; simp
    · refine ⟨i + 1, ⟨by omega, nx (edAt_iff.2 ⟨edIn_iff.2 (by omega), .inl (by omega)⟩)⟩, by omega, ?_, Heap.le_set hr4⟩
      rw [wk_int, i64_id (by omega) (by omega)]; simp
  · have : i = a.edges.length := by omega
    subst this
    exact ⟨by rw [gd, edsOk, ha], hle⟩
end Go.Proofs.Ytolffbcnbcjeaaa
namespace Go.Proofs.Ytolffbcnbcjeaaa
open Go Go.Sep Go.Pt
attribute [local irreducible] CallT
theorem cI_len (xs : List Int) : (cP fI xs).length = xs.length := by simp [cP]
theorem cI_app (xs ys : List Int) : cP fI (xs ++ ys) = cP fI xs ++ cP fI ys := by simp [cP]
theorem app_intsX {q : Nat} {xs ys : List Int} {ex : List AV} {G : Heap} {K : AV → Heap → Prop} (hq : G q = some (cP fI xs ++ ex)) (hl : xs.length + ys.length ≤ 1000000000)
    (h : ∀ q', G q' = none → q' ≠ q → K (rowP q' (xs ++ ys)) ((G.del q).set q' (cP fI (xs ++ ys)))) : appendV tab 22 22 (rowP q xs) (Is ys) G (wkK K) := by
  have hlen := cI_len xs
  simp only [appendV, tab_22, tab_3, srcV, baseV, hq]
  have e2 : List.map AV.p (List.map eI ys).flatten = cP fI ys := flat_P fI ys
  refine ⟨szI ys, trivial, by rw [List.length_append, hlen]; omega, by simp only [List.length_map]; omega, by simp only [List.length_map]; omega, cells_cell _, fun q' hq' => wkK.keep ?_⟩
  have hne : q' ≠ q := fun e => by rw [e, hq] at hq'; cases hq'
  have := h q' hq' hne
  have e : List.take (xs.length * 1) (List.drop 0 (cP fI xs ++ ex)) = cP fI xs := by rw [List.drop_zero, Nat.mul_one, ← hlen, List.take_left]
  rw [e, e2, List.length_map]
  rw [cI_app] at this
  simpa only [rowP, List.length_append] using this
theorem app_topI {q : Nat} {xs ys : List Int} {G : Heap} {K : AV → Heap → Prop} (hq : G q = none) (hl : xs.length + ys.length ≤ 1000000) (h : ∀ q', G q' = none → K (rowP q' (xs ++ ys)) (G.set q' (cP fI (xs ++ ys)))) :
    appendV tab 22 22 (rowP q xs) (Is ys) (G.set q (cP fI xs)) (wkK K) :=
  app_intsX (ex := []) (by rw [Heap.set_same, List.append_nil]) (by omega) fun q' hq' hne => by
    rw [Heap.del_set hq]
    rw [Heap.set_none] at hq'
    exact h q' hq'.2
theorem lit0I {G : Heap} {K : AV → Heap → Prop} (h : ∀ q, G q = none → K (rowP q ([] : List Int)) (G.set q (cP fI []))) : buildSliceV tab 22 0 [] G (wkK K) := by
  simp only [buildSliceV, tab_22, tab_3]
  refine ⟨by omega, ?_⟩
  simp only [fillV, zerosA, List.replicate_zero, List.flatten_nil]
  exact fun r hr => wkK.keep (h r hr)
def below (n : Nat) : List Int := (List.range n).map fun (i : Nat) => (i : Int)
theorem below_len (n : Nat) : (below n).length = n := by simp [below]
def smI (l : List Int) : Prop := l.length ≤ 10000 ∧ ∀ x ∈ l, 0 ≤ x ∧ x ≤ 100000
theorem fin_int {q : Nat} {xs : List Int} {H G : Heap} (hq : H q = none) (hG : Heap.le (H.set q (cP fI xs)) G) : wkK (fun r H' => r = Is xs ∧ H' = H) (rowP q xs) G := by
  have := fin_own (sz := 1) (es := xs.map eI) (q := q) (H := H) (H' := G) (K := fun r H' => r = Is xs ∧ H' = H) (by omega) (szI _) hq (by
    have e : cells (xs.map eI) = cP fI xs := cells_P fI xs
    rw [e]; exact hG) ⟨rfl, rfl⟩
  simpa only [Go.Sep.own, List.length_map] using this
theorem l1Own_row (l : List Int) (hl : l.length ≤ 100000) {H : Heap} {K : AV → Heap → Prop} (h : ∀ q, H q = none → K (rowP q l) (H.set q (cP fI l))) : CallT Try.prog 82 [Is l] H K := by
  refine CallT.fin ?_
  refine W82_ok ?_; simp (maxSteps := 1000000) (disch := first | assumption | (apply ν6; assumption)) only [W82, vz, vu, vv, eqS, eF_, ↓c1_, ↓c2_, tabs, reduceCtorEq, ι5, ↓reduceIte, ν1, ν2, ν3, ν4, ν5, ι1, ι2, ι3, ι4]
  refine lit0I fun q0 hq0 => ?_
  refine app_topI (xs := []) (ys := l) hq0 (by simp; omega) fun q hq => ?_
  rw [List.nil_append]
  exact wkK.keep (h q hq)
theorem LI_mk' {xs : List Int} {q : Nat} {G : Heap} (h : G q = some (cP fI xs)) : LI xs (rowP q xs) G [q] := LI_mk (by
  have e : cells (xs.map eI) = cP fI xs := cells_P fI xs
  rw [e]; exact h)
theorem lit_live1 {G : Heap} {K : AV → Heap → Prop} {q n : Nat} (h : ∀ ql, G ql = none → K (.sl ql 1 0 1) (G.set ql [.sl q 1 0 n])) : buildSliceV tab 24 1 [(0, .sl q 1 0 n)] G (wkK K) := by
  simp only [buildSliceV, tab_24, tab_22]
  refine ⟨by omega, ?_⟩
  simp only [fillV, zerosA, List.replicate_succ, List.replicate_zero, List.flatten_cons, List.flatten_nil, List.append_nil, AV.cells, splice]
  simp only [List.length_cons, List.length_nil, Nat.reduceAdd, Nat.zero_mul, Nat.zero_add, Nat.le_refl, and_self, if_true, List.take_zero, List.nil_append, List.drop_succ_cons, List.drop_zero, List.append_nil]
  exact fun r hr => wkK.keep (h r hr)
theorem CloneI_row (xs : List Int) (hl : xs.length ≤ 100000) {H : Heap} {K : AV → Heap → Prop} (h : ∀ q, H q = none → K (rowP q xs) (H.set q (cP fI xs))) : CallT Try.prog 76 [Is xs] H K := by
  refine CallT.fin ?_
  refine CallT.ghost W76_hb fun q0 hq0 => ?_
  refine W76_ok ?_; simp (maxSteps := 1000000) (disch := first | assumption | (apply ν6; assumption)) only [W76, vz, vu, vv, eqS, eF_, ↓c1_, ↓c2_, tabs, reduceCtorEq, ι5, ↓reduceIte, ν1, ν2, ν3, ν4, ν5, ι1, ι2, ι3, ι4]
  have main : buildSliceV tab 22 0 [] (H.set q0 []) (wkK fun v5 H1 => appendV tab 22 22 v5 (Is xs) H1 (wkK fun v7 H2 => wkK K v7 H2)) := by
    refine lit0I fun q1 hq1 => ?_
    refine app_topI (xs := []) (ys := xs) hq1 (by simp; omega) fun q2 hq2 => ?_
    rw [Heap.set_none] at hq2
    rw [List.nil_append]
    refine fin_le ?_ (h q2 hq2.2)
    generalize cP fI xs = z
    have := hq2.2
    have := hq2.1
    (intro y b hy; simp only [Heap.set, Heap.del] at hy ⊢; (repeat' split at hy) <;> (repeat' split) <;> simp_all [cells])
  refine ⟨fun h0 => ⟨?_, main⟩, fun _ => main⟩
  have hx : xs = [] := List.map_eq_nil_iff.1 h0
  subst hx
  exact ⟨_, _, .val (.nilo q0 1 0), h q0 hq0⟩
theorem IndexI_spec (l : List Int) (x : Int) (hl : l.length ≤ 1048576) : Pu Try.prog 111 [Is l, I x] (I (if x ∈ l then (l.idxOf x : Int) else -1)) := by
  refine Pu.of fun H => ?_
  refine W111_ok ?_; simp (maxSteps := 1000000) (disch := first | assumption | (apply ν6; assumption)) only [W111, vz, vu, vv, eqS, eF_, ↓c1_, ↓c2_, tabs, reduceCtorEq, ι5, ↓reduceIte, ν1, ν2, ν3, ν4, ν5, ι1, ι2, ι3, ι4]
  refine L111_0_rule (0 : Nat) (fun i => I i) (fun _ => H) (fun i => i ≤ l.length ∧ ∀ j, j < i → l.getD j default ≠ x) (fun i => l.length - i) ⟨⟨by omega, by intros; omega⟩, .refl _, Heap.le_refl _⟩ ?_
  rintro i ⟨hi, ha⟩
  (try simp (maxSteps := 1000000) (disch := first | assumption | (apply ν6; assumption)) only [vz, vu, vv, eqS, eF_, ↓c1_, ↓c2_, tabs, reduceCtorEq, ι5, ↓reduceIte, ν1, ν2, ν3, ν4, ν5, ι1, ι2, ι3, ι4, B111_0])
  refine ⟨fun h1 => ⟨by omega, h1, fun h2 => ?_, fun h2 => ⟨i + 1, ⟨by omega, fun j hj => ?_⟩, by omega, ?_⟩⟩, fun h1 => ?_⟩
  · have hlt : i < l.length := by omega
    have hm : x ∈ l := by rw [h2]; exact getD_all (p := fun x => x ∈ l) (fun _ h => h) hlt
    rw [if_pos hm]
    refine congrArg (fun n : Int => I n) ?_
    have : l.idxOf x = i := by
      rw [List.idxOf, List.findIdx_eq hlt]
      refine ⟨by rw [← getD_lt (d := default) hlt, ← h2]; simp, fun j hj => ?_⟩
      have := ha j hj
      rw [getD_lt (by omega : j < l.length)] at this
      simpa using this
    omega
  · rcases Nat.lt_succ_iff_lt_or_eq.1 hj with h | rfl
    · exact ha j h
    · exact fun e => h2 e.symm
  · rw [wk_int, i64_id (by omega) (by omega)]; simp
  · have hm : x ∉ l := by
      intro hm
      obtain ⟨j, hj, e⟩ := List.mem_iff_getElem.1 hm
      exact ha j (by omega) (by rw [getD_lt hj]; exact e)
    rw [if_neg hm]
end Go.Proofs.Ytolffbcnbcjeaaa
