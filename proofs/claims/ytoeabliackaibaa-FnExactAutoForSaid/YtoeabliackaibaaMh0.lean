/- Plain facts: the automaton of a formula. -/
import Derived.Test.YtoeabliackaibaaSs3
import Derived.Test.YtoeabliackaibaaMf6
namespace Go.Proofs.Ytoeabliackaibaa
open Go Go.Sep Go.Pt
set_option linter.unusedVariables false

/-! ### Sorted edges -/
theorem srtE_ext {xs ys : List Ed} (hn : xs.Nodup) (hs : ys.Pairwise (fun a b => edLt a b = true)) (hm : ∀ e, e ∈ xs ↔ e ∈ ys) : srtE xs = ys := by
  have hny : ys.Nodup := hs.imp fun h e => by subst e; have := (edLt_iff _ _).1 h; omega
  have hp : (srtE xs).Perm ys := (List.mergeSort_perm xs _).trans ((List.perm_ext_iff_of_nodup hn hny).2 hm)
  have h1 : (srtE xs).Pairwise (fun a b => (!edLt b a) = true) := List.pairwise_mergeSort (le := fun x y => !edLt y x) (fun a b c h1 h2 => by
    simp only [Bool.not_eq_true', edLt_iff'] at *; omega) (fun a b => by
    rw [Bool.or_eq_true]; simp only [Bool.not_eq_true', edLt_iff']; omega) xs
  have h2 : ys.Pairwise (fun a b => (!edLt b a) = true) := hs.imp fun h => by
    rw [edLt_iff] at h; rw [Bool.not_eq_true', edLt_iff']; omega
  refine hp.eq_of_pairwise (fun a b _ _ h1 h2 => ?_) h1 h2
  rw [Bool.not_eq_true'] at h1 h2
  exact cfE_tot _ _ (by rw [cfE_lt]; exact h2) (by rw [cfE_lt]; exact h1)
theorem edsOk_of {n : Int} {es : List Ed} (hs : es.Pairwise (fun a b => edLt a b = true)) (hi : ∀ e ∈ es, edIn n e = true) : edsOk n es = true := by
  unfold edsOk
  rw [List.all_eq_true]
  intro i hi'
  rw [List.mem_range] at hi'
  unfold edAt
  rw [Bool.and_eq_true, Bool.or_eq_true, decide_eq_true_eq]
  refine ⟨getD_all (p := fun e => edIn n e = true) hi hi', ?_⟩
  by_cases h0 : i = 0
  · exact .inl h0
  · right
    rw [getD_lt hi', getD_lt (show i - 1 < es.length by omega)]
    exact List.pairwise_iff_getElem.1 hs (i - 1) i (by omega) hi' (by omega)
theorem rising_of {l : List Int} {n : Int} (hs : l.Pairwise (· < ·)) (hb : ∀ x ∈ l, 0 ≤ x ∧ x < n) : rising l n = true := by
  unfold rising
  rw [List.all_eq_true]
  intro i hi
  rw [List.mem_range] at hi
  have h1 := getD_all (p := fun x => 0 ≤ x ∧ x < n) (d := default) hb hi
  unfold riseAt
  simp only [Bool.and_eq_true, Bool.or_eq_true, decide_eq_true_eq]
  refine ⟨h1, ?_⟩
  by_cases h0 : i = 0
  · exact .inl h0
  · right
    rw [getD_lt hi, getD_lt (show i - 1 < l.length by omega)]
    exact List.pairwise_iff_getElem.1 hs (i - 1) i (by omega) hi (by omega)

/-! ### Guesses -/
/-- The guesses below a number for which something holds. -/
def gw (n : Nat) (p : Nat → Bool) : List Int := ((List.range n).filter p).map fun (g : Nat) => (g : Int)
theorem gw_zero (p : Nat → Bool) : gw 0 p = [] := rfl
theorem gw_succ (n : Nat) (p : Nat → Bool) : gw (n + 1) p = if p n = true then gw n p ++ [(n : Int)] else gw n p := by
  unfold gw
  rw [List.range_succ, List.filter_append, List.map_append]
  by_cases h : p n = true
  · simp [h]
  · simp [h]
theorem gw_len (n : Nat) (p : Nat → Bool) : (gw n p).length ≤ n := by
  unfold gw
  rw [List.length_map]
  have := List.length_filter_le p (List.range n)
  rwa [List.length_range] at this
theorem gw_rising (n : Nat) (p : Nat → Bool) : rising (gw n p) n = true := by
  refine rising_of ?_ fun x hx => ?_
  · unfold gw
    rw [List.pairwise_map]
    exact (List.pairwise_lt_range.filter p).imp fun h => by omega
  · obtain ⟨g, hg, rfl⟩ := List.mem_map.1 hx
    have := List.mem_range.1 (List.mem_filter.1 hg).1
    omega
def nF (f : List Sd) : Nat := 2 ^ (tr f).length
theorem nF_bd {f : List Sd} (h : (tr f).length ≤ 5) : 1 ≤ nF f ∧ nF f ≤ 32 := by
  unfold nF
  rcases (by omega : (tr f).length = 0 ∨ (tr f).length = 1 ∨ (tr f).length = 2 ∨ (tr f).length = 3 ∨ (tr f).length = 4 ∨ (tr f).length = 5) with h | h | h | h | h | h <;> rw [h] <;> decide
theorem nF_int (f : List Sd) : (2 : Int) ^ (tr f).length = (nF f : Int) := by
  unfold nF; rw [Int.natCast_pow]; rfl
def rootP (f : List Sd) (g : Nat) : Bool := saysF (tr f) g ((f.length : Int) - 1)
def goalP (f : List Sd) (i g : Nat) : Bool :=
  (decide ((f.getD i default).op = 7) && (!saysF (tr f) g i || saysF (tr f) g ((i : Int) - 1))) || (decide ((f.getD i default).op = 8) && (saysF (tr f) g i || !saysF (tr f) g ((i : Int) - 1)))
def isUR (f : List Sd) (i : Nat) : Bool := decide ((f.getD i default).op = 7) || decide ((f.getD i default).op = 8)
def goalsK (f : List Sd) (i : Nat) : List (List Int) := ((List.range i).filter (isUR f)).map fun j => gw (nF f) (goalP f j)
theorem goalsK_zero (f : List Sd) : goalsK f 0 = [] := rfl
theorem goalsK_succ (f : List Sd) (i : Nat) : goalsK f (i + 1) = if isUR f i = true then goalsK f i ++ [gw (nF f) (goalP f i)] else goalsK f i := by
  unfold goalsK
  rw [List.range_succ, List.filter_append, List.map_append]
  by_cases h : isUR f i = true
  · simp [h]
  · simp [h]
theorem goalsK_len (f : List Sd) (i : Nat) : (goalsK f i).length ≤ i := by
  unfold goalsK
  rw [List.length_map]
  have := List.length_filter_le (isUR f) (List.range i)
  rwa [List.length_range] at this
theorem tr_nd (f : List Sd) : (tr f).Nodup := (sc_lt _).imp fun h => by omega
theorem goalsK_tr (f : List Sd) : (goalsK f f.length).length ≤ (tr f).length := by
  unfold goalsK
  rw [List.length_map]
  have h1 : (((List.range f.length).filter (isUR f)).map fun (i : Nat) => (i : Int)).Nodup := by
    unfold List.Nodup
    rw [List.pairwise_map]
    exact (List.pairwise_lt_range.filter _).imp fun h => by omega
  have h2 := h1.length_le_of_subset (l₂ := tr f) fun x hx => by
    obtain ⟨i, hi, rfl⟩ := List.mem_map.1 hx
    obtain ⟨h3, h4⟩ := List.mem_filter.1 hi
    rw [List.mem_range] at h3
    refine tr_mem0 h3 _ ?_
    unfold isUR at h4
    rw [Bool.or_eq_true, decide_eq_true_eq, decide_eq_true_eq] at h4
    rw [trAt, if_pos h4]; simp
  rwa [List.length_map] at h2
/-! ### Numbers made of bits -/
theorem or_bd : ∀ j : Nat, j < 5 → ∀ a : Nat, a < 2 ^ j → 0 ≤ bitsI .or .i64 (a : Int) (IntKind.i64.wrap (1 * 2 ^ (min j 64))) ∧ bitsI .or .i64 (a : Int) (IntKind.i64.wrap (1 * 2 ^ (min j 64))) < 2 ^ (j + 1) := by
  decide +kernel
theorem guK_bd (vs : List Bool) (t : List Int) : ∀ j : Nat, j ≤ 5 → 0 ≤ guK vs t j ∧ guK vs t j < 2 ^ j := by
  intro j
  induction j with
  | zero => intro _; rw [guK]; exact ⟨Int.le_refl _, by decide +kernel⟩
  | succ j ih =>
    intro hj
    have h1 := ih (by omega)
    rw [guK]
    split
    · have h2 := or_bd j (by omega) (guK vs t j).toNat (by
        have : ((guK vs t j).toNat : Int) < ((2 ^ j : Nat) : Int) := by rw [Int.toNat_of_nonneg h1.1, Int.natCast_pow]; exact h1.2
        omega)
      rw [Int.toNat_of_nonneg h1.1] at h2
      exact h2
    · have : (2 : Int) ^ j ≤ 2 ^ (j + 1) := by rw [Int.pow_succ]; omega
      omega
theorem guF_bd {f : List Sd} (h : (tr f).length ≤ 5) (lt nx : Int) : 0 ≤ guF f lt nx ∧ guF f lt nx < nF f := by
  have := guK_bd (evL f (tr f) lt nx f.length) (tr f) _ h
  rw [← nF_int]; exact this
/-! ### Edges -/
def edI (f : List Sd) (l n : Nat) : Ed := ⟨guF f l n, l, n⟩
def eI0 (f : List Sd) (l : Nat) (n : Nat) : List Ed := (List.range n).map (edI f l)
theorem eI0_succ (f : List Sd) (l n : Nat) : eI0 f l (n + 1) = eI0 f l n ++ [edI f l n] := by simp [eI0, List.range_succ]
/-- As the program lays them. -/
def eIs (f : List Sd) (l : Nat) : List Ed := (List.range l).flatMap fun k => eI0 f k (nF f)
theorem eIs_succ (f : List Sd) (l : Nat) : eIs f (l + 1) = eIs f l ++ eI0 f l (nF f) := by simp [eIs, List.range_succ, List.flatMap_append]
theorem eI0_len (f : List Sd) (l n : Nat) : (eI0 f l n).length = n := by simp [eI0]
theorem eIs_len (f : List Sd) (l : Nat) : (eIs f l).length = l * nF f := by
  induction l with
  | zero => simp [eIs]
  | succ l ih => rw [eIs_succ, List.length_append, ih, eI0_len, Nat.add_mul, Nat.one_mul]
/-- As the reference does. -/
def cell0 (f : List Sd) (g l n : Nat) : List Ed := ((List.range n).filter fun (k : Nat) => decide (guF f l k = g)).map fun (k : Nat) => ⟨g, l, k⟩
theorem cell0_succ (f : List Sd) (g l n : Nat) : cell0 f g l (n + 1) = if guF f l n = g then cell0 f g l n ++ [⟨g, l, n⟩] else cell0 f g l n := by
  unfold cell0
  rw [List.range_succ, List.filter_append, List.map_append]
  by_cases h : guF f l n = g
  · simp [h]
  · simp [h]
def row0 (f : List Sd) (g l : Nat) : List Ed := (List.range l).flatMap fun k => cell0 f g k (nF f)
theorem row0_succ (f : List Sd) (g l : Nat) : row0 f g (l + 1) = row0 f g l ++ cell0 f g l (nF f) := by simp [row0, List.range_succ, List.flatMap_append]
def all0 (f : List Sd) (g : Nat) : List Ed := (List.range g).flatMap fun k => row0 f k 8
theorem all0_succ (f : List Sd) (g : Nat) : all0 f (g + 1) = all0 f g ++ row0 f g 8 := by simp [all0, List.range_succ, List.flatMap_append]
theorem all0_lt (f : List Sd) : (all0 f (nF f)).Pairwise (fun a b => edLt a b = true) := by
  unfold all0
  rw [List.pairwise_flatMap]
  refine ⟨fun g hg => ?_, List.Pairwise.imp (fun hgh x hx y hy => ?_) List.pairwise_lt_range⟩
  · unfold row0
    rw [List.pairwise_flatMap]
    refine ⟨fun l hl => ?_, List.Pairwise.imp (fun hlm x hx y hy => ?_) List.pairwise_lt_range⟩
    · unfold cell0
      rw [List.pairwise_map]
      refine List.Pairwise.imp (fun h => ?_) (List.pairwise_lt_range.filter _)
      rw [edLt_iff]; exact .inr ⟨rfl, .inr ⟨rfl, Int.ofNat_lt.2 h⟩⟩
    · obtain ⟨k1, _, rfl⟩ := List.mem_map.1 hx
      obtain ⟨k2, _, rfl⟩ := List.mem_map.1 hy
      rw [edLt_iff]; exact .inr ⟨rfl, .inl (Int.ofNat_lt.2 hlm)⟩
  · obtain ⟨l1, _, hx⟩ := List.mem_flatMap.1 hx
    obtain ⟨l2, _, hy⟩ := List.mem_flatMap.1 hy
    obtain ⟨k1, _, rfl⟩ := List.mem_map.1 hx
    obtain ⟨k2, _, rfl⟩ := List.mem_map.1 hy
    rw [edLt_iff]; exact .inl (Int.ofNat_lt.2 hgh)
theorem all0_mem {f : List Sd} (e : Ed) : e ∈ all0 f (nF f) ↔ ∃ g l k : Nat, g < nF f ∧ l < 8 ∧ k < nF f ∧ guF f l k = g ∧ e = ⟨g, l, k⟩ := by
  simp only [all0, row0, cell0, List.mem_flatMap, List.mem_map, List.mem_filter, List.mem_range, decide_eq_true_eq]
  constructor
  · rintro ⟨g, hg, l, hl, k, ⟨hk, e1⟩, rfl⟩
    exact ⟨g, l, k, hg, hl, hk, e1, rfl⟩
  · rintro ⟨g, l, k, hg, hl, hk, e1, rfl⟩
    exact ⟨g, hg, l, hl, k, ⟨hk, e1⟩, rfl⟩
theorem eIs_nd (f : List Sd) : (eIs f 8).Nodup := by
  unfold eIs List.Nodup
  rw [List.pairwise_flatMap]
  refine ⟨fun l hl => ?_, List.Pairwise.imp (fun hlm x hx y hy e => ?_) List.pairwise_lt_range⟩
  · unfold eI0
    rw [List.pairwise_map]
    refine List.Pairwise.imp (fun h e => ?_) List.pairwise_lt_range
    simp only [edI, Ed.mk.injEq] at e; omega
  · obtain ⟨k1, _, rfl⟩ := List.mem_map.1 hx
    obtain ⟨k2, _, rfl⟩ := List.mem_map.1 hy
    simp only [edI, Ed.mk.injEq] at e; omega
theorem srt_eIs {f : List Sd} (h : (tr f).length ≤ 5) : srtE (eIs f 8) = all0 f (nF f) := by
  refine srtE_ext (eIs_nd f) (all0_lt f) fun e => ?_
  rw [all0_mem]
  simp only [eIs, eI0, List.mem_flatMap, List.mem_map, List.mem_range]
  constructor
  · rintro ⟨l, hl, k, hk, rfl⟩
    have hb := guF_bd h l k
    exact ⟨(guF f l k).toNat, l, k, by omega, hl, hk, by omega, by simp only [edI, Ed.mk.injEq, and_true]; omega⟩
  · rintro ⟨g, l, k, hg, hl, hk, e1, rfl⟩
    exact ⟨l, hl, k, hk, by simp only [edI, Ed.mk.injEq, and_true]; omega⟩
def autoF (f : List Sd) : Au := ⟨nF f, gw (nF f) (rootP f), all0 f (nF f), goalsK f f.length⟩
theorem all0_len {f : List Sd} (h : (tr f).length ≤ 5) : (all0 f (nF f)).length ≤ 256 := by
  rw [← srt_eIs h, srtE_len, eIs_len]
  have := nF_bd h
  omega
theorem autoF_good {f : List Sd} (h : (tr f).length ≤ 5) : goodA (autoF f) = true := by
  have hb := nF_bd h
  have h1 := all0_len h
  have h2 := goalsK_tr f
  unfold goodA autoF
  simp only [Bool.and_eq_true, decide_eq_true_eq, List.all_eq_true]
  refine ⟨⟨by omega, by omega⟩, gw_rising _ _, by omega, ⟨by omega, fun g hg => ?_⟩, edsOk_of (all0_lt f) fun e he => ?_⟩
  · obtain ⟨i, _, rfl⟩ := List.mem_map.1 hg
    exact gw_rising _ _
  · obtain ⟨g, l, k, hg, hl, hk, _, rfl⟩ := (all0_mem e).1 he
    simp only [edIn, Bool.and_eq_true, decide_eq_true_eq]
    omega
theorem autoF_sm {f : List Sd} (h : (tr f).length ≤ 5) : smAu (autoF f) := by
  have hb := nF_bd h
  have h1 := all0_len h
  have h2 := goalsK_tr f
  refine ⟨?_, ?_, ?_, fun c hc => ?_⟩
  · have := gw_len (nF f) (rootP f); show (gw (nF f) (rootP f)).length ≤ _; omega
  · show (all0 f (nF f)).length ≤ _; omega
  · show (goalsK f f.length).length ≤ _; omega
  · obtain ⟨i, _, rfl⟩ := List.mem_map.1 hc
    have := gw_len (nF f) (goalP f i); omega
end Go.Proofs.Ytoeabliackaibaa
